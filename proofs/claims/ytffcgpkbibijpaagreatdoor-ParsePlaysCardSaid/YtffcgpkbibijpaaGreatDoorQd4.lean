/- Part 4 of the texts behind the theorem of this claim: The logic, part 28: what stands in a box: a row is frozen, a value is told less exactly;Layer 7 (head): texts: all, small, version;the document's;Layer 7 (head): the document's questions at texts;versions;lines;Layer 7 (head): the document's names, lines and blanks;Layer 7 (head): the document's lines and blanks;Layer 7 (head): the program's request line;Layer 7 (head): the document's request line and field;Layer 7 (head): the document's request line;Layer 7 (head): a field's values;heads that are the same;Layer 7 (head): the head of any bytes: the program's;Layer 7 (head): the head of any bytes: the document's;Layer 7 (head): what must come;the law HeadParses;Layer 7 (head), plain: texts of lines, and what is read out of them -/
import Derived.Test.YtffcgpkbibijpaaGreatDoorQd3
set_option linter.unusedVariables false
set_option linter.unusedSimpArgs false
namespace Go.Proofs.YtffcgpkbibijpaaGreatDoor.L
open Go Go.RowKit Go.Proofs
set_option linter.unusedVariables false
set_option linter.unusedSimpArgs false

section
variable {E : Env} {N : Nat} {sl : Slots} {H : List AO}
/-- A box whose cells are told otherwise, as what they hold is. -/
theorem boxTell {I : Imm} {ν : Nu} {w : World} {id : Nat} {cells cells' : List AV} {tyo : Option Nat} (hh : HR E I ν H w) (hH : H[id]? = some (.box cells tyo)) (hl : cells.length = cells'.length)
    (hc : ∀ (j : Nat) y, cells'[j]? = some y → ∃ x, cells[j]? = some x ∧ ∀ v, VR w I ν x v → VR w I ν y v) : HR E I ν (H.set id (.box cells' tyo)) w ∧ FR E.k w I ν H w I ν (H.set id (.box cells' tyo)) := by
  cases hh.obj id _ hH with
  | box _ _ b vs ty hv hb hheap hll hx hI hty =>
    refine hh.set (o' := .box cells' tyo) hH (fun e => by cases e) (Nu.le.refl ν) rfl (fun _ _ => rfl) hh.below (Nat.le_refl _) (fun _ _ _ => rfl) (ImmLe.refl _ _)
      (.box _ tyo b vs ty hv hb hheap (by omega) (fun j y v h1 h2 => ?_) hI hty) (fun b' hb' => .inl (by simpa only [OB, hv] using hb'))
    obtain ⟨x, h3, h4⟩ := hc j y h1
    exact h4 v (hx j x v h3 h2)
theorem Wkn.boxLe {id : Nat} {cells : List AV} (cells' : List AV) {tyo : Option Nat} {H' : List AO} (hH : H[id]? = some (.box cells tyo)) (hc : AvLeL cells cells') (h1 : H' = H.set id (.box cells' tyo)) : Wkn E N ⟨sl, H⟩ ⟨sl, H'⟩ := fun I ν a w hs => by
  subst h1
  have := boxTell hs.hr hH hc.get.1 fun j y hy => by
    obtain ⟨x, h2, h3⟩ := hc.get.2 j y hy
    exact ⟨x, h2, fun v hv => h3.vr hv⟩
  exact ⟨I, ν, ⟨this.1, hs.sl, hs.df, hs.nt⟩, this.2⟩
theorem Wkn.boxFreeze {ib k id ver fz e sz : Nat} {cells cells' : List AV} {tyo : Option Nat} {xs : List (List AV)} {H' H1 : List AO} (hB : H[ib]? = some (.box cells tyo)) (hk : cells[k]? = some (.os id ver)) (hne : Nat.beq ib id = false) (hN : Nat.blt 0 N = true)
    (hU : Upd id H (.row e sz ver fz xs) (.row e sz ver xs.length xs) H') (hc : cells' = cells.set k (.rs xs)) (h1 : H1 = H'.set ib (.box cells' tyo)) : Wkn E N ⟨sl, H⟩ ⟨sl, H1⟩ := fun I ν a w hs => by
  subst hc; subst h1
  have hN' : 0 < N := Nat.le_of_ble_eq_true hN
  have hne' : ib ≠ id := fun e => by subst e; simp at hne
  have hkl : k < cells.length := (List.getElem?_eq_some_iff.1 hk).1
  obtain ⟨v, hv, hvk⟩ : ∃ v, VR w I ν (.os id ver) v ∧ ∀ b vs ty, ν.val ib 0 = .pointer (some ⟨b, 0, none⟩) → w.heap[b]? = some (.cells vs ty (0, 0)) → vs[k]? = some v := by
    cases hs.hr.obj ib _ hB with
    | box _ _ b vs ty hv hb hheap hll hx hI hty =>
      obtain ⟨v, hvk⟩ : ∃ v, vs[k]? = some v := ⟨_, List.getElem?_eq_getElem (by omega)⟩
      refine ⟨v, hx k _ v hk hvk, fun b' vs' ty' e1 e2 => ?_⟩
      rw [hv] at e1
      injection e1 with e1; injection e1 with e1; injection e1 with e1
      subst e1
      rw [hheap] at e2
      injection e2 with e2; injection e2 with e2
      subst e2
      simpa using hvk
  obtain ⟨ν0, hh0, fr0⟩ : ∃ I', SR E N I' ν ⟨(0, .rs xs) :: (0, .os id ver) :: sl, H'⟩ (a.put (some 0) v) w ∧ FR E.k w I ν H w I' ν H' :=
    freeze_sr (sl := (0, .os id ver) :: sl) ⟨hs.hr, hs.sl.put 0 hv (by rw [hs.nt]; exact hN'), hs.df, by rw [← hs.nt]; simp [Act.put]⟩ rfl hU
  have hrs : VR w ν0 ν (.rs xs) v := by
    have := hh0.sl 0 (.rs xs) rfl
    simpa [Act.put, Array.getD_eq_getD_getElem?, Array.getElem?_setIfInBounds, hs.nt, hN'] using this
  obtain ⟨hid, hset⟩ := hU.eq
  have hB' : H'[ib]? = some (.box cells tyo) := by rw [hset, List.getElem?_set_ne (Ne.symm hne')]; exact hB
  have key : HR E ν0 ν (H'.set ib (.box (cells.set k (.rs xs)) tyo)) w ∧ FR E.k w ν0 ν H' w ν0 ν (H'.set ib (.box (cells.set k (.rs xs)) tyo)) := by
    cases hh0.hr.obj ib _ hB' with
    | box _ _ b vs ty hv' hb hheap hll hx hI hty =>
      refine hh0.hr.set (o' := .box (cells.set k (.rs xs)) tyo) hB' (fun e => by cases e) (Nu.le.refl ν) rfl (fun _ _ => rfl) hh0.hr.below (Nat.le_refl _) (fun _ _ _ => rfl) (ImmLe.refl _ _)
        (.box _ tyo b vs ty hv' hb hheap (by simpa using hll) (fun j y u h1 h2 => ?_) hI hty) (fun b' hb' => .inl (by simpa only [OB, hv'] using hb'))
      by_cases e1 : j = k
      · subst e1
        rw [List.getElem?_set_self hkl] at h1
        injection h1 with h1
        subst h1
        have := hvk b _ ty hv' hheap
        have h3 : vs[j]? = some v := by simpa using this
        rw [h3] at h2
        injection h2 with h2
        subst h2
        exact hrs
      · rw [List.getElem?_set_ne (Ne.symm e1)] at h1
        exact hx j y u h1 h2
  exact ⟨ν0, ν, ⟨key.1, hs.sl.mono fr0.imm (Nu.le.refl ν), hs.df, hs.nt⟩, fr0.trans key.2⟩
end
end Go.Proofs.YtffcgpkbibijpaaGreatDoor.L

namespace Go.Proofs.YtffcgpkbibijpaaGreatDoor.L
open Go Go.RowKit Go.Proofs
set_option linter.unusedVariables false
set_option linter.unusedSimpArgs false
set_option maxRecDepth 100000
attribute [local irreducible] AL QL AWp Thn InB RetQ ACalls LoopQ HL HO HW HQ NoG

def lowB (b : UInt8) : UInt8 := if pLarge b then b + 32 else b
def smallS (s : List UInt8) : List UInt8 := s.map lowB
theorem lowB_large : ∀ b : UInt8, pLarge b = true → ((lowB b).toNat : Int) = b.toNat + 97 - 65 := u8_all (by decide +kernel)
theorem lowB_large' : ∀ b : UInt8, pLarge b = true → ((lowB b).toNat : Int) = b.toNat + 32 := u8_all (by decide +kernel)
theorem lowB_not {b : UInt8} (h : pLarge b = false) : lowB b = b := by unfold lowB; rw [if_neg (by simp [h])]
theorem pLarge_iff (b : UInt8) : pLarge b = true ↔ 65 ≤ b.toNat ∧ b.toNat ≤ 90 := by unfold pLarge; simp
/-- A text whose letters before a place are small. -/
def halfS (s : List UInt8) (k : Nat) : List UInt8 := smallS (s.take k) ++ s.drop k
theorem halfS_len (s : List UInt8) (k : Nat) : (halfS s k).length = s.length := by unfold halfS smallS; simp; omega
theorem halfS_get {s : List UInt8} {k : Nat} (h : k < s.length) : (halfS s k)[k]? = some (bAt s (k : Int)) := by
  unfold halfS smallS
  rw [List.getElem?_append_right (by simp; omega), List.getElem?_drop, ← get_bAt h]
  congr 1
  simp
  omega
theorem halfS_set {s : List UInt8} {k : Nat} (h : k < s.length) : (halfS s k).set k (lowB (bAt s (k : Int))) = halfS s (k + 1) := by
  unfold halfS smallS
  rw [List.set_append_right _ _ (by simp; omega)]
  have e1 : k - (List.map lowB (s.take k)).length = 0 := by simp; omega
  rw [e1, drop_bAt h, List.set_cons_zero, List.take_add_one, get_bAt h]
  simp
theorem halfS_keep {s : List UInt8} {k : Nat} (h : k < s.length) (hb : pLarge (bAt s (k : Int)) = false) : halfS s k = halfS s (k + 1) := by
  rw [← halfS_set h, lowB_not hb]
  have h1 := halfS_get h
  obtain ⟨h2, h3⟩ := List.getElem?_eq_some_iff.1 h1
  apply List.ext_getElem?
  intro j
  by_cases e : k = j
  · subst e
    rw [List.getElem?_set_self h2, h1]
  · rw [List.getElem?_set_ne e]

section
variable {w0 : World} {base : Nat}
theorem bytesAV_get {l : List UInt8} {j : Nat} {b : UInt8} (h : l[j]? = some b) : (bytesAV l)[j]? = some [.int .u8 (b.toNat : Int)] := by simp [bytesAV, h]
theorem bytesAV_set {l : List UInt8} {j : Nat} {b : UInt8} : (bytesAV l).set j [.int .u8 (b.toNat : Int)] = bytesAV (l.set j b) := by simp [bytesAV, List.map_set]
/-- head.all at any question. -/
theorem s_all {s : List UInt8} {g : Nat} {p : UInt8 → Bool} [fn : FN Tryz.prog g] (hs : s.length ≤ 65536) (hp : ∀ b, PCalls (EE w0 base) g [bI b] fun rv => rv = .bool (p b)) : PCalls (EE w0 base) 36 [.str s, .fn g []] fun rv => rv = .bool (s.all p) := by
  refine acalls_of Tryz.func36 rfl rfl rfl (.cons (.cons .nil)) ?_
  repeat' (first|(refine k_al ?_;first|(refine al_v (ov_move rfl) rfl ?_)|(refine k_bin ?_;first|(refine al_v (ov_cmp rfl rfl rfl) rfl ?_)|(refine al_v (ov_add rfl rfl (by (first|exact w64 (by omega) (by omega)|rfl))) rfl ?_))|(refine al_v (ov_assign rfl) rfl ?_)|(refine k_call ?_;first|(refine al_v (ov_len_str rfl) rfl ?_))|(refine al_nil ?_)|(refine al_v (ov_not rfl rfl) rfl ?_)|(refine al_v (ov_index rfl rfl (by omega) (by omega)) rfl ?_))|(first|(refine thn_n ?_)|(refine k_awp ?_;first|(refine awp_seq (awp_region ?_))|(refine awp_seq ?_)|(refine awp_region ?_)|(refine k_cond ?_;first|(refine awp_cond_p rfl (fun hc => ?_) (fun hc => ?_) <;> (try (exfalso;omega)))|(refine awp_cond_b rfl (fun hc => ?_) (fun hc => ?_) <;> (try (exact absurd hc (by decide)))))|(refine awp_block ?_)|(refine awp_ret ?_)|(refine awp_skip ?_)|(refine awp_exit ?_))|(refine thn_ret ?_)|(refine lq_exit ?_)|(refine lq_ret ?_)|(refine thn_exit ?_)|(refine inb_n ?_)|(refine inb_ret ?_)|(refine inb_here ?_)))
  refine awp_loopq (fun k : Nat => ⟨[(0, .str s), (1, .fn g []), (7, .int .i64 (s.length : Int)), (8, .int .i64 k)], []⟩) (fun k => k ≤ s.length ∧ ∀ j, j < k → p (bAt s (j : Int)) = true) (fun k => s.length - k) 0 (.of (.same (by repeat constructor))) ⟨Nat.zero_le _, fun j h => absurd h (Nat.not_lt_zero _)⟩ ?_
  rintro i ⟨hi, hall⟩
  try dsimp only
  repeat' (first|((refine k_call ?_;refine al_call rfl rfl rfl rfl (hp (bAt s (i : Int))) ?_;rintro _ rfl))|(refine k_al ?_;first|(refine al_v (ov_move rfl) rfl ?_)|(refine k_bin ?_;first|(refine al_v (ov_cmp rfl rfl rfl) rfl ?_)|(refine al_v (ov_add rfl rfl (by (first|exact w64 (by omega) (by omega)|rfl))) rfl ?_))|(refine al_v (ov_assign rfl) rfl ?_)|(refine k_call ?_;first|(refine al_v (ov_len_str rfl) rfl ?_))|(refine al_nil ?_)|(refine al_v (ov_not rfl rfl) rfl ?_)|(refine al_v (ov_index rfl rfl (by omega) (by omega)) rfl ?_))|(first|(refine thn_n ?_)|(refine k_awp ?_;first|(refine awp_seq (awp_region ?_))|(refine awp_seq ?_)|(refine awp_region ?_)|(refine k_cond ?_;first|(refine awp_cond_p rfl (fun hc => ?_) (fun hc => ?_) <;> (try (exfalso;omega)))|(refine awp_cond_b rfl (fun hc => ?_) (fun hc => ?_) <;> (try (exact absurd hc (by decide)))))|(refine awp_block ?_)|(refine awp_ret ?_)|(refine awp_skip ?_)|(refine awp_exit ?_))|(refine thn_ret ?_)|(refine lq_exit ?_)|(refine lq_ret ?_)|(refine thn_exit ?_)|(refine inb_n ?_)|(refine inb_ret ?_)|(refine inb_here ?_)))
  · refine ret1 (by first | exact .inr rfl | exact .inl rfl) rfl rfl ?_
    rw [all_bAt_not (j := i) (by omega) (by simpa using ‹(!p (bAt s (i : Int))) = true›)]
    exact ⟨rfl, rfl⟩
  · first | refine lq_back (i + 1) (.of (.same (by repeat constructor))) ?_ ?_ | fail
    · refine ⟨by omega, fun j hj => ?_⟩
      rcases Nat.lt_or_ge j i with h | h
      · exact hall j h
      · obtain rfl : j = i := by omega
        simpa using ‹(!p (bAt s (j : Int))) = false›
    · omega
  · refine ret1 (by first | exact .inr rfl | exact .inl rfl) rfl rfl ?_
    rw [all_bAt fun j hj => hall j (by omega)]
    exact ⟨rfl, rfl⟩
theorem cellsAt_arr {H : List AO} {id ver sz i off e : Nat} {xs : List (List AV)} {wr : Bool} {c : List AV} (hH : H[id]? = some (.arr e sz ver xs wr)) (hi : xs[i]? = some c) : cellsAt H (.er id ver sz i off) = some (c.drop off) := by
  simp [cellsAt, hH, hi]
theorem s_small {s : List UInt8} (hs : s.length ≤ 140737488351232) : PCalls (EE w0 base) 35 [.str s] fun rv => rv = .str (smallS s) := by
  refine acalls_of Tryz.func35 rfl rfl rfl (.cons .nil) ?_
  have hbl : ∀ l : List UInt8, (bytesAV l).length = l.length := fun l => List.length_map _
  repeat' (first|(first|(refine al_conv_str rfl (by first|exact ln0) (by repeat constructor) rfl ?_)|(refine k_call ?_;refine al_v (ov_len_arr rfl rfl rfl) rfl ?_))|(refine k_al ?_;first|(refine al_v (ov_move rfl) rfl ?_)|(refine k_bin ?_;first|(refine al_v (ov_cmp rfl rfl rfl) rfl ?_)|(refine al_v (ov_add rfl rfl (by (first|exact w64 (by omega) (by omega)|exact w8 (by omega) (by omega)|rfl))) rfl ?_)|(refine al_v (ov_sub rfl rfl (by (first|exact w64 (by omega) (by omega)|exact w8 (by omega) (by omega)|rfl))) rfl ?_))|(refine al_v (ov_assign rfl) rfl ?_)|(refine al_nil ?_))|(first|(refine thn_n ?_)|(refine k_awp ?_;first|(refine awp_seq (awp_region ?_))|(refine awp_seq ?_)|(refine awp_region ?_)|(refine k_cond ?_;first|(refine awp_cond_t' rfl (by with_reducible rfl) ?_)|(refine awp_cond_f' rfl (by with_reducible rfl) ?_)|(refine awp_cond_p rfl (fun hc => ?_) (fun hc => ?_) <;> (try (exfalso;omega))))|(refine awp_block ?_)|(refine awp_ret ?_)|(refine awp_skip ?_)|(refine awp_exit ?_))|(refine lq_exit ?_)|(refine thn_exit ?_)|(refine inb_n ?_)|(refine inb_here ?_)))
  refine awp_loopq (fun k : Nat => ⟨[(3, .os 0 0), (8, .os 0 0), (9, .int .i64 ((bytesAV s).length : Int)), (10, .int .i64 k)], [.arr 5 1 0 (bytesAV (halfS s k)) true]⟩) (fun k => k ≤ s.length) (fun k => s.length - k) 0 (.of (.same (by repeat constructor))) (Nat.zero_le _) ?_
  rintro i hi
  try dsimp only
  have h1 := hbl s
  have h2 := hbl (halfS s i)
  rw [halfS_len] at h2
  repeat' (first|(refine k_al ?_;first|(refine al_v (ov_move rfl) rfl ?_)|(refine k_bin ?_;first|(refine al_v (ov_cmp rfl rfl rfl) rfl ?_)|(refine al_v (ov_add rfl rfl (by (first|exact w64 (by omega) (by omega)|exact w8 (by omega) (by omega)|rfl))) rfl ?_)|(refine al_v (ov_sub rfl rfl (by (first|exact w64 (by omega) (by omega)|exact w8 (by omega) (by omega)|rfl))) rfl ?_))|(refine al_v (ov_assign rfl) rfl ?_)|(refine al_nil ?_))|(first|(refine thn_n ?_)|(refine k_awp ?_;first|(refine awp_seq (awp_region ?_))|(refine awp_seq ?_)|(refine awp_region ?_)|(refine k_cond ?_;first|(refine awp_cond_t' rfl (by with_reducible rfl) ?_)|(refine awp_cond_f' rfl (by with_reducible rfl) ?_)|(refine awp_cond_p rfl (fun hc => ?_) (fun hc => ?_) <;> (try (exfalso;omega))))|(refine awp_block ?_)|(refine awp_ret ?_)|(refine awp_skip ?_)|(refine awp_exit ?_))|(refine lq_exit ?_)|(refine thn_exit ?_)|(refine inb_n ?_)|(refine inb_here ?_)))
  · have hlt : i < s.length := by omega
    obtain ⟨b, hbe⟩ : ∃ b, bAt s (i : Int) = b := ⟨_, rfl⟩
    have hrow : (bytesAV (halfS s i))[(i : Int).toNat]? = some [bI b] := by rw [← hbe]; exact bytesAV_get (halfS_get hlt)
    have hlb := b.toNat_lt
    by_cases hla : pLarge b = true
    · obtain ⟨g1, g2⟩ := (pLarge_iff _).1 hla
      have hset : bytesAV (halfS s (i + 1)) = (bytesAV (halfS s i)).set (i : Int).toNat [.int .u8 ((b.toNat : Int) + 97 - 65)] := by
        rw [← halfS_set hlt, ← bytesAV_set, hbe, lowB_large _ hla]
        rfl
      have hsl : PCalls (EE w0 base) 62 [bI b] fun rv => rv = .bool true := by rw [← hla]; exact s_large
      repeat' (first|(first|(refine al_v (ov_indexAddr_arr rfl rfl rfl rfl rfl (by omega) (by omega)) rfl ?_)|(refine al_v (ov_load rfl (cellsAt_arr rfl hrow)) rfl ?_)|(refine k_call ?_;refine al_call rfl rfl rfl rfl hsl ?_;rintro _ rfl)|(refine al_store_arr rfl rfl rfl rfl (by repeat constructor) rfl hrow hset ?_))|(refine k_al ?_;first|(refine al_v (ov_move rfl) rfl ?_)|(refine k_bin ?_;first|(refine al_v (ov_cmp rfl rfl rfl) rfl ?_)|(refine al_v (ov_add rfl rfl (by (first|exact w64 (by omega) (by omega)|exact w8 (by omega) (by omega)|rfl))) rfl ?_)|(refine al_v (ov_sub rfl rfl (by (first|exact w64 (by omega) (by omega)|exact w8 (by omega) (by omega)|rfl))) rfl ?_))|(refine al_v (ov_assign rfl) rfl ?_)|(refine al_nil ?_))|(first|(refine thn_n ?_)|(refine k_awp ?_;first|(refine awp_seq (awp_region ?_))|(refine awp_seq ?_)|(refine awp_region ?_)|(refine k_cond ?_;first|(refine awp_cond_t' rfl (by with_reducible rfl) ?_)|(refine awp_cond_f' rfl (by with_reducible rfl) ?_)|(refine awp_cond_p rfl (fun hc => ?_) (fun hc => ?_) <;> (try (exfalso;omega))))|(refine awp_block ?_)|(refine awp_ret ?_)|(refine awp_skip ?_)|(refine awp_exit ?_))|(refine lq_exit ?_)|(refine thn_exit ?_)|(refine inb_n ?_)|(refine inb_here ?_)))
      first | refine lq_back (i + 1) (.of (.same (by repeat constructor))) ?_ ?_ | fail
      · omega
      · omega
    · have hla : pLarge b = false := by simpa using hla
      have hsl : PCalls (EE w0 base) 62 [bI b] fun rv => rv = .bool false := by rw [← hla]; exact s_large
      repeat' (first|(first|(refine al_v (ov_indexAddr_arr rfl rfl rfl rfl rfl (by omega) (by omega)) rfl ?_)|(refine al_v (ov_load rfl (cellsAt_arr rfl hrow)) rfl ?_)|(refine k_call ?_;refine al_call rfl rfl rfl rfl hsl ?_;rintro _ rfl))|(refine k_al ?_;first|(refine al_v (ov_move rfl) rfl ?_)|(refine k_bin ?_;first|(refine al_v (ov_cmp rfl rfl rfl) rfl ?_)|(refine al_v (ov_add rfl rfl (by (first|exact w64 (by omega) (by omega)|exact w8 (by omega) (by omega)|rfl))) rfl ?_)|(refine al_v (ov_sub rfl rfl (by (first|exact w64 (by omega) (by omega)|exact w8 (by omega) (by omega)|rfl))) rfl ?_))|(refine al_v (ov_assign rfl) rfl ?_)|(refine al_nil ?_))|(first|(refine thn_n ?_)|(refine k_awp ?_;first|(refine awp_seq (awp_region ?_))|(refine awp_seq ?_)|(refine awp_region ?_)|(refine k_cond ?_;first|(refine awp_cond_t' rfl (by with_reducible rfl) ?_)|(refine awp_cond_f' rfl (by with_reducible rfl) ?_)|(refine awp_cond_p rfl (fun hc => ?_) (fun hc => ?_) <;> (try (exfalso;omega))))|(refine awp_block ?_)|(refine awp_ret ?_)|(refine awp_skip ?_)|(refine awp_exit ?_))|(refine lq_exit ?_)|(refine thn_exit ?_)|(refine inb_n ?_)|(refine inb_here ?_)))
      rw [halfS_keep hlt (by rw [hbe]; exact hla)]
      first | refine lq_back (i + 1) (.of (.same (by repeat constructor))) ?_ ?_ | fail
      · omega
      · omega
  · repeat' (first|((refine al_v (ov_conv_bytes (l := smallS s) rfl rfl (by rw [show smallS s = halfS s i by rw [show i = s.length by omega];simp [halfS]];exact .arr _ _)) rfl ?_))|(refine k_al ?_;first|(refine al_v (ov_move rfl) rfl ?_)|(refine k_bin ?_;first|(refine al_v (ov_cmp rfl rfl rfl) rfl ?_)|(refine al_v (ov_add rfl rfl (by (first|exact w64 (by omega) (by omega)|exact w8 (by omega) (by omega)|rfl))) rfl ?_)|(refine al_v (ov_sub rfl rfl (by (first|exact w64 (by omega) (by omega)|exact w8 (by omega) (by omega)|rfl))) rfl ?_))|(refine al_v (ov_assign rfl) rfl ?_)|(refine al_nil ?_))|(first|(refine thn_n ?_)|(refine k_awp ?_;first|(refine awp_seq (awp_region ?_))|(refine awp_seq ?_)|(refine awp_region ?_)|(refine k_cond ?_;first|(refine awp_cond_t' rfl (by with_reducible rfl) ?_)|(refine awp_cond_f' rfl (by with_reducible rfl) ?_)|(refine awp_cond_p rfl (fun hc => ?_) (fun hc => ?_) <;> (try (exfalso;omega))))|(refine awp_block ?_)|(refine awp_ret ?_)|(refine awp_skip ?_)|(refine awp_exit ?_))|(refine lq_exit ?_)|(refine thn_exit ?_)|(refine inb_n ?_)|(refine inb_here ?_)))
    refine ret1 (by first | exact .inr rfl | exact .inl rfl) rfl rfl ?_
    exact ⟨rfl, rfl⟩
theorem bytes_snocB {l : List UInt8} {b : UInt8} : bytesAV l ++ [[.int .u8 (b.toNat : Int)]] = bytesAV (l ++ [b]) := by simp [bytesAV]
theorem smallS_next {s : List UInt8} {i : Nat} (h : i < s.length) : smallS (s.take (i + 1)) = smallS (s.take i) ++ [lowB (bAt s (i : Int))] := by
  unfold smallS
  rw [List.take_add_one, get_bAt h]
  simp
set_option maxHeartbeats 2000000 in
theorem s_smallR {s : List UInt8} (hs : s.length ≤ 140737488351232) : PCalls (EE w0 base) 42 [.str s] fun rv => rv = .str (smallS s) := by
  refine acalls_of Tryz.func42 rfl rfl rfl (.cons .nil) ?_
  repeat' (first|(refine k_al ?_;first|(refine al_v (ov_move rfl) rfl ?_)|(refine k_g ?_;first|(refine al_gy' rfl rfl (by with_reducible rfl) ?_)|(refine al_gnt rfl rfl (by with_reducible rfl) rfl ?_)|(refine al_gsp rfl rfl (fun hc => ?_) (fun hc => ?_) <;> (try (exfalso;omega))))|(refine k_bin ?_;first|(refine al_v (ov_cmp rfl rfl rfl) rfl ?_)|(refine al_v (ov_add rfl rfl (by (first|exact w64 (by omega) (by omega)|exact w8 (by omega) (by omega)|rfl))) rfl ?_))|(refine k_pick ?_;first|(refine al_v (ov_pick_t' rfl (by with_reducible rfl) rfl) rfl ?_)|(refine al_v (ov_pick_f' rfl (by with_reducible rfl) rfl) rfl ?_))|(refine al_v (ov_assign rfl) rfl ?_)|(refine k_call ?_;first|(refine al_v (ov_len_str rfl) rfl ?_))|(refine al_nil ?_)|(refine al_buildSlice (by rfl) (by rfl) (by rfl) (by rfl) (by decide) (by decide) (by rfl) (by rfl) (by repeat constructor) (by rfl) (by repeat constructor) (by rfl) (by first|exact ln1) (by repeat constructor) rfl ?_)|(refine al_v (ov_index rfl rfl (by omega) (by omega)) rfl ?_))|(first|(refine thn_n ?_)|(refine k_awp ?_;first|(refine awp_seq (awp_region ?_))|(refine awp_seq ?_)|(refine awp_region ?_)|(refine k_cond ?_;first|(refine awp_cond_f' rfl (by with_reducible rfl) ?_)|(refine awp_cond_p rfl (fun hc => ?_) (fun hc => ?_) <;> (try (exfalso;omega))))|(refine awp_block ?_)|(refine awp_ret ?_)|(refine awp_skip ?_)|(refine awp_exit ?_))|(refine lq_exit ?_)|(refine thn_exit ?_)|(refine inb_n ?_)|(refine inb_here ?_)))
  refine awp_adopt 3 5 1 rfl (by decide) rfl (by repeat constructor) ?_
  refine awp_loopq (fun p : Nat × Nat × List (List AV) => ⟨[(0, .str s), (3, .os 0 p.2.1), (4, .int .i64 p.1)], [.row 5 1 p.2.1 0 p.2.2]⟩)
    (fun p => p.1 ≤ s.length ∧ p.2.2 = bytesAV (smallS (s.take p.1))) (fun p => s.length - p.1) (0, 0, []) (.of (.same (by repeat constructor))) ⟨Nat.zero_le _, rfl⟩ ?_
  rintro ⟨i, ver, xs⟩ ⟨hi, hx⟩
  dsimp only at hi hx ⊢
  subst hx
  have hbl : (bytesAV (smallS (s.take i))).length = i := by simp [bytesAV, smallS]; omega
  have hlb := (bAt s (i : Int)).toNat_lt
  have hb := byteAt_eq s (i : Int)
  repeat' (first|((refine k_call ?_;refine al_append rfl rfl (by repeat constructor) (src_os rfl rfl) rfl (by decide) (by simp only [hbl, List.length_cons, List.length_nil];omega) rfl ?_))|(refine k_al ?_;first|(refine al_v (ov_move rfl) rfl ?_)|(refine k_g ?_;first|(refine al_gy' rfl rfl (by with_reducible rfl) ?_)|(refine al_gnt rfl rfl (by with_reducible rfl) rfl ?_)|(refine al_gsp rfl rfl (fun hc => ?_) (fun hc => ?_) <;> (try (exfalso;omega))))|(refine k_bin ?_;first|(refine al_v (ov_cmp rfl rfl rfl) rfl ?_)|(refine al_v (ov_add rfl rfl (by (first|exact w64 (by omega) (by omega)|exact w8 (by omega) (by omega)|rfl))) rfl ?_))|(refine k_pick ?_;first|(refine al_v (ov_pick_t' rfl (by with_reducible rfl) rfl) rfl ?_)|(refine al_v (ov_pick_f' rfl (by with_reducible rfl) rfl) rfl ?_))|(refine al_v (ov_assign rfl) rfl ?_)|(refine k_call ?_;first|(refine al_v (ov_len_str rfl) rfl ?_))|(refine al_nil ?_)|(refine al_buildSlice (by rfl) (by rfl) (by rfl) (by rfl) (by decide) (by decide) (by rfl) (by rfl) (by repeat constructor) (by rfl) (by repeat constructor) (by rfl) (by first|exact ln1) (by repeat constructor) rfl ?_)|(refine al_v (ov_index rfl rfl (by omega) (by omega)) rfl ?_))|(first|(refine thn_n ?_)|(refine k_awp ?_;first|(refine awp_seq (awp_region ?_))|(refine awp_seq ?_)|(refine awp_region ?_)|(refine k_cond ?_;first|(refine awp_cond_f' rfl (by with_reducible rfl) ?_)|(refine awp_cond_p rfl (fun hc => ?_) (fun hc => ?_) <;> (try (exfalso;omega))))|(refine awp_block ?_)|(refine awp_ret ?_)|(refine awp_skip ?_)|(refine awp_exit ?_))|(refine lq_exit ?_)|(refine thn_exit ?_)|(refine inb_n ?_)|(refine inb_here ?_)))
  · have hla : pLarge (bAt s (i : Int)) = true := (pLarge_iff _).2 (by omega)
    first|refine lq_back (i + 1, ver + 1, _) (.of (.same (by repeat constructor))) ?_ ?_|refine lq_back (i + 1, ver + 1, _) (.of (wk_drop [_] rfl (by repeat constructor) rfl (by repeat constructor) rfl)) ?_ ?_|refine lq_back (i + 1, ver + 1, _) (.of (wk_drop [_, _] rfl (by repeat constructor) rfl (by repeat constructor) rfl)) ?_ ?_|refine lq_back (i + 1, ver + 1, _) (.of (wk_drop [_, _, _] rfl (by repeat constructor) rfl (by repeat constructor) rfl)) ?_ ?_
    · refine ⟨by dsimp only; omega, ?_⟩
      dsimp only
      rw [smallS_next (by omega), ← bytes_snocB, lowB_large' _ hla]
      rfl
    · dsimp only; omega
  iterate 2
    · have hla : pLarge (bAt s (i : Int)) = false := by
        cases h : pLarge (bAt s (i : Int)) with
        | false => rfl
        | true => have := (pLarge_iff _).1 h; omega
      first|refine lq_back (i + 1, ver + 1, _) (.of (.same (by repeat constructor))) ?_ ?_|refine lq_back (i + 1, ver + 1, _) (.of (wk_drop [_] rfl (by repeat constructor) rfl (by repeat constructor) rfl)) ?_ ?_|refine lq_back (i + 1, ver + 1, _) (.of (wk_drop [_, _] rfl (by repeat constructor) rfl (by repeat constructor) rfl)) ?_ ?_|refine lq_back (i + 1, ver + 1, _) (.of (wk_drop [_, _, _] rfl (by repeat constructor) rfl (by repeat constructor) rfl)) ?_ ?_
      · refine ⟨by dsimp only; omega, ?_⟩
        dsimp only
        rw [smallS_next (by omega), ← bytes_snocB, lowB_not hla]
        rfl
      · dsimp only; omega
  · repeat' (first|((refine al_v (ov_conv_bytes (l := smallS s) rfl rfl (by rw [show smallS s = smallS (s.take i) by rw [List.take_of_length_le (by omega)]];exact .row _ _)) rfl ?_))|(refine k_al ?_;first|(refine al_v (ov_move rfl) rfl ?_)|(refine k_g ?_;first|(refine al_gy' rfl rfl (by with_reducible rfl) ?_)|(refine al_gnt rfl rfl (by with_reducible rfl) rfl ?_)|(refine al_gsp rfl rfl (fun hc => ?_) (fun hc => ?_) <;> (try (exfalso;omega))))|(refine k_bin ?_;first|(refine al_v (ov_cmp rfl rfl rfl) rfl ?_)|(refine al_v (ov_add rfl rfl (by (first|exact w64 (by omega) (by omega)|exact w8 (by omega) (by omega)|rfl))) rfl ?_))|(refine k_pick ?_;first|(refine al_v (ov_pick_t' rfl (by with_reducible rfl) rfl) rfl ?_)|(refine al_v (ov_pick_f' rfl (by with_reducible rfl) rfl) rfl ?_))|(refine al_v (ov_assign rfl) rfl ?_)|(refine k_call ?_;first|(refine al_v (ov_len_str rfl) rfl ?_))|(refine al_nil ?_)|(refine al_buildSlice (by rfl) (by rfl) (by rfl) (by rfl) (by decide) (by decide) (by rfl) (by rfl) (by repeat constructor) (by rfl) (by repeat constructor) (by rfl) (by first|exact ln1) (by repeat constructor) rfl ?_)|(refine al_v (ov_index rfl rfl (by omega) (by omega)) rfl ?_))|(first|(refine thn_n ?_)|(refine k_awp ?_;first|(refine awp_seq (awp_region ?_))|(refine awp_seq ?_)|(refine awp_region ?_)|(refine k_cond ?_;first|(refine awp_cond_f' rfl (by with_reducible rfl) ?_)|(refine awp_cond_p rfl (fun hc => ?_) (fun hc => ?_) <;> (try (exfalso;omega))))|(refine awp_block ?_)|(refine awp_ret ?_)|(refine awp_skip ?_)|(refine awp_exit ?_))|(refine lq_exit ?_)|(refine thn_exit ?_)|(refine inb_n ?_)|(refine inb_here ?_)))
    refine ret1 (by first | exact .inr rfl | exact .inl rfl) rfl rfl ?_
    exact ⟨rfl, rfl⟩
end
end Go.Proofs.YtffcgpkbibijpaaGreatDoor.L

namespace Go.Proofs.YtffcgpkbibijpaaGreatDoor.L
open Go Go.RowKit Go.Proofs
set_option linter.unusedVariables false
set_option linter.unusedSimpArgs false
set_option maxRecDepth 100000
attribute [local irreducible] AL QL AWp Thn InB RetQ ACalls LoopQ HL HO HW HQ NoG

def verOk (v : List UInt8) : Bool := decide (v.length = 8) && (Lib.hasPrefix v [72, 84, 84, 80, 47] && (pDigit (bAt v 5) && (decide (byteAt v 6 = 46) && pDigit (bAt v 7))))
theorem signs_mem : ∀ b : UInt8, decide (0 ≤ Lib.indexByte signs b) = signs.contains b := u8_all (by decide +kernel)
theorem trim_eq {s : List UInt8} {a b : Nat} (hab : a ≤ b) (hb : b ≤ s.length) (h1 : ∀ j : Nat, j < a → ([32, 9] : List UInt8).contains (bAt s (j : Int)) = true) (h2 : ∀ j : Nat, b ≤ j → j < s.length → ([32, 9] : List UInt8).contains (bAt s (j : Int)) = true)
    (h3 : a < b → ([32, 9] : List UInt8).contains (bAt s (a : Int)) = false ∧ ([32, 9] : List UInt8).contains (bAt s ((b - 1 : Nat) : Int)) = false) : Lib.trimS s [32, 9] = (s.take b).drop a := by
  have get : ∀ (j : Nat) (x : UInt8), s[j]? = some x → j < s.length ∧ bAt s (j : Int) = x := fun j x h => by
    have hj := (List.getElem?_eq_some_iff.1 h).1
    rw [get_bAt hj] at h
    injection h with h
    exact ⟨hj, h⟩
  unfold Lib.trimS
  rcases Nat.lt_or_ge a b with hlt | hge
  · obtain ⟨h4, h5⟩ := h3 hlt
    rw [Lib.trimRightS_take s [32, 9] b hb (fun j x hj hx => by obtain ⟨g1, g2⟩ := get j x hx; rw [← g2]; exact h2 j hj g1) (fun x _ hx => by obtain ⟨g1, g2⟩ := get _ x hx; rw [← g2]; exact h5)]
    refine Lib.trimLeftS_drop _ _ a (by simp; omega) (fun j x hj hx => ?_) (fun x hx => ?_)
    · rw [List.getElem?_take, if_pos (by omega)] at hx
      obtain ⟨g1, g2⟩ := get j x hx; rw [← g2]; exact h1 j hj
    · rw [List.getElem?_take, if_pos hlt] at hx
      obtain ⟨g1, g2⟩ := get a x hx; rw [← g2]; exact h4
  · obtain rfl : a = b := by omega
    rw [Lib.trimRightS_take s [32, 9] 0 (Nat.zero_le _) (fun j x _ hx => by
      obtain ⟨g1, g2⟩ := get j x hx
      rw [← g2]
      rcases Nat.lt_or_ge j a with h | h
      · exact h1 j h
      · exact h2 j h g1) (fun x h => absurd h (Nat.lt_irrefl 0))]
    rw [List.drop_eq_nil_of_le (by simp; omega)]
    rfl
theorem blank_iff (s : List UInt8) (m : Int) : ([32, 9] : List UInt8).contains (bAt s m) = true ↔ byteAt s m = 32 ∨ byteAt s m = 9 := by
  rw [byteAt_eq]
  generalize bAt s m = b
  revert b
  exact u8_all (by decide +kernel)
theorem blank_not (s : List UInt8) (m : Int) : ([32, 9] : List UInt8).contains (bAt s m) = false ↔ ¬ (byteAt s m = 32 ∨ byteAt s m = 9) := by
  rw [← blank_iff, Bool.not_eq_true]
theorem occ_crlf (l : List UInt8) (i : Nat) : Lib.occAt l [13, 10] i = true ↔ l[i]? = some 13 ∧ l[i + 1]? = some 10 := by
  constructor
  · intro h
    exact ⟨Lib.occAt_head rfl h, Lib.occAt_second rfl h⟩
  · rintro ⟨h1, h2⟩
    obtain ⟨g1, g2⟩ := List.getElem?_eq_some_iff.1 h1
    obtain ⟨g3, g4⟩ := List.getElem?_eq_some_iff.1 h2
    unfold Lib.occAt
    rw [List.drop_eq_getElem_cons g1, List.drop_eq_getElem_cons g3, g2, g4]
    simp [List.isPrefixOf]
theorem cut_crlf_at {l : List UInt8} {i : Nat} (h1 : l[i]? = some 13) (h2 : l[i + 1]? = some 10) (hn : ∀ j, j < i → ¬ (l[j]? = some 13 ∧ l[j + 1]? = some 10)) : Lib.cut l [13, 10] = (l.take i, l.drop (i + 2), true) := by
  have hi := (List.getElem?_eq_some_iff.1 h1).1
  have := Lib.index_first (s := l) (sub := [13, 10]) (i := i) (by omega) ((occ_crlf l i).2 ⟨h1, h2⟩) (fun j hj => by
    cases h : Lib.occAt l [13, 10] j with
    | false => rfl
    | true => exact absurd ((occ_crlf l j).1 h) (hn j hj))
  unfold Lib.cut
  rw [this, if_pos (by omega)]
  simp
theorem cut_crlf_no {l : List UInt8} (hn : ∀ j : Nat, ¬ (l[j]? = some 13 ∧ l[j + 1]? = some 10)) : Lib.cut l [13, 10] = (l, [], false) := by
  have := Lib.index_none (s := l) (sub := [13, 10]) (fun j hj => by
    cases h : Lib.occAt l [13, 10] j with
    | false => rfl
    | true => exact absurd ((occ_crlf l j).1 h) (hn j))
  unfold Lib.cut
  rw [this, if_neg (by omega)]

section
variable {w0 : World} {base : Nat}
theorem s_version {v : List UInt8} : PCalls (EE w0 base) 105 [.str v] fun rv => rv = .bool (verOk v) := by
  refine acalls_of Tryz.func105 rfl rfl rfl (.cons .nil) ?_
  repeat' (first|(first|(refine k_call ?_;refine al_call rfl rfl rfl rfl (s_digit (b := bAt v 5)) ?_;rintro _ rfl)|(refine k_call ?_;refine al_call rfl rfl rfl rfl (s_digit (b := bAt v 7)) ?_;rintro _ rfl)|(refine k_call ?_;refine al_call rfl rfl rfl rfl s_hasPrefix ?_;rintro _ rfl))|(refine k_al ?_;first|(refine al_v (ov_move rfl) rfl ?_)|(refine k_g ?_;first|(refine al_gy' rfl rfl (by with_reducible rfl) ?_)|(refine al_gnt rfl rfl (by with_reducible rfl) rfl ?_)|(refine al_gsp rfl rfl (fun hc => ?_) (fun hc => ?_) <;> (try (exfalso;omega)))|(refine al_gsb rfl rfl (fun hc => ?_) (fun hc => ?_) <;> (try (exact absurd hc (by decide)))))|(refine k_bin ?_;first|(refine al_v (ov_cmp rfl rfl rfl) rfl ?_))|(refine k_pick ?_;first|(refine al_v (ov_pick_t' rfl (by with_reducible rfl) rfl) rfl ?_)|(refine al_v (ov_pick_f' rfl (by with_reducible rfl) rfl) rfl ?_))|(refine al_v (ov_assign rfl) rfl ?_)|(refine k_call ?_;first|(refine al_v (ov_len_str rfl) rfl ?_))|(refine al_nil ?_)|(refine al_v (ov_index rfl rfl (by omega) (by omega)) rfl ?_))|(first|(refine thn_n ?_)|(refine k_awp ?_;first|(refine awp_seq (awp_region ?_))|(refine awp_seq ?_)|(refine awp_region ?_)|(refine awp_ret ?_))))
  all_goals
    refine ret1 (by first | exact .inr rfl | exact .inl rfl) rfl rfl ?_
    refine ⟨congrArg AV.bool ?_, rfl⟩
    unfold verOk
    (try have hv : v.length = 8 := by omega)
    (try have hv : ¬ v.length = 8 := by omega)
    (try have hp : Lib.hasPrefix v [72, 84, 84, 80, 47] = true := ‹Lib.hasPrefix v _ = true›)
    (try have hp : Lib.hasPrefix v [72, 84, 84, 80, 47] = false := ‹Lib.hasPrefix v _ = false›)
    generalize Lib.hasPrefix v [72, 84, 84, 80, 47] = pp at *
    generalize pDigit (bAt v 5) = p5 at *
    generalize pDigit (bAt v 7) = p7 at *
    generalize byteAt v 6 = x6 at *
    simp [*]
set_option maxHeartbeats 1000000 in
theorem s_method {s : List UInt8} (hs : s.length ≤ 65536) : PCalls (EE w0 base) 119 [.str s] fun rv => rv = .bool (s.all pLarge && (decide (1 ≤ s.length) && decide (s.length ≤ 16))) := by
  refine acalls_of Tryz.func119 rfl rfl rfl (.cons .nil) ?_
  repeat' (first|(refine k_al ?_;first|(refine al_v (ov_move rfl) rfl ?_)|(refine k_g ?_;first|(refine al_gy' rfl rfl (by with_reducible rfl) ?_)|(refine al_gnt rfl rfl (by with_reducible rfl) rfl ?_)|(refine al_gnf rfl rfl (by with_reducible rfl) rfl ?_)|(refine al_gsp rfl rfl (fun hc => ?_) (fun hc => ?_) <;> (try (exfalso;omega))))|(refine k_bin ?_;first|(refine al_v (ov_cmp rfl rfl rfl) rfl ?_)|(refine al_v (ov_add rfl rfl (by (first|exact w64 (by omega) (by omega)|rfl))) rfl ?_))|(refine k_pick ?_;first|(refine al_v (ov_pick_t' rfl (by with_reducible rfl) rfl) rfl ?_)|(refine al_v (ov_pick_f' rfl (by with_reducible rfl) rfl) rfl ?_))|(refine al_v (ov_assign rfl) rfl ?_)|(refine k_call ?_;first|(refine al_v (ov_len_str rfl) rfl ?_))|(refine al_nil ?_)|(refine al_v (ov_index rfl rfl (by omega) (by omega)) rfl ?_))|(first|(refine thn_n ?_)|(refine k_awp ?_;first|(refine awp_seq (awp_region ?_))|(refine awp_seq ?_)|(refine awp_region ?_)|(refine k_cond ?_;first|(refine awp_cond_t' rfl (by with_reducible rfl) ?_)|(refine awp_cond_p rfl (fun hc => ?_) (fun hc => ?_) <;> (try (exfalso;omega))))|(refine awp_block ?_)|(refine awp_ret ?_)|(refine awp_skip ?_)|(refine awp_exit ?_))|(refine thn_ret ?_)|(refine lq_exit ?_)|(refine lq_ret ?_)|(refine thn_exit ?_)|(refine inb_n ?_)|(refine inb_ret ?_)|(refine inb_here ?_)))
  refine awp_loopq (fun k : Nat => ⟨[(0, .str s), (3, .int .i64 k)], []⟩) (fun k => k ≤ s.length ∧ ∀ j, j < k → pLarge (bAt s (j : Int)) = true) (fun k => s.length - k) 0 (.of (.same (by repeat constructor))) ⟨Nat.zero_le _, fun j h => absurd h (Nat.not_lt_zero _)⟩ ?_
  rintro i ⟨hi, hall⟩
  try dsimp only
  have hla := pLarge_iff (bAt s (i : Int))
  have hb := byteAt_eq s (i : Int)
  repeat' (first|(refine k_al ?_;first|(refine al_v (ov_move rfl) rfl ?_)|(refine k_g ?_;first|(refine al_gy' rfl rfl (by with_reducible rfl) ?_)|(refine al_gnt rfl rfl (by with_reducible rfl) rfl ?_)|(refine al_gnf rfl rfl (by with_reducible rfl) rfl ?_)|(refine al_gsp rfl rfl (fun hc => ?_) (fun hc => ?_) <;> (try (exfalso;omega))))|(refine k_bin ?_;first|(refine al_v (ov_cmp rfl rfl rfl) rfl ?_)|(refine al_v (ov_add rfl rfl (by (first|exact w64 (by omega) (by omega)|rfl))) rfl ?_))|(refine k_pick ?_;first|(refine al_v (ov_pick_t' rfl (by with_reducible rfl) rfl) rfl ?_)|(refine al_v (ov_pick_f' rfl (by with_reducible rfl) rfl) rfl ?_))|(refine al_v (ov_assign rfl) rfl ?_)|(refine k_call ?_;first|(refine al_v (ov_len_str rfl) rfl ?_))|(refine al_nil ?_)|(refine al_v (ov_index rfl rfl (by omega) (by omega)) rfl ?_))|(first|(refine thn_n ?_)|(refine k_awp ?_;first|(refine awp_seq (awp_region ?_))|(refine awp_seq ?_)|(refine awp_region ?_)|(refine k_cond ?_;first|(refine awp_cond_t' rfl (by with_reducible rfl) ?_)|(refine awp_cond_p rfl (fun hc => ?_) (fun hc => ?_) <;> (try (exfalso;omega))))|(refine awp_block ?_)|(refine awp_ret ?_)|(refine awp_skip ?_)|(refine awp_exit ?_))|(refine thn_ret ?_)|(refine lq_exit ?_)|(refine lq_ret ?_)|(refine thn_exit ?_)|(refine inb_n ?_)|(refine inb_ret ?_)|(refine inb_here ?_)))
  iterate 2
    · refine ret1 (by first | exact .inr rfl | exact .inl rfl) rfl rfl ?_
      rw [all_bAt_not (j := i) (by omega) (by cases h : pLarge (bAt s (i : Int)) with
        | false => rfl
        | true => have := hla.1 h; omega)]
      exact ⟨rfl, rfl⟩
  · first | refine lq_back (i + 1) (.of (.same (by repeat constructor))) ?_ ?_ | fail
    · refine ⟨by omega, fun j hj => ?_⟩
      rcases Nat.lt_or_ge j i with h | h
      · exact hall j h
      · obtain rfl : j = i := by omega
        exact hla.2 (by omega)
    · omega
  all_goals
    refine ret1 (by first | exact .inr rfl | exact .inl rfl) rfl rfl ?_
    rw [all_bAt fun j hj => hall j (by omega)]
    refine ⟨congrArg AV.bool ?_, rfl⟩
    rw [Bool.eq_iff_iff]
    simp
    omega
set_option maxHeartbeats 1000000 in
theorem s_visR {s : List UInt8} {lo : Bool} (hs : s.length ≤ 65536) : PCalls (EE w0 base) 120 [.str s, .bool lo] fun rv => rv = .bool (s.all fun b => pVis b || (lo && pLoose b)) := by
  refine acalls_of Tryz.func120 rfl rfl rfl (.cons (.cons .nil)) ?_
  repeat' (first|(refine k_al ?_;first|(refine al_v (ov_move rfl) rfl ?_)|(refine k_g ?_;first|(refine al_gy' rfl rfl (by with_reducible rfl) ?_)|(refine al_gnt rfl rfl (by with_reducible rfl) rfl ?_)|(refine al_gnf rfl rfl (by with_reducible rfl) rfl ?_)|(refine al_gu rfl rfl rfl ?_)|(refine al_gsp rfl rfl (fun hc => ?_) (fun hc => ?_) <;> (try (exfalso;omega)))|(refine al_gsb rfl rfl (fun hc => ?_) (fun hc => ?_) <;> (try (exact absurd hc (by decide)))))|(refine k_bin ?_;first|(refine al_v (ov_cmp rfl rfl rfl) rfl ?_)|(refine al_v (ov_add rfl rfl (by (first|exact w64 (by omega) (by omega)|rfl))) rfl ?_))|(refine k_pick ?_;first|(refine al_v (ov_pick_t' rfl (by with_reducible rfl) rfl) rfl ?_)|(refine al_v (ov_pick_f' rfl (by with_reducible rfl) rfl) rfl ?_))|(refine al_v (ov_assign rfl) rfl ?_)|(refine k_call ?_;first|(refine al_v (ov_len_str rfl) rfl ?_))|(refine al_nil ?_)|(refine al_v (ov_not rfl rfl) rfl ?_)|(refine al_v (ov_index rfl rfl (by omega) (by omega)) rfl ?_))|(first|(refine thn_n ?_)|(refine k_awp ?_;first|(refine awp_seq (awp_region ?_))|(refine awp_seq ?_)|(refine awp_region ?_)|(refine k_cond ?_;first|(refine awp_cond_t' rfl (by with_reducible rfl) ?_)|(refine awp_cond_f' rfl (by with_reducible rfl) ?_)|(refine awp_cond_p rfl (fun hc => ?_) (fun hc => ?_) <;> (try (exfalso;omega))))|(refine awp_block ?_)|(refine awp_ret ?_)|(refine awp_skip ?_)|(refine awp_exit ?_))|(refine thn_ret ?_)|(refine lq_exit ?_)|(refine lq_ret ?_)|(refine thn_exit ?_)|(refine inb_n ?_)|(refine inb_ret ?_)|(refine inb_here ?_)))
  refine awp_loopq (fun k : Nat => ⟨[(0, .str s), (1, .bool lo), (5, .int .i64 k)], []⟩) (fun k => k ≤ s.length ∧ ∀ j, j < k → (pVis (bAt s (j : Int)) || (lo && pLoose (bAt s (j : Int)))) = true) (fun k => s.length - k) 0 (.of (.same (by repeat constructor))) ⟨Nat.zero_le _, fun j h => absurd h (Nat.not_lt_zero _)⟩ ?_
  rintro i ⟨hi, hall⟩
  try dsimp only
  have hv : (pVis (bAt s (i : Int)) || (lo && pLoose (bAt s (i : Int)))) = true ↔ (33 ≤ byteAt s (i : Int) ∧ byteAt s (i : Int) ≤ 126) ∨ lo = true ∧ (byteAt s (i : Int) = 32 ∨ byteAt s (i : Int) = 9) := by
    rw [byteAt_eq]
    unfold pLoose pVis
    cases lo <;> simp <;> omega
  repeat' (first|(refine k_al ?_;first|(refine al_v (ov_move rfl) rfl ?_)|(refine k_g ?_;first|(refine al_gy' rfl rfl (by with_reducible rfl) ?_)|(refine al_gnt rfl rfl (by with_reducible rfl) rfl ?_)|(refine al_gnf rfl rfl (by with_reducible rfl) rfl ?_)|(refine al_gu rfl rfl rfl ?_)|(refine al_gsp rfl rfl (fun hc => ?_) (fun hc => ?_) <;> (try (exfalso;omega)))|(refine al_gsb rfl rfl (fun hc => ?_) (fun hc => ?_) <;> (try (exact absurd hc (by decide)))))|(refine k_bin ?_;first|(refine al_v (ov_cmp rfl rfl rfl) rfl ?_)|(refine al_v (ov_add rfl rfl (by (first|exact w64 (by omega) (by omega)|rfl))) rfl ?_))|(refine k_pick ?_;first|(refine al_v (ov_pick_t' rfl (by with_reducible rfl) rfl) rfl ?_)|(refine al_v (ov_pick_f' rfl (by with_reducible rfl) rfl) rfl ?_))|(refine al_v (ov_assign rfl) rfl ?_)|(refine k_call ?_;first|(refine al_v (ov_len_str rfl) rfl ?_))|(refine al_nil ?_)|(refine al_v (ov_not rfl rfl) rfl ?_)|(refine al_v (ov_index rfl rfl (by omega) (by omega)) rfl ?_))|(first|(refine thn_n ?_)|(refine k_awp ?_;first|(refine awp_seq (awp_region ?_))|(refine awp_seq ?_)|(refine awp_region ?_)|(refine k_cond ?_;first|(refine awp_cond_t' rfl (by with_reducible rfl) ?_)|(refine awp_cond_f' rfl (by with_reducible rfl) ?_)|(refine awp_cond_p rfl (fun hc => ?_) (fun hc => ?_) <;> (try (exfalso;omega))))|(refine awp_block ?_)|(refine awp_ret ?_)|(refine awp_skip ?_)|(refine awp_exit ?_))|(refine thn_ret ?_)|(refine lq_exit ?_)|(refine lq_ret ?_)|(refine thn_exit ?_)|(refine inb_n ?_)|(refine inb_ret ?_)|(refine inb_here ?_)))
  all_goals first
    | (refine ret1 (by first | exact .inr rfl | exact .inl rfl) rfl rfl ?_
       rw [all_bAt_not (j := i) (by omega) (by cases h : (pVis (bAt s (i : Int)) || (lo && pLoose (bAt s (i : Int)))) with
         | false => rfl
         | true => have := hv.1 h; simp_all <;> omega)]
       exact ⟨rfl, rfl⟩)
    | (refine ret1 (by first | exact .inr rfl | exact .inl rfl) rfl rfl ?_
       rw [all_bAt fun j hj => hall j (by omega)]
       exact ⟨rfl, rfl⟩)
    | skip
  all_goals
    first | refine lq_back (i + 1) (.of (.same (by repeat constructor))) ?_ ?_ | fail
    · refine ⟨by omega, fun j hj => ?_⟩
      rcases Nat.lt_or_ge j i with h | h
      · exact hall j h
      · obtain rfl : j = i := by omega
        refine hv.2 ?_
        simp_all <;> omega
    · omega
end
end Go.Proofs.YtffcgpkbibijpaaGreatDoor.L

namespace Go.Proofs.YtffcgpkbibijpaaGreatDoor.L
open Go Go.RowKit Go.Proofs
set_option linter.unusedVariables false
set_option linter.unusedSimpArgs false
set_option maxRecDepth 100000
attribute [local irreducible] AL QL AWp Thn InB RetQ ACalls LoopQ HL HO HW HQ NoG

section
variable {w0 : World} {base : Nat}
theorem signs_step (b : UInt8) (k : Nat) (h : k < 15) : (signs.take (k + 1)).contains b = ((signs.take k).contains b || decide ((b.toNat : Int) = byteAt signs (k : Int))) := by
  have : ∀ k : Fin 15, ∀ n : Fin 256, (signs.take (k.1 + 1)).contains (UInt8.ofNat n.1) = ((signs.take k.1).contains (UInt8.ofNat n.1) || decide (((UInt8.ofNat n.1).toNat : Int) = byteAt signs (k.1 : Int))) := by decide +kernel
  have := this ⟨k, h⟩ ⟨b.toNat, b.toNat_lt⟩
  simpa using this
theorem token_iff (b : UInt8) : pToken b = (decide (97 ≤ b.toNat ∧ b.toNat ≤ 122 ∨ 65 ≤ b.toNat ∧ b.toNat ≤ 90 ∨ 48 ≤ b.toNat ∧ b.toNat ≤ 57) || signs.contains b) := by
  rw [← signs_mem]
  unfold pToken pLarge pDigit
  rw [Bool.eq_iff_iff]
  simp only [Bool.or_eq_true, Bool.and_eq_true, decide_eq_true_eq]
  omega
set_option maxHeartbeats 4000000 in
theorem s_name {s : List UInt8} (hs : s.length ≤ 65536) : PCalls (EE w0 base) 121 [.str s] fun rv => rv = .bool (s.all pToken && decide (1 ≤ s.length)) := by
  refine acalls_of Tryz.func121 rfl rfl rfl (.cons .nil) ?_
  repeat' (first|(refine k_al ?_;first|(refine al_v (ov_move rfl) rfl ?_)|(refine k_g ?_;first|(refine al_gy' rfl rfl (by with_reducible rfl) ?_)|(refine al_gnt rfl rfl (by with_reducible rfl) rfl ?_)|(refine al_gnf rfl rfl (by with_reducible rfl) rfl ?_)|(refine al_gu rfl rfl rfl ?_)|(refine al_gsp rfl rfl (fun hc => ?_) (fun hc => ?_) <;> (try (exfalso;omega)))|(refine al_gsb rfl rfl (fun hc => ?_) (fun hc => ?_) <;> (try (exact absurd hc (by decide)))))|(refine k_bin ?_;first|(refine al_v (ov_cmp rfl rfl rfl) rfl ?_)|(refine al_v (ov_add rfl rfl (by (first|exact w64 (by omega) (by omega)|rfl))) rfl ?_))|(refine k_pick ?_;first|(refine al_v (ov_pick_t' rfl (by with_reducible rfl) rfl) rfl ?_)|(refine al_v (ov_pick_f' rfl (by with_reducible rfl) rfl) rfl ?_))|(refine al_v (ov_assign rfl) rfl ?_)|(refine k_call ?_;first|(refine al_v (ov_len_str rfl) rfl ?_))|(refine al_nil ?_)|(refine al_v (ov_not rfl rfl) rfl ?_)|(refine al_v (ov_index rfl rfl (by omega) (by omega)) rfl ?_))|(first|(refine thn_n ?_)|(refine k_awp ?_;first|(refine awp_seq (awp_region ?_))|(refine awp_seq ?_)|(refine awp_region ?_)|(refine k_cond ?_;first|(refine awp_cond_p rfl (fun hc => ?_) (fun hc => ?_) <;> (try (exfalso;omega)))|(refine awp_cond_b rfl (fun hc => ?_) (fun hc => ?_) <;> (try (exact absurd hc (by decide)))))|(refine awp_block ?_)|(refine awp_ret ?_)|(refine awp_skip ?_)|(refine awp_exit ?_))|(refine thn_ret ?_)|(refine lq_exit ?_)|(refine lq_ret ?_)|(refine thn_exit ?_)|(refine inb_n ?_)|(refine inb_ret ?_)|(refine inb_here ?_)))
  refine awp_loopq (fun k : Nat => ⟨[(0, .str s), (3, .str signs), (4, .int .i64 k)], []⟩) (fun k => k ≤ s.length ∧ ∀ j, j < k → pToken (bAt s (j : Int)) = true) (fun k => s.length - k) 0 (.of (.same (by repeat constructor))) ⟨Nat.zero_le _, fun j h => absurd h (Nat.not_lt_zero _)⟩ ?_
  rintro i ⟨hi, hall⟩
  try dsimp only
  have hb := byteAt_eq s (i : Int)
  obtain ⟨b, hbe⟩ : ∃ b, bAt s (i : Int) = b := ⟨_, rfl⟩
  rw [hbe] at hb
  have htok := token_iff b
  obtain ⟨al, hal⟩ : ∃ al, al = decide (97 ≤ b.toNat ∧ b.toNat ≤ 122 ∨ 65 ≤ b.toNat ∧ b.toNat ≤ 90 ∨ 48 ≤ b.toNat ∧ b.toNat ≤ 57) := ⟨_, rfl⟩
  rw [← hal] at htok
  have hsl : signs.length = 15 := rfl
  repeat' (first|(refine k_al ?_;first|(refine al_v (ov_move rfl) rfl ?_)|(refine k_g ?_;first|(refine al_gy' rfl rfl (by with_reducible rfl) ?_)|(refine al_gnt rfl rfl (by with_reducible rfl) rfl ?_)|(refine al_gnf rfl rfl (by with_reducible rfl) rfl ?_)|(refine al_gu rfl rfl rfl ?_)|(refine al_gsp rfl rfl (fun hc => ?_) (fun hc => ?_) <;> (try (exfalso;omega)))|(refine al_gsb rfl rfl (fun hc => ?_) (fun hc => ?_) <;> (try (exact absurd hc (by decide)))))|(refine k_bin ?_;first|(refine al_v (ov_cmp rfl rfl rfl) rfl ?_)|(refine al_v (ov_add rfl rfl (by (first|exact w64 (by omega) (by omega)|rfl))) rfl ?_))|(refine k_pick ?_;first|(refine al_v (ov_pick_t' rfl (by with_reducible rfl) rfl) rfl ?_)|(refine al_v (ov_pick_f' rfl (by with_reducible rfl) rfl) rfl ?_))|(refine al_v (ov_assign rfl) rfl ?_)|(refine k_call ?_;first|(refine al_v (ov_len_str rfl) rfl ?_))|(refine al_nil ?_)|(refine al_v (ov_not rfl rfl) rfl ?_)|(refine al_v (ov_index rfl rfl (by omega) (by omega)) rfl ?_))|(first|(refine thn_n ?_)|(refine k_awp ?_;first|(refine awp_seq (awp_region ?_))|(refine awp_seq ?_)|(refine awp_region ?_)|(refine k_cond ?_;first|(refine awp_cond_p rfl (fun hc => ?_) (fun hc => ?_) <;> (try (exfalso;omega)))|(refine awp_cond_b rfl (fun hc => ?_) (fun hc => ?_) <;> (try (exact absurd hc (by decide)))))|(refine awp_block ?_)|(refine awp_ret ?_)|(refine awp_skip ?_)|(refine awp_exit ?_))|(refine thn_ret ?_)|(refine lq_exit ?_)|(refine lq_ret ?_)|(refine thn_exit ?_)|(refine inb_n ?_)|(refine inb_ret ?_)|(refine inb_here ?_)))
  iterate 6
    · refine awp_wkn (.spell 6 (.bool al) rfl (congrArg AV.bool ?_)) ?_
      · rw [hal, Bool.eq_iff_iff]
        simp only [decide_eq_true_eq, true_iff, false_iff, Bool.false_eq_true]
        omega
      refine awp_loopq (fun p : Nat × Bool => ⟨[(0, .str s), (3, .str signs), (4, .int .i64 i), (5, .int .u8 (byteAt s (i : Int))), (6, .bool p.2), (7, .int .i64 p.1)], []⟩) (fun p => p.1 ≤ 15 ∧ p.2 = (al || (signs.take p.1).contains b)) (fun p => 15 - p.1) (0, al) (.of (.same (by repeat constructor))) ⟨Nat.zero_le _, by simp⟩ ?_
      rintro ⟨k, ok⟩ ⟨hk, hok⟩
      dsimp only at hk hok ⊢
      repeat' (first|(refine k_al ?_;first|(refine al_v (ov_move rfl) rfl ?_)|(refine k_g ?_;first|(refine al_gy' rfl rfl (by with_reducible rfl) ?_)|(refine al_gnt rfl rfl (by with_reducible rfl) rfl ?_)|(refine al_gnf rfl rfl (by with_reducible rfl) rfl ?_)|(refine al_gu rfl rfl rfl ?_)|(refine al_gsp rfl rfl (fun hc => ?_) (fun hc => ?_) <;> (try (exfalso;omega)))|(refine al_gsb rfl rfl (fun hc => ?_) (fun hc => ?_) <;> (try (exact absurd hc (by decide)))))|(refine k_bin ?_;first|(refine al_v (ov_cmp rfl rfl rfl) rfl ?_)|(refine al_v (ov_add rfl rfl (by (first|exact w64 (by omega) (by omega)|rfl))) rfl ?_))|(refine k_pick ?_;first|(refine al_v (ov_pick_t' rfl (by with_reducible rfl) rfl) rfl ?_)|(refine al_v (ov_pick_f' rfl (by with_reducible rfl) rfl) rfl ?_))|(refine al_v (ov_assign rfl) rfl ?_)|(refine k_call ?_;first|(refine al_v (ov_len_str rfl) rfl ?_))|(refine al_nil ?_)|(refine al_v (ov_not rfl rfl) rfl ?_)|(refine al_v (ov_index rfl rfl (by omega) (by omega)) rfl ?_))|(first|(refine thn_n ?_)|(refine k_awp ?_;first|(refine awp_seq (awp_region ?_))|(refine awp_seq ?_)|(refine awp_region ?_)|(refine k_cond ?_;first|(refine awp_cond_p rfl (fun hc => ?_) (fun hc => ?_) <;> (try (exfalso;omega)))|(refine awp_cond_b rfl (fun hc => ?_) (fun hc => ?_) <;> (try (exact absurd hc (by decide)))))|(refine awp_block ?_)|(refine awp_ret ?_)|(refine awp_skip ?_)|(refine awp_exit ?_))|(refine thn_ret ?_)|(refine lq_exit ?_)|(refine lq_ret ?_)|(refine thn_exit ?_)|(refine inb_n ?_)|(refine inb_ret ?_)|(refine inb_here ?_)))
      · have hst := signs_step b k (by omega)
        first | refine lq_back (k + 1, true) (.of (.same (by repeat constructor))) ?_ ?_ | fail
        · refine ⟨by dsimp only; omega, ?_⟩
          dsimp only
          rw [hst, ← Bool.or_assoc, ← hok, ‹ok = true›]
          rfl
        · dsimp only; omega
      · have hst := signs_step b k (by omega)
        first | refine lq_back (k + 1, decide (byteAt s (i : Int) = byteAt signs (k : Int))) (.of (.same (by repeat constructor))) ?_ ?_ | fail
        · refine ⟨by dsimp only; omega, ?_⟩
          dsimp only
          rw [hst, ← Bool.or_assoc, ← hok, ‹ok = false›, Bool.false_or, ← hb]
        · dsimp only; omega
      all_goals
        have hkk : k = 15 := by omega
        subst hkk
        rw [show signs.take 15 = signs from rfl, ← htok] at hok
        subst hok
      · refine ret1 (by first | exact .inr rfl | exact .inl rfl) rfl rfl ?_
        rw [all_bAt_not (j := i) (by omega) (by rw [hbe]; simpa using ‹(!pToken b) = true›)]
        exact ⟨rfl, rfl⟩
      · first | refine lq_back (i + 1) (.of (.same (by repeat constructor))) ?_ ?_ | fail
        · refine ⟨by omega, fun j hj => ?_⟩
          rcases Nat.lt_or_ge j i with h | h
          · exact hall j h
          · obtain rfl : j = i := by omega
            rw [hbe]
            simpa using ‹(!pToken b) = false›
        · omega
  · refine ret1 (by first | exact .inr rfl | exact .inl rfl) rfl rfl ?_
    rw [all_bAt fun j hj => hall j (by omega)]
    refine ⟨congrArg AV.bool ?_, rfl⟩
    rw [Bool.true_and]
    exact decide_eq_decide.2 (by omega)
end
end Go.Proofs.YtffcgpkbibijpaaGreatDoor.L

namespace Go.Proofs.YtffcgpkbibijpaaGreatDoor.L
open Go Go.RowKit Go.Proofs
set_option linter.unusedVariables false
set_option linter.unusedSimpArgs false
set_option maxRecDepth 100000
attribute [local irreducible] AL QL AWp Thn InB RetQ ACalls LoopQ HL HO HW HQ NoG

section
variable {w0 : World} {base : Nat}
theorem hasBr_at {s : List UInt8} {i : Nat} (hi : i < s.length) (h : byteAt s (i : Int) = 13 ∨ byteAt s (i : Int) = 10) : hasBr s := by
  rcases h with h | h
  · exact .inl (List.mem_of_getElem? (eq_get (c := 13) hi h))
  · exact .inr (List.mem_of_getElem? (eq_get (c := 10) hi h))
theorem hasBr_no {s : List UInt8} (h : ∀ j : Nat, j < s.length → ¬ (byteAt s (j : Int) = 13 ∨ byteAt s (j : Int) = 10)) : ¬ hasBr s := by
  rintro (hm | hm)
  all_goals
    obtain ⟨i, hi, he⟩ := mem_bAt hm
    rw [get_bAt hi] at he
    injection he with he
    refine h i hi ?_
    rw [byteAt_eq, he]
    first | exact .inl rfl | exact .inr rfl
theorem s_broken {s : List UInt8} (hs : s.length ≤ 65536) : PCalls (EE w0 base) 85 [.str s] fun rv => rv = .bool (decide (hasBr s)) := by
  refine acalls_of Tryz.func85 rfl rfl rfl (.cons .nil) ?_
  repeat' (first|(refine k_al ?_;first|(refine al_v (ov_move rfl) rfl ?_)|(refine k_g ?_;first|(refine al_gy' rfl rfl (by with_reducible rfl) ?_)|(refine al_gnf rfl rfl (by with_reducible rfl) rfl ?_)|(refine al_gsp rfl rfl (fun hc => ?_) (fun hc => ?_) <;> (try (exfalso;omega))))|(refine k_bin ?_;first|(refine al_v (ov_cmp rfl rfl rfl) rfl ?_)|(refine al_v (ov_add rfl rfl (by (first|exact w64 (by omega) (by omega)|rfl))) rfl ?_))|(refine k_pick ?_;first|(refine al_v (ov_pick_t' rfl (by with_reducible rfl) rfl) rfl ?_)|(refine al_v (ov_pick_f' rfl (by with_reducible rfl) rfl) rfl ?_))|(refine al_v (ov_assign rfl) rfl ?_)|(refine k_call ?_;first|(refine al_v (ov_len_str rfl) rfl ?_))|(refine al_nil ?_)|(refine al_v (ov_index rfl rfl (by omega) (by omega)) rfl ?_))|(first|(refine thn_n ?_)|(refine k_awp ?_;first|(refine awp_seq (awp_region ?_))|(refine awp_seq ?_)|(refine awp_region ?_)|(refine k_cond ?_;first|(refine awp_cond_t' rfl (by with_reducible rfl) ?_)|(refine awp_cond_p rfl (fun hc => ?_) (fun hc => ?_) <;> (try (exfalso;omega))))|(refine awp_block ?_)|(refine awp_ret ?_)|(refine awp_skip ?_)|(refine awp_exit ?_))|(refine thn_ret ?_)|(refine lq_exit ?_)|(refine lq_ret ?_)|(refine thn_exit ?_)|(refine inb_n ?_)|(refine inb_ret ?_)|(refine inb_here ?_)))
  refine awp_loopq (fun k : Nat => ⟨[(0, .str s), (3, .int .i64 k)], []⟩) (fun k => k ≤ s.length ∧ ∀ j : Nat, j < k → ¬ (byteAt s (j : Int) = 13 ∨ byteAt s (j : Int) = 10)) (fun k => s.length - k) 0 (.of (.same (by repeat constructor))) ⟨Nat.zero_le _, fun j h => absurd h (Nat.not_lt_zero _)⟩ ?_
  rintro i ⟨hi, hno⟩
  try dsimp only
  repeat' (first|(refine k_al ?_;first|(refine al_v (ov_move rfl) rfl ?_)|(refine k_g ?_;first|(refine al_gy' rfl rfl (by with_reducible rfl) ?_)|(refine al_gnf rfl rfl (by with_reducible rfl) rfl ?_)|(refine al_gsp rfl rfl (fun hc => ?_) (fun hc => ?_) <;> (try (exfalso;omega))))|(refine k_bin ?_;first|(refine al_v (ov_cmp rfl rfl rfl) rfl ?_)|(refine al_v (ov_add rfl rfl (by (first|exact w64 (by omega) (by omega)|rfl))) rfl ?_))|(refine k_pick ?_;first|(refine al_v (ov_pick_t' rfl (by with_reducible rfl) rfl) rfl ?_)|(refine al_v (ov_pick_f' rfl (by with_reducible rfl) rfl) rfl ?_))|(refine al_v (ov_assign rfl) rfl ?_)|(refine k_call ?_;first|(refine al_v (ov_len_str rfl) rfl ?_))|(refine al_nil ?_)|(refine al_v (ov_index rfl rfl (by omega) (by omega)) rfl ?_))|(first|(refine thn_n ?_)|(refine k_awp ?_;first|(refine awp_seq (awp_region ?_))|(refine awp_seq ?_)|(refine awp_region ?_)|(refine k_cond ?_;first|(refine awp_cond_t' rfl (by with_reducible rfl) ?_)|(refine awp_cond_p rfl (fun hc => ?_) (fun hc => ?_) <;> (try (exfalso;omega))))|(refine awp_block ?_)|(refine awp_ret ?_)|(refine awp_skip ?_)|(refine awp_exit ?_))|(refine thn_ret ?_)|(refine lq_exit ?_)|(refine lq_ret ?_)|(refine thn_exit ?_)|(refine inb_n ?_)|(refine inb_ret ?_)|(refine inb_here ?_)))
  iterate 2
    · refine ret1 (by first | exact .inr rfl | exact .inl rfl) rfl rfl ?_
      rw [decide_eq_true (hasBr_at (i := i) (by omega) (by omega))]
      exact ⟨rfl, rfl⟩
  · first | refine lq_back (i + 1) (.of (.same (by repeat constructor))) ?_ ?_ | fail
    · refine ⟨by omega, fun j hj => ?_⟩
      rcases Nat.lt_or_ge j i with h | h
      · exact hno j h
      · obtain rfl : j = i := by omega
        omega
    · omega
  · refine ret1 (by first | exact .inr rfl | exact .inl rfl) rfl rfl ?_
    rw [decide_eq_false (hasBr_no fun j hj => hno j (by omega))]
    exact ⟨rfl, rfl⟩
def endI (s : List UInt8) (at' : Nat) : Int := if (Lib.cut (s.drop at') [13, 10]).2.2 then ((at' + (Lib.cut (s.drop at') [13, 10]).1.length : Nat) : Int) else -1
theorem s_end {s : List UInt8} {at' : Nat} (hs : s.length ≤ 65536) (ha : at' ≤ s.length) : PCalls (EE w0 base) 84 [.str s, .int .i64 at'] fun rv => rv = .int .i64 (endI s at') := by
  refine acalls_of Tryz.func84 rfl rfl rfl (.cons (.cons .nil)) ?_
  repeat' (first|(refine k_al ?_;first|(refine al_v (ov_move rfl) rfl ?_)|(refine k_g ?_;first|(refine al_gy' rfl rfl (by with_reducible rfl) ?_)|(refine al_gnt rfl rfl (by with_reducible rfl) rfl ?_)|(refine al_gsp rfl rfl (fun hc => ?_) (fun hc => ?_) <;> (try (exfalso;omega))))|(refine k_bin ?_;first|(refine al_v (ov_cmp rfl rfl rfl) rfl ?_)|(refine al_v (ov_add rfl rfl (by (first|exact w64 (by omega) (by omega)|rfl))) rfl ?_))|(refine k_pick ?_;first|(refine al_v (ov_pick_t' rfl (by with_reducible rfl) rfl) rfl ?_)|(refine al_v (ov_pick_f' rfl (by with_reducible rfl) rfl) rfl ?_))|(refine al_v (ov_assign rfl) rfl ?_)|(refine k_call ?_;first|(refine al_v (ov_len_str rfl) rfl ?_))|(refine al_nil ?_)|(refine al_v (ov_index rfl rfl (by omega) (by omega)) rfl ?_))|(first|(refine thn_n ?_)|(refine k_awp ?_;first|(refine awp_seq (awp_region ?_))|(refine awp_seq ?_)|(refine awp_region ?_)|(refine k_cond ?_;first|(refine awp_cond_f' rfl (by with_reducible rfl) ?_)|(refine awp_cond_p rfl (fun hc => ?_) (fun hc => ?_) <;> (try (exfalso;omega))))|(refine awp_block ?_)|(refine awp_ret ?_)|(refine awp_skip ?_)|(refine awp_exit ?_))|(refine thn_ret ?_)|(refine lq_exit ?_)|(refine lq_ret ?_)|(refine thn_exit ?_)|(refine inb_n ?_)|(refine inb_ret ?_)|(refine inb_here ?_)))
  refine awp_loopq (fun k : Nat => ⟨[(0, .str s), (5, .int .i64 k)], []⟩) (fun k => at' ≤ k ∧ k ≤ s.length ∧ ∀ j : Nat, at' ≤ j → j < k → ¬ (byteAt s (j : Int) = 13 ∧ byteAt s ((j : Int) + 1) = 10)) (fun k => s.length - k) at' (.of (.same (by repeat constructor))) ⟨Nat.le_refl _, ha, fun j h1 h2 => by omega⟩ ?_
  rintro i ⟨hi1, hi, hno⟩
  try dsimp only
  have key : ∀ j : Nat, (s.drop at')[j]? = some 13 ∧ (s.drop at')[j + 1]? = some 10 → at' + j + 1 < s.length ∧ byteAt s ((at' + j : Nat) : Int) = 13 ∧ byteAt s (((at' + j : Nat) : Int) + 1) = 10 := fun j ⟨h1, h2⟩ => by
    rw [List.getElem?_drop] at h1 h2
    have hj := (List.getElem?_eq_some_iff.1 h2).1
    rw [get_bAt (by omega)] at h1
    rw [get_bAt (by omega)] at h2
    injection h1 with h1
    injection h2 with h2
    refine ⟨by omega, by rw [byteAt_eq, h1]; rfl, ?_⟩
    rw [show (((at' + j : Nat) : Int) + 1) = ((at' + (j + 1) : Nat) : Int) by push_cast; omega, byteAt_eq, h2]
    rfl
  repeat' (first|(refine k_al ?_;first|(refine al_v (ov_move rfl) rfl ?_)|(refine k_g ?_;first|(refine al_gy' rfl rfl (by with_reducible rfl) ?_)|(refine al_gnt rfl rfl (by with_reducible rfl) rfl ?_)|(refine al_gsp rfl rfl (fun hc => ?_) (fun hc => ?_) <;> (try (exfalso;omega))))|(refine k_bin ?_;first|(refine al_v (ov_cmp rfl rfl rfl) rfl ?_)|(refine al_v (ov_add rfl rfl (by (first|exact w64 (by omega) (by omega)|rfl))) rfl ?_))|(refine k_pick ?_;first|(refine al_v (ov_pick_t' rfl (by with_reducible rfl) rfl) rfl ?_)|(refine al_v (ov_pick_f' rfl (by with_reducible rfl) rfl) rfl ?_))|(refine al_v (ov_assign rfl) rfl ?_)|(refine k_call ?_;first|(refine al_v (ov_len_str rfl) rfl ?_))|(refine al_nil ?_)|(refine al_v (ov_index rfl rfl (by omega) (by omega)) rfl ?_))|(first|(refine thn_n ?_)|(refine k_awp ?_;first|(refine awp_seq (awp_region ?_))|(refine awp_seq ?_)|(refine awp_region ?_)|(refine k_cond ?_;first|(refine awp_cond_f' rfl (by with_reducible rfl) ?_)|(refine awp_cond_p rfl (fun hc => ?_) (fun hc => ?_) <;> (try (exfalso;omega))))|(refine awp_block ?_)|(refine awp_ret ?_)|(refine awp_skip ?_)|(refine awp_exit ?_))|(refine thn_ret ?_)|(refine lq_exit ?_)|(refine lq_ret ?_)|(refine thn_exit ?_)|(refine inb_n ?_)|(refine inb_ret ?_)|(refine inb_here ?_)))
  · have hend : endI s at' = i := by
      have e : Lib.cut (s.drop at') [13, 10] = ((s.drop at').take (i - at'), (s.drop at').drop (i - at' + 2), true) := by
        refine cut_crlf_at ?_ ?_ fun j hj hc => ?_
        · rw [List.getElem?_drop, show at' + (i - at') = i by omega]
          exact eq_get (c := 13) (by omega) ‹_›
        · rw [List.getElem?_drop, show at' + (i - at' + 1) = i + 1 by omega]
          exact eq_get (c := 10) (j := i + 1) (by omega) ‹_›
        · obtain ⟨_, g2, g3⟩ := key j hc
          exact hno (at' + j) (by omega) (by omega) ⟨g2, g3⟩
      unfold endI
      rw [e]
      simp
      omega
    refine ret1 (by first | exact .inr rfl | exact .inl rfl) rfl rfl ?_
    rw [hend]
    exact ⟨rfl, rfl⟩
  iterate 2
    · first | refine lq_back (i + 1) (.of (.same (by repeat constructor))) ?_ ?_ | fail
      · refine ⟨by omega, by omega, fun j h1 h2 => ?_⟩
        rcases Nat.lt_or_ge j i with h | h
        · exact hno j h1 h
        · obtain rfl : j = i := by omega
          omega
      · omega
  · have hend : endI s at' = -1 := by
      have e : Lib.cut (s.drop at') [13, 10] = (s.drop at', [], false) := by
        refine cut_crlf_no fun j hc => ?_
        obtain ⟨g1, g2, g3⟩ := key j hc
        exact hno (at' + j) (by omega) (by omega) ⟨g2, g3⟩
      unfold endI
      rw [e]
      rfl
    refine ret1 (by first | exact .inr rfl | exact .inl rfl) rfl rfl ?_
    rw [hend]
    exact ⟨rfl, rfl⟩
set_option maxHeartbeats 1000000 in
theorem s_trimR {s : List UInt8} (hs : s.length ≤ 140737488351232) : PCalls (EE w0 base) 46 [.str s] fun rv => rv = .str (Lib.trimS s [32, 9]) := by
  refine acalls_of Tryz.func46 rfl rfl rfl (.cons .nil) ?_
  repeat' (first|(refine k_al ?_;first|(refine al_v (ov_move rfl) rfl ?_)|(refine k_g ?_;first|(refine al_gy' rfl rfl (by with_reducible rfl) ?_)|(refine al_gnt rfl rfl (by with_reducible rfl) rfl ?_)|(refine al_gnf rfl rfl (by with_reducible rfl) rfl ?_)|(refine al_gu rfl rfl rfl ?_)|(refine al_gsp rfl rfl (fun hc => ?_) (fun hc => ?_) <;> (try (exfalso;omega))))|(refine k_bin ?_;first|(refine al_v (ov_cmp rfl rfl rfl) rfl ?_)|(refine al_v (ov_add rfl rfl (by (first|exact w64 (by omega) (by omega)|rfl))) rfl ?_)|(refine al_v (ov_sub rfl rfl (by (first|exact w64 (by omega) (by omega)|rfl))) rfl ?_))|(refine k_pick ?_;first|(refine al_v (ov_pick_t' rfl (by with_reducible rfl) rfl) rfl ?_)|(refine al_v (ov_pick_f' rfl (by with_reducible rfl) rfl) rfl ?_))|(refine al_v (ov_assign rfl) rfl ?_)|(refine k_call ?_;first|(refine al_v (ov_len_str rfl) rfl ?_))|(refine al_nil ?_)|(refine al_v (ov_index rfl rfl (by omega) (by omega)) rfl ?_))|(first|(refine thn_n ?_)|(refine k_awp ?_;first|(refine awp_seq (awp_region ?_))|(refine awp_seq ?_)|(refine awp_region ?_)|(refine k_cond ?_;first|(refine awp_cond_t' rfl (by with_reducible rfl) ?_)|(refine awp_cond_f' rfl (by with_reducible rfl) ?_)|(refine awp_cond_p rfl (fun hc => ?_) (fun hc => ?_) <;> (try (exfalso;omega))))|(refine awp_block ?_)|(refine awp_ret ?_)|(refine awp_skip ?_)|(refine awp_exit ?_))|(refine lq_exit ?_)|(refine thn_exit ?_)|(refine inb_n ?_)|(refine inb_here ?_)))
  refine awp_loopq (fun k : Nat => ⟨[(0, .str s), (3, .int .i64 k), (4, .int .i64 s.length)], []⟩) (fun k => k ≤ s.length ∧ ∀ j : Nat, j < k → ([32, 9] : List UInt8).contains (bAt s (j : Int)) = true) (fun k => s.length - k) 0 (.of (.same (by repeat constructor))) ⟨Nat.zero_le _, fun j h => absurd h (Nat.not_lt_zero _)⟩ ?_
  rintro a ⟨ha, hbl⟩
  try dsimp only
  repeat' (first|(refine k_al ?_;first|(refine al_v (ov_move rfl) rfl ?_)|(refine k_g ?_;first|(refine al_gy' rfl rfl (by with_reducible rfl) ?_)|(refine al_gnt rfl rfl (by with_reducible rfl) rfl ?_)|(refine al_gnf rfl rfl (by with_reducible rfl) rfl ?_)|(refine al_gu rfl rfl rfl ?_)|(refine al_gsp rfl rfl (fun hc => ?_) (fun hc => ?_) <;> (try (exfalso;omega))))|(refine k_bin ?_;first|(refine al_v (ov_cmp rfl rfl rfl) rfl ?_)|(refine al_v (ov_add rfl rfl (by (first|exact w64 (by omega) (by omega)|rfl))) rfl ?_)|(refine al_v (ov_sub rfl rfl (by (first|exact w64 (by omega) (by omega)|rfl))) rfl ?_))|(refine k_pick ?_;first|(refine al_v (ov_pick_t' rfl (by with_reducible rfl) rfl) rfl ?_)|(refine al_v (ov_pick_f' rfl (by with_reducible rfl) rfl) rfl ?_))|(refine al_v (ov_assign rfl) rfl ?_)|(refine k_call ?_;first|(refine al_v (ov_len_str rfl) rfl ?_))|(refine al_nil ?_)|(refine al_v (ov_index rfl rfl (by omega) (by omega)) rfl ?_))|(first|(refine thn_n ?_)|(refine k_awp ?_;first|(refine awp_seq (awp_region ?_))|(refine awp_seq ?_)|(refine awp_region ?_)|(refine k_cond ?_;first|(refine awp_cond_t' rfl (by with_reducible rfl) ?_)|(refine awp_cond_f' rfl (by with_reducible rfl) ?_)|(refine awp_cond_p rfl (fun hc => ?_) (fun hc => ?_) <;> (try (exfalso;omega))))|(refine awp_block ?_)|(refine awp_ret ?_)|(refine awp_skip ?_)|(refine awp_exit ?_))|(refine lq_exit ?_)|(refine thn_exit ?_)|(refine inb_n ?_)|(refine inb_here ?_)))
  iterate 2
    · first | refine lq_back (a + 1) (.of (.same (by repeat constructor))) ?_ ?_ | fail
      · refine ⟨by omega, fun j hj => ?_⟩
        rcases Nat.lt_or_ge j a with h | h
        · exact hbl j h
        · obtain rfl : j = a := by omega
          exact (blank_iff s j).2 (by omega)
      · omega
  all_goals
    have hstop : a < s.length → ([32, 9] : List UInt8).contains (bAt s (a : Int)) = false := fun h => (blank_not s a).2 (by omega)
    refine awp_loopq (fun k : Int => ⟨[(0, .str s), (3, .int .i64 a), (4, .int .i64 k)], []⟩) (fun k => (a : Int) ≤ k ∧ k ≤ s.length ∧ ∀ j : Nat, k ≤ j → j < s.length → ([32, 9] : List UInt8).contains (bAt s (j : Int)) = true) (fun k => k.toNat) (s.length : Int) (.of (.same (by repeat constructor))) ⟨by omega, Int.le_refl _, fun j h1 h2 => by omega⟩ ?_
    rintro b ⟨hab, hb, hbr⟩
    try dsimp only
    repeat' (first|(refine k_al ?_;first|(refine al_v (ov_move rfl) rfl ?_)|(refine k_g ?_;first|(refine al_gy' rfl rfl (by with_reducible rfl) ?_)|(refine al_gnt rfl rfl (by with_reducible rfl) rfl ?_)|(refine al_gnf rfl rfl (by with_reducible rfl) rfl ?_)|(refine al_gu rfl rfl rfl ?_)|(refine al_gsp rfl rfl (fun hc => ?_) (fun hc => ?_) <;> (try (exfalso;omega))))|(refine k_bin ?_;first|(refine al_v (ov_cmp rfl rfl rfl) rfl ?_)|(refine al_v (ov_add rfl rfl (by (first|exact w64 (by omega) (by omega)|rfl))) rfl ?_)|(refine al_v (ov_sub rfl rfl (by (first|exact w64 (by omega) (by omega)|rfl))) rfl ?_))|(refine k_pick ?_;first|(refine al_v (ov_pick_t' rfl (by with_reducible rfl) rfl) rfl ?_)|(refine al_v (ov_pick_f' rfl (by with_reducible rfl) rfl) rfl ?_))|(refine al_v (ov_assign rfl) rfl ?_)|(refine k_call ?_;first|(refine al_v (ov_len_str rfl) rfl ?_))|(refine al_nil ?_)|(refine al_v (ov_index rfl rfl (by omega) (by omega)) rfl ?_))|(first|(refine thn_n ?_)|(refine k_awp ?_;first|(refine awp_seq (awp_region ?_))|(refine awp_seq ?_)|(refine awp_region ?_)|(refine k_cond ?_;first|(refine awp_cond_t' rfl (by with_reducible rfl) ?_)|(refine awp_cond_f' rfl (by with_reducible rfl) ?_)|(refine awp_cond_p rfl (fun hc => ?_) (fun hc => ?_) <;> (try (exfalso;omega))))|(refine awp_block ?_)|(refine awp_ret ?_)|(refine awp_skip ?_)|(refine awp_exit ?_))|(refine lq_exit ?_)|(refine thn_exit ?_)|(refine inb_n ?_)|(refine inb_here ?_)))
    all_goals try (
      first | refine lq_back (b - 1) (.of (.same (by repeat constructor))) ?_ ?_ | fail
      · refine ⟨by omega, by omega, fun j h1 h2 => ?_⟩
        rcases Int.lt_or_le j b with h | h
        · obtain rfl : b = (j : Int) + 1 := by omega
          refine (blank_iff s j).2 ?_
          rw [show ((j : Int) + 1 - 1) = j by omega] at *
          omega
        · exact hbr j h h2
      · omega)
    all_goals
      obtain ⟨n, rfl⟩ : ∃ n : Nat, b = n := ⟨b.toNat, by omega⟩
      have htr : Lib.trimS s [32, 9] = (s.take n).drop a := trim_eq (by omega) (by omega) hbl (fun j h1 h2 => hbr j (by omega) h2) (fun h => ⟨hstop (by omega), by
        rw [show ((n - 1 : Nat) : Int) = (n : Int) - 1 by omega]
        exact (blank_not s _).2 (by omega)⟩)
      repeat' (first|((refine al_v (ov_slice rfl rfl rfl (by omega) (by omega) (by omega)) rfl ?_))|(refine k_al ?_;first|(refine al_v (ov_move rfl) rfl ?_)|(refine k_g ?_;first|(refine al_gy' rfl rfl (by with_reducible rfl) ?_)|(refine al_gnt rfl rfl (by with_reducible rfl) rfl ?_)|(refine al_gnf rfl rfl (by with_reducible rfl) rfl ?_)|(refine al_gu rfl rfl rfl ?_)|(refine al_gsp rfl rfl (fun hc => ?_) (fun hc => ?_) <;> (try (exfalso;omega))))|(refine k_bin ?_;first|(refine al_v (ov_cmp rfl rfl rfl) rfl ?_)|(refine al_v (ov_add rfl rfl (by (first|exact w64 (by omega) (by omega)|rfl))) rfl ?_)|(refine al_v (ov_sub rfl rfl (by (first|exact w64 (by omega) (by omega)|rfl))) rfl ?_))|(refine k_pick ?_;first|(refine al_v (ov_pick_t' rfl (by with_reducible rfl) rfl) rfl ?_)|(refine al_v (ov_pick_f' rfl (by with_reducible rfl) rfl) rfl ?_))|(refine al_v (ov_assign rfl) rfl ?_)|(refine k_call ?_;first|(refine al_v (ov_len_str rfl) rfl ?_))|(refine al_nil ?_)|(refine al_v (ov_index rfl rfl (by omega) (by omega)) rfl ?_))|(first|(refine thn_n ?_)|(refine k_awp ?_;first|(refine awp_seq (awp_region ?_))|(refine awp_seq ?_)|(refine awp_region ?_)|(refine k_cond ?_;first|(refine awp_cond_t' rfl (by with_reducible rfl) ?_)|(refine awp_cond_f' rfl (by with_reducible rfl) ?_)|(refine awp_cond_p rfl (fun hc => ?_) (fun hc => ?_) <;> (try (exfalso;omega))))|(refine awp_block ?_)|(refine awp_ret ?_)|(refine awp_skip ?_)|(refine awp_exit ?_))|(refine lq_exit ?_)|(refine thn_exit ?_)|(refine inb_n ?_)|(refine inb_here ?_)))
      refine ret1 (by first | exact .inr rfl | exact .inl rfl) rfl rfl ?_
      rw [htr]
      exact ⟨rfl, rfl⟩
end
end Go.Proofs.YtffcgpkbibijpaaGreatDoor.L

namespace Go.Proofs.YtffcgpkbibijpaaGreatDoor.L
open Go Go.RowKit Go.Proofs
set_option linter.unusedVariables false
set_option linter.unusedSimpArgs false
set_option maxRecDepth 100000
attribute [local irreducible] AL QL AWp Thn InB RetQ ACalls LoopQ HL HO HW HQ NoG

structure Hd where
  m : List UInt8
  t : List UInt8
  v : Int
  fs : List (List UInt8 × List UInt8)
def rM (l : List UInt8) : List UInt8 := (Lib.cut l [32]).1
def rT (l : List UInt8) : List UInt8 := (Lib.cut (Lib.cut l [32]).2.1 [32]).1
def rV (l : List UInt8) : List UInt8 := (Lib.cut (Lib.cut l [32]).2.1 [32]).2.1
def r2 (l : List UInt8) : Bool := (Lib.cut (Lib.cut l [32]).2.1 [32]).2.2
def goodR (m t v : List UInt8) (two : Bool) : Prop := two = true ∧ 1 ≤ m.length ∧ m.length ≤ 16 ∧ m.all pLarge = true ∧ t ≠ [] ∧ t.all pVis = true ∧ verOk v = true
instance (m t v : List UInt8) (two : Bool) : Decidable (goodR m t v two) := by unfold goodR; infer_instance
def stR (m t v : List UInt8) (two : Bool) : Int := if goodR m t v two then (if v.drop 5 ≠ [49, 46, 48] ∧ v.drop 5 ≠ [49, 46, 49] then 505 else if tgtOk t = true then 0 else 400) else 400
def reqSt (l : List UInt8) : Int := stR (rM l) (rT l) (rV l) (r2 l)
def reqV (l : List UInt8) : Int := byteAt (rV l) 7 - 48
theorem ver_len {v : List UInt8} (h : verOk v = true) : v.length = 8 := by
  unfold verOk at h
  simp only [Bool.and_eq_true, decide_eq_true_eq] at h
  exact h.1
theorem ver_7 {v : List UInt8} (h : verOk v = true) : 48 ≤ byteAt v 7 ∧ byteAt v 7 ≤ 57 := by
  unfold verOk at h
  simp only [Bool.and_eq_true, decide_eq_true_eq] at h
  have := h.2.2.2.2
  unfold pDigit at this
  simp only [Bool.and_eq_true, decide_eq_true_eq] at this
  rw [byteAt_eq]
  omega

section
variable {w0 : World} {base : Nat}
abbrev hdO (m t : List UInt8) (v : Int) (ver : Nat) (xs : List (List AV)) : List AO := [.box [.str m, .str t, .int .i64 v, .os 1 ver], .row 82 2 ver 0 xs]
set_option maxHeartbeats 4000000 in
theorem a_request {l m0 t0 : List UInt8} {v0 : Int} {ver : Nat} {xs : List (List AV)} (hG : Glob w0 base) (hl : l.length ≤ 1024) :
    ACalls (EE w0 base) 75 [.op 0 0, .str l] (hdO m0 t0 v0 ver xs) fun rv os => rv = .int .i64 (reqSt l) ∧ (if reqSt l = 0 then os = hdO (rM l) (rT l) (reqV l) ver xs else os = hdO m0 t0 v0 ver xs) := by
  refine acalls_of Tryz.func75 rfl rfl rfl (.cons (.cons .nil)) ?_
  have hc1 := s_cut (s := l) (p := [32]) hG (by omega)
  have hl1 := cut1_len l 32
  obtain ⟨m, r, b1, e1⟩ : ∃ m r b1, Lib.cut l [32] = (m, r, b1) := ⟨_, _, _, rfl⟩
  have hc2 := s_cut (s := r) (p := [32]) hG (by rw [e1] at hl1; dsimp only at hl1; omega)
  have hl2 := cut1_len r 32
  obtain ⟨t, v, two, e2⟩ : ∃ t v two, Lib.cut r [32] = (t, v, two) := ⟨_, _, _, rfl⟩
  rw [e1] at hc1 hl1
  rw [e2] at hc2 hl2
  dsimp only at hc1 hl1 hc2 hl2
  have hM : rM l = m := by unfold rM; rw [e1]
  have hT : rT l = t := by unfold rT; rw [e1]; dsimp only; rw [e2]
  have hV : rV l = v := by unfold rV; rw [e1]; dsimp only; rw [e2]
  have h2 : r2 l = two := by unfold r2; rw [e1]; dsimp only; rw [e2]
  have hS : reqSt l = stR m t v two := by unfold reqSt; rw [hM, hT, hV, h2]
  have hW : reqV l = byteAt v 7 - 48 := by unfold reqV; rw [hV]
  rw [hS, hM, hT, hW]
  clear hS hM hT hV h2 hW e1 e2
  have ha1 : PCalls (EE w0 base) 36 [.str m, .fn 62 []] fun rv => rv = .bool (m.all pLarge) := s_all (by omega) (fun b => s_large)
  have ha2 : PCalls (EE w0 base) 36 [.str t, .fn 104 []] fun rv => rv = .bool (t.all pVis) := s_all (by omega) (fun b => s_vis)
  repeat' (first|(first|(refine k_call ?_;refine al_call rfl rfl rfl rfl hc1 ?_;rintro _ rfl)|(refine k_call ?_;refine al_call rfl rfl rfl rfl hc2 ?_;rintro _ rfl)|(refine k_call ?_;refine al_call rfl rfl rfl rfl ha1 ?_;rintro _ rfl)|(refine k_call ?_;refine al_call rfl rfl rfl rfl ha2 ?_;rintro _ rfl)|(refine k_call ?_;refine al_call rfl rfl rfl rfl s_version ?_;rintro _ rfl)|(refine al_v (ov_slice_lo rfl rfl (by decide) (by have := ver_len (v := v) (by simpa using ‹(!verOk v) = false›);omega)) rfl ?_)|(refine k_call ?_;refine al_call rfl rfl rfl rfl (s_target (s := t) (by omega) hG) ?_;rintro _ ⟨p, q, e, k, rfl, htg, htg2⟩))|(refine k_al ?_;first|(refine al_v (ov_move rfl) rfl ?_)|(refine k_g ?_;first|(refine al_gy' rfl rfl (by with_reducible rfl) ?_)|(refine al_gnt rfl rfl (by with_reducible rfl) rfl ?_)|(refine al_gnf rfl rfl (by with_reducible rfl) rfl ?_)|(refine al_gsp rfl rfl (fun hc => ?_) (fun hc => ?_) <;> (try (exfalso;omega)))|(refine al_gsb rfl rfl (fun hc => ?_) (fun hc => ?_) <;> (try (exact absurd hc (by decide)))))|(refine al_v (ov_fieldAddr rfl rfl) rfl ?_)|(refine k_bin ?_;first|(refine al_v (ov_cmp rfl rfl rfl) rfl ?_)|(refine al_v (ov_sub rfl rfl (by (first|exact w64 (by omega) (by omega)|exact w8 (by omega) (by omega)|rfl))) rfl ?_)|(refine al_v (ov_seq rfl rfl) rfl ?_)|(refine al_v (ov_sne rfl rfl) rfl ?_))|(refine k_pick ?_;first|(refine al_v (ov_pick_t' rfl (by with_reducible rfl) rfl) rfl ?_)|(refine al_v (ov_pick_f' rfl (by with_reducible rfl) rfl) rfl ?_))|(refine al_v (ov_assign rfl) rfl ?_)|(refine k_call ?_;first|(refine al_v (ov_len_str rfl) rfl ?_))|(refine al_v (ov_extract rfl rfl) rfl ?_)|(refine al_nil ?_)|(refine al_store rfl rfl rfl rfl rfl (by repeat constructor) (by repeat constructor) ?_)|(refine al_v (ov_not rfl rfl) rfl ?_)|(refine al_v (ov_index rfl rfl (by omega) (by omega)) rfl ?_))|(first|(refine thn_n ?_)|(refine k_awp ?_;first|(refine awp_seq (awp_region ?_))|(refine awp_seq ?_)|(refine awp_region ?_)|(refine k_cond ?_;first|(refine awp_cond_t' rfl (by with_reducible rfl) ?_)|(refine awp_cond_f' rfl (by with_reducible rfl) ?_)|(refine awp_cond_p rfl (fun hc => ?_) (fun hc => ?_) <;> (try (exfalso;omega)))|(refine awp_cond_b rfl (fun hc => ?_) (fun hc => ?_) <;> (try (exact absurd hc (by decide)))))|(refine awp_ret ?_)|(refine awp_skip ?_))|(refine thn_ret ?_)))
  iterate 7
    · have hg : ¬ goodR m t v two := by
        rintro ⟨g1, g2, g3, g4, g5, g6, g7⟩
        first | omega | exact g5 ‹t = _› | (simp_all; done)
      have hS : stR m t v two = 400 := if_neg hg
      refine ret1 (by first | exact .inr rfl | exact .inl rfl) rfl rfl ?_
      rw [hS]
      exact ⟨rfl, rfl⟩
  all_goals
    have hg : goodR m t v two := ⟨by simpa using ‹(!two) = false›, by omega, by omega, by simpa using ‹(!m.all pLarge) = false›, ‹¬t = _›, by simpa using ‹(!t.all pVis) = false›, by simpa using ‹(!verOk v) = false›⟩
  · have hS : stR m t v two = 505 := by
      unfold stR
      rw [if_pos hg, if_pos ⟨‹_›, ‹_›⟩]
    refine ret1 (by first | exact .inr rfl | exact .inl rfl) rfl rfl ?_
    rw [hS]
    exact ⟨rfl, rfl⟩
  iterate 2
    · have hS : stR m t v two = 400 := by
        unfold stR
        rw [if_pos hg, if_neg (fun h => by first | exact absurd h.1 ‹_› | exact absurd h.2 ‹_›), if_neg (fun h => absurd (htg.2 h) ‹_›)]
      refine ret1 (by first | exact .inr rfl | exact .inl rfl) rfl rfl ?_
      rw [hS]
      exact ⟨rfl, rfl⟩
    · have hS : stR m t v two = 0 := by
        unfold stR
        rw [if_pos hg, if_neg (fun h => by first | exact absurd h.1 ‹_› | exact absurd h.2 ‹_›), if_pos (htg.1 (Classical.not_not.1 ‹_›))]
      have hv8 := ver_len hg.2.2.2.2.2.2
      have hv7 := ver_7 hg.2.2.2.2.2.2
      repeat' (first|(first|(refine awp_held (id := 10) [(11, [0, 1]), (14, [0, 1]), (17, [0, 1])] [⟨0, true, [], bl 18 510⟩, ⟨1, true, [0, 1], bl 18 4093⟩, ⟨2, true, [0, 1], bl 18 32763⟩, ⟨3, true, [], bl 18 503⟩, ⟨4, true, [0, 1], bl 18 4079⟩, ⟨5, true, [0, 1], bl 18 32287⟩, ⟨6, true, [0, 1], bl 18 32319⟩, ⟨7, true, [0, 1], bl 18 32383⟩, ⟨8, true, [0, 1], bl 18 32511⟩, ⟨9, true, [], bl 18 511⟩, ⟨10, true, [], bl 18 1023⟩, ⟨11, false, [], []⟩, ⟨12, true, [], bl 18 4095⟩, ⟨13, true, [], bl 18 8191⟩, ⟨14, false, [], []⟩, ⟨15, true, [], bl 18 32767⟩, ⟨16, true, [], bl 18 65535⟩, ⟨17, false, [], []⟩] (by kernel_rfl) (by kernel_rfl) rfl (by kernel_rfl) ?_)|(refine hw_v (ov_nilCheck (n := 0) rfl rfl) rfl ?_)|(refine hw_v (ov_sub rfl rfl (w8 (by omega) (by omega))) rfl ?_)|(refine hw_v (ov_conv_int rfl (w64 (by omega) (by omega))) rfl ?_))|(refine k_al ?_;first|(refine al_v (ov_move rfl) rfl ?_)|(refine k_g ?_;first|(refine al_gy' rfl rfl (by with_reducible rfl) ?_)|(refine al_gnt rfl rfl (by with_reducible rfl) rfl ?_)|(refine al_gnf rfl rfl (by with_reducible rfl) rfl ?_)|(refine al_gsp rfl rfl (fun hc => ?_) (fun hc => ?_) <;> (try (exfalso;omega)))|(refine al_gsb rfl rfl (fun hc => ?_) (fun hc => ?_) <;> (try (exact absurd hc (by decide)))))|(refine al_v (ov_fieldAddr rfl rfl) rfl ?_)|(refine k_bin ?_;first|(refine al_v (ov_cmp rfl rfl rfl) rfl ?_)|(refine al_v (ov_sub rfl rfl (by (first|exact w64 (by omega) (by omega)|exact w8 (by omega) (by omega)|rfl))) rfl ?_)|(refine al_v (ov_seq rfl rfl) rfl ?_)|(refine al_v (ov_sne rfl rfl) rfl ?_))|(refine k_pick ?_;first|(refine al_v (ov_pick_t' rfl (by with_reducible rfl) rfl) rfl ?_)|(refine al_v (ov_pick_f' rfl (by with_reducible rfl) rfl) rfl ?_))|(refine al_v (ov_assign rfl) rfl ?_)|(refine k_call ?_;first|(refine al_v (ov_len_str rfl) rfl ?_))|(refine al_v (ov_extract rfl rfl) rfl ?_)|(refine al_nil ?_)|(refine al_store rfl rfl rfl rfl rfl (by repeat constructor) (by repeat constructor) ?_)|(refine al_v (ov_not rfl rfl) rfl ?_)|(refine al_v (ov_index rfl rfl (by omega) (by omega)) rfl ?_))|(first|(refine thn_n ?_)|(refine k_awp ?_;first|(refine awp_seq (awp_region ?_))|(refine awp_seq ?_)|(refine awp_region ?_)|(refine k_cond ?_;first|(refine awp_cond_t' rfl (by with_reducible rfl) ?_)|(refine awp_cond_f' rfl (by with_reducible rfl) ?_)|(refine awp_cond_p rfl (fun hc => ?_) (fun hc => ?_) <;> (try (exfalso;omega)))|(refine awp_cond_b rfl (fun hc => ?_) (fun hc => ?_) <;> (try (exact absurd hc (by decide)))))|(refine awp_ret ?_)|(refine awp_skip ?_))|(refine thn_ret ?_))|(first|(refine k_hw ?_;first|(refine hw_s rfl ?_)|(refine hw_v (ov_move rfl) rfl ?_)|(refine hw_v (ov_assign rfl) rfl ?_)|(refine hw_v (ov_fieldAddr rfl rfl) rfl ?_)|(refine hw_v (ov_cmp rfl rfl rfl) rfl ?_)|(refine hw_v (ov_pick_t' rfl (by with_reducible rfl) rfl) rfl ?_)|(refine hw_v (ov_pick_f' rfl (by with_reducible rfl) rfl) rfl ?_)|(refine hw_v (ov_len_str rfl) rfl ?_)|(refine hw_v (ov_seq rfl rfl) rfl ?_)|(refine hw_v (ov_sne rfl rfl) rfl ?_)|(refine hw_v (ov_extract rfl rfl) rfl ?_)|(refine hw_v (ov_index rfl rfl (by omega) (by omega)) rfl ?_)|(refine hw_v (ov_sub rfl rfl (by (first|exact w64 (by omega) (by omega)|exact w8 (by omega) (by omega)|rfl))) rfl ?_)|(refine hw_v (ov_not rfl rfl) rfl ?_))|(refine hl_op rfl ?_)|(refine k_ho ?_;first|(refine ho_n ?_))|(refine hl_nil ?_)|(refine hq_back ?_)))
      refine ret1 (by first | exact .inr rfl | exact .inl rfl) rfl rfl ?_
      rw [hS]
      exact ⟨rfl, rfl⟩
def fN (l : List UInt8) : List UInt8 := (Lib.cut l [58]).1
def fV (l : List UInt8) : List UInt8 := Lib.trimS (Lib.cut l [58]).2.1 [32, 9]
def goodF (n v : List UInt8) (two : Bool) : Prop := two = true ∧ n ≠ [] ∧ n.all pToken = true ∧ v.all pLoose = true
instance (n v : List UInt8) (two : Bool) : Decidable (goodF n v two) := by unfold goodF; infer_instance
def fieldOk (l : List UInt8) : Prop := goodF (fN l) (fV l) (Lib.cut l [58]).2.2
instance (l : List UInt8) : Decidable (fieldOk l) := by unfold fieldOk; infer_instance
def fieldOf (l : List UInt8) : List UInt8 × List UInt8 := (smallS (fN l), fV l)
theorem trim_len (s : List UInt8) : (Lib.trimS s [32, 9]).length ≤ s.length := by
  unfold Lib.trimS Lib.trimLeftS Lib.trimRightS
  have h1 := (List.dropWhile_sublist (fun b => ([32, 9] : List UInt8).contains b) (l := (List.dropWhile (fun b => ([32, 9] : List UInt8).contains b) s.reverse).reverse)).length_le
  have h2 := (List.dropWhile_sublist (fun b => ([32, 9] : List UInt8).contains b) (l := s.reverse)).length_le
  simp at h1 h2 ⊢
  omega
set_option maxHeartbeats 4000000 in
theorem a_field {l m t : List UInt8} {v : Int} {ver : Nat} {xs : List (List AV)} (hG : Glob w0 base) (hl : l.length ≤ 1024) (hx : xs.length ≤ 32) :
    ACalls (EE w0 base) 76 [.op 0 0, .str l] (hdO m t v ver xs) fun rv os => ∃ ver', rv = .int .i64 (if xs.length = 32 then 431 else if fieldOk l then 0 else 400) ∧ os = hdO m t v ver' (if xs.length ≠ 32 ∧ fieldOk l then xs ++ [prAV (fieldOf l)] else xs) := by
  refine acalls_of Tryz.func76 rfl rfl rfl (.cons (.cons .nil)) ?_
  have hc1 := s_cut (s := l) (p := [58]) hG (by omega)
  have hl1 := cut1_len l 58
  obtain ⟨n, r, two, e1⟩ : ∃ n r two, Lib.cut l [58] = (n, r, two) := ⟨_, _, _, rfl⟩
  rw [e1] at hc1 hl1
  dsimp only at hc1 hl1
  have hN : fN l = n := by unfold fN; rw [e1]
  have hV : fV l = Lib.trimS r [32, 9] := by unfold fV; rw [e1]
  have hF : fieldOk l ↔ goodF n (Lib.trimS r [32, 9]) two := by unfold fieldOk; rw [hN, hV, e1]
  have hO : fieldOf l = (smallS n, Lib.trimS r [32, 9]) := by unfold fieldOf; rw [hN, hV]
  have hc2 := s_trim (w0 := w0) (base := base) (s := r) (by omega)
  have htl := trim_len r
  obtain ⟨u, hu⟩ : ∃ u, Lib.trimS r [32, 9] = u := ⟨_, rfl⟩
  rw [hu] at hF hO hc2 htl
  simp only [hF, hO]
  clear hN hV hF hO e1 hu
  have ha1 : PCalls (EE w0 base) 36 [.str n, .fn 106 []] fun rv => rv = .bool (n.all pToken) := s_all (by omega) (fun b => s_token)
  have ha2 : PCalls (EE w0 base) 36 [.str u, .fn 107 []] fun rv => rv = .bool (u.all pLoose) := s_all (by omega) (fun b => s_loose)
  have hsm := s_small (w0 := w0) (base := base) (s := n) (by omega)
  repeat' (first|(first|(refine al_v (ov_nilCheck (n := 0) rfl rfl) rfl ?_)|(refine k_call ?_;refine al_call rfl rfl rfl rfl hc1 ?_;rintro _ rfl)|(refine k_call ?_;refine al_call rfl rfl rfl rfl hc2 ?_;rintro _ rfl)|(refine k_call ?_;refine al_call rfl rfl rfl rfl ha1 ?_;rintro _ rfl)|(refine k_call ?_;refine al_call rfl rfl rfl rfl ha2 ?_;rintro _ rfl))|(refine k_al ?_;first|(refine al_v (ov_move rfl) rfl ?_)|(refine k_g ?_;first|(refine al_gy' rfl rfl (by with_reducible rfl) ?_)|(refine al_gnf rfl rfl (by with_reducible rfl) rfl ?_)|(refine al_gsp rfl rfl (fun hc => ?_) (fun hc => ?_) <;> (try (exfalso;omega)))|(refine al_gsb rfl rfl (fun hc => ?_) (fun hc => ?_) <;> (try (exact absurd hc (by decide)))))|(refine al_v (ov_fieldAddr rfl rfl) rfl ?_)|(refine k_load ?_;first|(refine al_v (ov_load rfl rfl) rfl ?_))|(refine k_bin ?_;first|(refine al_v (ov_cmp rfl rfl rfl) rfl ?_)|(refine al_v (ov_seq rfl rfl) rfl ?_))|(refine k_pick ?_;first|(refine al_v (ov_pick_t' rfl (by with_reducible rfl) rfl) rfl ?_)|(refine al_v (ov_pick_f' rfl (by with_reducible rfl) rfl) rfl ?_))|(refine al_v (ov_assign rfl) rfl ?_)|(refine k_call ?_;first|(refine al_v (ov_len_os rfl rfl rfl) rfl ?_))|(refine al_v (ov_extract rfl rfl) rfl ?_)|(refine al_nil ?_)|(refine al_store rfl rfl rfl rfl rfl (by repeat constructor) (by repeat constructor) ?_)|(refine al_v (ov_build rfl rfl rfl (by repeat constructor)) rfl ?_)|(refine al_buildSlice (by rfl) (by rfl) (by rfl) (by rfl) (by decide) (by decide) (by rfl) (by rfl) (by repeat constructor) (by rfl) (by repeat constructor) (by rfl) (by first|exact ln2) (by repeat constructor) rfl ?_)|(refine al_v (ov_not rfl rfl) rfl ?_))|(first|(refine thn_n ?_)|(refine k_awp ?_;first|(refine awp_seq (awp_region ?_))|(refine awp_seq ?_)|(refine awp_region ?_)|(refine k_cond ?_;first|(refine awp_cond_t' rfl (by with_reducible rfl) ?_)|(refine awp_cond_p rfl (fun hc => ?_) (fun hc => ?_) <;> (try (exfalso;omega)))|(refine awp_cond_b rfl (fun hc => ?_) (fun hc => ?_) <;> (try (exact absurd hc (by decide)))))|(refine awp_ret ?_)|(refine awp_skip ?_))|(refine thn_ret ?_)))
  · have h32 : xs.length = 32 := by omega
    refine ret1 (by first | exact .inr rfl | exact .inl rfl) rfl rfl ?_
    refine ⟨ver, by rw [if_pos h32], ?_⟩
    rw [if_neg (fun h => h.1 h32)]
  all_goals have h32 : ¬ xs.length = 32 := by omega
  iterate 4
    · have hg : ¬ goodF n u two := by
        rintro ⟨g1, g2, g3, g4⟩
        first | omega | exact g2 ‹n = _› | (simp_all; done)
      refine ret1 (by first | exact .inr rfl | exact .inl rfl) rfl rfl ?_
      refine ⟨ver, by rw [if_neg h32, if_neg hg], ?_⟩
      rw [if_neg (fun h => hg h.2)]
  have hg : goodF n u two := ⟨by simpa using ‹(!two) = false›, ‹¬n = _›, by simpa using ‹(!n.all pToken) = false›, by simpa using ‹(!u.all pLoose) = false›⟩
  rw [if_neg h32, if_pos hg, if_pos (show xs.length ≠ 32 ∧ goodF n u two from ⟨h32, hg⟩)]
  repeat' (first|(first|(refine awp_held (id := 7) [(10, [0, 1, 2]), (13, [0, 1])] [⟨0, true, [0, 1, 2], bl 14 2046⟩, ⟨1, true, [], bl 14 993⟩, ⟨2, true, [], bl 14 995⟩, ⟨3, true, [], bl 14 999⟩, ⟨4, true, [], bl 14 1007⟩, ⟨5, true, [], bl 14 159⟩, ⟨7, true, [], bl 14 127⟩, ⟨6, false, [], []⟩, ⟨8, true, [], bl 14 255⟩, ⟨9, false, [], []⟩, ⟨10, false, [], []⟩, ⟨11, true, [], bl 14 2047⟩, ⟨12, true, [], bl 14 4095⟩, ⟨13, false, [], []⟩] (by kernel_rfl) (by kernel_rfl) rfl (by kernel_rfl) ?_)|(refine hw_v (ov_nilCheck (n := 0) rfl rfl) rfl ?_)|(refine k_call ?_;refine al_call rfl rfl rfl rfl hsm ?_;rintro _ rfl)|(refine k_call ?_;refine al_append rfl rfl (by repeat constructor) (src_os rfl rfl) rfl (by decide) (by simp;omega) rfl ?_))|(refine k_al ?_;first|(refine al_v (ov_move rfl) rfl ?_)|(refine k_g ?_;first|(refine al_gy' rfl rfl (by with_reducible rfl) ?_)|(refine al_gnf rfl rfl (by with_reducible rfl) rfl ?_)|(refine al_gsp rfl rfl (fun hc => ?_) (fun hc => ?_) <;> (try (exfalso;omega)))|(refine al_gsb rfl rfl (fun hc => ?_) (fun hc => ?_) <;> (try (exact absurd hc (by decide)))))|(refine al_v (ov_fieldAddr rfl rfl) rfl ?_)|(refine k_load ?_;first|(refine al_v (ov_load rfl rfl) rfl ?_))|(refine k_bin ?_;first|(refine al_v (ov_cmp rfl rfl rfl) rfl ?_)|(refine al_v (ov_seq rfl rfl) rfl ?_))|(refine k_pick ?_;first|(refine al_v (ov_pick_t' rfl (by with_reducible rfl) rfl) rfl ?_)|(refine al_v (ov_pick_f' rfl (by with_reducible rfl) rfl) rfl ?_))|(refine al_v (ov_assign rfl) rfl ?_)|(refine k_call ?_;first|(refine al_v (ov_len_os rfl rfl rfl) rfl ?_))|(refine al_v (ov_extract rfl rfl) rfl ?_)|(refine al_nil ?_)|(refine al_store rfl rfl rfl rfl rfl (by repeat constructor) (by repeat constructor) ?_)|(refine al_v (ov_build rfl rfl rfl (by repeat constructor)) rfl ?_)|(refine al_buildSlice (by rfl) (by rfl) (by rfl) (by rfl) (by decide) (by decide) (by rfl) (by rfl) (by repeat constructor) (by rfl) (by repeat constructor) (by rfl) (by first|exact ln2) (by repeat constructor) rfl ?_)|(refine al_v (ov_not rfl rfl) rfl ?_))|(first|(refine thn_n ?_)|(refine k_awp ?_;first|(refine awp_seq (awp_region ?_))|(refine awp_seq ?_)|(refine awp_region ?_)|(refine k_cond ?_;first|(refine awp_cond_t' rfl (by with_reducible rfl) ?_)|(refine awp_cond_p rfl (fun hc => ?_) (fun hc => ?_) <;> (try (exfalso;omega)))|(refine awp_cond_b rfl (fun hc => ?_) (fun hc => ?_) <;> (try (exact absurd hc (by decide)))))|(refine awp_ret ?_)|(refine awp_skip ?_))|(refine thn_ret ?_))|(first|(refine k_hw ?_;first|(refine hw_s rfl ?_)|(refine hw_v (ov_move rfl) rfl ?_)|(refine hw_v (ov_assign rfl) rfl ?_)|(refine hw_v (ov_fieldAddr rfl rfl) rfl ?_)|(refine hw_v (ov_load rfl rfl) rfl ?_)|(refine hw_v (ov_cmp rfl rfl rfl) rfl ?_)|(refine hw_v (ov_pick_t' rfl (by with_reducible rfl) rfl) rfl ?_)|(refine hw_v (ov_pick_f' rfl (by with_reducible rfl) rfl) rfl ?_)|(refine hw_v (ov_len_os rfl rfl rfl) rfl ?_)|(refine hw_v (ov_seq rfl rfl) rfl ?_)|(refine hw_v (ov_extract rfl rfl) rfl ?_)|(refine hw_v (ov_not rfl rfl) rfl ?_)|(refine hw_v (ov_build rfl rfl rfl (by repeat constructor)) rfl ?_))|(refine hl_op rfl ?_)|(refine k_ho ?_;first|(refine ho_n ?_))|(refine hl_nil ?_)|(refine hq_back ?_)))
  refine retq_wkn (.of (Wk'.drop (H := [_, _]) (sl' := [(4, _)]) (ex := [_]) (.cons rfl .nil) rfl (by repeat constructor) rfl)) ?_
  refine ret1 (by first | exact .inr rfl | exact .inl rfl) rfl rfl ?_
  exact ⟨ver + 1, rfl, rfl⟩
end
end Go.Proofs.YtffcgpkbibijpaaGreatDoor.L

namespace Go.Proofs.YtffcgpkbibijpaaGreatDoor.L
open Go Go.RowKit Go.Proofs
set_option linter.unusedVariables false
set_option linter.unusedSimpArgs false
set_option maxRecDepth 100000
attribute [local irreducible] AL QL AWp Thn InB RetQ ACalls LoopQ HL HO HW HQ NoG

section
variable {w0 : World} {base : Nat}
theorem loose_fun : (fun b => pVis b || true && pLoose b) = pLoose := by
  funext b
  unfold pLoose
  cases pVis b <;> simp
theorem vis_fun : (fun b => pVis b || false && pLoose b) = pVis := by
  funext b
  simp
set_option maxHeartbeats 4000000 in
theorem s_fieldR {l : List UInt8} (hl : l.length ≤ 1024) : PCalls (EE w0 base) 87 [.str l] fun rv => ∃ n v, rv = .tup [.agg [.str n, .str v], .bool (decide (fieldOk l))] ∧ (fieldOk l → (n, v) = fieldOf l) := by
  refine acalls_of Tryz.func87 rfl rfl rfl (.cons .nil) ?_
  repeat' (first|(refine k_al ?_;first|(refine al_v (ov_move rfl) rfl ?_)|(refine k_g ?_;first|(refine al_gy' rfl rfl (by with_reducible rfl) ?_)|(refine al_gnt rfl rfl (by with_reducible rfl) rfl ?_)|(refine al_gnf rfl rfl (by with_reducible rfl) rfl ?_)|(refine al_gsp rfl rfl (fun hc => ?_) (fun hc => ?_) <;> (try (exfalso;omega))))|(refine k_bin ?_;first|(refine al_v (ov_cmp rfl rfl rfl) rfl ?_)|(refine al_v (ov_add rfl rfl (by (first|exact w64 (by omega) (by omega)|rfl))) rfl ?_))|(refine k_pick ?_;first|(refine al_v (ov_pick_t' rfl (by with_reducible rfl) rfl) rfl ?_)|(refine al_v (ov_pick_f' rfl (by with_reducible rfl) rfl) rfl ?_))|(refine al_v (ov_assign rfl) rfl ?_)|(refine k_call ?_;first|(refine al_v (ov_len_str rfl) rfl ?_))|(refine al_nil ?_)|(refine al_alloc rfl rfl rfl (by first|exact ln0) (by repeat constructor) rfl ?_)|(refine al_store rfl rfl rfl rfl rfl (by repeat constructor) (by repeat constructor) ?_)|(refine al_v (ov_build rfl rfl rfl (by repeat constructor)) rfl ?_)|(refine al_v (ov_not rfl rfl) rfl ?_)|(refine al_v (ov_index rfl rfl (by omega) (by omega)) rfl ?_))|(first|(refine thn_n ?_)|(refine k_awp ?_;first|(refine awp_seq (awp_region ?_))|(refine awp_seq ?_)|(refine awp_region ?_)|(refine k_cond ?_;first|(refine awp_cond_t' rfl (by with_reducible rfl) ?_)|(refine awp_cond_f' rfl (by with_reducible rfl) ?_)|(refine awp_cond_p rfl (fun hc => ?_) (fun hc => ?_) <;> (try (exfalso;omega)))|(refine awp_cond_b rfl (fun hc => ?_) (fun hc => ?_) <;> (try (exact absurd hc (by decide)))))|(refine awp_block ?_)|(refine awp_ret ?_)|(refine awp_skip ?_)|(refine awp_exit ?_))|(refine thn_ret ?_)|(refine lq_exit ?_)|(refine thn_exit ?_)|(refine inb_n ?_)|(refine inb_here ?_)))
  refine awp_loopq (fun k : Nat => ⟨[(0, .str l), (2, .op 0 0), (4, .int .i64 k)], [.box [.str [], .str []]]⟩) (fun k => k ≤ l.length ∧ ∀ j, j < k → byteAt l (j : Int) ≠ 58) (fun k => l.length - k) 0 (.of (.same (by repeat constructor))) ⟨Nat.zero_le _, fun j h => absurd h (Nat.not_lt_zero _)⟩ ?_
  rintro i ⟨hi, hno⟩
  try dsimp only
  have htk : (l.take i).length = i := by simp; omega
  have hdr : (l.drop (i + 1)).length = l.length - (i + 1) := by simp
  have htl := trim_len (l.drop (i + 1))
  obtain ⟨u, hu⟩ : ∃ u, Lib.trimS (l.drop (i + 1)) [32, 9] = u := ⟨_, rfl⟩
  have h1 := s_name (w0 := w0) (base := base) (s := l.take i) (by omega)
  have h2 := s_trimR (w0 := w0) (base := base) (s := l.drop (i + 1)) (by omega)
  rw [hu] at h2 htl
  have h3 := s_visR (w0 := w0) (base := base) (s := u) (lo := true) (by omega)
  rw [loose_fun] at h3
  have h4 := s_smallR (w0 := w0) (base := base) (s := l.take i) (by omega)
  repeat' (first|(first|(refine al_v (ov_slice_hi rfl rfl (by omega) (by omega)) rfl ?_)|(refine al_v (ov_slice_lo rfl rfl (by omega) (by omega)) rfl ?_)|(refine k_call ?_;refine al_call rfl rfl rfl rfl h1 ?_;rintro _ rfl)|(refine k_call ?_;refine al_call rfl rfl rfl rfl h2 ?_;rintro _ rfl)|(refine k_call ?_;refine al_call rfl rfl rfl rfl h3 ?_;rintro _ rfl)|(refine k_call ?_;refine al_call rfl rfl rfl rfl h4 ?_;rintro _ rfl))|(refine k_al ?_;first|(refine al_v (ov_move rfl) rfl ?_)|(refine k_g ?_;first|(refine al_gy' rfl rfl (by with_reducible rfl) ?_)|(refine al_gnt rfl rfl (by with_reducible rfl) rfl ?_)|(refine al_gnf rfl rfl (by with_reducible rfl) rfl ?_)|(refine al_gsp rfl rfl (fun hc => ?_) (fun hc => ?_) <;> (try (exfalso;omega))))|(refine k_bin ?_;first|(refine al_v (ov_cmp rfl rfl rfl) rfl ?_)|(refine al_v (ov_add rfl rfl (by (first|exact w64 (by omega) (by omega)|rfl))) rfl ?_))|(refine k_pick ?_;first|(refine al_v (ov_pick_t' rfl (by with_reducible rfl) rfl) rfl ?_)|(refine al_v (ov_pick_f' rfl (by with_reducible rfl) rfl) rfl ?_))|(refine al_v (ov_assign rfl) rfl ?_)|(refine k_call ?_;first|(refine al_v (ov_len_str rfl) rfl ?_))|(refine al_nil ?_)|(refine al_alloc rfl rfl rfl (by first|exact ln0) (by repeat constructor) rfl ?_)|(refine al_store rfl rfl rfl rfl rfl (by repeat constructor) (by repeat constructor) ?_)|(refine al_v (ov_build rfl rfl rfl (by repeat constructor)) rfl ?_)|(refine al_v (ov_not rfl rfl) rfl ?_)|(refine al_v (ov_index rfl rfl (by omega) (by omega)) rfl ?_))|(first|(refine thn_n ?_)|(refine k_awp ?_;first|(refine awp_seq (awp_region ?_))|(refine awp_seq ?_)|(refine awp_region ?_)|(refine k_cond ?_;first|(refine awp_cond_t' rfl (by with_reducible rfl) ?_)|(refine awp_cond_f' rfl (by with_reducible rfl) ?_)|(refine awp_cond_p rfl (fun hc => ?_) (fun hc => ?_) <;> (try (exfalso;omega)))|(refine awp_cond_b rfl (fun hc => ?_) (fun hc => ?_) <;> (try (exact absurd hc (by decide)))))|(refine awp_block ?_)|(refine awp_ret ?_)|(refine awp_skip ?_)|(refine awp_exit ?_))|(refine thn_ret ?_)|(refine lq_exit ?_)|(refine thn_exit ?_)|(refine inb_n ?_)|(refine inb_here ?_)))
  · first | refine lq_back (i + 1) (.of (.same (by repeat constructor))) ?_ ?_ | fail
    · refine ⟨by omega, fun j hj => ?_⟩
      rcases Nat.lt_or_ge j i with h | h
      · exact hno j h
      · obtain rfl : j = i := by omega
        assumption
    · omega
  iterate 2
    · have hcut : Lib.cut l [58] = (l.take i, l.drop (i + 1), true) := cut1_at (eq_get (c := 58) (by omega) (Classical.not_not.1 ‹¬byteAt l (i : Int) ≠ 58›)) (fun j hj => ne_get (hno j hj) (by omega))
      have hN : fN l = l.take i := by unfold fN; rw [hcut]
      have hV : fV l = u := by unfold fV; rw [hcut]; exact hu
      have hF : fieldOk l ↔ goodF (l.take i) u true := by unfold fieldOk; rw [hN, hV, hcut]
      have hO : fieldOf l = (smallS (l.take i), u) := by unfold fieldOf; rw [hN, hV]
      have hne : l.take i ≠ [] ↔ 1 ≤ (l.take i).length := by
        rw [← List.length_pos_iff]
        omega
      refine retc1 (by first | exact .inr rfl | exact .inl rfl) rfl rfl rfl rfl rfl ?_
      first
        | (have hb : (!((l.take i).all pToken && decide (1 ≤ (l.take i).length))) = true := ‹_›
           have hg : ¬ fieldOk l := by
            rw [hF]
            rintro ⟨_, g2, g3, _⟩
            rw [hne] at g2
            rw [g3, decide_eq_true g2] at hb
            cases hb
           rw [decide_eq_false hg]
           exact ⟨⟨_, _, rfl, fun h => absurd h hg⟩, rfl⟩)
        | (have hb : ((l.take i).all pToken && decide (1 ≤ (l.take i).length)) = true := by simpa using ‹(!((l.take i).all pToken && decide (1 ≤ (l.take i).length))) = false›
           rw [Bool.and_eq_true, decide_eq_true_eq] at hb
           have hd : u.all pLoose = decide (fieldOk l) := by
             rw [Bool.eq_iff_iff, decide_eq_true_eq, hF]
             exact ⟨fun h => ⟨rfl, hne.2 hb.2, hb.1, h⟩, fun h => h.2.2.2⟩
           rw [hd]
           exact ⟨⟨_, _, rfl, fun _ => hO.symm⟩, rfl⟩)
  · have hcut : Lib.cut l [58] = (l, [], false) := cut1_no fun j he => by
      have hj := (List.getElem?_eq_some_iff.1 he).1
      exact ne_get (hno j (by omega)) hj he
    have hg : ¬ fieldOk l := by
      unfold fieldOk
      rw [hcut]
      exact fun h => by cases h.1
    refine retc1 (by first | exact .inr rfl | exact .inl rfl) rfl rfl rfl rfl rfl ?_
    rw [decide_eq_false hg]
    exact ⟨⟨_, _, rfl, fun h => absurd h hg⟩, rfl⟩
end
end Go.Proofs.YtffcgpkbibijpaaGreatDoor.L

namespace Go.Proofs.YtffcgpkbibijpaaGreatDoor.L
open Go Go.RowKit Go.Proofs
set_option linter.unusedVariables false
set_option linter.unusedSimpArgs false
set_option maxRecDepth 100000
attribute [local irreducible] AL QL AWp Thn InB RetQ ACalls LoopQ HL HO HW HQ NoG

theorem pre_take {v : List UInt8} (h : v.length = 8) : Lib.hasPrefix v [72, 84, 84, 80, 47] = decide (v.take 5 = [72, 84, 84, 80, 47]) := by
  have := Lib.hasPrefix_of_take v [72, 84, 84, 80, 47]
  rw [← this, Bool.eq_iff_iff]
  simp [h]
theorem ver_tail {v w : List UInt8} (h : verOk v = true) : v = [72, 84, 84, 80, 47] ++ w ↔ v.drop 5 = w := by
  have hl := ver_len h
  have hp : v.take 5 = [72, 84, 84, 80, 47] := by
    unfold verOk at h
    simp only [Bool.and_eq_true] at h
    have := h.2.1
    rw [pre_take hl, decide_eq_true_eq] at this
    exact this
  constructor
  · intro e; rw [e]; rfl
  · intro e; rw [← e, ← hp, List.take_append_drop]
theorem ver_iff {v : List UInt8} (h : v.length = 8) : verOk v = true ↔ v.take 5 = [72, 84, 84, 80, 47] ∧ 48 ≤ byteAt v 5 ∧ byteAt v 5 ≤ 57 ∧ byteAt v 6 = 46 ∧ 48 ≤ byteAt v 7 ∧ byteAt v 7 ≤ 57 := by
  unfold verOk pDigit
  rw [pre_take h]
  rw [byteAt_eq, byteAt_eq, byteAt_eq]
  simp only [Bool.and_eq_true, decide_eq_true_eq]
  constructor
  · rintro ⟨_, h2, ⟨h3, h4⟩, h5, h6, h7⟩
    exact ⟨h2, by omega, by omega, h5, by omega, by omega⟩
  · rintro ⟨h2, h3, h4, h5, h6, h7⟩
    exact ⟨h, h2, ⟨by omega, by omega⟩, h5, by omega, by omega⟩

section
variable {E : Env} {sl : Slots} {H : List AO}
theorem ov_slice_lo_eq {t : Nat} {n b : Nat} {z : Value} [ti : TI E.P t .string n b z] {x lo : Operand} {s v : List UInt8} {k : IntKind} {l : Int} {j : Nat} (hv : s.drop j = v)
    (hx : ev sl x = some (.str s)) (hlo : ev sl lo = some (.int k l)) (h0 : 0 ≤ l) (h2 : l ≤ (s.length : Int)) (hj : l = j) : OV E sl H (.slice t x (some lo) none none) (.str v) := by
  have := ov_slice_lo (E := E) (H := H) (t := t) hx hlo h0 h2
  subst hj
  rw [← hv]
  exact this
end

section
variable {w0 : World} {base : Nat}
set_option maxHeartbeats 8000000 in
theorem s_requestR {l : List UInt8} (hl : l.length ≤ 1024) : PCalls (EE w0 base) 86 [.str l] fun rv => ∃ m t vi, rv = .tup [.agg [.str m, .str t, .int .i64 vi, .nilsl], .int .i64 (reqSt l)] ∧ (reqSt l = 0 → m = rM l ∧ t = rT l ∧ vi = reqV l) := by
  refine acalls_of Tryz.func86 rfl rfl rfl (.cons .nil) ?_
  repeat' (first|(refine k_al ?_;first|(refine al_v (ov_move rfl) rfl ?_)|(refine k_g ?_;first|(refine al_gy' rfl rfl (by with_reducible rfl) ?_)|(refine al_gnt rfl rfl (by with_reducible rfl) rfl ?_)|(refine al_gnf rfl rfl (by with_reducible rfl) rfl ?_)|(refine al_gsp rfl rfl (fun hc => ?_) (fun hc => ?_) <;> (try (exfalso;omega)))|(refine al_gsb rfl rfl (fun hc => ?_) (fun hc => ?_) <;> (try (exact absurd hc (by decide)))))|(refine k_bin ?_;first|(refine al_v (ov_cmp rfl rfl rfl) rfl ?_)|(refine al_v (ov_add rfl rfl (by (first|exact w64 (by omega) (by omega)|exact w8 (by omega) (by omega)|rfl))) rfl ?_)|(refine al_v (ov_sub rfl rfl (by (first|exact w64 (by omega) (by omega)|exact w8 (by omega) (by omega)|rfl))) rfl ?_)|(refine al_v (ov_sne rfl rfl) rfl ?_))|(refine k_pick ?_;first|(refine al_v (ov_pick_t' rfl (by with_reducible rfl) rfl) rfl ?_)|(refine al_v (ov_pick_f' rfl (by with_reducible rfl) rfl) rfl ?_))|(refine al_v (ov_assign rfl) rfl ?_)|(refine k_call ?_;first|(refine al_v (ov_len_str rfl) rfl ?_))|(refine al_v (ov_extract rfl rfl) rfl ?_)|(refine al_nil ?_)|(refine al_alloc rfl rfl rfl (by first|exact ln0) (by repeat constructor) rfl ?_)|(refine al_store rfl rfl rfl rfl rfl (by repeat constructor) (by repeat constructor) ?_)|(refine al_v (ov_build rfl rfl rfl (by repeat constructor)) rfl ?_)|(refine al_v (ov_not rfl rfl) rfl ?_)|(refine al_v (ov_index rfl rfl (by omega) (by omega)) rfl ?_))|(first|(refine thn_n ?_)|(refine k_awp ?_;first|(refine awp_seq (awp_region ?_))|(refine awp_seq ?_)|(refine awp_region ?_)|(refine k_cond ?_;first|(refine awp_cond_t' rfl (by with_reducible rfl) ?_)|(refine awp_cond_f' rfl (by with_reducible rfl) ?_)|(refine awp_cond_p rfl (fun hc => ?_) (fun hc => ?_) <;> (try (exfalso;omega)))|(refine awp_cond_b rfl (fun hc => ?_) (fun hc => ?_) <;> (try (exact absurd hc (by decide)))))|(refine awp_block ?_)|(refine awp_ret ?_)|(refine awp_skip ?_)|(refine awp_exit ?_))|(refine thn_ret ?_)|(refine lq_exit ?_)|(refine thn_exit ?_)|(refine inb_n ?_)|(refine inb_here ?_)))
  refine awp_loopq (fun k : Nat => ⟨[(0, .str l), (2, .op 0 0), (4, .int .i64 k)], [.box [.str [], .str [], .int .i64 0, .nilsl]]⟩) (fun k => k ≤ l.length ∧ ∀ j, j < k → byteAt l (j : Int) ≠ 32) (fun k => l.length - k) 0 (.of (.same (by repeat constructor))) ⟨Nat.zero_le _, fun j h => absurd h (Nat.not_lt_zero _)⟩ ?_
  rintro a ⟨ha, hna⟩
  try dsimp only
  repeat' (first|(refine k_al ?_;first|(refine al_v (ov_move rfl) rfl ?_)|(refine k_g ?_;first|(refine al_gy' rfl rfl (by with_reducible rfl) ?_)|(refine al_gnt rfl rfl (by with_reducible rfl) rfl ?_)|(refine al_gnf rfl rfl (by with_reducible rfl) rfl ?_)|(refine al_gsp rfl rfl (fun hc => ?_) (fun hc => ?_) <;> (try (exfalso;omega)))|(refine al_gsb rfl rfl (fun hc => ?_) (fun hc => ?_) <;> (try (exact absurd hc (by decide)))))|(refine k_bin ?_;first|(refine al_v (ov_cmp rfl rfl rfl) rfl ?_)|(refine al_v (ov_add rfl rfl (by (first|exact w64 (by omega) (by omega)|exact w8 (by omega) (by omega)|rfl))) rfl ?_)|(refine al_v (ov_sub rfl rfl (by (first|exact w64 (by omega) (by omega)|exact w8 (by omega) (by omega)|rfl))) rfl ?_)|(refine al_v (ov_sne rfl rfl) rfl ?_))|(refine k_pick ?_;first|(refine al_v (ov_pick_t' rfl (by with_reducible rfl) rfl) rfl ?_)|(refine al_v (ov_pick_f' rfl (by with_reducible rfl) rfl) rfl ?_))|(refine al_v (ov_assign rfl) rfl ?_)|(refine k_call ?_;first|(refine al_v (ov_len_str rfl) rfl ?_))|(refine al_v (ov_extract rfl rfl) rfl ?_)|(refine al_nil ?_)|(refine al_alloc rfl rfl rfl (by first|exact ln0) (by repeat constructor) rfl ?_)|(refine al_store rfl rfl rfl rfl rfl (by repeat constructor) (by repeat constructor) ?_)|(refine al_v (ov_build rfl rfl rfl (by repeat constructor)) rfl ?_)|(refine al_v (ov_not rfl rfl) rfl ?_)|(refine al_v (ov_index rfl rfl (by omega) (by omega)) rfl ?_))|(first|(refine thn_n ?_)|(refine k_awp ?_;first|(refine awp_seq (awp_region ?_))|(refine awp_seq ?_)|(refine awp_region ?_)|(refine k_cond ?_;first|(refine awp_cond_t' rfl (by with_reducible rfl) ?_)|(refine awp_cond_f' rfl (by with_reducible rfl) ?_)|(refine awp_cond_p rfl (fun hc => ?_) (fun hc => ?_) <;> (try (exfalso;omega)))|(refine awp_cond_b rfl (fun hc => ?_) (fun hc => ?_) <;> (try (exact absurd hc (by decide)))))|(refine awp_block ?_)|(refine awp_ret ?_)|(refine awp_skip ?_)|(refine awp_exit ?_))|(refine thn_ret ?_)|(refine lq_exit ?_)|(refine thn_exit ?_)|(refine inb_n ?_)|(refine inb_here ?_)))
  · first | refine lq_back (a + 1) (.of (.same (by repeat constructor))) ?_ ?_ | fail
    · refine ⟨by omega, fun j hj => ?_⟩
      rcases Nat.lt_or_ge j a with h | h
      · exact hna j h
      · obtain rfl : j = a := by omega
        assumption
    · omega
  all_goals
    have hsp : a < l.length → byteAt l (a : Int) = 32 := fun h => by omega
    have hc1 : Lib.cut l [32] = if a < l.length then (l.take a, l.drop (a + 1), true) else (l, [], false) := by
      split
      · exact cut1_at (eq_get (c := 32) ‹_› (hsp ‹_›)) (fun j hj => ne_get (hna j hj) (by omega))
      · exact cut1_no fun j he => by
          have hj := (List.getElem?_eq_some_iff.1 he).1
          exact ne_get (hna j (by omega)) hj he
    refine awp_loopq (fun k : Nat => ⟨[(0, .str l), (2, .op 0 0), (4, .int .i64 a), (5, .int .i64 k)], [.box [.str [], .str [], .int .i64 0, .nilsl]]⟩) (fun k => a + 1 ≤ k ∧ (k ≤ l.length ∨ k = a + 1) ∧ ∀ j, a + 1 ≤ j → j < k → byteAt l (j : Int) ≠ 32) (fun k => l.length - k) (a + 1) (.of (.same (by repeat constructor))) ⟨Nat.le_refl _, .inr rfl, fun j h1 h2 => by omega⟩ ?_
    rintro b ⟨hab, hb, hnb⟩
    try dsimp only
    have htk : (l.take a).length = a := by simp; omega
    have h1 := s_method (w0 := w0) (base := base) (s := l.take a) (by omega)
    have ht2 : ((l.take b).drop (a + 1)).length ≤ 1024 := by simp; omega
    have h2 := s_visR (w0 := w0) (base := base) (s := (l.take b).drop (a + 1)) (lo := false) (by omega)
    rw [vis_fun] at h2
    have h3 := s_targetR (w0 := w0) (base := base) (s := (l.take b).drop (a + 1)) (by omega)
    have hvl : (l.drop (b + 1)).length = l.length - (b + 1) := by simp
    obtain ⟨v, hv⟩ : ∃ v, l.drop (b + 1) = v := ⟨_, rfl⟩
    rw [hv] at hvl
    have hfact : a < l.length → b < l.length → byteAt l (b : Int) = 32 → rM l = l.take a ∧ rT l = (l.take b).drop (a + 1) ∧ rV l = v ∧ r2 l = true := fun g1 g2 g3 => by
      have hc2 : Lib.cut (l.drop (a + 1)) [32] = ((l.take b).drop (a + 1), v, true) := by
        rw [cut1_at (k := b - (a + 1)) (by rw [List.getElem?_drop, show a + 1 + (b - (a + 1)) = b by omega]; exact eq_get (c := 32) g2 g3) (fun j hj => by rw [List.getElem?_drop]; exact ne_get (hnb _ (by omega) (by omega)) (by omega))]
        rw [List.drop_drop, show a + 1 + (b - (a + 1) + 1) = b + 1 by omega, hv, List.drop_take]
      rw [if_pos g1] at hc1
      unfold rM rT rV r2
      rw [hc1]
      dsimp only
      rw [hc2]
      exact ⟨rfl, rfl, rfl, rfl⟩
    have hbad : l.length ≤ b → reqSt l = 400 := fun g => by
      have hr2 : r2 l = false := by
        unfold r2
        rw [hc1]
        split
        · dsimp only
          rw [cut1_no fun j he => by
            rw [List.getElem?_drop] at he
            have hj := (List.getElem?_eq_some_iff.1 he).1
            exact ne_get (hnb _ (by omega) (by omega)) hj he]
        · rfl
      unfold reqSt
      rw [hr2]
      exact if_neg (fun h => by cases h.1)
    repeat' (first|(first|(refine al_v (ov_slice_hi rfl rfl (by omega) (by omega)) rfl ?_)|(refine al_v (ov_slice rfl rfl rfl (by omega) (by omega) (by omega)) rfl ?_)|(refine al_v (ov_slice_lo_eq hv rfl rfl (by omega) (by omega) (by omega)) rfl ?_)|(refine k_call ?_;refine al_call rfl rfl rfl rfl h1 ?_;rintro _ rfl)|(refine k_call ?_;refine al_call rfl rfl rfl rfl h2 ?_;rintro _ rfl)|(refine k_call ?_;refine al_call rfl rfl rfl rfl h3 ?_;rintro _ ⟨p, q, e, k, rfl, htg, htg2⟩))|(refine k_al ?_;first|(refine al_v (ov_move rfl) rfl ?_)|(refine k_g ?_;first|(refine al_gy' rfl rfl (by with_reducible rfl) ?_)|(refine al_gnt rfl rfl (by with_reducible rfl) rfl ?_)|(refine al_gnf rfl rfl (by with_reducible rfl) rfl ?_)|(refine al_gsp rfl rfl (fun hc => ?_) (fun hc => ?_) <;> (try (exfalso;omega)))|(refine al_gsb rfl rfl (fun hc => ?_) (fun hc => ?_) <;> (try (exact absurd hc (by decide)))))|(refine k_bin ?_;first|(refine al_v (ov_cmp rfl rfl rfl) rfl ?_)|(refine al_v (ov_add rfl rfl (by (first|exact w64 (by omega) (by omega)|exact w8 (by omega) (by omega)|rfl))) rfl ?_)|(refine al_v (ov_sub rfl rfl (by (first|exact w64 (by omega) (by omega)|exact w8 (by omega) (by omega)|rfl))) rfl ?_)|(refine al_v (ov_sne rfl rfl) rfl ?_))|(refine k_pick ?_;first|(refine al_v (ov_pick_t' rfl (by with_reducible rfl) rfl) rfl ?_)|(refine al_v (ov_pick_f' rfl (by with_reducible rfl) rfl) rfl ?_))|(refine al_v (ov_assign rfl) rfl ?_)|(refine k_call ?_;first|(refine al_v (ov_len_str rfl) rfl ?_))|(refine al_v (ov_extract rfl rfl) rfl ?_)|(refine al_nil ?_)|(refine al_alloc rfl rfl rfl (by first|exact ln0) (by repeat constructor) rfl ?_)|(refine al_store rfl rfl rfl rfl rfl (by repeat constructor) (by repeat constructor) ?_)|(refine al_v (ov_build rfl rfl rfl (by repeat constructor)) rfl ?_)|(refine al_v (ov_not rfl rfl) rfl ?_)|(refine al_v (ov_index rfl rfl (by omega) (by omega)) rfl ?_))|(first|(refine thn_n ?_)|(refine k_awp ?_;first|(refine awp_seq (awp_region ?_))|(refine awp_seq ?_)|(refine awp_region ?_)|(refine k_cond ?_;first|(refine awp_cond_t' rfl (by with_reducible rfl) ?_)|(refine awp_cond_f' rfl (by with_reducible rfl) ?_)|(refine awp_cond_p rfl (fun hc => ?_) (fun hc => ?_) <;> (try (exfalso;omega)))|(refine awp_cond_b rfl (fun hc => ?_) (fun hc => ?_) <;> (try (exact absurd hc (by decide)))))|(refine awp_block ?_)|(refine awp_ret ?_)|(refine awp_skip ?_)|(refine awp_exit ?_))|(refine thn_ret ?_)|(refine lq_exit ?_)|(refine thn_exit ?_)|(refine inb_n ?_)|(refine inb_here ?_)))
  all_goals try (
    first | refine lq_back (b + 1) (.of (.same (by repeat constructor))) ?_ ?_ | fail
    · refine ⟨by omega, by omega, fun j h1 h2 => ?_⟩
      rcases Nat.lt_or_ge j b with h | h
      · exact hnb j h1 h
      · obtain rfl : j = b := by omega
        assumption
    · omega)
  all_goals try (
    have h400 : reqSt l = 400 := hbad (by omega)
    refine retc1 (by first | exact .inr rfl | exact .inl rfl) rfl rfl rfl rfl rfl ?_
    rw [h400]
    exact ⟨⟨_, _, _, rfl, fun h => absurd h (by decide)⟩, rfl⟩)
  all_goals
    obtain ⟨q1, q2, q3, q4⟩ := hfact (by omega) (by omega) (by omega)
    have hq : reqSt l = stR (l.take a) ((l.take b).drop (a + 1)) v true := by unfold reqSt; rw [q1, q2, q3, q4]
  all_goals try (
    have h400 : reqSt l = 400 := by
      rw [hq]
      refine if_neg ?_
      rintro ⟨g1, g2, g3, g4, g5, g6, g7⟩
      first
        | (have hy : (!((l.take a).all pLarge && (decide (1 ≤ (l.take a).length) && decide ((l.take a).length ≤ 16)))) = true := ‹_›
           rw [g4, decide_eq_true g2, decide_eq_true g3] at hy
           cases hy)
        | (have hy : (b : Int) = (a : Int) + 1 := ‹_›
           exact g5 (by rw [show b = a + 1 by omega]; exact List.drop_eq_nil_of_le (by simp; omega)))
        | (have hy : (!((l.take b).drop (a + 1)).all pVis) = true := ‹_›
           rw [g6] at hy
           cases hy)
        | (have := ver_len g7
           omega)
        | (have := (ver_iff (ver_len g7)).1 g7
           omega)
        | (have := (ver_iff (ver_len g7)).1 g7
           exact absurd this.1 ‹List.take (Int.toNat 5) v ≠ _›)
    refine retc1 (by first | exact .inr rfl | exact .inl rfl) rfl rfl rfl rfl rfl ?_
    rw [h400]
    exact ⟨⟨_, _, _, rfl, fun h => absurd h (by decide)⟩, rfl⟩)
  all_goals
    have hvok : verOk v = true := (ver_iff (by omega)).2 ⟨Classical.not_not.1 ‹¬List.take (Int.toNat 5) v ≠ _›, by omega, by omega, by omega, by omega, by omega⟩
    have hmok : ((l.take a).all pLarge && (decide (1 ≤ (l.take a).length) && decide ((l.take a).length ≤ 16))) = true := by simpa using ‹(!((l.take a).all pLarge && (decide (1 ≤ (l.take a).length) && decide ((l.take a).length ≤ 16)))) = false›
    rw [Bool.and_eq_true, Bool.and_eq_true, decide_eq_true_eq, decide_eq_true_eq] at hmok
    have hvis : ((l.take b).drop (a + 1)).all pVis = true := by simpa using ‹(!((l.take b).drop (a + 1)).all pVis) = false›
    have hg : goodR (l.take a) ((l.take b).drop (a + 1)) v true := ⟨rfl, hmok.2.1, hmok.2.2, hmok.1, fun e => by have := congrArg List.length e; simp at this; omega, hvis, hvok⟩
    have t0 := ver_tail (w := [49, 46, 48]) hvok
    have t1 := ver_tail (w := [49, 46, 49]) hvok
    rw [stR, if_pos hg] at hq
  · rw [if_pos ⟨fun h => absurd (t0.2 h) ‹_›, fun h => absurd (t1.2 h) ‹_›⟩] at hq
    refine retc1 (by first | exact .inr rfl | exact .inl rfl) rfl rfl rfl rfl rfl ?_
    rw [hq]
    exact ⟨⟨_, _, _, rfl, fun h => absurd h (by decide)⟩, rfl⟩
  iterate 2
    · rw [if_neg (fun h => by first | exact h.1 (t0.1 (Classical.not_not.1 ‹_›)) | exact h.2 (t1.1 (Classical.not_not.1 ‹_›))), if_neg (fun h => absurd (htg.2 h) ‹_›)] at hq
      refine retc1 (by first | exact .inr rfl | exact .inl rfl) rfl rfl rfl rfl rfl ?_
      rw [hq]
      exact ⟨⟨_, _, _, rfl, fun h => absurd h (by decide)⟩, rfl⟩
    · rw [if_neg (fun h => by first | exact h.1 (t0.1 (Classical.not_not.1 ‹_›)) | exact h.2 (t1.1 (Classical.not_not.1 ‹_›))), if_pos (htg.1 (Classical.not_not.1 ‹_›))] at hq
      have hv7 := ver_7 hvok
      repeat' (first|(first|(refine awp_held (id := 17) [(13, [0])] [⟨0, true, [], bl 15 4090⟩, ⟨1, true, [], bl 15 4089⟩, ⟨2, true, [], bl 15 4091⟩, ⟨3, true, [], bl 15 3959⟩, ⟨4, true, [], bl 15 3919⟩, ⟨5, true, [], bl 15 3935⟩, ⟨6, true, [], bl 15 3903⟩, ⟨7, true, [], bl 15 3967⟩, ⟨8, true, [], bl 15 255⟩, ⟨9, true, [], bl 15 511⟩, ⟨10, true, [], bl 15 1023⟩, ⟨11, true, [], bl 15 2047⟩, ⟨12, true, [], bl 15 4095⟩, ⟨13, false, [], []⟩, ⟨14, true, [], bl 15 16383⟩] (by kernel_rfl) (by kernel_rfl) rfl (by kernel_rfl) ?_)|(refine hw_v (ov_slice_hi rfl rfl (by omega) (by omega)) rfl ?_)|(refine hw_v (ov_slice rfl rfl rfl (by omega) (by omega) (by omega)) rfl ?_)|(refine hw_v (ov_sub rfl rfl (w8 (by omega) (by omega))) rfl ?_)|(refine hw_v (ov_conv_int rfl (w64 (by omega) (by omega))) rfl ?_))|(refine k_al ?_;first|(refine al_v (ov_move rfl) rfl ?_)|(refine k_g ?_;first|(refine al_gy' rfl rfl (by with_reducible rfl) ?_)|(refine al_gnt rfl rfl (by with_reducible rfl) rfl ?_)|(refine al_gnf rfl rfl (by with_reducible rfl) rfl ?_)|(refine al_gsp rfl rfl (fun hc => ?_) (fun hc => ?_) <;> (try (exfalso;omega)))|(refine al_gsb rfl rfl (fun hc => ?_) (fun hc => ?_) <;> (try (exact absurd hc (by decide)))))|(refine k_bin ?_;first|(refine al_v (ov_cmp rfl rfl rfl) rfl ?_)|(refine al_v (ov_add rfl rfl (by (first|exact w64 (by omega) (by omega)|exact w8 (by omega) (by omega)|rfl))) rfl ?_)|(refine al_v (ov_sub rfl rfl (by (first|exact w64 (by omega) (by omega)|exact w8 (by omega) (by omega)|rfl))) rfl ?_)|(refine al_v (ov_sne rfl rfl) rfl ?_))|(refine k_pick ?_;first|(refine al_v (ov_pick_t' rfl (by with_reducible rfl) rfl) rfl ?_)|(refine al_v (ov_pick_f' rfl (by with_reducible rfl) rfl) rfl ?_))|(refine al_v (ov_assign rfl) rfl ?_)|(refine k_call ?_;first|(refine al_v (ov_len_str rfl) rfl ?_))|(refine al_v (ov_extract rfl rfl) rfl ?_)|(refine al_nil ?_)|(refine al_alloc rfl rfl rfl (by first|exact ln0) (by repeat constructor) rfl ?_)|(refine al_store rfl rfl rfl rfl rfl (by repeat constructor) (by repeat constructor) ?_)|(refine al_v (ov_build rfl rfl rfl (by repeat constructor)) rfl ?_)|(refine al_v (ov_not rfl rfl) rfl ?_)|(refine al_v (ov_index rfl rfl (by omega) (by omega)) rfl ?_))|(first|(refine thn_n ?_)|(refine k_awp ?_;first|(refine awp_seq (awp_region ?_))|(refine awp_seq ?_)|(refine awp_region ?_)|(refine k_cond ?_;first|(refine awp_cond_t' rfl (by with_reducible rfl) ?_)|(refine awp_cond_f' rfl (by with_reducible rfl) ?_)|(refine awp_cond_p rfl (fun hc => ?_) (fun hc => ?_) <;> (try (exfalso;omega)))|(refine awp_cond_b rfl (fun hc => ?_) (fun hc => ?_) <;> (try (exact absurd hc (by decide)))))|(refine awp_block ?_)|(refine awp_ret ?_)|(refine awp_skip ?_)|(refine awp_exit ?_))|(refine thn_ret ?_)|(refine lq_exit ?_)|(refine thn_exit ?_)|(refine inb_n ?_)|(refine inb_here ?_))|(first|(refine k_hw ?_;first|(refine hw_s rfl ?_)|(refine hw_v (ov_move rfl) rfl ?_)|(refine hw_v (ov_assign rfl) rfl ?_)|(refine hw_v (ov_cmp rfl rfl rfl) rfl ?_)|(refine hw_v (ov_pick_t' rfl (by with_reducible rfl) rfl) rfl ?_)|(refine hw_v (ov_pick_f' rfl (by with_reducible rfl) rfl) rfl ?_)|(refine hw_v (ov_len_str rfl) rfl ?_)|(refine hw_v (ov_sne rfl rfl) rfl ?_)|(refine hw_v (ov_extract rfl rfl) rfl ?_)|(refine hw_v (ov_index rfl rfl (by omega) (by omega)) rfl ?_)|(refine hw_v (ov_add rfl rfl (by (first|exact w64 (by omega) (by omega)|exact w8 (by omega) (by omega)|rfl))) rfl ?_)|(refine hw_v (ov_sub rfl rfl (by (first|exact w64 (by omega) (by omega)|exact w8 (by omega) (by omega)|rfl))) rfl ?_)|(refine hw_v (ov_not rfl rfl) rfl ?_)|(refine hw_v (ov_build rfl rfl rfl (by repeat constructor)) rfl ?_))|(refine hl_op rfl ?_)|(refine k_ho ?_;first|(refine ho_n ?_))|(refine hl_nil ?_)|(refine hq_back ?_)))
      refine retc1 (by first | exact .inr rfl | exact .inl rfl) rfl rfl rfl rfl rfl ?_
      rw [hq]
      exact ⟨⟨_, _, _, rfl, fun _ => ⟨q1.symm, q2.symm, by unfold reqV; rw [q3]⟩⟩, rfl⟩
end
end Go.Proofs.YtffcgpkbibijpaaGreatDoor.L

namespace Go.Proofs.YtffcgpkbibijpaaGreatDoor.L
open Go Go.RowKit Go.Proofs
set_option linter.unusedVariables false
set_option linter.unusedSimpArgs false
set_option maxRecDepth 100000
attribute [local irreducible] AL QL AWp Thn InB RetQ ACalls LoopQ HL HO HW HQ NoG

abbrev Fs := List (List UInt8 × List UInt8)
abbrev hdAV (m t : List UInt8) (v : Int) (fs : Fs) : AV := .agg [.str m, .str t, .int .i64 v, .rs (fs.map prAV)]
def strAV (l : List (List UInt8)) : List (List AV) := l.map fun x => [.str x]
def valsOf (fs : Fs) (name : List UInt8) : List (List UInt8) := (fs.filter fun p => decide (p.1 = smallS name)).map (·.2)
theorem valsOf_next {fs : Fs} {name : List UInt8} {i : Nat} {p : List UInt8 × List UInt8} (h : fs[i]? = some p) : valsOf (fs.take (i + 1)) name = valsOf (fs.take i) name ++ (if p.1 = smallS name then [p.2] else []) := by
  unfold valsOf
  rw [List.take_add_one, h]
  by_cases e : p.1 = smallS name <;> simp [e]
theorem valsOf_len (fs : Fs) (name : List UInt8) : (valsOf fs name).length ≤ fs.length := by
  unfold valsOf
  rw [List.length_map]
  exact List.length_filter_le _ _
theorem prAV_row {fs : Fs} {i : Nat} {p : List UInt8 × List UInt8} (h : fs[i]? = some p) : (fs.map prAV)[((i : Nat) : Int).toNat]? = some [.str p.1, .str p.2] := by
  have : ((i : Nat) : Int).toNat = i := rfl
  rw [this, List.getElem?_map, h]
  rfl

theorem eqC_val (p q : List UInt8 × List UInt8) : eqC (List.take 2 [AV.str p.1, AV.str p.2]) (List.take 2 [AV.str q.1, AV.str q.2]) = decide (p = q) := by
  obtain ⟨p1, p2⟩ := p
  obtain ⟨q1, q2⟩ := q
  rw [Bool.eq_iff_iff]
  simp [eqC]
theorem eqC_pr (p q : List UInt8 × List UInt8) : (!eqC (List.take 2 [AV.str p.1, AV.str p.2]) (List.take 2 [AV.str q.1, AV.str q.2])) = true ↔ p ≠ q := by
  rw [eqC_val]; simp
theorem eqC_pr' (p q : List UInt8 × List UInt8) : (!eqC (List.take 2 [AV.str p.1, AV.str p.2]) (List.take 2 [AV.str q.1, AV.str q.2])) = false ↔ p = q := by
  rw [eqC_val]; simp

section
variable {w0 : World} {base : Nat}
set_option maxHeartbeats 4000000 in
theorem s_values {m t name : List UInt8} {v : Int} {fs : Fs} (hn : name.length ≤ 140737488351232) (hf : fs.length * 16 ≤ 140737488351232) : PCalls (EE w0 base) 34 [hdAV m t v fs, .str name] fun rv => rv = .rs (strAV (valsOf fs name)) := by
  refine acalls_of Tryz.func34 rfl rfl rfl (.cons (.cons .nil)) ?_
  have hlen : (fs.map prAV).length = fs.length := List.length_map _
  have hsm := s_small (w0 := w0) (base := base) hn
  repeat' (first|(refine k_al ?_;first|(refine al_v (ov_move rfl) rfl ?_)|(refine al_v (ov_fieldAddr rfl rfl) rfl ?_)|(refine k_load ?_;first|(refine al_v (ov_load rfl rfl) rfl ?_)|(refine al_v (ov_load_agg rfl rfl rfl) rfl ?_))|(refine k_bin ?_;first|(refine al_v (ov_cmp rfl rfl rfl) rfl ?_)|(refine al_v (ov_add rfl rfl (by (first|exact w64 (by omega) (by omega)|rfl))) rfl ?_)|(refine al_v (ov_seq rfl rfl) rfl ?_))|(refine al_v (ov_assign rfl) rfl ?_)|(refine k_call ?_;first|(refine al_v (ov_len_rs rfl) rfl ?_))|(refine al_nil ?_)|(refine al_box rfl rfl rfl (by first|exact ln0|exact ln2|exact ln3) (by repeat constructor) rfl ?_)|(refine al_alloc rfl rfl rfl (by first|exact ln0|exact ln2|exact ln3) (by repeat constructor) rfl ?_)|(refine al_store rfl rfl rfl rfl rfl (by repeat constructor) (by repeat constructor) ?_)|(refine al_buildSlice (by rfl) (by rfl) (by rfl) (by rfl) (by decide) (by decide) (by rfl) (by rfl) (by repeat constructor) (by rfl) (by repeat constructor) (by rfl) (by first|exact ln0|exact ln2|exact ln3) (by repeat constructor) rfl ?_))|(first|(refine thn_n ?_)|(refine k_awp ?_;first|(refine awp_seq (awp_region ?_))|(refine awp_seq ?_)|(refine awp_region ?_)|(refine k_cond ?_;first|(refine awp_cond_p rfl (fun hc => ?_) (fun hc => ?_) <;> (try (exfalso;omega))))|(refine awp_block ?_)|(refine awp_ret ?_)|(refine awp_skip ?_)|(refine awp_exit ?_))|(refine lq_exit ?_)|(refine thn_exit ?_)|(refine inb_n ?_)|(refine inb_here ?_)))
  refine awp_adopt 5 9 1 rfl (by decide) rfl (by repeat constructor) ?_
  refine awp_loopq (fun p : Nat × Nat × List (List AV) => ⟨[(1, .str name), (5, .os 1 p.2.1), (9, .rs (fs.map prAV)), (10, .int .i64 (fs.map prAV).length), (11, .int .i64 p.1)], [.box [.str m, .str t, .int .i64 v, .rs (fs.map prAV)], .row 9 1 p.2.1 0 p.2.2]⟩)
    (fun p => p.1 ≤ fs.length ∧ p.2.2 = strAV (valsOf (fs.take p.1) name)) (fun p => fs.length - p.1) (0, 0, []) (.of (.same (by repeat constructor))) ⟨Nat.zero_le _, rfl⟩ ?_
  rintro ⟨i, ver, xs⟩ ⟨hi, hx⟩
  dsimp only at hi hx ⊢
  subst hx
  have hvl := valsOf_len (fs.take i) name
  rw [List.length_take] at hvl
  have hsl : (strAV (valsOf (fs.take i) name)).length = (valsOf (fs.take i) name).length := List.length_map _
  by_cases hlt : i < fs.length
  · obtain ⟨p, hp⟩ : ∃ p, fs[i]? = some p := ⟨_, List.getElem?_eq_getElem hlt⟩
    have hrow := prAV_row hp
    have hnx := valsOf_next (name := name) hp
    repeat' (first|(first|(refine al_v (ov_indexAddr rfl rfl (by omega) hrow rfl) rfl ?_)|(refine ql_call rfl rfl rfl rfl hsm rfl ?_)|(refine k_call ?_;refine al_append rfl rfl (by repeat constructor) (src_os rfl rfl) rfl (by decide) (by simp only [hsl, List.length_cons, List.length_nil];omega) rfl ?_))|(refine k_al ?_;first|(refine al_v (ov_move rfl) rfl ?_)|(refine al_v (ov_fieldAddr rfl rfl) rfl ?_)|(refine k_load ?_;first|(refine al_v (ov_load rfl rfl) rfl ?_)|(refine al_v (ov_load_agg rfl rfl rfl) rfl ?_))|(refine k_bin ?_;first|(refine al_v (ov_cmp rfl rfl rfl) rfl ?_)|(refine al_v (ov_add rfl rfl (by (first|exact w64 (by omega) (by omega)|rfl))) rfl ?_)|(refine al_v (ov_seq rfl rfl) rfl ?_))|(refine al_v (ov_assign rfl) rfl ?_)|(refine k_call ?_;first|(refine al_v (ov_len_rs rfl) rfl ?_))|(refine al_nil ?_)|(refine al_box rfl rfl rfl (by first|exact ln0|exact ln2|exact ln3) (by repeat constructor) rfl ?_)|(refine al_alloc rfl rfl rfl (by first|exact ln0|exact ln2|exact ln3) (by repeat constructor) rfl ?_)|(refine al_store rfl rfl rfl rfl rfl (by repeat constructor) (by repeat constructor) ?_)|(refine al_buildSlice (by rfl) (by rfl) (by rfl) (by rfl) (by decide) (by decide) (by rfl) (by rfl) (by repeat constructor) (by rfl) (by repeat constructor) (by rfl) (by first|exact ln0|exact ln2|exact ln3) (by repeat constructor) rfl ?_))|(first|(refine thn_n ?_)|(refine k_awp ?_;first|(refine awp_seq (awp_region ?_))|(refine awp_seq ?_)|(refine awp_region ?_)|(refine k_cond ?_;first|(refine awp_cond_p rfl (fun hc => ?_) (fun hc => ?_) <;> (try (exfalso;omega))))|(refine awp_block ?_)|(refine awp_ret ?_)|(refine awp_skip ?_)|(refine awp_exit ?_))|(refine lq_exit ?_)|(refine thn_exit ?_)|(refine inb_n ?_)|(refine inb_here ?_))|(refine awp_draw (by kernel_rfl) (by kernel_rfl) ?_)|(first|(refine ql_v (ov_move rfl) rfl ?_)|(refine ql_v (ov_assign rfl) rfl ?_)|(refine ql_v (ov_fieldAddr rfl rfl) rfl ?_)|(refine ql_v (ov_load rfl rfl) rfl ?_)|(refine ql_v (ov_load_agg rfl rfl rfl) rfl ?_)|(refine ql_v (ov_cmp rfl rfl rfl) rfl ?_)|(refine ql_v (ov_len_rs rfl) rfl ?_)|(refine ql_v (ov_seq rfl rfl) rfl ?_)|(refine ql_v (ov_add rfl rfl (by (first|exact w64 (by omega) (by omega)|rfl))) rfl ?_)|(refine ql_nil ?_)))
    · rw [if_pos ‹_›] at hnx
      first|refine lq_back (i + 1, ver + 1, _) (.of (.same (by repeat constructor))) ?_ ?_|refine lq_back (i + 1, ver + 1, _) (.of (wk_drop [_] rfl (by repeat constructor) rfl (by repeat constructor) rfl)) ?_ ?_|refine lq_back (i + 1, ver + 1, _) (.of (wk_drop [_, _] rfl (by repeat constructor) rfl (by repeat constructor) rfl)) ?_ ?_|refine lq_back (i + 1, ver + 1, _) (.of (wk_drop [_, _, _] rfl (by repeat constructor) rfl (by repeat constructor) rfl)) ?_ ?_
      · refine ⟨by dsimp only; omega, ?_⟩
        dsimp only
        rw [hnx]
        simp [strAV]
      · dsimp only; omega
    · rw [if_neg ‹_›, List.append_nil] at hnx
      rw [← hnx]
      first|refine lq_back (i + 1, ver, _) (.of (.same (by repeat constructor))) ?_ ?_|refine lq_back (i + 1, ver, _) (.of (wk_drop [_] rfl (by repeat constructor) rfl (by repeat constructor) rfl)) ?_ ?_|refine lq_back (i + 1, ver, _) (.of (wk_drop [_, _] rfl (by repeat constructor) rfl (by repeat constructor) rfl)) ?_ ?_|refine lq_back (i + 1, ver, _) (.of (wk_drop [_, _, _] rfl (by repeat constructor) rfl (by repeat constructor) rfl)) ?_ ?_
      · exact ⟨by dsimp only; omega, rfl⟩
      · dsimp only; omega
  · have hie : i = fs.length := by omega
    subst hie
    rw [List.take_length]
    repeat' (first|(refine k_al ?_;first|(refine al_v (ov_move rfl) rfl ?_)|(refine al_v (ov_fieldAddr rfl rfl) rfl ?_)|(refine k_load ?_;first|(refine al_v (ov_load rfl rfl) rfl ?_)|(refine al_v (ov_load_agg rfl rfl rfl) rfl ?_))|(refine k_bin ?_;first|(refine al_v (ov_cmp rfl rfl rfl) rfl ?_)|(refine al_v (ov_add rfl rfl (by (first|exact w64 (by omega) (by omega)|rfl))) rfl ?_)|(refine al_v (ov_seq rfl rfl) rfl ?_))|(refine al_v (ov_assign rfl) rfl ?_)|(refine k_call ?_;first|(refine al_v (ov_len_rs rfl) rfl ?_))|(refine al_nil ?_)|(refine al_box rfl rfl rfl (by first|exact ln0|exact ln2|exact ln3) (by repeat constructor) rfl ?_)|(refine al_alloc rfl rfl rfl (by first|exact ln0|exact ln2|exact ln3) (by repeat constructor) rfl ?_)|(refine al_store rfl rfl rfl rfl rfl (by repeat constructor) (by repeat constructor) ?_)|(refine al_buildSlice (by rfl) (by rfl) (by rfl) (by rfl) (by decide) (by decide) (by rfl) (by rfl) (by repeat constructor) (by rfl) (by repeat constructor) (by rfl) (by first|exact ln0|exact ln2|exact ln3) (by repeat constructor) rfl ?_))|(first|(refine thn_n ?_)|(refine k_awp ?_;first|(refine awp_seq (awp_region ?_))|(refine awp_seq ?_)|(refine awp_region ?_)|(refine k_cond ?_;first|(refine awp_cond_p rfl (fun hc => ?_) (fun hc => ?_) <;> (try (exfalso;omega))))|(refine awp_block ?_)|(refine awp_ret ?_)|(refine awp_skip ?_)|(refine awp_exit ?_))|(refine lq_exit ?_)|(refine thn_exit ?_)|(refine inb_n ?_)|(refine inb_here ?_)))
    refine retq_wkn (.freeze 4 rfl (by repeat constructor)) ?_
    refine ret1 (by first | exact .inr rfl | exact .inl rfl) rfl rfl ?_
    exact ⟨rfl, rfl⟩
set_option maxHeartbeats 4000000 in
theorem s_valuesR {m t name : List UInt8} {v : Int} {fs : Fs} (hn : name.length ≤ 140737488351232) (hf : fs.length * 16 ≤ 140737488351232) : PCalls (EE w0 base) 41 [hdAV m t v fs, .str name] fun rv => rv = .rs (strAV (valsOf fs name)) := by
  refine acalls_of Tryz.func41 rfl rfl rfl (.cons (.cons .nil)) ?_
  have hlen : (fs.map prAV).length = fs.length := List.length_map _
  have hsm := s_smallR (w0 := w0) (base := base) hn
  repeat' (first|(refine k_al ?_;first|(refine al_v (ov_move rfl) rfl ?_)|(refine al_v (ov_fieldAddr rfl rfl) rfl ?_)|(refine k_load ?_;first|(refine al_v (ov_load rfl rfl) rfl ?_))|(refine k_bin ?_;first|(refine al_v (ov_cmp rfl rfl rfl) rfl ?_)|(refine al_v (ov_add rfl rfl (by (first|exact w64 (by omega) (by omega)|rfl))) rfl ?_)|(refine al_v (ov_seq rfl rfl) rfl ?_))|(refine al_v (ov_assign rfl) rfl ?_)|(refine k_call ?_;first|(refine al_v (ov_len_rs rfl) rfl ?_))|(refine al_nil ?_)|(refine al_box rfl rfl rfl (by first|exact ln0|exact ln2) (by repeat constructor) rfl ?_)|(refine al_buildSlice (by rfl) (by rfl) (by rfl) (by rfl) (by decide) (by decide) (by rfl) (by rfl) (by repeat constructor) (by rfl) (by repeat constructor) (by rfl) (by first|exact ln0|exact ln2) (by repeat constructor) rfl ?_))|(first|(refine thn_n ?_)|(refine k_awp ?_;first|(refine awp_seq (awp_region ?_))|(refine awp_seq ?_)|(refine awp_region ?_)|(refine k_cond ?_;first|(refine awp_cond_p rfl (fun hc => ?_) (fun hc => ?_) <;> (try (exfalso;omega))))|(refine awp_block ?_)|(refine awp_ret ?_)|(refine awp_skip ?_)|(refine awp_exit ?_))|(refine lq_exit ?_)|(refine thn_exit ?_)|(refine inb_n ?_)|(refine inb_here ?_)))
  refine awp_adopt 5 9 1 rfl (by decide) rfl (by repeat constructor) ?_
  refine awp_loopq (fun p : Nat × Nat × List (List AV) => ⟨[(1, .str name), (2, .op 0 0), (5, .os 1 p.2.1), (6, .int .i64 p.1)], [.box [.str m, .str t, .int .i64 v, .rs (fs.map prAV)], .row 9 1 p.2.1 0 p.2.2]⟩)
    (fun p => p.1 ≤ fs.length ∧ p.2.2 = strAV (valsOf (fs.take p.1) name)) (fun p => fs.length - p.1) (0, 0, []) (.of (.same (by repeat constructor))) ⟨Nat.zero_le _, rfl⟩ ?_
  rintro ⟨i, ver, xs⟩ ⟨hi, hx⟩
  dsimp only at hi hx ⊢
  subst hx
  have hvl := valsOf_len (fs.take i) name
  rw [List.length_take] at hvl
  have hsl : (strAV (valsOf (fs.take i) name)).length = (valsOf (fs.take i) name).length := List.length_map _
  by_cases hlt : i < fs.length
  · obtain ⟨p, hp⟩ : ∃ p, fs[i]? = some p := ⟨_, List.getElem?_eq_getElem hlt⟩
    have hrow := prAV_row hp
    have hnx := valsOf_next (name := name) hp
    repeat' (first|(first|(refine al_v (ov_indexAddr rfl rfl (by omega) hrow rfl) rfl ?_)|(refine ql_v (ov_indexAddr rfl rfl (by omega) hrow rfl) rfl ?_)|(refine ql_call rfl rfl rfl rfl hsm rfl ?_)|(refine k_call ?_;refine al_append rfl rfl (by repeat constructor) (src_os rfl rfl) rfl (by decide) (by simp only [hsl, List.length_cons, List.length_nil];omega) rfl ?_))|(refine k_al ?_;first|(refine al_v (ov_move rfl) rfl ?_)|(refine al_v (ov_fieldAddr rfl rfl) rfl ?_)|(refine k_load ?_;first|(refine al_v (ov_load rfl rfl) rfl ?_))|(refine k_bin ?_;first|(refine al_v (ov_cmp rfl rfl rfl) rfl ?_)|(refine al_v (ov_add rfl rfl (by (first|exact w64 (by omega) (by omega)|rfl))) rfl ?_)|(refine al_v (ov_seq rfl rfl) rfl ?_))|(refine al_v (ov_assign rfl) rfl ?_)|(refine k_call ?_;first|(refine al_v (ov_len_rs rfl) rfl ?_))|(refine al_nil ?_)|(refine al_box rfl rfl rfl (by first|exact ln0|exact ln2) (by repeat constructor) rfl ?_)|(refine al_buildSlice (by rfl) (by rfl) (by rfl) (by rfl) (by decide) (by decide) (by rfl) (by rfl) (by repeat constructor) (by rfl) (by repeat constructor) (by rfl) (by first|exact ln0|exact ln2) (by repeat constructor) rfl ?_))|(first|(refine thn_n ?_)|(refine k_awp ?_;first|(refine awp_seq (awp_region ?_))|(refine awp_seq ?_)|(refine awp_region ?_)|(refine k_cond ?_;first|(refine awp_cond_p rfl (fun hc => ?_) (fun hc => ?_) <;> (try (exfalso;omega))))|(refine awp_block ?_)|(refine awp_ret ?_)|(refine awp_skip ?_)|(refine awp_exit ?_))|(refine lq_exit ?_)|(refine thn_exit ?_)|(refine inb_n ?_)|(refine inb_here ?_))|(refine awp_draw (by kernel_rfl) (by kernel_rfl) ?_)|(first|(refine ql_v (ov_move rfl) rfl ?_)|(refine ql_v (ov_assign rfl) rfl ?_)|(refine ql_v (ov_fieldAddr rfl rfl) rfl ?_)|(refine ql_v (ov_load rfl rfl) rfl ?_)|(refine ql_v (ov_cmp rfl rfl rfl) rfl ?_)|(refine ql_v (ov_len_rs rfl) rfl ?_)|(refine ql_v (ov_seq rfl rfl) rfl ?_)|(refine ql_v (ov_add rfl rfl (by (first|exact w64 (by omega) (by omega)|rfl))) rfl ?_)|(refine ql_nil ?_)))
    · rw [if_pos ‹_›] at hnx
      first|refine lq_back (i + 1, ver + 1, _) (.of (.same (by repeat constructor))) ?_ ?_|refine lq_back (i + 1, ver + 1, _) (.of (wk_drop [_] rfl (by repeat constructor) rfl (by repeat constructor) rfl)) ?_ ?_|refine lq_back (i + 1, ver + 1, _) (.of (wk_drop [_, _] rfl (by repeat constructor) rfl (by repeat constructor) rfl)) ?_ ?_|refine lq_back (i + 1, ver + 1, _) (.of (wk_drop [_, _, _] rfl (by repeat constructor) rfl (by repeat constructor) rfl)) ?_ ?_
      · refine ⟨by dsimp only; omega, ?_⟩
        dsimp only
        rw [hnx]
        simp [strAV]
      · dsimp only; omega
    · rw [if_neg ‹_›, List.append_nil] at hnx
      rw [← hnx]
      first|refine lq_back (i + 1, ver, _) (.of (.same (by repeat constructor))) ?_ ?_|refine lq_back (i + 1, ver, _) (.of (wk_drop [_] rfl (by repeat constructor) rfl (by repeat constructor) rfl)) ?_ ?_|refine lq_back (i + 1, ver, _) (.of (wk_drop [_, _] rfl (by repeat constructor) rfl (by repeat constructor) rfl)) ?_ ?_|refine lq_back (i + 1, ver, _) (.of (wk_drop [_, _, _] rfl (by repeat constructor) rfl (by repeat constructor) rfl)) ?_ ?_
      · exact ⟨by dsimp only; omega, rfl⟩
      · dsimp only; omega
  · have hie : i = fs.length := by omega
    subst hie
    rw [List.take_length]
    repeat' (first|(refine k_al ?_;first|(refine al_v (ov_move rfl) rfl ?_)|(refine al_v (ov_fieldAddr rfl rfl) rfl ?_)|(refine k_load ?_;first|(refine al_v (ov_load rfl rfl) rfl ?_))|(refine k_bin ?_;first|(refine al_v (ov_cmp rfl rfl rfl) rfl ?_)|(refine al_v (ov_add rfl rfl (by (first|exact w64 (by omega) (by omega)|rfl))) rfl ?_)|(refine al_v (ov_seq rfl rfl) rfl ?_))|(refine al_v (ov_assign rfl) rfl ?_)|(refine k_call ?_;first|(refine al_v (ov_len_rs rfl) rfl ?_))|(refine al_nil ?_)|(refine al_box rfl rfl rfl (by first|exact ln0|exact ln2) (by repeat constructor) rfl ?_)|(refine al_buildSlice (by rfl) (by rfl) (by rfl) (by rfl) (by decide) (by decide) (by rfl) (by rfl) (by repeat constructor) (by rfl) (by repeat constructor) (by rfl) (by first|exact ln0|exact ln2) (by repeat constructor) rfl ?_))|(first|(refine thn_n ?_)|(refine k_awp ?_;first|(refine awp_seq (awp_region ?_))|(refine awp_seq ?_)|(refine awp_region ?_)|(refine k_cond ?_;first|(refine awp_cond_p rfl (fun hc => ?_) (fun hc => ?_) <;> (try (exfalso;omega))))|(refine awp_block ?_)|(refine awp_ret ?_)|(refine awp_skip ?_)|(refine awp_exit ?_))|(refine lq_exit ?_)|(refine thn_exit ?_)|(refine inb_n ?_)|(refine inb_here ?_)))
    refine retq_wkn (.freeze 4 rfl (by repeat constructor)) ?_
    refine ret1 (by first | exact .inr rfl | exact .inl rfl) rfl rfl ?_
    exact ⟨rfl, rfl⟩
def hostS : List UInt8 := [104, 111, 115, 116]
def nHost (fs : Fs) : Nat := (valsOf fs hostS).length
theorem s_hosts {m t : List UInt8} {v : Int} {fs : Fs} (hf : fs.length * 16 ≤ 140737488351232) : PCalls (EE w0 base) 88 [hdAV m t v fs] fun rv => rv = .bool (decide (nHost fs = 1 ∨ nHost fs = 0 ∧ v = 0)) := by
  refine acalls_of Tryz.func88 rfl rfl rfl (.cons .nil) ?_
  have hv := s_valuesR (w0 := w0) (base := base) (m := m) (t := t) (v := v) (name := hostS) (by decide) hf
  have hvl := valsOf_len fs hostS
  have hsl : (strAV (valsOf fs hostS)).length = nHost fs := List.length_map _
  repeat' (first|((refine k_call ?_;refine al_call rfl rfl rfl rfl hv ?_;rintro _ rfl))|(refine k_al ?_;first|(refine al_v (ov_move rfl) rfl ?_)|(refine k_g ?_;first|(refine al_gy' rfl rfl (by with_reducible rfl) ?_)|(refine al_gnt rfl rfl (by with_reducible rfl) rfl ?_)|(refine al_gnf rfl rfl (by with_reducible rfl) rfl ?_)|(refine al_gu rfl rfl rfl ?_)|(refine al_gsp rfl rfl (fun hc => ?_) (fun hc => ?_) <;> (try (exfalso;omega))))|(refine al_v (ov_fieldAddr rfl rfl) rfl ?_)|(refine k_load ?_;first|(refine al_v (ov_load rfl rfl) rfl ?_)|(refine al_v (ov_load_agg rfl rfl rfl) rfl ?_))|(refine k_bin ?_;first|(refine al_v (ov_cmp rfl rfl rfl) rfl ?_))|(refine k_pick ?_;first|(refine al_v (ov_pick_t' rfl (by with_reducible rfl) rfl) rfl ?_)|(refine al_v (ov_pick_f' rfl (by with_reducible rfl) rfl) rfl ?_))|(refine al_v (ov_assign rfl) rfl ?_)|(refine k_call ?_;first|(refine al_v (ov_len_rs rfl) rfl ?_))|(refine al_nil ?_)|(refine al_box rfl rfl rfl (by first|exact ln0) (by repeat constructor) rfl ?_))|(first|(refine thn_n ?_)|(refine k_awp ?_;first|(refine awp_seq (awp_region ?_))|(refine awp_seq ?_)|(refine awp_region ?_)|(refine awp_ret ?_))))
  all_goals
    refine ret1 (by first | exact .inr rfl | exact .inl rfl) rfl rfl ?_
    refine ⟨congrArg AV.bool ?_, rfl⟩
    rw [Bool.eq_iff_iff]
    simp only [decide_eq_true_eq, hsl, true_iff, false_iff, Bool.false_eq_true]
    omega
theorem s_sameF {f g : Fs} (hf : f.length * 16 ≤ 140737488351232) (hg : g.length * 16 ≤ 140737488351232) : PCalls (EE w0 base) 53 [.rs (f.map prAV), .rs (g.map prAV)] fun rv => rv = .bool (decide (f = g)) := by
  refine acalls_of Tryz.func53 rfl rfl rfl (.cons (.cons .nil)) ?_
  have hlf : (f.map prAV).length = f.length := List.length_map _
  have hlg : (g.map prAV).length = g.length := List.length_map _
  repeat' (first|(refine k_al ?_;first|(refine al_v (ov_move rfl) rfl ?_)|(refine k_bin ?_;first|(refine al_v (ov_cmp rfl rfl rfl) rfl ?_)|(refine al_v (ov_add rfl rfl (by (first|exact w64 (by omega) (by omega)|rfl))) rfl ?_)|(refine al_v (ov_ane rfl rfl (by repeat constructor) (by repeat constructor)) rfl ?_))|(refine al_v (ov_assign rfl) rfl ?_)|(refine k_call ?_;first|(refine al_v (ov_len_rs rfl) rfl ?_))|(refine al_nil ?_))|(first|(refine thn_n ?_)|(refine k_awp ?_;first|(refine awp_seq (awp_region ?_))|(refine awp_seq ?_)|(refine awp_region ?_)|(refine k_cond ?_;first|(refine awp_cond_p rfl (fun hc => ?_) (fun hc => ?_) <;> (try (exfalso;omega)))|(refine awp_cond_b rfl (fun hc => ?_) (fun hc => ?_) <;> (try (exact absurd hc (by decide)))))|(refine awp_block ?_)|(refine awp_ret ?_)|(refine awp_skip ?_)|(refine awp_exit ?_))|(refine thn_ret ?_)|(refine lq_exit ?_)|(refine lq_ret ?_)|(refine thn_exit ?_)|(refine inb_n ?_)|(refine inb_ret ?_)|(refine inb_here ?_)))
  · refine ret1 (by first | exact .inr rfl | exact .inl rfl) rfl rfl ?_
    rw [decide_eq_false (fun e => by subst e; omega)]
    exact ⟨rfl, rfl⟩
  refine awp_loopq (fun k : Nat => ⟨[(0, .rs (f.map prAV)), (1, .rs (g.map prAV)), (5, .int .i64 k)], []⟩) (fun k => k ≤ f.length ∧ f.take k = g.take k) (fun k => f.length - k) 0 (.of (.same (by repeat constructor))) ⟨Nat.zero_le _, rfl⟩ ?_
  rintro i ⟨hi, he⟩
  try dsimp only
  by_cases hlt : i < f.length
  · obtain ⟨p, hp⟩ : ∃ p, f[i]? = some p := ⟨_, List.getElem?_eq_getElem hlt⟩
    obtain ⟨q, hq⟩ : ∃ q, g[i]? = some q := ⟨_, List.getElem?_eq_getElem (by omega)⟩
    have r1 := prAV_row hp
    have r2 := prAV_row hq
    repeat' (first|(first|(refine ql_v (ov_indexAddr rfl rfl (by omega) r1 rfl) rfl ?_)|(refine ql_v (ov_indexAddr rfl rfl (by omega) r2 rfl) rfl ?_))|(refine k_al ?_;first|(refine al_v (ov_move rfl) rfl ?_)|(refine k_bin ?_;first|(refine al_v (ov_cmp rfl rfl rfl) rfl ?_)|(refine al_v (ov_add rfl rfl (by (first|exact w64 (by omega) (by omega)|rfl))) rfl ?_)|(refine al_v (ov_ane rfl rfl (by repeat constructor) (by repeat constructor)) rfl ?_))|(refine al_v (ov_assign rfl) rfl ?_)|(refine k_call ?_;first|(refine al_v (ov_len_rs rfl) rfl ?_))|(refine al_nil ?_))|(first|(refine thn_n ?_)|(refine k_awp ?_;first|(refine awp_seq (awp_region ?_))|(refine awp_seq ?_)|(refine awp_region ?_)|(refine k_cond ?_;first|(refine awp_cond_p rfl (fun hc => ?_) (fun hc => ?_) <;> (try (exfalso;omega)))|(refine awp_cond_b rfl (fun hc => ?_) (fun hc => ?_) <;> (try (exact absurd hc (by decide)))))|(refine awp_block ?_)|(refine awp_ret ?_)|(refine awp_skip ?_)|(refine awp_exit ?_))|(refine thn_ret ?_)|(refine lq_exit ?_)|(refine lq_ret ?_)|(refine thn_exit ?_)|(refine inb_n ?_)|(refine inb_ret ?_)|(refine inb_here ?_))|(refine awp_draw (by kernel_rfl) (by kernel_rfl) ?_)|(first|(refine ql_v (ov_move rfl) rfl ?_)|(refine ql_v (ov_assign rfl) rfl ?_)|(refine ql_v (ov_load_agg rfl rfl rfl) rfl ?_)|(refine ql_v (ov_cmp rfl rfl rfl) rfl ?_)|(refine ql_v (ov_len_rs rfl) rfl ?_)|(refine ql_v (ov_ane rfl rfl (by repeat constructor) (by repeat constructor)) rfl ?_)|(refine ql_v (ov_add rfl rfl (by (first|exact w64 (by omega) (by omega)|rfl))) rfl ?_)|(refine ql_nil ?_)))
    · have hne : p ≠ q := (eqC_pr p q).1 ‹_›
      refine ret1 (by first | exact .inr rfl | exact .inl rfl) rfl rfl ?_
      rw [decide_eq_false (fun e => by subst e; rw [hp] at hq; injection hq with hq; exact hne hq)]
      exact ⟨rfl, rfl⟩
    · have hpq : p = q := (eqC_pr' p q).1 ‹_›
      first | refine lq_back (i + 1) (.of (.same (by repeat constructor))) ?_ ?_ | fail
      · refine ⟨by omega, ?_⟩
        rw [List.take_add_one, List.take_add_one, hp, hq, he, hpq]
      · omega
  · repeat' (first|(refine k_al ?_;first|(refine al_v (ov_move rfl) rfl ?_)|(refine k_bin ?_;first|(refine al_v (ov_cmp rfl rfl rfl) rfl ?_)|(refine al_v (ov_add rfl rfl (by (first|exact w64 (by omega) (by omega)|rfl))) rfl ?_)|(refine al_v (ov_ane rfl rfl (by repeat constructor) (by repeat constructor)) rfl ?_))|(refine al_v (ov_assign rfl) rfl ?_)|(refine k_call ?_;first|(refine al_v (ov_len_rs rfl) rfl ?_))|(refine al_nil ?_))|(first|(refine thn_n ?_)|(refine k_awp ?_;first|(refine awp_seq (awp_region ?_))|(refine awp_seq ?_)|(refine awp_region ?_)|(refine k_cond ?_;first|(refine awp_cond_p rfl (fun hc => ?_) (fun hc => ?_) <;> (try (exfalso;omega)))|(refine awp_cond_b rfl (fun hc => ?_) (fun hc => ?_) <;> (try (exact absurd hc (by decide)))))|(refine awp_block ?_)|(refine awp_ret ?_)|(refine awp_skip ?_)|(refine awp_exit ?_))|(refine thn_ret ?_)|(refine lq_exit ?_)|(refine lq_ret ?_)|(refine thn_exit ?_)|(refine inb_n ?_)|(refine inb_ret ?_)|(refine inb_here ?_)))
    refine ret1 (by first | exact .inr rfl | exact .inl rfl) rfl rfl ?_
    rw [List.take_of_length_le (by omega), List.take_of_length_le (by omega)] at he
    rw [decide_eq_true he]
    exact ⟨rfl, rfl⟩
theorem s_same {m t m' t' : List UInt8} {v v' : Int} {f g : Fs} (hf : f.length * 16 ≤ 140737488351232) (hg : g.length * 16 ≤ 140737488351232) : PCalls (EE w0 base) 26 [hdAV m t v f, hdAV m' t' v' g] fun rv => rv = .bool (decide (m = m' ∧ t = t' ∧ v = v' ∧ f = g)) := by
  refine acalls_of Tryz.func26 rfl rfl rfl (.cons (.cons .nil)) ?_
  have hs := s_sameF (w0 := w0) (base := base) hf hg
  repeat' (first|((refine k_call ?_;refine al_call rfl rfl rfl rfl hs ?_;rintro _ rfl))|(refine k_al ?_;first|(refine al_v (ov_move rfl) rfl ?_)|(refine k_g ?_;first|(refine al_gy' rfl rfl (by with_reducible rfl) ?_)|(refine al_gnt rfl rfl (by with_reducible rfl) rfl ?_)|(refine al_gsp rfl rfl (fun hc => ?_) (fun hc => ?_) <;> (try (exfalso;omega))))|(refine al_v (ov_fieldAddr rfl rfl) rfl ?_)|(refine k_load ?_;first|(refine al_v (ov_load rfl rfl) rfl ?_))|(refine k_bin ?_;first|(refine al_v (ov_cmp rfl rfl rfl) rfl ?_)|(refine al_v (ov_seq rfl rfl) rfl ?_))|(refine k_pick ?_;first|(refine al_v (ov_pick_t' rfl (by with_reducible rfl) rfl) rfl ?_)|(refine al_v (ov_pick_f' rfl (by with_reducible rfl) rfl) rfl ?_))|(refine al_v (ov_assign rfl) rfl ?_)|(refine al_nil ?_)|(refine al_box rfl rfl rfl (by first|exact ln0|exact ln1) (by repeat constructor) rfl ?_))|(first|(refine thn_n ?_)|(refine k_awp ?_;first|(refine awp_seq (awp_region ?_))|(refine awp_seq ?_)|(refine awp_region ?_)|(refine awp_ret ?_))))
  all_goals
    refine ret1 (by first | exact .inr rfl | exact .inl rfl) rfl rfl ?_
    refine ⟨congrArg AV.bool ?_, rfl⟩
    simp [*]
end
end Go.Proofs.YtffcgpkbibijpaaGreatDoor.L

namespace Go.Proofs.YtffcgpkbibijpaaGreatDoor.L
open Go Go.RowKit Go.Proofs
set_option linter.unusedVariables false
set_option linter.unusedSimpArgs false
set_option maxRecDepth 100000
attribute [local irreducible] AL QL AWp Thn InB RetQ ACalls LoopQ HL HO HW HQ NoG

def hd0 : Hd := ⟨[], [], 0, []⟩
def hostsOk (h : Hd) : Prop := nHost h.fs = 1 ∨ nHost h.fs = 0 ∧ h.v = 0
instance (h : Hd) : Decidable (hostsOk h) := by unfold hostsOk; infer_instance
def lineAt (s : List UInt8) (at' : Nat) : List UInt8 × List UInt8 × Bool := Lib.cut (s.drop at') [13, 10]
def pGo (s : List UInt8) : Nat → Nat → Option Hd → Hd × Int × Int
  | 0, _, _ => (hd0, 0, 0)
  | f + 1, at', oh =>
    if 1024 < (lineAt s at').1.length then (hd0, 431, at')
    else if (lineAt s at').2.2 = false ∨ hasBr (lineAt s at').1 then (hd0, 400, at')
    else match oh with
      | none => if reqSt (lineAt s at').1 = 0 then pGo s f (at' + (lineAt s at').1.length + 2) (some ⟨rM (lineAt s at').1, rT (lineAt s at').1, reqV (lineAt s at').1, []⟩) else (hd0, reqSt (lineAt s at').1, at')
      | some h => if (lineAt s at').1 = [] then (if (lineAt s at').2.1 ≠ [] then (hd0, 400, s.length) else if hostsOk h then (h, 0, 0) else (hd0, 400, 0))
        else if h.fs.length = 32 then (hd0, 431, at')
        else if fieldOk (lineAt s at').1 then pGo s f (at' + (lineAt s at').1.length + 2) (some ⟨h.m, h.t, h.v, h.fs ++ [fieldOf (lineAt s at').1]⟩) else (hd0, 400, at')
theorem pGo_succ (s : List UInt8) (f at' : Nat) (o : Option Hd) : pGo s (f + 1) at' o = if 1024 < (lineAt s at').1.length then (hd0, 431, (at' : Int))
    else if (lineAt s at').2.2 = false ∨ hasBr (lineAt s at').1 then (hd0, 400, (at' : Int))
    else match o with
      | none => if reqSt (lineAt s at').1 = 0 then pGo s f (at' + (lineAt s at').1.length + 2) (some ⟨rM (lineAt s at').1, rT (lineAt s at').1, reqV (lineAt s at').1, []⟩) else (hd0, reqSt (lineAt s at').1, (at' : Int))
      | some h => if (lineAt s at').1 = [] then (if (lineAt s at').2.1 ≠ [] then (hd0, 400, (s.length : Int)) else if hostsOk h then (h, 0, 0) else (hd0, 400, 0))
        else if h.fs.length = 32 then (hd0, 431, (at' : Int))
        else if fieldOk (lineAt s at').1 then pGo s f (at' + (lineAt s at').1.length + 2) (some ⟨h.m, h.t, h.v, h.fs ++ [fieldOf (lineAt s at').1]⟩) else (hd0, 400, (at' : Int)) := by
  cases o <;> rfl
def headParse (s : List UInt8) : Hd × Int × Int := if 4096 < s.length then (hd0, 431, 0) else pGo s (s.length + 1) 0 none
def oh (first : Bool) (h : Hd) : Option Hd := if first then none else some h
/-- Where a round stands. -/
structure PInv (s : List UInt8) (at' : Nat) (first : Bool) (h : Hd) : Prop where
  le : at' ≤ s.length
  eq : ∃ f, s.length + 1 - at' ≤ f ∧ headParse s = pGo s f at' (oh first h)
  z : first = true → h = hd0
  v : h.v = 0 ∨ h.v = 1
  n : h.fs.length ≤ 32
theorem cut_room {l p : List UInt8} (h : (Lib.cut l p).2.2 = true) : (Lib.cut l p).1.length + p.length + (Lib.cut l p).2.1.length = l.length := by
  unfold Lib.cut at h ⊢
  split at h
  · rename_i hi
    rw [if_pos hi]
    have := Lib.index_room l p hi
    simp
    omega
  · cases h
theorem cut_not {l p : List UInt8} (h : (Lib.cut l p).2.2 = false) : (Lib.cut l p).1 = l ∧ (Lib.cut l p).2.1 = [] := by
  unfold Lib.cut at h ⊢
  split at h
  · cases h
  · rename_i hi
    rw [if_neg hi]
    exact ⟨rfl, rfl⟩
theorem req_minor {l : List UInt8} (h : reqSt l = 0) : reqV l = 0 ∨ reqV l = 1 := by
  unfold reqSt stR at h
  split at h
  · rename_i hg
    split at h
    · cases h
    · rename_i hv
      have hl := ver_len hg.2.2.2.2.2.2
      have e : byteAt (rV l) 7 = ((((rV l).drop 5).getD 2 0).toNat : Int) := by
        unfold byteAt
        rw [List.getD_eq_getElem?_getD, List.getD_eq_getElem?_getD, List.getElem?_drop]
        rfl
      unfold reqV
      rw [e]
      by_cases h0 : (rV l).drop 5 = [49, 46, 48]
      · rw [h0]; exact .inl rfl
      · by_cases h1 : (rV l).drop 5 = [49, 46, 49]
        · rw [h1]; exact .inr rfl
        · exact absurd ⟨h0, h1⟩ hv
  · cases h

section
variable {E : Env} {sl : Slots} {H : List AO}
theorem ov_len_k {t e : Nat} {n b : Nat} {z : Value} [ti : TI E.P t (.slice e) n b z] {x : Operand} {xs : List (List AV)} (k : Nat) (hx : ev sl x = some (.rs xs)) (hk : xs.length = k) : OV E sl H (.call { callee := .builtin .len, args := #[x], argTypes := #[t] }) (.int .i64 (k : Int)) := by
  subst hk
  exact ov_len_rs hx
end

section
variable {w0 : World} {base : Nat}
abbrev nxAV : Bool → AV
  | true => .rs [[.fn 75 []], [.fn 76 []]]
  | false => .rs [[.fn 76 []]]
abbrev prR (s : List UInt8) (rv : AV) : Prop := rv = .tup [hdAV (headParse s).1.m (headParse s).1.t (headParse s).1.v (headParse s).1.fs, .int .i64 (headParse s).2.1, .int .i64 (headParse s).2.2]
theorem line_facts {s : List UInt8} {at' : Nat} {line rest : List UInt8} {ended : Bool} (h : lineAt s at' = (line, rest, ended)) (ha : at' ≤ s.length) : line.length ≤ s.length - at' ∧ (ended = true → line.length + 2 + rest.length = s.length - at') := by
  unfold lineAt at h
  have hd : (s.drop at').length = s.length - at' := List.length_drop
  constructor
  · have h1 : (Lib.cut (s.drop at') [13, 10]).1 = line := by rw [h]
    have : (Lib.cut (s.drop at') [13, 10]).1.length ≤ (s.drop at').length := by
      unfold Lib.cut
      split
      · simp
        omega
      · exact Nat.le_refl _
    rw [h1] at this
    omega
  · intro he
    have := cut_room (l := s.drop at') (p := [13, 10]) (by rw [h]; exact he)
    rw [h] at this
    simp only [List.length_cons, List.length_nil] at this
    omega
/-- What a round does. -/
theorem pInv_step {s : List UInt8} {at' : Nat} {first : Bool} {h : Hd} {line rest : List UInt8} {ended : Bool} (hp : PInv s at' first h) (hl : lineAt s at' = (line, rest, ended)) :
    ∃ f, s.length - at' ≤ f ∧ headParse s = if 1024 < line.length then (hd0, 431, (at' : Int))
    else if ended = false ∨ hasBr line then (hd0, 400, (at' : Int))
    else match oh first h with
      | none => if reqSt line = 0 then pGo s f (at' + line.length + 2) (some ⟨rM line, rT line, reqV line, []⟩) else (hd0, reqSt line, (at' : Int))
      | some h => if line = [] then (if rest ≠ [] then (hd0, 400, (s.length : Int)) else if hostsOk h then (h, 0, 0) else (hd0, 400, 0))
        else if h.fs.length = 32 then (hd0, 431, (at' : Int))
        else if fieldOk line then pGo s f (at' + line.length + 2) (some ⟨h.m, h.t, h.v, h.fs ++ [fieldOf line]⟩) else (hd0, 400, (at' : Int)) := by
  obtain ⟨f, hf, he⟩ := hp.eq
  obtain ⟨f', rfl⟩ : ∃ f', f = f' + 1 := ⟨f - 1, by have := hp.le; omega⟩
  refine ⟨f', by omega, ?_⟩
  rw [he]
  show pGo s (f' + 1) at' (oh first h) = _
  rw [pGo_succ, hl]
set_option maxHeartbeats 8000000 in
theorem s_parse {s : List UInt8} (hG : Glob w0 base) : PCalls (EE w0 base) 47 [.str s] (prR s) := by
  refine acalls_of Tryz.func47 rfl rfl rfl (.cons .nil) ?_
  repeat' (first|(refine k_al ?_;first|(refine al_v (ov_move rfl) rfl ?_)|(refine k_g ?_;first|(refine al_gy' rfl rfl (by with_reducible rfl) ?_)|(refine al_gnt rfl rfl (by with_reducible rfl) rfl ?_)|(refine al_gnf rfl rfl (by with_reducible rfl) rfl ?_)|(refine al_gu rfl rfl rfl ?_)|(refine al_gsp rfl rfl (fun hc => ?_) (fun hc => ?_) <;> (try (exfalso;omega)))|(refine al_gsb rfl rfl (fun hc => ?_) (fun hc => ?_) <;> (try (exact absurd hc (by decide)))))|(refine al_v (ov_fieldAddr rfl rfl) rfl ?_)|(refine k_load ?_;first|(refine al_v (ov_load rfl rfl) rfl ?_)|(refine al_v (ov_load_agg rfl rfl rfl) rfl ?_))|(refine k_bin ?_;first|(refine al_v (ov_cmp rfl rfl rfl) rfl ?_)|(refine al_v (ov_add rfl rfl (by (first|exact w64 (by omega) (by omega)|rfl))) rfl ?_)|(refine al_v (ov_sub rfl rfl (by (first|exact w64 (by omega) (by omega)|rfl))) rfl ?_)|(refine al_v (ov_seq rfl rfl) rfl ?_)|(refine al_v (ov_sne rfl rfl) rfl ?_))|(refine k_pick ?_;first|(refine al_v (ov_pick_t' rfl (by with_reducible rfl) rfl) rfl ?_)|(refine al_v (ov_pick_f' rfl (by with_reducible rfl) rfl) rfl ?_))|(refine al_v (ov_assign rfl) rfl ?_)|(refine k_call ?_;first|(refine al_v (ov_len_rs rfl) rfl ?_)|(refine al_v (ov_len_str rfl) rfl ?_))|(refine al_v (ov_extract rfl rfl) rfl ?_)|(refine al_nil ?_)|(refine al_alloc rfl rfl rfl (by first|exact ln0|exact ln1) (by repeat constructor) rfl ?_)|(refine al_store rfl rfl rfl rfl rfl (by repeat constructor) (by repeat constructor) ?_)|(refine al_v (ov_build rfl rfl rfl (by repeat constructor)) rfl ?_)|(refine al_buildSlice (by rfl) (by rfl) (by rfl) (by rfl) (by decide) (by decide) (by rfl) (by rfl) (by repeat constructor) (by rfl) (by repeat constructor) (by rfl) (by first|exact ln0|exact ln1) (by repeat constructor) rfl ?_)|(refine al_v (ov_not_t rfl (by with_reducible rfl)) rfl ?_)|(refine al_v (ov_not rfl rfl) rfl ?_))|(first|(refine thn_n ?_)|(refine k_awp ?_;first|(refine awp_seq (awp_region ?_))|(refine awp_seq ?_)|(refine awp_region ?_)|(refine k_cond ?_;first|(refine awp_cond_t' rfl (by with_reducible rfl) ?_)|(refine awp_cond_f' rfl (by with_reducible rfl) ?_)|(refine awp_cond_p rfl (fun hc => ?_) (fun hc => ?_) <;> (try (exfalso;omega))))|(refine awp_block ?_)|(refine awp_ret ?_)|(refine awp_skip ?_)|(refine awp_exit ?_))|(refine thn_ret ?_)|(refine lq_exit ?_)|(refine lq_ret ?_)|(refine thn_exit ?_)|(refine inb_n ?_)|(refine inb_ret ?_)|(refine inb_here ?_)|(refine inb_out rfl ?_)))
  · have hv : headParse s = (hd0, 431, 0) := if_pos (by omega)
    refine retq_wkn (.boxLe (id := 0) [.str [], .str [], .int .i64 0, .rs []] rfl (.cons (.refl _) (.cons (.refl _) (.cons (.refl _) (.cons .nil .nil)))) rfl) ?_
    refine retc2 (by first | exact .inr rfl | exact .inl rfl) rfl rfl rfl rfl rfl rfl ?_
    unfold prR
    rw [hv]
    exact ⟨rfl, rfl⟩
  have hle : s.length ≤ 4096 := by omega
  refine awp_wkn (.freeze 5 rfl (by repeat constructor)) ?_
  refine awp_wkn (.adoptBox (id := 0) (k := 3) (e := 82) (sz := 2) rfl rfl (by decide) rfl rfl rfl) ?_
  refine awp_loopq (fun p : Nat × Bool × Hd × Nat => ⟨[(0, .str s), (2, .op 0 0), (4, .int .i64 p.1), (5, nxAV p.2.1)], [.box [.str p.2.2.1.m, .str p.2.2.1.t, .int .i64 p.2.2.1.v, .os 2 p.2.2.2], .row 111 1 0 2 [[.fn 75 []], [.fn 76 []]], .row 82 2 p.2.2.2 0 (p.2.2.1.fs.map prAV)]⟩)
    (fun p => PInv s p.1 p.2.1 p.2.2.1) (fun p => s.length - p.1) (0, true, hd0, 0) (.of (.same (by repeat constructor))) ⟨Nat.zero_le _, ⟨s.length + 1, Nat.le_refl _, by unfold headParse; rw [if_neg (by omega)]; rfl⟩, fun _ => rfl, .inl rfl, Nat.zero_le _⟩ ?_
  rintro ⟨at', first, h, ver⟩ hI
  dsimp only at hI ⊢
  obtain ⟨line, rest, ended, hline⟩ : ∃ line rest ended, lineAt s at' = (line, rest, ended) := ⟨_, _, _, rfl⟩
  obtain ⟨f, hf, hstep⟩ := pInv_step hI hline
  obtain ⟨hl1, hl2⟩ := line_facts hline hI.le
  have hat := hI.le
  have hcut := s_cut (s := s.drop at') (p := [13, 10]) hG (by rw [List.length_drop]; omega)
  rw [show Lib.cut (s.drop at') [13, 10] = (line, rest, ended) from hline] at hcut
  dsimp only at hcut
  have hcon := s_containsAny (w0 := w0) (base := base) (s := line) (by omega)
  have hfl : (h.fs.map prAV).length = h.fs.length := List.length_map _
  have hfn := hI.n
  have rows1 : ∀ (i : Nat) row, ([[.fn 75 []], [.fn 76 []]] : List (List AV))[i]? = some row → row.length = 1 := fun i row hr => by
    match i, hr with
    | 0, hr => simp at hr; subst hr; rfl
    | 1, hr => simp at hr; subst hr; rfl
    | i + 2, hr => simp at hr
  have rows2 : ∀ (i : Nat) row, ([[.fn 76 []]] : List (List AV))[i]? = some row → row.length = 1 := fun i row hr => by
    match i, hr with
    | 0, hr => simp at hr; subst hr; rfl
    | i + 1, hr => simp at hr
  by_cases c1 : 1024 < line.length
  · rw [if_pos c1] at hstep
    repeat' (first|(first|(refine al_v (ov_slice_lo rfl rfl (by omega) (by omega)) rfl ?_)|(refine k_call ?_;refine al_call rfl rfl rfl rfl hcut ?_;rintro _ rfl))|(refine k_al ?_;first|(refine al_v (ov_move rfl) rfl ?_)|(refine k_g ?_;first|(refine al_gy' rfl rfl (by with_reducible rfl) ?_)|(refine al_gnt rfl rfl (by with_reducible rfl) rfl ?_)|(refine al_gnf rfl rfl (by with_reducible rfl) rfl ?_)|(refine al_gu rfl rfl rfl ?_)|(refine al_gsp rfl rfl (fun hc => ?_) (fun hc => ?_) <;> (try (exfalso;omega)))|(refine al_gsb rfl rfl (fun hc => ?_) (fun hc => ?_) <;> (try (exact absurd hc (by decide)))))|(refine al_v (ov_fieldAddr rfl rfl) rfl ?_)|(refine k_load ?_;first|(refine al_v (ov_load rfl rfl) rfl ?_)|(refine al_v (ov_load_agg rfl rfl rfl) rfl ?_))|(refine k_bin ?_;first|(refine al_v (ov_cmp rfl rfl rfl) rfl ?_)|(refine al_v (ov_add rfl rfl (by (first|exact w64 (by omega) (by omega)|rfl))) rfl ?_)|(refine al_v (ov_sub rfl rfl (by (first|exact w64 (by omega) (by omega)|rfl))) rfl ?_)|(refine al_v (ov_seq rfl rfl) rfl ?_)|(refine al_v (ov_sne rfl rfl) rfl ?_))|(refine k_pick ?_;first|(refine al_v (ov_pick_t' rfl (by with_reducible rfl) rfl) rfl ?_)|(refine al_v (ov_pick_f' rfl (by with_reducible rfl) rfl) rfl ?_))|(refine al_v (ov_assign rfl) rfl ?_)|(refine k_call ?_;first|(refine al_v (ov_len_rs rfl) rfl ?_)|(refine al_v (ov_len_str rfl) rfl ?_))|(refine al_v (ov_extract rfl rfl) rfl ?_)|(refine al_nil ?_)|(refine al_alloc rfl rfl rfl (by first|exact ln0|exact ln1) (by repeat constructor) rfl ?_)|(refine al_store rfl rfl rfl rfl rfl (by repeat constructor) (by repeat constructor) ?_)|(refine al_v (ov_build rfl rfl rfl (by repeat constructor)) rfl ?_)|(refine al_buildSlice (by rfl) (by rfl) (by rfl) (by rfl) (by decide) (by decide) (by rfl) (by rfl) (by repeat constructor) (by rfl) (by repeat constructor) (by rfl) (by first|exact ln0|exact ln1) (by repeat constructor) rfl ?_)|(refine al_v (ov_not_t rfl (by with_reducible rfl)) rfl ?_)|(refine al_v (ov_not rfl rfl) rfl ?_))|(first|(refine thn_n ?_)|(refine k_awp ?_;first|(refine awp_seq (awp_region ?_))|(refine awp_seq ?_)|(refine awp_region ?_)|(refine k_cond ?_;first|(refine awp_cond_t' rfl (by with_reducible rfl) ?_)|(refine awp_cond_f' rfl (by with_reducible rfl) ?_)|(refine awp_cond_p rfl (fun hc => ?_) (fun hc => ?_) <;> (try (exfalso;omega))))|(refine awp_block ?_)|(refine awp_ret ?_)|(refine awp_skip ?_)|(refine awp_exit ?_))|(refine thn_ret ?_)|(refine lq_exit ?_)|(refine lq_ret ?_)|(refine thn_exit ?_)|(refine inb_n ?_)|(refine inb_ret ?_)|(refine inb_here ?_)|(refine inb_out rfl ?_)))
    skip
    refine retq_wkn (.boxLe (id := 0) [.str [], .str [], .int .i64 0, .rs []] rfl (.cons (.refl _) (.cons (.refl _) (.cons (.refl _) (.cons .nil .nil)))) rfl) ?_
    refine retc2 (by first | exact .inr rfl | exact .inl rfl) rfl rfl rfl rfl rfl rfl ?_
    unfold prR
    rw [hstep]
    exact ⟨rfl, rfl⟩
  rw [if_neg c1] at hstep
  by_cases c2 : ended = false ∨ hasBr line
  · rw [if_pos c2] at hstep
    repeat' (first|(first|(refine al_v (ov_slice_lo rfl rfl (by omega) (by omega)) rfl ?_)|(refine k_call ?_;refine al_call rfl rfl rfl rfl hcut ?_;rintro _ rfl)|(refine k_call ?_;refine al_call rfl rfl rfl rfl hcon ?_;rintro _ rfl))|(refine k_al ?_;first|(refine al_v (ov_move rfl) rfl ?_)|(refine k_g ?_;first|(refine al_gy' rfl rfl (by with_reducible rfl) ?_)|(refine al_gnt rfl rfl (by with_reducible rfl) rfl ?_)|(refine al_gnf rfl rfl (by with_reducible rfl) rfl ?_)|(refine al_gu rfl rfl rfl ?_)|(refine al_gsp rfl rfl (fun hc => ?_) (fun hc => ?_) <;> (try (exfalso;omega)))|(refine al_gsb rfl rfl (fun hc => ?_) (fun hc => ?_) <;> (try (exact absurd hc (by decide)))))|(refine al_v (ov_fieldAddr rfl rfl) rfl ?_)|(refine k_load ?_;first|(refine al_v (ov_load rfl rfl) rfl ?_)|(refine al_v (ov_load_agg rfl rfl rfl) rfl ?_))|(refine k_bin ?_;first|(refine al_v (ov_cmp rfl rfl rfl) rfl ?_)|(refine al_v (ov_add rfl rfl (by (first|exact w64 (by omega) (by omega)|rfl))) rfl ?_)|(refine al_v (ov_sub rfl rfl (by (first|exact w64 (by omega) (by omega)|rfl))) rfl ?_)|(refine al_v (ov_seq rfl rfl) rfl ?_)|(refine al_v (ov_sne rfl rfl) rfl ?_))|(refine k_pick ?_;first|(refine al_v (ov_pick_t' rfl (by with_reducible rfl) rfl) rfl ?_)|(refine al_v (ov_pick_f' rfl (by with_reducible rfl) rfl) rfl ?_))|(refine al_v (ov_assign rfl) rfl ?_)|(refine k_call ?_;first|(refine al_v (ov_len_rs rfl) rfl ?_)|(refine al_v (ov_len_str rfl) rfl ?_))|(refine al_v (ov_extract rfl rfl) rfl ?_)|(refine al_nil ?_)|(refine al_alloc rfl rfl rfl (by first|exact ln0|exact ln1) (by repeat constructor) rfl ?_)|(refine al_store rfl rfl rfl rfl rfl (by repeat constructor) (by repeat constructor) ?_)|(refine al_v (ov_build rfl rfl rfl (by repeat constructor)) rfl ?_)|(refine al_buildSlice (by rfl) (by rfl) (by rfl) (by rfl) (by decide) (by decide) (by rfl) (by rfl) (by repeat constructor) (by rfl) (by repeat constructor) (by rfl) (by first|exact ln0|exact ln1) (by repeat constructor) rfl ?_)|(refine al_v (ov_not_t rfl (by with_reducible rfl)) rfl ?_)|(refine al_v (ov_not rfl rfl) rfl ?_))|(first|(refine thn_n ?_)|(refine k_awp ?_;first|(refine awp_seq (awp_region ?_))|(refine awp_seq ?_)|(refine awp_region ?_)|(refine k_cond ?_;first|(refine awp_cond_t' rfl (by with_reducible rfl) ?_)|(refine awp_cond_f' rfl (by with_reducible rfl) ?_)|(refine awp_cond_p rfl (fun hc => ?_) (fun hc => ?_) <;> (try (exfalso;omega))))|(refine awp_block ?_)|(refine awp_ret ?_)|(refine awp_skip ?_)|(refine awp_exit ?_))|(refine thn_ret ?_)|(refine lq_exit ?_)|(refine lq_ret ?_)|(refine thn_exit ?_)|(refine inb_n ?_)|(refine inb_ret ?_)|(refine inb_here ?_)|(refine inb_out rfl ?_)))
    all_goals try (
        skip
        refine retq_wkn (.boxLe (id := 0) [.str [], .str [], .int .i64 0, .rs []] rfl (.cons (.refl _) (.cons (.refl _) (.cons (.refl _) (.cons .nil .nil)))) rfl) ?_
        refine retc2 (by first | exact .inr rfl | exact .inl rfl) rfl rfl rfl rfl rfl rfl ?_
        unfold prR
        rw [hstep]
        exact ⟨rfl, rfl⟩)
    all_goals
      exfalso
      rcases c2 with c2 | c2
      · subst c2; exact absurd ‹(!false) = false› (by decide)
      · exact absurd c2 ‹_›
  rw [if_neg c2] at hstep
  have hend : ended = true := by
    cases ended with
    | true => rfl
    | false => exact absurd (.inl rfl) c2
  have hbr : ¬ hasBr line := fun hb => c2 (.inr hb)
  rw [decide_eq_false hbr] at hcon
  subst hend
  have hroom := hl2 rfl
  cases first with
  | true =>
    obtain rfl := hI.z rfl
    dsimp only [oh, if_true] at hstep
    by_cases hq : reqSt line = 0
    · rw [if_pos hq] at hstep
      have hreq : ACalls (EE w0 base) 75 [.op 0 0, .str line] (hdO hd0.m hd0.t hd0.v ver (hd0.fs.map prAV)) fun rv os => rv = .int .i64 0 ∧ os = hdO (rM line) (rT line) (reqV line) ver (hd0.fs.map prAV) := acalls_mono (a_request hG (by omega)) fun rv os hr => by rw [if_pos hq, hq] at hr; exact hr
      repeat' (first|(first|(refine al_v (ov_slice_lo rfl rfl (by omega) (by omega)) rfl ?_)|(refine k_call ?_;refine al_v (ov_len_k 2 rfl rfl) rfl ?_)|(refine k_call ?_;refine al_call rfl rfl rfl rfl hcut ?_;rintro _ rfl)|(refine k_call ?_;refine al_call rfl rfl rfl rfl hcon ?_;rintro _ rfl)|(refine al_v (ov_indexAddr rfl rfl (by decide) rfl rfl) rfl ?_)|(refine al_v (ov_sl_lo rfl rfl (by decide) (by decide) rows1) rfl ?_)|(refine k_call ?_;refine al_acall [0, 2] rfl rfl hreq (by repeat constructor) (by repeat constructor) rfl rfl ?_;rintro _ _ ⟨rfl, rfl⟩;refine ⟨_, _, by repeat constructor, by repeat constructor, ?_⟩))|(refine k_al ?_;first|(refine al_v (ov_move rfl) rfl ?_)|(refine k_g ?_;first|(refine al_gy' rfl rfl (by with_reducible rfl) ?_)|(refine al_gnt rfl rfl (by with_reducible rfl) rfl ?_)|(refine al_gnf rfl rfl (by with_reducible rfl) rfl ?_)|(refine al_gu rfl rfl rfl ?_)|(refine al_gsp rfl rfl (fun hc => ?_) (fun hc => ?_) <;> (try (exfalso;omega)))|(refine al_gsb rfl rfl (fun hc => ?_) (fun hc => ?_) <;> (try (exact absurd hc (by decide)))))|(refine al_v (ov_fieldAddr rfl rfl) rfl ?_)|(refine k_load ?_;first|(refine al_v (ov_load rfl rfl) rfl ?_)|(refine al_v (ov_load_agg rfl rfl rfl) rfl ?_))|(refine k_bin ?_;first|(refine al_v (ov_cmp rfl rfl rfl) rfl ?_)|(refine al_v (ov_add rfl rfl (by (first|exact w64 (by omega) (by omega)|rfl))) rfl ?_)|(refine al_v (ov_sub rfl rfl (by (first|exact w64 (by omega) (by omega)|rfl))) rfl ?_)|(refine al_v (ov_seq rfl rfl) rfl ?_)|(refine al_v (ov_sne rfl rfl) rfl ?_))|(refine k_pick ?_;first|(refine al_v (ov_pick_t' rfl (by with_reducible rfl) rfl) rfl ?_)|(refine al_v (ov_pick_f' rfl (by with_reducible rfl) rfl) rfl ?_))|(refine al_v (ov_assign rfl) rfl ?_)|(refine k_call ?_;first|(refine al_v (ov_len_rs rfl) rfl ?_)|(refine al_v (ov_len_str rfl) rfl ?_))|(refine al_v (ov_extract rfl rfl) rfl ?_)|(refine al_nil ?_)|(refine al_alloc rfl rfl rfl (by first|exact ln0|exact ln1) (by repeat constructor) rfl ?_)|(refine al_store rfl rfl rfl rfl rfl (by repeat constructor) (by repeat constructor) ?_)|(refine al_v (ov_build rfl rfl rfl (by repeat constructor)) rfl ?_)|(refine al_buildSlice (by rfl) (by rfl) (by rfl) (by rfl) (by decide) (by decide) (by rfl) (by rfl) (by repeat constructor) (by rfl) (by repeat constructor) (by rfl) (by first|exact ln0|exact ln1) (by repeat constructor) rfl ?_)|(refine al_v (ov_not_t rfl (by with_reducible rfl)) rfl ?_)|(refine al_v (ov_not rfl rfl) rfl ?_))|(first|(refine thn_n ?_)|(refine k_awp ?_;first|(refine awp_seq (awp_region ?_))|(refine awp_seq ?_)|(refine awp_region ?_)|(refine k_cond ?_;first|(refine awp_cond_t' rfl (by with_reducible rfl) ?_)|(refine awp_cond_f' rfl (by with_reducible rfl) ?_)|(refine awp_cond_p rfl (fun hc => ?_) (fun hc => ?_) <;> (try (exfalso;omega))))|(refine awp_block ?_)|(refine awp_ret ?_)|(refine awp_skip ?_)|(refine awp_exit ?_))|(refine thn_ret ?_)|(refine lq_exit ?_)|(refine lq_ret ?_)|(refine thn_exit ?_)|(refine inb_n ?_)|(refine inb_ret ?_)|(refine inb_here ?_)|(refine inb_out rfl ?_)))
      all_goals
        first | refine lq_back (at' + (line.length + 2), false, ⟨rM line, rT line, reqV line, []⟩, ver) (.of (.same (by repeat constructor))) ?_ ?_ | fail
        · exact ⟨by dsimp only; omega, ⟨f, by dsimp only; omega, hstep⟩, (fun e => by cases e), req_minor hq, Nat.zero_le _⟩
        · dsimp only; omega
    · rw [if_neg hq] at hstep
      have hreq : ACalls (EE w0 base) 75 [.op 0 0, .str line] (hdO hd0.m hd0.t hd0.v ver (hd0.fs.map prAV)) fun rv os => rv = .int .i64 (reqSt line) ∧ os = hdO hd0.m hd0.t hd0.v ver (hd0.fs.map prAV) := acalls_mono (a_request hG (by omega)) fun rv os hr => by rw [if_neg hq] at hr; exact hr
      repeat' (first|(first|(refine al_v (ov_slice_lo rfl rfl (by omega) (by omega)) rfl ?_)|(refine k_call ?_;refine al_call rfl rfl rfl rfl hcut ?_;rintro _ rfl)|(refine k_call ?_;refine al_call rfl rfl rfl rfl hcon ?_;rintro _ rfl)|(refine k_call ?_;refine al_v (ov_len_k 2 rfl rfl) rfl ?_)|(refine al_v (ov_indexAddr rfl rfl (by decide) rfl rfl) rfl ?_)|(refine k_call ?_;refine al_acall [0, 2] rfl rfl hreq (by repeat constructor) (by repeat constructor) rfl rfl ?_;rintro _ _ ⟨rfl, rfl⟩;refine ⟨_, _, by repeat constructor, by repeat constructor, ?_⟩))|(refine k_al ?_;first|(refine al_v (ov_move rfl) rfl ?_)|(refine k_g ?_;first|(refine al_gy' rfl rfl (by with_reducible rfl) ?_)|(refine al_gnt rfl rfl (by with_reducible rfl) rfl ?_)|(refine al_gnf rfl rfl (by with_reducible rfl) rfl ?_)|(refine al_gu rfl rfl rfl ?_)|(refine al_gsp rfl rfl (fun hc => ?_) (fun hc => ?_) <;> (try (exfalso;omega)))|(refine al_gsb rfl rfl (fun hc => ?_) (fun hc => ?_) <;> (try (exact absurd hc (by decide)))))|(refine al_v (ov_fieldAddr rfl rfl) rfl ?_)|(refine k_load ?_;first|(refine al_v (ov_load rfl rfl) rfl ?_)|(refine al_v (ov_load_agg rfl rfl rfl) rfl ?_))|(refine k_bin ?_;first|(refine al_v (ov_cmp rfl rfl rfl) rfl ?_)|(refine al_v (ov_add rfl rfl (by (first|exact w64 (by omega) (by omega)|rfl))) rfl ?_)|(refine al_v (ov_sub rfl rfl (by (first|exact w64 (by omega) (by omega)|rfl))) rfl ?_)|(refine al_v (ov_seq rfl rfl) rfl ?_)|(refine al_v (ov_sne rfl rfl) rfl ?_))|(refine k_pick ?_;first|(refine al_v (ov_pick_t' rfl (by with_reducible rfl) rfl) rfl ?_)|(refine al_v (ov_pick_f' rfl (by with_reducible rfl) rfl) rfl ?_))|(refine al_v (ov_assign rfl) rfl ?_)|(refine k_call ?_;first|(refine al_v (ov_len_rs rfl) rfl ?_)|(refine al_v (ov_len_str rfl) rfl ?_))|(refine al_v (ov_extract rfl rfl) rfl ?_)|(refine al_nil ?_)|(refine al_alloc rfl rfl rfl (by first|exact ln0|exact ln1) (by repeat constructor) rfl ?_)|(refine al_store rfl rfl rfl rfl rfl (by repeat constructor) (by repeat constructor) ?_)|(refine al_v (ov_build rfl rfl rfl (by repeat constructor)) rfl ?_)|(refine al_buildSlice (by rfl) (by rfl) (by rfl) (by rfl) (by decide) (by decide) (by rfl) (by rfl) (by repeat constructor) (by rfl) (by repeat constructor) (by rfl) (by first|exact ln0|exact ln1) (by repeat constructor) rfl ?_)|(refine al_v (ov_not_t rfl (by with_reducible rfl)) rfl ?_)|(refine al_v (ov_not rfl rfl) rfl ?_))|(first|(refine thn_n ?_)|(refine k_awp ?_;first|(refine awp_seq (awp_region ?_))|(refine awp_seq ?_)|(refine awp_region ?_)|(refine k_cond ?_;first|(refine awp_cond_t' rfl (by with_reducible rfl) ?_)|(refine awp_cond_f' rfl (by with_reducible rfl) ?_)|(refine awp_cond_p rfl (fun hc => ?_) (fun hc => ?_) <;> (try (exfalso;omega))))|(refine awp_block ?_)|(refine awp_ret ?_)|(refine awp_skip ?_)|(refine awp_exit ?_))|(refine thn_ret ?_)|(refine lq_exit ?_)|(refine lq_ret ?_)|(refine thn_exit ?_)|(refine inb_n ?_)|(refine inb_ret ?_)|(refine inb_here ?_)|(refine inb_out rfl ?_)))
      all_goals
        refine retq_wkn (.boxLe (id := 0) [.str [], .str [], .int .i64 0, .rs []] rfl (.cons (.refl _) (.cons (.refl _) (.cons (.refl _) (.cons .nil .nil)))) rfl) ?_
        refine retc2 (by first | exact .inr rfl | exact .inl rfl) rfl rfl rfl rfl rfl rfl ?_
        unfold prR
        rw [hstep]
        exact ⟨rfl, rfl⟩
  | false =>
    dsimp only [oh] at hstep
    rw [if_neg (by decide)] at hstep
    dsimp only at hstep
    by_cases c3 : line = []
    · rw [if_pos c3] at hstep
      by_cases c4 : rest ≠ []
      · rw [if_pos c4] at hstep
        repeat' (first|(first|(refine al_v (ov_slice_lo rfl rfl (by omega) (by omega)) rfl ?_)|(refine k_call ?_;refine al_call rfl rfl rfl rfl hcut ?_;rintro _ rfl)|(refine k_call ?_;refine al_call rfl rfl rfl rfl hcon ?_;rintro _ rfl)|(refine k_call ?_;refine al_v (ov_len_k 1 rfl rfl) rfl ?_))|(refine k_al ?_;first|(refine al_v (ov_move rfl) rfl ?_)|(refine k_g ?_;first|(refine al_gy' rfl rfl (by with_reducible rfl) ?_)|(refine al_gnt rfl rfl (by with_reducible rfl) rfl ?_)|(refine al_gnf rfl rfl (by with_reducible rfl) rfl ?_)|(refine al_gu rfl rfl rfl ?_)|(refine al_gsp rfl rfl (fun hc => ?_) (fun hc => ?_) <;> (try (exfalso;omega)))|(refine al_gsb rfl rfl (fun hc => ?_) (fun hc => ?_) <;> (try (exact absurd hc (by decide)))))|(refine al_v (ov_fieldAddr rfl rfl) rfl ?_)|(refine k_load ?_;first|(refine al_v (ov_load rfl rfl) rfl ?_)|(refine al_v (ov_load_agg rfl rfl rfl) rfl ?_))|(refine k_bin ?_;first|(refine al_v (ov_cmp rfl rfl rfl) rfl ?_)|(refine al_v (ov_add rfl rfl (by (first|exact w64 (by omega) (by omega)|rfl))) rfl ?_)|(refine al_v (ov_sub rfl rfl (by (first|exact w64 (by omega) (by omega)|rfl))) rfl ?_)|(refine al_v (ov_seq rfl rfl) rfl ?_)|(refine al_v (ov_sne rfl rfl) rfl ?_))|(refine k_pick ?_;first|(refine al_v (ov_pick_t' rfl (by with_reducible rfl) rfl) rfl ?_)|(refine al_v (ov_pick_f' rfl (by with_reducible rfl) rfl) rfl ?_))|(refine al_v (ov_assign rfl) rfl ?_)|(refine k_call ?_;first|(refine al_v (ov_len_rs rfl) rfl ?_)|(refine al_v (ov_len_str rfl) rfl ?_))|(refine al_v (ov_extract rfl rfl) rfl ?_)|(refine al_nil ?_)|(refine al_alloc rfl rfl rfl (by first|exact ln0|exact ln1) (by repeat constructor) rfl ?_)|(refine al_store rfl rfl rfl rfl rfl (by repeat constructor) (by repeat constructor) ?_)|(refine al_v (ov_build rfl rfl rfl (by repeat constructor)) rfl ?_)|(refine al_buildSlice (by rfl) (by rfl) (by rfl) (by rfl) (by decide) (by decide) (by rfl) (by rfl) (by repeat constructor) (by rfl) (by repeat constructor) (by rfl) (by first|exact ln0|exact ln1) (by repeat constructor) rfl ?_)|(refine al_v (ov_not_t rfl (by with_reducible rfl)) rfl ?_)|(refine al_v (ov_not rfl rfl) rfl ?_))|(first|(refine thn_n ?_)|(refine k_awp ?_;first|(refine awp_seq (awp_region ?_))|(refine awp_seq ?_)|(refine awp_region ?_)|(refine k_cond ?_;first|(refine awp_cond_t' rfl (by with_reducible rfl) ?_)|(refine awp_cond_f' rfl (by with_reducible rfl) ?_)|(refine awp_cond_p rfl (fun hc => ?_) (fun hc => ?_) <;> (try (exfalso;omega))))|(refine awp_block ?_)|(refine awp_ret ?_)|(refine awp_skip ?_)|(refine awp_exit ?_))|(refine thn_ret ?_)|(refine lq_exit ?_)|(refine lq_ret ?_)|(refine thn_exit ?_)|(refine inb_n ?_)|(refine inb_ret ?_)|(refine inb_here ?_)|(refine inb_out rfl ?_)))
        · skip
          refine retq_wkn (.boxLe (id := 0) [.str [], .str [], .int .i64 0, .rs []] rfl (.cons (.refl _) (.cons (.refl _) (.cons (.refl _) (.cons .nil .nil)))) rfl) ?_
          refine retc2 (by first | exact .inr rfl | exact .inl rfl) rfl rfl rfl rfl rfl rfl ?_
          unfold prR
          rw [hstep]
          exact ⟨rfl, rfl⟩
        all_goals first | (exfalso; omega) | exact absurd c3 ‹_› | exact absurd c4 ‹_›
      · rw [if_neg c4] at hstep
        have hva := s_values (w0 := w0) (base := base) (m := h.m) (t := h.t) (v := h.v) (name := hostS) (fs := h.fs) (by decide) (by omega)
        have hsl : (strAV (valsOf h.fs hostS)).length = nHost h.fs := List.length_map _
        have hvl := valsOf_len h.fs hostS
        have hv01 := hI.v
        repeat' (first|(first|(refine al_wkn (.boxFreeze (ib := 0) (k := 3) (id := 2) rfl rfl rfl rfl (by repeat constructor) rfl rfl) ?_;refine al_v (ov_load_agg rfl rfl rfl) rfl ?_)|(refine al_v (ov_slice_lo rfl rfl (by omega) (by omega)) rfl ?_)|(refine k_call ?_;refine al_call rfl rfl rfl rfl hcut ?_;rintro _ rfl)|(refine k_call ?_;refine al_call rfl rfl rfl rfl hcon ?_;rintro _ rfl)|(refine k_call ?_;refine al_v (ov_len_k 1 rfl rfl) rfl ?_)|(refine k_call ?_;refine al_call rfl rfl rfl rfl hva ?_;rintro _ rfl))|(refine k_al ?_;first|(refine al_v (ov_move rfl) rfl ?_)|(refine k_g ?_;first|(refine al_gy' rfl rfl (by with_reducible rfl) ?_)|(refine al_gnt rfl rfl (by with_reducible rfl) rfl ?_)|(refine al_gnf rfl rfl (by with_reducible rfl) rfl ?_)|(refine al_gu rfl rfl rfl ?_)|(refine al_gsp rfl rfl (fun hc => ?_) (fun hc => ?_) <;> (try (exfalso;omega)))|(refine al_gsb rfl rfl (fun hc => ?_) (fun hc => ?_) <;> (try (exact absurd hc (by decide)))))|(refine al_v (ov_fieldAddr rfl rfl) rfl ?_)|(refine k_load ?_;first|(refine al_v (ov_load rfl rfl) rfl ?_)|(refine al_v (ov_load_agg rfl rfl rfl) rfl ?_))|(refine k_bin ?_;first|(refine al_v (ov_cmp rfl rfl rfl) rfl ?_)|(refine al_v (ov_add rfl rfl (by (first|exact w64 (by omega) (by omega)|rfl))) rfl ?_)|(refine al_v (ov_sub rfl rfl (by (first|exact w64 (by omega) (by omega)|rfl))) rfl ?_)|(refine al_v (ov_seq rfl rfl) rfl ?_)|(refine al_v (ov_sne rfl rfl) rfl ?_))|(refine k_pick ?_;first|(refine al_v (ov_pick_t' rfl (by with_reducible rfl) rfl) rfl ?_)|(refine al_v (ov_pick_f' rfl (by with_reducible rfl) rfl) rfl ?_))|(refine al_v (ov_assign rfl) rfl ?_)|(refine k_call ?_;first|(refine al_v (ov_len_rs rfl) rfl ?_)|(refine al_v (ov_len_str rfl) rfl ?_))|(refine al_v (ov_extract rfl rfl) rfl ?_)|(refine al_nil ?_)|(refine al_alloc rfl rfl rfl (by first|exact ln0|exact ln1) (by repeat constructor) rfl ?_)|(refine al_store rfl rfl rfl rfl rfl (by repeat constructor) (by repeat constructor) ?_)|(refine al_v (ov_build rfl rfl rfl (by repeat constructor)) rfl ?_)|(refine al_buildSlice (by rfl) (by rfl) (by rfl) (by rfl) (by decide) (by decide) (by rfl) (by rfl) (by repeat constructor) (by rfl) (by repeat constructor) (by rfl) (by first|exact ln0|exact ln1) (by repeat constructor) rfl ?_)|(refine al_v (ov_not_t rfl (by with_reducible rfl)) rfl ?_)|(refine al_v (ov_not rfl rfl) rfl ?_))|(first|(refine thn_n ?_)|(refine k_awp ?_;first|(refine awp_seq (awp_region ?_))|(refine awp_seq ?_)|(refine awp_region ?_)|(refine k_cond ?_;first|(refine awp_cond_t' rfl (by with_reducible rfl) ?_)|(refine awp_cond_f' rfl (by with_reducible rfl) ?_)|(refine awp_cond_p rfl (fun hc => ?_) (fun hc => ?_) <;> (try (exfalso;omega))))|(refine awp_block ?_)|(refine awp_ret ?_)|(refine awp_skip ?_)|(refine awp_exit ?_))|(refine thn_ret ?_)|(refine lq_exit ?_)|(refine lq_ret ?_)|(refine thn_exit ?_)|(refine inb_n ?_)|(refine inb_ret ?_)|(refine inb_here ?_)|(refine inb_out rfl ?_)))
        · exact absurd ‹_› c4
        iterate 2
          · rw [if_neg (show ¬ hostsOk h from fun h => by unfold hostsOk at h; omega)] at hstep
            refine retq_wkn (.boxLe (id := 0) [.str [], .str [], .int .i64 0, .rs []] rfl (.cons (.refl _) (.cons (.refl _) (.cons (.refl _) (.cons .nil .nil)))) rfl) ?_
            refine retc2 (by first | exact .inr rfl | exact .inl rfl) rfl rfl rfl rfl rfl rfl ?_
            unfold prR
            rw [hstep]
            exact ⟨rfl, rfl⟩
        iterate 2
          · rw [if_pos (show hostsOk h by unfold hostsOk; omega)] at hstep
            refine retc2 (by first | exact .inr rfl | exact .inl rfl) rfl rfl rfl rfl rfl rfl ?_
            unfold prR
            rw [hstep]
            exact ⟨rfl, rfl⟩
        · exact absurd c3 ‹_›
    · rw [if_neg c3] at hstep
      by_cases c5 : h.fs.length = 32
      · rw [if_pos c5] at hstep
        have hfi : ACalls (EE w0 base) 76 [.op 0 0, .str line] (hdO h.m h.t h.v ver (h.fs.map prAV)) fun rv os => ∃ ver', rv = .int .i64 431 ∧ os = hdO h.m h.t h.v ver' (h.fs.map prAV) := acalls_mono (a_field hG (by omega) (by omega)) fun rv os hr => by
          rw [hfl, if_pos c5, if_neg (fun h => h.1 c5)] at hr
          exact hr
        repeat' (first|(first|(refine al_v (ov_slice_lo rfl rfl (by omega) (by omega)) rfl ?_)|(refine k_call ?_;refine al_call rfl rfl rfl rfl hcut ?_;rintro _ rfl)|(refine k_call ?_;refine al_call rfl rfl rfl rfl hcon ?_;rintro _ rfl)|(refine k_call ?_;refine al_v (ov_len_k 1 rfl rfl) rfl ?_)|(refine al_v (ov_indexAddr rfl rfl (by decide) rfl rfl) rfl ?_)|(refine k_call ?_;refine al_acall [0, 2] rfl rfl hfi (by repeat constructor) (by repeat constructor) rfl rfl ?_;rintro _ _ ⟨ver', rfl, rfl⟩;refine ⟨_, _, by repeat constructor, by repeat constructor, ?_⟩))|(refine k_al ?_;first|(refine al_v (ov_move rfl) rfl ?_)|(refine k_g ?_;first|(refine al_gy' rfl rfl (by with_reducible rfl) ?_)|(refine al_gnt rfl rfl (by with_reducible rfl) rfl ?_)|(refine al_gnf rfl rfl (by with_reducible rfl) rfl ?_)|(refine al_gu rfl rfl rfl ?_)|(refine al_gsp rfl rfl (fun hc => ?_) (fun hc => ?_) <;> (try (exfalso;omega)))|(refine al_gsb rfl rfl (fun hc => ?_) (fun hc => ?_) <;> (try (exact absurd hc (by decide)))))|(refine al_v (ov_fieldAddr rfl rfl) rfl ?_)|(refine k_load ?_;first|(refine al_v (ov_load rfl rfl) rfl ?_)|(refine al_v (ov_load_agg rfl rfl rfl) rfl ?_))|(refine k_bin ?_;first|(refine al_v (ov_cmp rfl rfl rfl) rfl ?_)|(refine al_v (ov_add rfl rfl (by (first|exact w64 (by omega) (by omega)|rfl))) rfl ?_)|(refine al_v (ov_sub rfl rfl (by (first|exact w64 (by omega) (by omega)|rfl))) rfl ?_)|(refine al_v (ov_seq rfl rfl) rfl ?_)|(refine al_v (ov_sne rfl rfl) rfl ?_))|(refine k_pick ?_;first|(refine al_v (ov_pick_t' rfl (by with_reducible rfl) rfl) rfl ?_)|(refine al_v (ov_pick_f' rfl (by with_reducible rfl) rfl) rfl ?_))|(refine al_v (ov_assign rfl) rfl ?_)|(refine k_call ?_;first|(refine al_v (ov_len_rs rfl) rfl ?_)|(refine al_v (ov_len_str rfl) rfl ?_))|(refine al_v (ov_extract rfl rfl) rfl ?_)|(refine al_nil ?_)|(refine al_alloc rfl rfl rfl (by first|exact ln0|exact ln1) (by repeat constructor) rfl ?_)|(refine al_store rfl rfl rfl rfl rfl (by repeat constructor) (by repeat constructor) ?_)|(refine al_v (ov_build rfl rfl rfl (by repeat constructor)) rfl ?_)|(refine al_buildSlice (by rfl) (by rfl) (by rfl) (by rfl) (by decide) (by decide) (by rfl) (by rfl) (by repeat constructor) (by rfl) (by repeat constructor) (by rfl) (by first|exact ln0|exact ln1) (by repeat constructor) rfl ?_)|(refine al_v (ov_not_t rfl (by with_reducible rfl)) rfl ?_)|(refine al_v (ov_not rfl rfl) rfl ?_))|(first|(refine thn_n ?_)|(refine k_awp ?_;first|(refine awp_seq (awp_region ?_))|(refine awp_seq ?_)|(refine awp_region ?_)|(refine k_cond ?_;first|(refine awp_cond_t' rfl (by with_reducible rfl) ?_)|(refine awp_cond_f' rfl (by with_reducible rfl) ?_)|(refine awp_cond_p rfl (fun hc => ?_) (fun hc => ?_) <;> (try (exfalso;omega))))|(refine awp_block ?_)|(refine awp_ret ?_)|(refine awp_skip ?_)|(refine awp_exit ?_))|(refine thn_ret ?_)|(refine lq_exit ?_)|(refine lq_ret ?_)|(refine thn_exit ?_)|(refine inb_n ?_)|(refine inb_ret ?_)|(refine inb_here ?_)|(refine inb_out rfl ?_)))
        · exact absurd ‹_› c3
        · exact absurd ‹_› c3
        · skip
          refine retq_wkn (.boxLe (id := 0) [.str [], .str [], .int .i64 0, .rs []] rfl (.cons (.refl _) (.cons (.refl _) (.cons (.refl _) (.cons .nil .nil)))) rfl) ?_
          refine retc2 (by first | exact .inr rfl | exact .inl rfl) rfl rfl rfl rfl rfl rfl ?_
          unfold prR
          rw [hstep]
          exact ⟨rfl, rfl⟩
      · rw [if_neg c5] at hstep
        by_cases c6 : fieldOk line
        · rw [if_pos c6] at hstep
          have hfi : ACalls (EE w0 base) 76 [.op 0 0, .str line] (hdO h.m h.t h.v ver (h.fs.map prAV)) fun rv os => ∃ ver', rv = .int .i64 0 ∧ os = hdO h.m h.t h.v ver' ((h.fs ++ [fieldOf line]).map prAV) := acalls_mono (a_field hG (by omega) (by omega)) fun rv os hr => by
            rw [hfl, if_neg c5, if_pos c6, if_pos (show h.fs.length ≠ 32 ∧ fieldOk line from ⟨c5, c6⟩)] at hr
            rw [List.map_append]
            exact hr
          repeat' (first|(first|(refine al_v (ov_slice_lo rfl rfl (by omega) (by omega)) rfl ?_)|(refine k_call ?_;refine al_call rfl rfl rfl rfl hcut ?_;rintro _ rfl)|(refine k_call ?_;refine al_call rfl rfl rfl rfl hcon ?_;rintro _ rfl)|(refine k_call ?_;refine al_v (ov_len_k 1 rfl rfl) rfl ?_)|(refine al_v (ov_indexAddr rfl rfl (by decide) rfl rfl) rfl ?_)|(refine al_v (ov_sl_lo rfl rfl (by decide) (by decide) rows2) rfl ?_)|(refine k_call ?_;refine al_acall [0, 2] rfl rfl hfi (by repeat constructor) (by repeat constructor) rfl rfl ?_;rintro _ _ ⟨ver', rfl, rfl⟩;refine ⟨_, _, by repeat constructor, by repeat constructor, ?_⟩))|(refine k_al ?_;first|(refine al_v (ov_move rfl) rfl ?_)|(refine k_g ?_;first|(refine al_gy' rfl rfl (by with_reducible rfl) ?_)|(refine al_gnt rfl rfl (by with_reducible rfl) rfl ?_)|(refine al_gnf rfl rfl (by with_reducible rfl) rfl ?_)|(refine al_gu rfl rfl rfl ?_)|(refine al_gsp rfl rfl (fun hc => ?_) (fun hc => ?_) <;> (try (exfalso;omega)))|(refine al_gsb rfl rfl (fun hc => ?_) (fun hc => ?_) <;> (try (exact absurd hc (by decide)))))|(refine al_v (ov_fieldAddr rfl rfl) rfl ?_)|(refine k_load ?_;first|(refine al_v (ov_load rfl rfl) rfl ?_)|(refine al_v (ov_load_agg rfl rfl rfl) rfl ?_))|(refine k_bin ?_;first|(refine al_v (ov_cmp rfl rfl rfl) rfl ?_)|(refine al_v (ov_add rfl rfl (by (first|exact w64 (by omega) (by omega)|rfl))) rfl ?_)|(refine al_v (ov_sub rfl rfl (by (first|exact w64 (by omega) (by omega)|rfl))) rfl ?_)|(refine al_v (ov_seq rfl rfl) rfl ?_)|(refine al_v (ov_sne rfl rfl) rfl ?_))|(refine k_pick ?_;first|(refine al_v (ov_pick_t' rfl (by with_reducible rfl) rfl) rfl ?_)|(refine al_v (ov_pick_f' rfl (by with_reducible rfl) rfl) rfl ?_))|(refine al_v (ov_assign rfl) rfl ?_)|(refine k_call ?_;first|(refine al_v (ov_len_rs rfl) rfl ?_)|(refine al_v (ov_len_str rfl) rfl ?_))|(refine al_v (ov_extract rfl rfl) rfl ?_)|(refine al_nil ?_)|(refine al_alloc rfl rfl rfl (by first|exact ln0|exact ln1) (by repeat constructor) rfl ?_)|(refine al_store rfl rfl rfl rfl rfl (by repeat constructor) (by repeat constructor) ?_)|(refine al_v (ov_build rfl rfl rfl (by repeat constructor)) rfl ?_)|(refine al_buildSlice (by rfl) (by rfl) (by rfl) (by rfl) (by decide) (by decide) (by rfl) (by rfl) (by repeat constructor) (by rfl) (by repeat constructor) (by rfl) (by first|exact ln0|exact ln1) (by repeat constructor) rfl ?_)|(refine al_v (ov_not_t rfl (by with_reducible rfl)) rfl ?_)|(refine al_v (ov_not rfl rfl) rfl ?_))|(first|(refine thn_n ?_)|(refine k_awp ?_;first|(refine awp_seq (awp_region ?_))|(refine awp_seq ?_)|(refine awp_region ?_)|(refine k_cond ?_;first|(refine awp_cond_t' rfl (by with_reducible rfl) ?_)|(refine awp_cond_f' rfl (by with_reducible rfl) ?_)|(refine awp_cond_p rfl (fun hc => ?_) (fun hc => ?_) <;> (try (exfalso;omega))))|(refine awp_block ?_)|(refine awp_ret ?_)|(refine awp_skip ?_)|(refine awp_exit ?_))|(refine thn_ret ?_)|(refine lq_exit ?_)|(refine lq_ret ?_)|(refine thn_exit ?_)|(refine inb_n ?_)|(refine inb_ret ?_)|(refine inb_here ?_)|(refine inb_out rfl ?_)))
          · exact absurd ‹_› c3
          · exact absurd ‹_› c3
          · first | refine lq_back (at' + (line.length + 2), false, ⟨h.m, h.t, h.v, h.fs ++ [fieldOf line]⟩, ver') (.of (.same (by repeat constructor))) ?_ ?_ | fail
            · exact ⟨by dsimp only; omega, ⟨f, by dsimp only; omega, hstep⟩, (fun e => by cases e), hI.v, by simp; omega⟩
            · dsimp only; omega
        · rw [if_neg c6] at hstep
          have hfi : ACalls (EE w0 base) 76 [.op 0 0, .str line] (hdO h.m h.t h.v ver (h.fs.map prAV)) fun rv os => ∃ ver', rv = .int .i64 400 ∧ os = hdO h.m h.t h.v ver' (h.fs.map prAV) := acalls_mono (a_field hG (by omega) (by omega)) fun rv os hr => by
            rw [hfl, if_neg c5, if_neg c6, if_neg (fun h => c6 h.2)] at hr
            exact hr
          repeat' (first|(first|(refine al_v (ov_slice_lo rfl rfl (by omega) (by omega)) rfl ?_)|(refine k_call ?_;refine al_call rfl rfl rfl rfl hcut ?_;rintro _ rfl)|(refine k_call ?_;refine al_call rfl rfl rfl rfl hcon ?_;rintro _ rfl)|(refine k_call ?_;refine al_v (ov_len_k 1 rfl rfl) rfl ?_)|(refine al_v (ov_indexAddr rfl rfl (by decide) rfl rfl) rfl ?_)|(refine k_call ?_;refine al_acall [0, 2] rfl rfl hfi (by repeat constructor) (by repeat constructor) rfl rfl ?_;rintro _ _ ⟨ver', rfl, rfl⟩;refine ⟨_, _, by repeat constructor, by repeat constructor, ?_⟩))|(refine k_al ?_;first|(refine al_v (ov_move rfl) rfl ?_)|(refine k_g ?_;first|(refine al_gy' rfl rfl (by with_reducible rfl) ?_)|(refine al_gnt rfl rfl (by with_reducible rfl) rfl ?_)|(refine al_gnf rfl rfl (by with_reducible rfl) rfl ?_)|(refine al_gu rfl rfl rfl ?_)|(refine al_gsp rfl rfl (fun hc => ?_) (fun hc => ?_) <;> (try (exfalso;omega)))|(refine al_gsb rfl rfl (fun hc => ?_) (fun hc => ?_) <;> (try (exact absurd hc (by decide)))))|(refine al_v (ov_fieldAddr rfl rfl) rfl ?_)|(refine k_load ?_;first|(refine al_v (ov_load rfl rfl) rfl ?_)|(refine al_v (ov_load_agg rfl rfl rfl) rfl ?_))|(refine k_bin ?_;first|(refine al_v (ov_cmp rfl rfl rfl) rfl ?_)|(refine al_v (ov_add rfl rfl (by (first|exact w64 (by omega) (by omega)|rfl))) rfl ?_)|(refine al_v (ov_sub rfl rfl (by (first|exact w64 (by omega) (by omega)|rfl))) rfl ?_)|(refine al_v (ov_seq rfl rfl) rfl ?_)|(refine al_v (ov_sne rfl rfl) rfl ?_))|(refine k_pick ?_;first|(refine al_v (ov_pick_t' rfl (by with_reducible rfl) rfl) rfl ?_)|(refine al_v (ov_pick_f' rfl (by with_reducible rfl) rfl) rfl ?_))|(refine al_v (ov_assign rfl) rfl ?_)|(refine k_call ?_;first|(refine al_v (ov_len_rs rfl) rfl ?_)|(refine al_v (ov_len_str rfl) rfl ?_))|(refine al_v (ov_extract rfl rfl) rfl ?_)|(refine al_nil ?_)|(refine al_alloc rfl rfl rfl (by first|exact ln0|exact ln1) (by repeat constructor) rfl ?_)|(refine al_store rfl rfl rfl rfl rfl (by repeat constructor) (by repeat constructor) ?_)|(refine al_v (ov_build rfl rfl rfl (by repeat constructor)) rfl ?_)|(refine al_buildSlice (by rfl) (by rfl) (by rfl) (by rfl) (by decide) (by decide) (by rfl) (by rfl) (by repeat constructor) (by rfl) (by repeat constructor) (by rfl) (by first|exact ln0|exact ln1) (by repeat constructor) rfl ?_)|(refine al_v (ov_not_t rfl (by with_reducible rfl)) rfl ?_)|(refine al_v (ov_not rfl rfl) rfl ?_))|(first|(refine thn_n ?_)|(refine k_awp ?_;first|(refine awp_seq (awp_region ?_))|(refine awp_seq ?_)|(refine awp_region ?_)|(refine k_cond ?_;first|(refine awp_cond_t' rfl (by with_reducible rfl) ?_)|(refine awp_cond_f' rfl (by with_reducible rfl) ?_)|(refine awp_cond_p rfl (fun hc => ?_) (fun hc => ?_) <;> (try (exfalso;omega))))|(refine awp_block ?_)|(refine awp_ret ?_)|(refine awp_skip ?_)|(refine awp_exit ?_))|(refine thn_ret ?_)|(refine lq_exit ?_)|(refine lq_ret ?_)|(refine thn_exit ?_)|(refine inb_n ?_)|(refine inb_ret ?_)|(refine inb_here ?_)|(refine inb_out rfl ?_)))
          · exact absurd ‹_› c3
          · exact absurd ‹_› c3
          · skip
            refine retq_wkn (.boxLe (id := 0) [.str [], .str [], .int .i64 0, .rs []] rfl (.cons (.refl _) (.cons (.refl _) (.cons (.refl _) (.cons .nil .nil)))) rfl) ?_
            refine retc2 (by first | exact .inr rfl | exact .inl rfl) rfl rfl rfl rfl rfl rfl ?_
            unfold prR
            rw [hstep]
            exact ⟨rfl, rfl⟩
end
end Go.Proofs.YtffcgpkbibijpaaGreatDoor.L

namespace Go.Proofs.YtffcgpkbibijpaaGreatDoor.L
open Go Go.RowKit Go.Proofs
set_option linter.unusedVariables false
set_option linter.unusedSimpArgs false
set_option maxRecDepth 100000
attribute [local irreducible] AL QL AWp Thn InB RetQ ACalls LoopQ HL HO HW HQ NoG

section
variable {E : Env} {sl : Slots} {H : List AO}
theorem ov_slice_eq {t : Nat} {n b : Nat} {z : Value} [ti : TI E.P t .string n b z] {x lo hi : Operand} {s v : List UInt8} {k k' : IntKind} {l h : Int} {i j : Nat} (hv : (s.take j).drop i = v)
    (hx : ev sl x = some (.str s)) (hlo : ev sl lo = some (.int k l)) (hhi : ev sl hi = some (.int k' h)) (hl : l = i) (hh : h = j) (h1 : i ≤ j) (h2 : j ≤ s.length) : OV E sl H (.slice t x (some lo) (some hi) none) (.str v) := by
  have := ov_slice (E := E) (H := H) (t := t) hx hlo hhi (by omega) (by omega) (by omega)
  subst hl; subst hh
  rw [← hv]
  exact this
end
theorem line_slice {s : List UInt8} {at' : Nat} {line rest : List UInt8} {ended : Bool} (h : lineAt s at' = (line, rest, ended)) : (s.take (at' + line.length)).drop at' = line := by
  unfold lineAt at h
  have hd : ∃ k, (s.drop at').take k = line ∧ k ≤ (s.drop at').length := by
    cases he : ended with
    | true =>
      subst he
      have h1 : (Lib.cut (s.drop at') [13, 10]).1 = line := by rw [h]
      unfold Lib.cut at h1
      split at h1
      · rename_i hi
        exact ⟨_, h1, by have := Lib.index_room (s.drop at') [13, 10] hi; simp only [List.length_cons, List.length_nil] at this; omega⟩
      · exact ⟨_, by rw [List.take_length]; exact h1, Nat.le_refl _⟩
    | false =>
      subst he
      have := (cut_not (l := s.drop at') (p := [13, 10]) (by rw [h])).1
      rw [h] at this
      exact ⟨_, by rw [List.take_length]; exact this.symm, Nat.le_refl _⟩
  obtain ⟨k, hk, hkl⟩ := hd
  have hl : line.length = k := by rw [← hk, List.length_take]; omega
  rw [hl, List.drop_take, ← hk]
  congr 1
  omega
theorem line_end {s : List UInt8} {at' : Nat} {line rest : List UInt8} {ended : Bool} (h : lineAt s at' = (line, rest, ended)) : endI s at' = if ended then ((at' + line.length : Nat) : Int) else -1 := by
  unfold lineAt at h
  unfold endI
  rw [h]

section
variable {w0 : World} {base : Nat}
abbrev rpSt (s : List UInt8) (at' n : Nat) (h : Hd) (ver : Nat) : Bool → St
  | true => ⟨[(0, .str s), (2, .op 0 0), (5, .op 1 0), (6, .int .i64 at'), (7, .int .i64 n)], [.box [.str [], .str [], .int .i64 0, .nilsl], .box [.str [], .str [], .int .i64 0, .nilsl]]⟩
  | false => ⟨[(0, .str s), (2, .op 0 0), (5, .op 1 0), (6, .int .i64 at'), (7, .int .i64 n)], [.box [.str [], .str [], .int .i64 0, .nilsl], .box [.str h.m, .str h.t, .int .i64 h.v, .os 2 ver], .row 82 2 ver 0 (h.fs.map prAV)]⟩
set_option maxHeartbeats 8000000 in
theorem s_parseR {s : List UInt8} : PCalls (EE w0 base) 52 [.str s] (prR s) := by
  refine acalls_of Tryz.func52 rfl rfl rfl (.cons .nil) ?_
  repeat' (first|(refine k_al ?_;first|(refine al_v (ov_move rfl) rfl ?_)|(refine k_g ?_;first|(refine al_gy' rfl rfl (by with_reducible rfl) ?_)|(refine al_gnf rfl rfl (by with_reducible rfl) rfl ?_)|(refine al_gsp rfl rfl (fun hc => ?_) (fun hc => ?_) <;> (try (exfalso;omega))))|(refine al_v (ov_fieldAddr rfl rfl) rfl ?_)|(refine k_load ?_;first|(refine al_v (ov_load rfl rfl) rfl ?_)|(refine al_v (ov_load_agg rfl rfl rfl) rfl ?_))|(refine k_bin ?_;first|(refine al_v (ov_cmp rfl rfl rfl) rfl ?_)|(refine al_v (ov_add rfl rfl (by (first|exact w64 (by omega) (by omega)|rfl))) rfl ?_)|(refine al_v (ov_seq rfl rfl) rfl ?_))|(refine k_pick ?_;first|(refine al_v (ov_pick_t' rfl (by with_reducible rfl) rfl) rfl ?_)|(refine al_v (ov_pick_f' rfl (by with_reducible rfl) rfl) rfl ?_))|(refine al_v (ov_assign rfl) rfl ?_)|(refine k_call ?_;first|(refine al_v (ov_len_str rfl) rfl ?_)|(refine al_v (ov_len_os rfl rfl rfl) rfl ?_))|(refine al_v (ov_extract rfl rfl) rfl ?_)|(refine al_nil ?_)|(refine al_alloc rfl rfl rfl (by first|exact ln0|exact ln1|exact ln2|exact ln3|exact ln4) (by repeat constructor) rfl ?_)|(refine al_store rfl rfl rfl rfl rfl (by repeat constructor) (by repeat constructor) ?_)|(refine al_v (ov_build rfl rfl rfl (by repeat constructor)) rfl ?_)|(refine al_buildSlice (by rfl) (by rfl) (by rfl) (by rfl) (by decide) (by decide) (by rfl) (by rfl) (by repeat constructor) (by rfl) (by repeat constructor) (by rfl) (by first|exact ln0|exact ln1|exact ln2|exact ln3|exact ln4) (by repeat constructor) rfl ?_)|(refine al_v (ov_not_p rfl) rfl ?_))|(first|(refine thn_n ?_)|(refine k_awp ?_;first|(refine awp_seq (awp_region ?_))|(refine awp_seq ?_)|(refine awp_region ?_)|(refine k_cond ?_;first|(refine awp_cond_t' rfl (by with_reducible rfl) ?_)|(refine awp_cond_p rfl (fun hc => ?_) (fun hc => ?_) <;> (try (exfalso;omega))))|(refine awp_block ?_)|(refine awp_ret ?_)|(refine awp_skip ?_)|(refine awp_exit ?_))|(refine thn_ret ?_)|(refine lq_exit ?_)|(refine lq_ret ?_)|(refine thn_exit ?_)|(refine inb_n ?_)|(refine inb_ret ?_)|(refine inb_here ?_)|(refine inb_out rfl ?_)))
  · have hv : headParse s = (hd0, 431, 0) := if_pos (by omega)
    refine retq_wkn (.boxLe (id := 0) [.str [], .str [], .int .i64 0, .rs []] rfl (.cons (.refl _) (.cons (.refl _) (.cons (.refl _) (.cons .nil .nil)))) rfl) ?_
    refine retc2 (by first | exact .inr rfl | exact .inl rfl) rfl rfl rfl rfl rfl rfl ?_
    unfold prR
    rw [hv]
    exact ⟨rfl, rfl⟩
  have hle : s.length ≤ 4096 := by omega
  refine awp_loopq (fun p : Nat × Nat × Bool × Hd × Nat => rpSt s p.1 p.2.1 p.2.2.2.1 p.2.2.2.2 p.2.2.1)
    (fun p => PInv s p.1 p.2.2.1 p.2.2.2.1 ∧ p.2.1 ≤ p.1 ∧ (p.2.2.1 = true ↔ p.2.1 = 0)) (fun p => s.length - p.1) (0, 0, true, hd0, 0) (.of (.same (by repeat constructor))) ⟨⟨Nat.zero_le _, ⟨s.length + 1, Nat.le_refl _, by unfold headParse; rw [if_neg (by omega)]; rfl⟩, fun _ => rfl, .inl rfl, Nat.zero_le _⟩, Nat.le_refl _, by simp⟩ ?_
  rintro ⟨at', n, first, h, ver⟩ ⟨hI, hn, hfst⟩
  dsimp only at hI hn hfst ⊢
  obtain ⟨line, rest, ended, hline⟩ : ∃ line rest ended, lineAt s at' = (line, rest, ended) := ⟨_, _, _, rfl⟩
  obtain ⟨f, hf, hstep⟩ := pInv_step hI hline
  obtain ⟨hl1, hl2⟩ := line_facts hline hI.le
  have hsl := line_slice hline
  have hat := hI.le
  have hend := s_end (w0 := w0) (base := base) (s := s) (at' := at') (by omega) hI.le
  rw [line_end hline] at hend
  have hbrk := s_broken (w0 := w0) (base := base) (s := line) (by omega)
  have hfl : (h.fs.map prAV).length = h.fs.length := List.length_map _
  have hfn := hI.n
  have hnot : ended = false → s.drop at' = line ∧ rest = [] := fun he => by
    subst he
    have := cut_not (l := s.drop at') (p := [13, 10]) (by rw [show Lib.cut (s.drop at') [13, 10] = _ from hline])
    rw [show Lib.cut (s.drop at') [13, 10] = _ from hline] at this
    exact ⟨this.1.symm, this.2⟩
  cases ended with
  | false =>
    rw [if_neg (by decide)] at hend
    have hdl := (hnot rfl).1
    cases first with
    | true =>
      repeat' (first|(first|(refine al_v (ov_slice_lo_eq hdl rfl rfl (by omega) (by omega) (by omega)) rfl ?_)|(refine k_call ?_;refine al_call rfl rfl rfl rfl hend ?_;rintro _ rfl)|(refine k_call ?_;refine al_call rfl rfl rfl rfl hbrk ?_;rintro _ rfl))|(refine k_al ?_;first|(refine al_v (ov_move rfl) rfl ?_)|(refine k_g ?_;first|(refine al_gy' rfl rfl (by with_reducible rfl) ?_)|(refine al_gnf rfl rfl (by with_reducible rfl) rfl ?_)|(refine al_gsp rfl rfl (fun hc => ?_) (fun hc => ?_) <;> (try (exfalso;omega))))|(refine al_v (ov_fieldAddr rfl rfl) rfl ?_)|(refine k_load ?_;first|(refine al_v (ov_load rfl rfl) rfl ?_)|(refine al_v (ov_load_agg rfl rfl rfl) rfl ?_))|(refine k_bin ?_;first|(refine al_v (ov_cmp rfl rfl rfl) rfl ?_)|(refine al_v (ov_add rfl rfl (by (first|exact w64 (by omega) (by omega)|rfl))) rfl ?_)|(refine al_v (ov_seq rfl rfl) rfl ?_))|(refine k_pick ?_;first|(refine al_v (ov_pick_t' rfl (by with_reducible rfl) rfl) rfl ?_)|(refine al_v (ov_pick_f' rfl (by with_reducible rfl) rfl) rfl ?_))|(refine al_v (ov_assign rfl) rfl ?_)|(refine k_call ?_;first|(refine al_v (ov_len_str rfl) rfl ?_)|(refine al_v (ov_len_os rfl rfl rfl) rfl ?_))|(refine al_v (ov_extract rfl rfl) rfl ?_)|(refine al_nil ?_)|(refine al_alloc rfl rfl rfl (by first|exact ln0|exact ln1|exact ln2|exact ln3|exact ln4) (by repeat constructor) rfl ?_)|(refine al_store rfl rfl rfl rfl rfl (by repeat constructor) (by repeat constructor) ?_)|(refine al_v (ov_build rfl rfl rfl (by repeat constructor)) rfl ?_)|(refine al_buildSlice (by rfl) (by rfl) (by rfl) (by rfl) (by decide) (by decide) (by rfl) (by rfl) (by repeat constructor) (by rfl) (by repeat constructor) (by rfl) (by first|exact ln0|exact ln1|exact ln2|exact ln3|exact ln4) (by repeat constructor) rfl ?_)|(refine al_v (ov_not_p rfl) rfl ?_))|(first|(refine thn_n ?_)|(refine k_awp ?_;first|(refine awp_seq (awp_region ?_))|(refine awp_seq ?_)|(refine awp_region ?_)|(refine k_cond ?_;first|(refine awp_cond_t' rfl (by with_reducible rfl) ?_)|(refine awp_cond_p rfl (fun hc => ?_) (fun hc => ?_) <;> (try (exfalso;omega))))|(refine awp_block ?_)|(refine awp_ret ?_)|(refine awp_skip ?_)|(refine awp_exit ?_))|(refine thn_ret ?_)|(refine lq_exit ?_)|(refine lq_ret ?_)|(refine thn_exit ?_)|(refine inb_n ?_)|(refine inb_ret ?_)|(refine inb_here ?_)|(refine inb_out rfl ?_)))
      · rw [if_pos (by omega)] at hstep
        refine retq_wkn (.boxLe (id := 0) [.str [], .str [], .int .i64 0, .rs []] rfl (.cons (.refl _) (.cons (.refl _) (.cons (.refl _) (.cons .nil .nil)))) rfl) ?_
        refine retc2 (by first | exact .inr rfl | exact .inl rfl) rfl rfl rfl rfl rfl rfl ?_
        unfold prR
        rw [hstep]
        exact ⟨rfl, rfl⟩
      · rw [if_neg (by omega), if_pos (.inl rfl)] at hstep
        refine retq_wkn (.boxLe (id := 0) [.str [], .str [], .int .i64 0, .rs []] rfl (.cons (.refl _) (.cons (.refl _) (.cons (.refl _) (.cons .nil .nil)))) rfl) ?_
        refine retc2 (by first | exact .inr rfl | exact .inl rfl) rfl rfl rfl rfl rfl rfl ?_
        unfold prR
        rw [hstep]
        exact ⟨rfl, rfl⟩
    | false =>
      repeat' (first|(first|(refine al_v (ov_slice_lo_eq hdl rfl rfl (by omega) (by omega) (by omega)) rfl ?_)|(refine k_call ?_;refine al_call rfl rfl rfl rfl hend ?_;rintro _ rfl)|(refine k_call ?_;refine al_call rfl rfl rfl rfl hbrk ?_;rintro _ rfl))|(refine k_al ?_;first|(refine al_v (ov_move rfl) rfl ?_)|(refine k_g ?_;first|(refine al_gy' rfl rfl (by with_reducible rfl) ?_)|(refine al_gnf rfl rfl (by with_reducible rfl) rfl ?_)|(refine al_gsp rfl rfl (fun hc => ?_) (fun hc => ?_) <;> (try (exfalso;omega))))|(refine al_v (ov_fieldAddr rfl rfl) rfl ?_)|(refine k_load ?_;first|(refine al_v (ov_load rfl rfl) rfl ?_)|(refine al_v (ov_load_agg rfl rfl rfl) rfl ?_))|(refine k_bin ?_;first|(refine al_v (ov_cmp rfl rfl rfl) rfl ?_)|(refine al_v (ov_add rfl rfl (by (first|exact w64 (by omega) (by omega)|rfl))) rfl ?_)|(refine al_v (ov_seq rfl rfl) rfl ?_))|(refine k_pick ?_;first|(refine al_v (ov_pick_t' rfl (by with_reducible rfl) rfl) rfl ?_)|(refine al_v (ov_pick_f' rfl (by with_reducible rfl) rfl) rfl ?_))|(refine al_v (ov_assign rfl) rfl ?_)|(refine k_call ?_;first|(refine al_v (ov_len_str rfl) rfl ?_)|(refine al_v (ov_len_os rfl rfl rfl) rfl ?_))|(refine al_v (ov_extract rfl rfl) rfl ?_)|(refine al_nil ?_)|(refine al_alloc rfl rfl rfl (by first|exact ln0|exact ln1|exact ln2|exact ln3|exact ln4) (by repeat constructor) rfl ?_)|(refine al_store rfl rfl rfl rfl rfl (by repeat constructor) (by repeat constructor) ?_)|(refine al_v (ov_build rfl rfl rfl (by repeat constructor)) rfl ?_)|(refine al_buildSlice (by rfl) (by rfl) (by rfl) (by rfl) (by decide) (by decide) (by rfl) (by rfl) (by repeat constructor) (by rfl) (by repeat constructor) (by rfl) (by first|exact ln0|exact ln1|exact ln2|exact ln3|exact ln4) (by repeat constructor) rfl ?_)|(refine al_v (ov_not_p rfl) rfl ?_))|(first|(refine thn_n ?_)|(refine k_awp ?_;first|(refine awp_seq (awp_region ?_))|(refine awp_seq ?_)|(refine awp_region ?_)|(refine k_cond ?_;first|(refine awp_cond_t' rfl (by with_reducible rfl) ?_)|(refine awp_cond_p rfl (fun hc => ?_) (fun hc => ?_) <;> (try (exfalso;omega))))|(refine awp_block ?_)|(refine awp_ret ?_)|(refine awp_skip ?_)|(refine awp_exit ?_))|(refine thn_ret ?_)|(refine lq_exit ?_)|(refine lq_ret ?_)|(refine thn_exit ?_)|(refine inb_n ?_)|(refine inb_ret ?_)|(refine inb_here ?_)|(refine inb_out rfl ?_)))
      · rw [if_pos (by omega)] at hstep
        refine retq_wkn (.boxLe (id := 0) [.str [], .str [], .int .i64 0, .rs []] rfl (.cons (.refl _) (.cons (.refl _) (.cons (.refl _) (.cons .nil .nil)))) rfl) ?_
        refine retc2 (by first | exact .inr rfl | exact .inl rfl) rfl rfl rfl rfl rfl rfl ?_
        unfold prR
        rw [hstep]
        exact ⟨rfl, rfl⟩
      · rw [if_neg (by omega), if_pos (.inl rfl)] at hstep
        refine retq_wkn (.boxLe (id := 0) [.str [], .str [], .int .i64 0, .rs []] rfl (.cons (.refl _) (.cons (.refl _) (.cons (.refl _) (.cons .nil .nil)))) rfl) ?_
        refine retc2 (by first | exact .inr rfl | exact .inl rfl) rfl rfl rfl rfl rfl rfl ?_
        unfold prR
        rw [hstep]
        exact ⟨rfl, rfl⟩
  | true =>
    rw [if_pos rfl] at hend
    have hroom := hl2 rfl
    have hrq := s_requestR (w0 := w0) (base := base) (l := line)
    have hfi := s_fieldR (w0 := w0) (base := base) (l := line)
    cases first with
    | true =>
      have hn0 := hfst.1 rfl
      obtain rfl := hI.z rfl
      dsimp only [oh] at hstep
      rw [if_pos rfl] at hstep
      dsimp only at hstep
      repeat' (first|(first|(refine al_v (ov_slice_eq hsl rfl rfl rfl (by omega) (by omega) (by omega) (by omega)) rfl ?_)|(refine al_v (ov_slice_lo rfl rfl (by omega) (by omega)) rfl ?_)|(refine k_call ?_;refine al_call rfl rfl rfl rfl hend ?_;rintro _ rfl)|(refine k_call ?_;refine al_call rfl rfl rfl rfl hbrk ?_;rintro _ rfl)|(refine k_call ?_;refine al_call rfl rfl rfl rfl (hrq (by omega)) ?_;rintro _ ⟨m, t, vi, rfl, hq1⟩))|(refine k_al ?_;first|(refine al_v (ov_move rfl) rfl ?_)|(refine k_g ?_;first|(refine al_gy' rfl rfl (by with_reducible rfl) ?_)|(refine al_gnf rfl rfl (by with_reducible rfl) rfl ?_)|(refine al_gsp rfl rfl (fun hc => ?_) (fun hc => ?_) <;> (try (exfalso;omega))))|(refine al_v (ov_fieldAddr rfl rfl) rfl ?_)|(refine k_load ?_;first|(refine al_v (ov_load rfl rfl) rfl ?_)|(refine al_v (ov_load_agg rfl rfl rfl) rfl ?_))|(refine k_bin ?_;first|(refine al_v (ov_cmp rfl rfl rfl) rfl ?_)|(refine al_v (ov_add rfl rfl (by (first|exact w64 (by omega) (by omega)|rfl))) rfl ?_)|(refine al_v (ov_seq rfl rfl) rfl ?_))|(refine k_pick ?_;first|(refine al_v (ov_pick_t' rfl (by with_reducible rfl) rfl) rfl ?_)|(refine al_v (ov_pick_f' rfl (by with_reducible rfl) rfl) rfl ?_))|(refine al_v (ov_assign rfl) rfl ?_)|(refine k_call ?_;first|(refine al_v (ov_len_str rfl) rfl ?_)|(refine al_v (ov_len_os rfl rfl rfl) rfl ?_))|(refine al_v (ov_extract rfl rfl) rfl ?_)|(refine al_nil ?_)|(refine al_alloc rfl rfl rfl (by first|exact ln0|exact ln1|exact ln2|exact ln3|exact ln4) (by repeat constructor) rfl ?_)|(refine al_store rfl rfl rfl rfl rfl (by repeat constructor) (by repeat constructor) ?_)|(refine al_v (ov_build rfl rfl rfl (by repeat constructor)) rfl ?_)|(refine al_buildSlice (by rfl) (by rfl) (by rfl) (by rfl) (by decide) (by decide) (by rfl) (by rfl) (by repeat constructor) (by rfl) (by repeat constructor) (by rfl) (by first|exact ln0|exact ln1|exact ln2|exact ln3|exact ln4) (by repeat constructor) rfl ?_)|(refine al_v (ov_not_p rfl) rfl ?_))|(first|(refine thn_n ?_)|(refine k_awp ?_;first|(refine awp_seq (awp_region ?_))|(refine awp_seq ?_)|(refine awp_region ?_)|(refine k_cond ?_;first|(refine awp_cond_t' rfl (by with_reducible rfl) ?_)|(refine awp_cond_p rfl (fun hc => ?_) (fun hc => ?_) <;> (try (exfalso;omega))))|(refine awp_block ?_)|(refine awp_ret ?_)|(refine awp_skip ?_)|(refine awp_exit ?_))|(refine thn_ret ?_)|(refine lq_exit ?_)|(refine lq_ret ?_)|(refine thn_exit ?_)|(refine inb_n ?_)|(refine inb_ret ?_)|(refine inb_here ?_)|(refine inb_out rfl ?_)))
      · rw [if_pos (by omega)] at hstep
        refine retq_wkn (.boxLe (id := 0) [.str [], .str [], .int .i64 0, .rs []] rfl (.cons (.refl _) (.cons (.refl _) (.cons (.refl _) (.cons .nil .nil)))) rfl) ?_
        refine retc2 (by first | exact .inr rfl | exact .inl rfl) rfl rfl rfl rfl rfl rfl ?_
        unfold prR
        rw [hstep]
        exact ⟨rfl, rfl⟩
      · rw [if_neg (by omega), if_pos (.inr ‹_›)] at hstep
        refine retq_wkn (.boxLe (id := 0) [.str [], .str [], .int .i64 0, .rs []] rfl (.cons (.refl _) (.cons (.refl _) (.cons (.refl _) (.cons .nil .nil)))) rfl) ?_
        refine retc2 (by first | exact .inr rfl | exact .inl rfl) rfl rfl rfl rfl rfl rfl ?_
        unfold prR
        rw [hstep]
        exact ⟨rfl, rfl⟩
      · rw [if_neg (by omega), if_neg (not_or.2 ⟨(by decide), ‹¬hasBr line›⟩), if_neg ‹_›] at hstep
        refine retq_wkn (.boxLe (id := 0) [.str [], .str [], .int .i64 0, .rs []] rfl (.cons (.refl _) (.cons (.refl _) (.cons (.refl _) (.cons .nil .nil)))) rfl) ?_
        refine retc2 (by first | exact .inr rfl | exact .inl rfl) rfl rfl rfl rfl rfl rfl ?_
        unfold prR
        rw [hstep]
        exact ⟨rfl, rfl⟩
      · have hq0 : reqSt line = 0 := Classical.not_not.1 ‹_›
        rw [if_neg (by omega), if_neg (not_or.2 ⟨(by decide), ‹¬hasBr line›⟩), if_pos hq0] at hstep
        obtain ⟨rfl, rfl, rfl⟩ := hq1 hq0
        refine lq_wkn (σ' := ⟨[(0, .str s), (2, .op 0 0), (5, .op 1 0), (6, .int .i64 ((at' + line.length + 2 : Nat) : Int)), (7, .int .i64 ((n + 1 : Nat) : Int))], [_, _]⟩) (.of (wk_drop [_] rfl (by repeat constructor) rfl (by repeat constructor) rfl)) ?_
        refine lq_wkn (.adoptBox (id := 1) (k := 3) (e := 82) (sz := 2) rfl rfl (by decide) rfl rfl rfl) ?_
        first|refine lq_back (at' + line.length + 2, n + 1, false, ⟨rM line, rT line, reqV line, []⟩, 0) (.of (.same (by repeat constructor))) ?_ ?_|refine lq_back (at' + line.length + 2, n + 1, false, ⟨rM line, rT line, reqV line, []⟩, 0) (.of (wk_drop [_] rfl (by repeat constructor) rfl (by repeat constructor) rfl)) ?_ ?_|refine lq_back (at' + line.length + 2, n + 1, false, ⟨rM line, rT line, reqV line, []⟩, 0) (.of (wk_drop [_, _] rfl (by repeat constructor) rfl (by repeat constructor) rfl)) ?_ ?_|refine lq_back (at' + line.length + 2, n + 1, false, ⟨rM line, rT line, reqV line, []⟩, 0) (.of (wk_drop [_, _, _] rfl (by repeat constructor) rfl (by repeat constructor) rfl)) ?_ ?_
        · exact ⟨⟨by dsimp only; omega, ⟨f, by dsimp only; omega, hstep⟩, (fun e => by cases e), req_minor hq0, Nat.zero_le _⟩, by dsimp only; omega, by simp⟩
        · dsimp only; omega
    | false =>
      have hn0 : ¬ n = 0 := fun e => by have := hfst.2 e; cases this
      dsimp only [oh] at hstep
      rw [if_neg (show ¬ false = true by decide)] at hstep
      dsimp only at hstep
      repeat' (first|(first|(refine al_v (ov_slice_eq hsl rfl rfl rfl (by omega) (by omega) (by omega) (by omega)) rfl ?_)|(refine al_v (ov_slice_lo rfl rfl (by omega) (by omega)) rfl ?_)|(refine k_call ?_;refine al_call rfl rfl rfl rfl hend ?_;rintro _ rfl)|(refine k_call ?_;refine al_call rfl rfl rfl rfl hbrk ?_;rintro _ rfl)|(refine k_call ?_;refine al_call rfl rfl rfl rfl (hfi (by omega)) ?_;rintro _ ⟨fn, fv, rfl, hq1⟩)|(refine k_call ?_;refine al_append rfl rfl (by repeat constructor) (src_os rfl rfl) rfl (by decide) (by simp;omega) rfl ?_)|(refine al_wkn (.boxFreeze (ib := 1) (k := 3) (id := 2) rfl rfl rfl rfl (by repeat constructor) rfl rfl) ?_;refine al_v (ov_load_agg (p := .tmp 5) rfl rfl rfl) rfl ?_)|(refine k_call ?_;refine al_call rfl rfl rfl rfl (s_hosts (m := h.m) (t := h.t) (v := h.v) (fs := h.fs) (by omega)) ?_;rintro _ rfl))|(refine k_al ?_;first|(refine al_v (ov_move rfl) rfl ?_)|(refine k_g ?_;first|(refine al_gy' rfl rfl (by with_reducible rfl) ?_)|(refine al_gnf rfl rfl (by with_reducible rfl) rfl ?_)|(refine al_gsp rfl rfl (fun hc => ?_) (fun hc => ?_) <;> (try (exfalso;omega))))|(refine al_v (ov_fieldAddr rfl rfl) rfl ?_)|(refine k_load ?_;first|(refine al_v (ov_load rfl rfl) rfl ?_)|(refine al_v (ov_load_agg rfl rfl rfl) rfl ?_))|(refine k_bin ?_;first|(refine al_v (ov_cmp rfl rfl rfl) rfl ?_)|(refine al_v (ov_add rfl rfl (by (first|exact w64 (by omega) (by omega)|rfl))) rfl ?_)|(refine al_v (ov_seq rfl rfl) rfl ?_))|(refine k_pick ?_;first|(refine al_v (ov_pick_t' rfl (by with_reducible rfl) rfl) rfl ?_)|(refine al_v (ov_pick_f' rfl (by with_reducible rfl) rfl) rfl ?_))|(refine al_v (ov_assign rfl) rfl ?_)|(refine k_call ?_;first|(refine al_v (ov_len_str rfl) rfl ?_)|(refine al_v (ov_len_os rfl rfl rfl) rfl ?_))|(refine al_v (ov_extract rfl rfl) rfl ?_)|(refine al_nil ?_)|(refine al_alloc rfl rfl rfl (by first|exact ln0|exact ln1|exact ln2|exact ln3|exact ln4) (by repeat constructor) rfl ?_)|(refine al_store rfl rfl rfl rfl rfl (by repeat constructor) (by repeat constructor) ?_)|(refine al_v (ov_build rfl rfl rfl (by repeat constructor)) rfl ?_)|(refine al_buildSlice (by rfl) (by rfl) (by rfl) (by rfl) (by decide) (by decide) (by rfl) (by rfl) (by repeat constructor) (by rfl) (by repeat constructor) (by rfl) (by first|exact ln0|exact ln1|exact ln2|exact ln3|exact ln4) (by repeat constructor) rfl ?_)|(refine al_v (ov_not_p rfl) rfl ?_))|(first|(refine thn_n ?_)|(refine k_awp ?_;first|(refine awp_seq (awp_region ?_))|(refine awp_seq ?_)|(refine awp_region ?_)|(refine k_cond ?_;first|(refine awp_cond_t' rfl (by with_reducible rfl) ?_)|(refine awp_cond_p rfl (fun hc => ?_) (fun hc => ?_) <;> (try (exfalso;omega))))|(refine awp_block ?_)|(refine awp_ret ?_)|(refine awp_skip ?_)|(refine awp_exit ?_))|(refine thn_ret ?_)|(refine lq_exit ?_)|(refine lq_ret ?_)|(refine thn_exit ?_)|(refine inb_n ?_)|(refine inb_ret ?_)|(refine inb_here ?_)|(refine inb_out rfl ?_)))
      · rw [if_pos (by omega)] at hstep
        refine retq_wkn (.boxLe (id := 0) [.str [], .str [], .int .i64 0, .rs []] rfl (.cons (.refl _) (.cons (.refl _) (.cons (.refl _) (.cons .nil .nil)))) rfl) ?_
        refine retc2 (by first | exact .inr rfl | exact .inl rfl) rfl rfl rfl rfl rfl rfl ?_
        unfold prR
        rw [hstep]
        exact ⟨rfl, rfl⟩
      · rw [if_neg (by omega), if_pos (.inr ‹_›)] at hstep
        refine retq_wkn (.boxLe (id := 0) [.str [], .str [], .int .i64 0, .rs []] rfl (.cons (.refl _) (.cons (.refl _) (.cons (.refl _) (.cons .nil .nil)))) rfl) ?_
        refine retc2 (by first | exact .inr rfl | exact .inl rfl) rfl rfl rfl rfl rfl rfl ?_
        unfold prR
        rw [hstep]
        exact ⟨rfl, rfl⟩
      · have hre : rest ≠ [] := fun e => by subst e; simp only [List.length_nil] at hroom; omega
        rw [if_neg (by omega), if_neg (not_or.2 ⟨(by decide), ‹¬hasBr line›⟩), if_pos ‹line = _›, if_pos hre] at hstep
        refine retq_wkn (.boxLe (id := 0) [.str [], .str [], .int .i64 0, .rs []] rfl (.cons (.refl _) (.cons (.refl _) (.cons (.refl _) (.cons .nil .nil)))) rfl) ?_
        refine retc2 (by first | exact .inr rfl | exact .inl rfl) rfl rfl rfl rfl rfl rfl ?_
        unfold prR
        rw [hstep]
        exact ⟨rfl, rfl⟩
      · have hre : ¬ rest ≠ [] := fun e => by have := List.length_pos_iff.2 e; omega
        rw [if_neg (by omega), if_neg (not_or.2 ⟨(by decide), ‹¬hasBr line›⟩), if_pos ‹line = _›, if_neg hre, if_neg (show ¬ hostsOk h from ‹_›)] at hstep
        refine retq_wkn (.boxLe (id := 0) [.str [], .str [], .int .i64 0, .rs []] rfl (.cons (.refl _) (.cons (.refl _) (.cons (.refl _) (.cons .nil .nil)))) rfl) ?_
        refine retc2 (by first | exact .inr rfl | exact .inl rfl) rfl rfl rfl rfl rfl rfl ?_
        unfold prR
        rw [hstep]
        exact ⟨rfl, rfl⟩
      · have hre : ¬ rest ≠ [] := fun e => by have := List.length_pos_iff.2 e; omega
        rw [if_neg (by omega), if_neg (not_or.2 ⟨(by decide), ‹¬hasBr line›⟩), if_pos ‹line = _›, if_neg hre, if_pos (show hostsOk h from Classical.not_not.1 ‹_›)] at hstep
        refine retc2 (by first | exact .inr rfl | exact .inl rfl) rfl rfl rfl rfl rfl rfl ?_
        unfold prR
        rw [hstep]
        exact ⟨rfl, rfl⟩
      · rw [if_neg (by omega), if_neg (not_or.2 ⟨(by decide), ‹¬hasBr line›⟩), if_neg ‹¬line = _›, if_pos (by omega)] at hstep
        refine retq_wkn (.boxLe (id := 0) [.str [], .str [], .int .i64 0, .rs []] rfl (.cons (.refl _) (.cons (.refl _) (.cons (.refl _) (.cons .nil .nil)))) rfl) ?_
        refine retc2 (by first | exact .inr rfl | exact .inl rfl) rfl rfl rfl rfl rfl rfl ?_
        unfold prR
        rw [hstep]
        exact ⟨rfl, rfl⟩
      · rw [if_neg (by omega), if_neg (not_or.2 ⟨(by decide), ‹¬hasBr line›⟩), if_neg ‹¬line = _›, if_neg (by omega), if_neg ‹¬fieldOk line›] at hstep
        refine retq_wkn (.boxLe (id := 0) [.str [], .str [], .int .i64 0, .rs []] rfl (.cons (.refl _) (.cons (.refl _) (.cons (.refl _) (.cons .nil .nil)))) rfl) ?_
        refine retc2 (by first | exact .inr rfl | exact .inl rfl) rfl rfl rfl rfl rfl rfl ?_
        unfold prR
        rw [hstep]
        exact ⟨rfl, rfl⟩
      · have hfo : fieldOk line := Classical.not_not.1 ‹_›
        rw [if_neg (by omega), if_neg (not_or.2 ⟨(by decide), ‹¬hasBr line›⟩), if_neg ‹¬line = _›, if_neg (by omega), if_pos hfo] at hstep
        have hq2 := hq1 hfo
        have hap : h.fs.map prAV ++ [[.str fn, .str fv]] = (h.fs ++ [fieldOf line]).map prAV := by rw [← hq2, List.map_append]; rfl
        refine lq_wkn (σ' := rpSt s (at' + line.length + 2) (n + 1) ⟨h.m, h.t, h.v, h.fs ++ [fieldOf line]⟩ (ver + 1) false) (.of (wk_drop [_, _] (by dsimp only; rw [← hap]; rfl) (by repeat constructor) rfl (by repeat constructor) rfl)) ?_
        first|refine lq_back (at' + line.length + 2, n + 1, false, ⟨h.m, h.t, h.v, h.fs ++ [fieldOf line]⟩, ver + 1) (.of (.same (by repeat constructor))) ?_ ?_|refine lq_back (at' + line.length + 2, n + 1, false, ⟨h.m, h.t, h.v, h.fs ++ [fieldOf line]⟩, ver + 1) (.of (wk_drop [_] rfl (by repeat constructor) rfl (by repeat constructor) rfl)) ?_ ?_|refine lq_back (at' + line.length + 2, n + 1, false, ⟨h.m, h.t, h.v, h.fs ++ [fieldOf line]⟩, ver + 1) (.of (wk_drop [_, _] rfl (by repeat constructor) rfl (by repeat constructor) rfl)) ?_ ?_|refine lq_back (at' + line.length + 2, n + 1, false, ⟨h.m, h.t, h.v, h.fs ++ [fieldOf line]⟩, ver + 1) (.of (wk_drop [_, _, _] rfl (by repeat constructor) rfl (by repeat constructor) rfl)) ?_ ?_
        · exact ⟨⟨by dsimp only; omega, ⟨f, by dsimp only; omega, hstep⟩, (fun e => by cases e), hI.v, by simp; omega⟩, by dsimp only; omega, by simp⟩
        · dsimp only; omega
end
end Go.Proofs.YtffcgpkbibijpaaGreatDoor.L

namespace Go.Proofs.YtffcgpkbibijpaaGreatDoor.L
open Go Go.RowKit Go.Proofs
set_option linter.unusedVariables false
set_option linter.unusedSimpArgs false
set_option maxRecDepth 100000
attribute [local irreducible] AL QL AWp Thn InB RetQ ACalls LoopQ HL HO HW HQ NoG

def awA : List UInt8 := "GET /x HTTP/1.1\r\nHost:  a \r\n\r\n".toUTF8.data.toList
def awB : List UInt8 := "GET /x HTTP/1.1\r\n\r\n".toUTF8.data.toList
theorem pGo_fs (s : List UInt8) : ∀ (f at' : Nat) (o : Option Hd), (∀ h, o = some h → h.fs.length ≤ 32) → (pGo s f at' o).1.fs.length ≤ 32 := by
  intro f
  induction f with
  | zero => intro at' o _; simp [pGo, hd0]
  | succ f ih =>
    intro at' o ho
    rw [pGo_succ]
    split
    · simp [hd0]
    split
    · simp [hd0]
    cases o with
    | none =>
      dsimp only
      split
      · exact ih _ _ fun h e => by injection e with e; subst e; simp
      · simp [hd0]
    | some h =>
      have := ho h rfl
      dsimp only
      split
      · split
        · simp [hd0]
        · split
          · exact this
          · simp [hd0]
      · split
        · simp [hd0]
        · split
          · exact ih _ _ fun h' e => by injection e with e; subst e; simp; omega
          · simp [hd0]
theorem headParse_fs (s : List UInt8) : (headParse s).1.fs.length ≤ 32 := by
  unfold headParse
  split
  · simp [hd0]
  · exact pGo_fs s _ _ _ fun h e => by cases e

section
variable {w0 : World} {base : Nat}
end
end Go.Proofs.YtffcgpkbibijpaaGreatDoor.L

namespace Go.Proofs.YtffcgpkbibijpaaGreatDoor.L
open Go Go.RowKit Go.Proofs
set_option linter.unusedVariables false
set_option linter.unusedSimpArgs false
set_option maxRecDepth 100000

/-- Lines, and an empty one behind them. -/
def linesOf (ls : List (List UInt8)) : List UInt8 := ls.flatMap (fun l => l ++ [13, 10])
def textOf (ls : List (List UInt8)) : List UInt8 := linesOf ls ++ [13, 10]
theorem textOf_nil : textOf [] = [13, 10] := rfl
theorem textOf_cons (l : List UInt8) (ls : List (List UInt8)) : textOf (l :: ls) = l ++ 13 :: 10 :: textOf ls := by simp [textOf, linesOf]
theorem linesOf_cons (l : List UInt8) (ls : List (List UInt8)) : linesOf (l :: ls) = l ++ 13 :: 10 :: linesOf ls := by simp [linesOf]
theorem cut_line {l r : List UInt8} (h : 13 ∉ l) : Lib.cut (l ++ 13 :: 10 :: r) [13, 10] = (l, r, true) := by
  have := cut_crlf_at (l := l ++ 13 :: 10 :: r) (i := l.length) (by simp) (by rw [List.getElem?_append_right (by omega)]; simp) (fun j hj h2 => h (by
    have h1 := h2.1
    rw [List.getElem?_append_left hj] at h1
    exact List.mem_of_getElem? h1))
  rw [this]
  have hd : (l ++ 13 :: 10 :: r).drop (l.length + 2) = r := by
    rw [List.drop_append]
    simp
  rw [hd]
  simp
theorem line_at {s p l r : List UInt8} (hs : s = p ++ (l ++ 13 :: 10 :: r)) (h : 13 ∉ l) : lineAt s p.length = (l, r, true) := by
  unfold lineAt
  subst hs
  rw [List.drop_left]
  exact cut_line h
theorem cut_true {l p a b : List UInt8} (h : Lib.cut l p = (a, b, true)) : l = a ++ (p ++ b) := by
  unfold Lib.cut at h
  split at h
  · rename_i hi
    have hsp := Lib.index_spec l p
    rcases hsp with ⟨h1, _⟩ | ⟨i, h1, h2, h3, _⟩
    · rw [h1] at hi; simp at hi
    · rw [h1] at h
      have ha : l.take i = a := congrArg (·.1) h
      have hb : l.drop (i + p.length) = b := congrArg (·.2.1) h
      unfold Lib.occAt at h3
      obtain ⟨t, ht⟩ := List.isPrefixOf_iff_prefix.1 h3
      rw [← ha, ← hb]
      rw [← List.drop_drop, ← ht, List.drop_left, ht]
      exact (List.take_append_drop i l).symm
  · injection h with _ h; injection h with _ h; cases h
theorem hasBr13 {l : List UInt8} (h : ¬ hasBr l) : 13 ∉ l := fun k => h (.inl k)
/-- A line that is a field. -/
structure FLine (l : List UInt8) : Prop where
  br : ¬ hasBr l
  ne : l ≠ []
  len : l.length ≤ 1024
  ok : fieldOk l
/-- A first line that is a request. -/
structure RLine (l : List UInt8) : Prop where
  br : ¬ hasBr l
  len : l.length ≤ 1024
  ok : reqSt l = 0
def hdOf (l : List UInt8) (ls : List (List UInt8)) : Hd := ⟨rM l, rT l, reqV l, ls.map fieldOf⟩
def hdAnd (h : Hd) (ls : List (List UInt8)) : Hd := ⟨h.m, h.t, h.v, h.fs ++ ls.map fieldOf⟩
def endR (h : Hd) : Hd × Int × Int := if hostsOk h then (h, 0, 0) else (hd0, 400, 0)
theorem pGo_fields (s : List UInt8) : ∀ (ls : List (List UInt8)) (p : List UInt8) (f : Nat) (h : Hd), s = p ++ textOf ls → ls.length < f → (∀ l ∈ ls, FLine l) → h.fs.length + ls.length ≤ 32 →
    pGo s f p.length (some h) = endR (hdAnd h ls) := by
  intro ls
  induction ls with
  | nil =>
    intro p f h hs hf _ _
    obtain ⟨f, rfl⟩ : ∃ f', f = f' + 1 := ⟨f - 1, by simp at hf; omega⟩
    have hl : lineAt s p.length = ([], [], true) := line_at (l := []) (r := []) hs (by simp)
    rw [pGo_succ, hl]
    have e : hdAnd h [] = h := by simp [hdAnd]
    rw [e]
    rw [if_neg (by simp), if_neg (by simp [hasBr])]
    simp [endR]
  | cons l ls ih =>
    intro p f h hs hf hok hn
    obtain ⟨f, rfl⟩ : ∃ f', f = f' + 1 := ⟨f - 1, by simp at hf; omega⟩
    have hl1 := hok l (by simp)
    have hs' : s = p ++ (l ++ 13 :: 10 :: textOf ls) := by rw [hs, textOf_cons]
    have hl : lineAt s p.length = (l, textOf ls, true) := line_at hs' (hasBr13 hl1.br)
    rw [pGo_succ, hl]
    simp only [List.length_cons] at hn hf
    dsimp only
    rw [if_neg (by have := hl1.len; omega), if_neg (by simp [hl1.br]), if_neg hl1.ne, if_neg (by omega), if_pos hl1.ok]
    have hp : p.length + l.length + 2 = (p ++ (l ++ [13, 10])).length := by simp; omega
    rw [hp, ih (p ++ (l ++ [13, 10])) f _ (by rw [hs']; simp) (by omega) (fun l hl => hok l (by simp [hl])) (by simp; omega)]
    simp [hdAnd]
theorem textOf_len (ls : List (List UInt8)) : ls.length + 2 ≤ (textOf ls).length := by
  induction ls with
  | nil => simp [textOf_nil]
  | cons l ls ih => rw [textOf_cons]; simp; omega
theorem headParse_first {s l : List UInt8} {ls : List (List UInt8)} (hs : s = textOf (l :: ls)) (hlen : s.length ≤ 4096) (hl : RLine l) :
    headParse s = pGo s s.length (l.length + 2) (some ⟨rM l, rT l, reqV l, []⟩) := by
  unfold headParse
  rw [if_neg (by omega)]
  have hl0 : lineAt s 0 = (l, textOf ls, true) := line_at (p := []) (by rw [hs, textOf_cons]; rfl) (hasBr13 hl.br)
  rw [pGo_succ, hl0]
  dsimp only
  rw [if_neg (by have := hl.len; omega), if_neg (by simp [hl.br]), if_pos hl.ok]
  simp
/-- The head of a text of lines. -/
theorem headParse_text {s l : List UInt8} {ls : List (List UInt8)} (hs : s = textOf (l :: ls)) (hlen : s.length ≤ 4096) (hl : RLine l) (hls : ∀ l ∈ ls, FLine l) (hn : ls.length ≤ 32) :
    headParse s = endR (hdOf l ls) := by
  rw [headParse_first hs hlen hl]
  have hp : l.length + 2 = (l ++ [13, 10]).length := by simp
  have := textOf_len (l :: ls)
  rw [hp, pGo_fields s ls (l ++ [13, 10]) s.length _ (by rw [hs, textOf_cons]; simp) (by rw [hs]; simp only [List.length_cons] at this; omega) hls (by simp; omega)]
  simp [hdAnd, hdOf]
/-- What is read comes out of lines. -/
theorem pGo_inv (s : List UInt8) : ∀ (f at' : Nat) (h r : Hd) (a : Int), pGo s f at' (some h) = (r, 0, a) → at' ≤ s.length → s.length < f + at' → h.fs.length ≤ 32 →
    ∃ ls, s.drop at' = textOf ls ∧ (∀ l ∈ ls, FLine l) ∧ r = hdAnd h ls ∧ h.fs.length + ls.length ≤ 32 ∧ hostsOk r ∧ a = 0 := by
  intro f
  induction f with
  | zero => intro at' h r a _ h1 h2 _; omega
  | succ f ih =>
    intro at' h r a he h1 h2 h3
    obtain ⟨line, rest, ended, hl⟩ : ∃ line rest ended, lineAt s at' = (line, rest, ended) := ⟨_, _, _, rfl⟩
    rw [pGo_succ, hl] at he
    dsimp only at he
    split at he
    · injection he with _ he; injection he with he _; cases he
    rename_i g1
    split at he
    · injection he with _ he; injection he with he _; cases he
    rename_i g2
    rw [not_or] at g2
    have hend : ended = true := by cases ended with
      | true => rfl
      | false => exact absurd rfl g2.1
    subst hend
    have hd := cut_true (show Lib.cut (s.drop at') [13, 10] = (line, rest, true) from hl)
    obtain ⟨hf1, hf2⟩ := line_facts hl h1
    have hf2 := hf2 rfl
    split at he
    · rename_i g3
      subst g3
      split at he
      · injection he with _ he; injection he with he _; cases he
      rename_i g4
      have g4 : rest = [] := Classical.not_not.1 g4
      subst g4
      split at he
      · rename_i g5
        injection he with e1 he; injection he with e2 e3
        subst e1
        exact ⟨[], by rw [hd]; rfl, by simp, by simp [hdAnd], by simpa using h3, g5, e3.symm⟩
      · injection he with _ he; injection he with he _; cases he
    rename_i g3
    split at he
    · injection he with _ he; injection he with he _; cases he
    rename_i g4
    split at he
    · rename_i g5
      obtain ⟨ls, k1, k2, k3, k4, k5, k6⟩ := ih _ _ _ _ he (by omega) (by omega) (by simp; omega)
      refine ⟨line :: ls, ?_, ?_, ?_, ?_, k5, k6⟩
      · rw [textOf_cons, ← k1, hd]
        have : s.drop (at' + line.length + 2) = rest := by
          have e : s.drop (at' + line.length + 2) = (s.drop at').drop (line.length + 2) := by rw [List.drop_drop]; congr 1
          rw [e, hd, List.drop_append]
          simp
        rw [this]
        rfl
      · intro l hl
        rcases List.mem_cons.1 hl with rfl | hl
        · exact ⟨g2.2, g3, by omega, g5⟩
        · exact k2 l hl
      · rw [k3]; simp [hdAnd]
      · simp at k4 ⊢; omega
    · injection he with _ he; injection he with he _; cases he
theorem headParse_inv {s : List UInt8} {r : Hd} {a : Int} (h : headParse s = (r, 0, a)) :
    ∃ l ls, s = textOf (l :: ls) ∧ s.length ≤ 4096 ∧ RLine l ∧ (∀ l ∈ ls, FLine l) ∧ ls.length ≤ 32 ∧ r = hdOf l ls ∧ hostsOk r ∧ a = 0 := by
  unfold headParse at h
  split at h
  · injection h with _ h; injection h with h _; cases h
  rename_i g0
  obtain ⟨line, rest, ended, hl⟩ : ∃ line rest ended, lineAt s 0 = (line, rest, ended) := ⟨_, _, _, rfl⟩
  rw [pGo_succ, hl] at h
  dsimp only at h
  split at h
  · injection h with _ h; injection h with h _; cases h
  rename_i g1
  split at h
  · injection h with _ h; injection h with h _; cases h
  rename_i g2
  rw [not_or] at g2
  have hend : ended = true := by cases ended with
    | true => rfl
    | false => exact absurd rfl g2.1
  subst hend
  have hd := cut_true (show Lib.cut (s.drop 0) [13, 10] = (line, rest, true) from hl)
  rw [List.drop_zero] at hd
  obtain ⟨hf1, hf2⟩ := line_facts hl (Nat.zero_le _)
  have hf2 := hf2 rfl
  split at h
  · rename_i g3
    obtain ⟨ls, k1, k2, k3, k4, k5, k6⟩ := pGo_inv s _ _ _ _ _ h (by omega) (by omega) (by simp)
    refine ⟨line, ls, ?_, by omega, ⟨g2.2, by omega, g3⟩, k2, by simpa using k4, by rw [k3]; simp [hdAnd, hdOf], k5, k6⟩
    rw [textOf_cons, ← k1, hd]
    have : s.drop (0 + line.length + 2) = rest := by
      have e : 0 + line.length + 2 = line.length + 2 := by omega
      rw [e, hd, List.drop_append]
      simp
    rw [hd] at this
    rw [this]
    rfl
  · rename_i g3
    injection h with _ h; injection h with h _
    exact absurd h g3

/-- A field's line, printed. -/
def fLine (p : List UInt8 × List UInt8) : List UInt8 := p.1 ++ 58 :: 32 :: p.2
def digS (v : Int) : List UInt8 := if v = 0 then [48] else if v = 1 then [49] else [50]
def rLine (h : Hd) : List UInt8 := h.m ++ 32 :: (h.t ++ 32 :: ([72, 84, 84, 80, 47, 49, 46] ++ digS h.v))
def printS (h : Hd) : List UInt8 := textOf (rLine h :: h.fs.map fLine)
instance : DecidableEq Hd := fun a b => decidable_of_iff (a.m = b.m ∧ a.t = b.t ∧ a.v = b.v ∧ a.fs = b.fs) (by
  cases a; cases b; simp)
def printOk (h : Hd) : Prop := h.fs.length ≤ 32 ∧ (h.v = 0 ∨ h.v = 1) ∧ (headParse (printS h)).2.1 = 0 ∧ (headParse (printS h)).1 = h
instance (h : Hd) : Decidable (printOk h) := inferInstanceAs (Decidable (_ ∧ _))
theorem cut_of {l a b : List UInt8} {c : UInt8} (h : l = a ++ c :: b) (hn : c ∉ a) : Lib.cut l [c] = (a, b, true) := by
  subst h
  have := cut1_at (s := a ++ c :: b) (c := c) (k := a.length) (by simp) (fun j hj h1 => hn (by
    rw [List.getElem?_append_left hj] at h1
    exact List.mem_of_getElem? h1))
  rw [this]
  simp
end Go.Proofs.YtffcgpkbibijpaaGreatDoor.L
