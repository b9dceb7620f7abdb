/- Part 4 of the texts behind the theorem of this claim: Layer 13 (code): read, the program's;Layer 13 (code): Parse, the program's;Layer 13 (code), plain: numbers as they are written: what is read is what is written;Layer 6 (uri): the program's Form and Target;Layer 6 (uri): the document's pair, Form and Target;Layer 6 (uri): the document's Target;Layer 7 (head): texts: all, small, version;the document's;Layer 7 (head): the document's questions at texts;versions;lines;Layer 7 (head): the document's names, lines and blanks;Layer 7 (head): the document's lines and blanks;Layer 13 (code): the document's Number, one;Layer 13 (code): the document's one;Layer 13 (code): Parse, the document's;Layer 13 (code): what must come, whatever the arguments are;the laws CodeChecks, CodeParses;The logic, part 29: data that a row hands in, and how much it holds: for the rows' second form;Layer 13 (code): what rows hand in -/
import Derived.Test.YtnjolbnbpfjdiaaDoorQa3
import Derived.Lib.Space
import Derived.Test.YtnjolbnbpfjdiaaDoorQa2
import Derived.Test.YtnjolbnbpfjdiaaDoorRows
import Derived.WalkKit
import Derived.ProofKit
import Derived.OpenShut
import Derived.SizedLaws
import Derived.HandedShaped
import Derived.Shelf.Vars
import Derived.LaidMore
import Derived.LaidSub
import Derived.Lay
import Derived.Stop.Joined
import Derived.Stop.LaidErr
import Derived.Deep.DeepHandedRow
import Derived.Lib.LaidTab
set_option linter.unusedVariables false
set_option linter.unusedSimpArgs false
namespace Go.Proofs.YtnjolbnbpfjdiaaDoor.L
open Go Go.RowKit Go.Proofs
set_option linter.unusedVariables false
set_option linter.unusedSimpArgs false
set_option maxRecDepth 100000
attribute [local irreducible] AL QL AWp Thn InB RetQ ACalls LoopQ HL HO HW HQ NoG JmpQ MidQ HF

section
variable {E : Env} {sl : Slots} {H : List AO}
theorem ov_sne_t {t t' : TypeId} {x y : Operand} {m n : List UInt8} (h : m ≠ n) (hx : ev sl x = some (.str m)) (hy : ev sl y = some (.str n)) : OV E sl H (.binOp .neq t x y t') (.bool true) := by
  have := ov_sne (E := E) (H := H) (t := t) (t' := t') hx hy
  rwa [decide_eq_true h] at this
theorem ov_sne_f {t t' : TypeId} {x y : Operand} {m n : List UInt8} (h : m = n) (hx : ev sl x = some (.str m)) (hy : ev sl y = some (.str n)) : OV E sl H (.binOp .neq t x y t') (.bool false) := by
  have := ov_sne (E := E) (H := H) (t := t) (t' := t') hx hy
  rwa [decide_eq_false (fun k => k h)] at this
theorem ov_seq_t {t t' : TypeId} {x y : Operand} {m n : List UInt8} (h : m = n) (hx : ev sl x = some (.str m)) (hy : ev sl y = some (.str n)) : OV E sl H (.binOp .eql t x y t') (.bool true) := by
  have := ov_seq (E := E) (H := H) (t := t) (t' := t') hx hy
  rwa [decide_eq_true h] at this
theorem ov_seq_f {t t' : TypeId} {x y : Operand} {m n : List UInt8} (h : m ≠ n) (hx : ev sl x = some (.str m)) (hy : ev sl y = some (.str n)) : OV E sl H (.binOp .eql t x y t') (.bool false) := by
  have := ov_seq (E := E) (H := H) (t := t) (t' := t') hx hy
  rwa [decide_eq_false h] at this
theorem ov_bne_t {t t' : Nat} {n b : Nat} {z : Value} [ti : TI E.P t .bool n b z] {x y : Operand} {p q : Bool} (h : p ≠ q) (hx : ev sl x = some (.bool p)) (hy : ev sl y = some (.bool q)) : OV E sl H (.binOp .neq t x y t') (.bool true) := by
  have := ov_bne (E := E) (H := H) (t := t) (t' := t') hx hy
  rwa [decide_eq_true h] at this
theorem ov_bne_f {t t' : Nat} {n b : Nat} {z : Value} [ti : TI E.P t .bool n b z] {x y : Operand} {p q : Bool} (h : p = q) (hx : ev sl x = some (.bool p)) (hy : ev sl y = some (.bool q)) : OV E sl H (.binOp .neq t x y t') (.bool false) := by
  have := ov_bne (E := E) (H := H) (t := t) (t' := t') hx hy
  rwa [decide_eq_false (fun k => k h)] at this
theorem retc1 {N : Nat} {fn : Func} {R : AV → List AO → Prop} {e : Exit} {σ : St} {p ty t n b : Nat} {z : Value} {pv x : AV} {cs : List AV} [ti : TZ E.P ty true n b z] (he : e = .normal ∨ e = .ret) (h2 : fn.results = #[.cell p ty, .tmp t]) (hp : lk σ.sl p = some pv) (hc : cellsAt σ.objs pv = some cs) (hn : Nat.ble n cs.length = true) (k : lk σ.sl t = some x) (hR : R (.tup [.agg (cs.take n), x]) σ.objs) : RetQ E N fn R e σ :=
  retQ_mk he σ [.cell p ty, .tmp t] [.agg (cs.take n), x] (.refl σ) h2 (.agg hp hc hn (.tmp k .nil)) hR
end
section
variable {w0 : World} {base : Nat}
set_option maxHeartbeats 8000000 in
theorem s_read {s : List UInt8} (hG : Tabs w0 base) (hs : s.length ≤ 262144) : PCalls (EE w0 base) 51 [.str s] (ReadR s) := by
  have hX := s_indexT (w0 := w0) (base := base) (xs := nameL) (v := wordI s) (by rw [nameL_len]; decide)
  have hI := s_indexBl (w0 := w0) (base := base) (s := s) (by omega)
  have hcell : ∃ k : Int, k = Lib.indexAny s [32, 9] ∧ (k = -1 ∨ 0 ≤ k ∧ k < s.length) := ⟨_, rfl, by
    have h1 := indexAny_le s
    have h2 := Lib.indexAny_ge [32, 9] s
    omega⟩
  obtain ⟨k, hk, hkr⟩ := hcell
  have hrl : (restI s).length ≤ s.length := by
    unfold restI
    split
    · have h1 : ∀ x : List UInt8, (Lib.trimS x [32, 9]).length ≤ x.length := by
        intro x
        unfold Lib.trimS Lib.trimLeftS Lib.trimRightS
        refine Nat.le_trans (List.dropWhile_suffix _).length_le ?_
        rw [List.length_reverse]
        refine Nat.le_trans (List.dropWhile_suffix _).length_le ?_
        rw [List.length_reverse]
        exact Nat.le_refl _
      have := h1 (s.drop (Lib.indexAny s [32, 9]).toNat)
      rw [List.length_drop] at this
      omega
    · simp
  have hAt := s_atoiA (w0 := w0) (base := base) (l := restI s) hG (by omega)
  have hTr : PCalls (EE w0 base) 50 [.str (s.drop k.toNat), .str [32, 9]] fun rv => rv = .str (Lib.trimS (s.drop k.toNat) [32, 9]) := s_trim (by rw [List.length_drop]; omega)
  have hw : wordI s = if 0 ≤ k then s.take k.toNat else s := by rw [hk]; rfl
  have hr : restI s = if 0 ≤ k then Lib.trimS (s.drop k.toNat) [32, 9] else [] := by rw [hk]; rfl
  rw [← hk] at hI
  obtain ⟨W, hW⟩ : ∃ W, W = wordI s := ⟨_, rfl⟩
  obtain ⟨R, hR⟩ : ∃ R, R = restI s := ⟨_, rfl⟩
  obtain ⟨T, hT⟩ : ∃ T, T = readI s := ⟨_, rfl⟩
  unfold ReadR
  rw [← hT]
  unfold readI at hT
  rw [← hW] at hT hX hw
  rw [← hR] at hT hAt hr
  clear hW hR hrl
  refine acalls_of Tryd.func51 rfl rfl rfl (.cons .nil) ?_
  have split : (k = -1 ∧ W = s ∧ R = []) ∨ ((0 ≤ k ∧ k < s.length) ∧ W = s.take k.toNat ∧ R = Lib.trimS (s.drop k.toNat) [32, 9]) := by
    rcases hkr with rfl | hkr
    · left; exact ⟨rfl, by rw [hw, if_neg (by decide)], by rw [hr, if_neg (by decide)]⟩
    · right; exact ⟨hkr, by rw [hw, if_pos hkr.1], by rw [hr, if_pos hkr.1]⟩
  clear hw hr
  cases hf : firstEq W nameL 0 with
  | none =>
    have hTn : T = none := by rw [hT, hf]
    rw [hf] at hX
    dsimp only at hX
    rcases split with ⟨rfl, rfl, rfl⟩ | ⟨⟨hk0, hkl⟩, rfl, rfl⟩
    all_goals
      repeat' (first|(first|(refine awp_held (id := 4) [] [⟨0, true, [], bl 9 122⟩, ⟨1, true, [], bl 9 121⟩, ⟨2, true, [], bl 9 123⟩, ⟨3, true, [], bl 9 23⟩, ⟨4, true, [], bl 9 15⟩, ⟨5, true, [], bl 9 31⟩, ⟨6, false, [], []⟩, ⟨7, true, [], bl 9 127⟩, ⟨8, true, [], bl 9 255⟩] (by kernel_rfl) (by kernel_rfl) rfl (by kernel_rfl) ?_)|(refine awp_held (id := 13) [(9, [0])] [⟨0, true, [], bl 11 510⟩, ⟨1, true, [], bl 11 1⟩, ⟨2, true, [], bl 11 3⟩, ⟨3, true, [], bl 11 7⟩, ⟨4, true, [], bl 11 79⟩, ⟨6, true, [0], bl 11 575⟩, ⟨5, false, [], []⟩, ⟨7, true, [0], bl 11 639⟩, ⟨8, true, [0], bl 11 767⟩, ⟨9, false, [], []⟩, ⟨10, true, [], bl 11 1023⟩] (by kernel_rfl) (by kernel_rfl) rfl (by kernel_rfl) ?_)|(refine hw_v (ov_slice_hi rfl rfl (by omega) (by omega)) rfl ?_)|(refine hw_v (ov_slice_lo rfl rfl (by omega) (by omega)) rfl ?_)|(refine k_call ?_;refine al_call rfl rfl rfl rfl hI ?_;rintro _ rfl)|(refine k_call ?_;refine al_call rfl rfl rfl rfl hTr ?_;rintro _ rfl)|(refine k_call ?_;refine al_call rfl rfl rfl rfl s_names ?_;rintro _ rfl)|(refine k_call ?_;refine al_call rfl rfl rfl rfl hX ?_;rintro _ rfl))|(refine k_al ?_;first|(refine al_v (ov_move rfl) rfl ?_)|(refine k_g ?_;first|(refine al_gy' rfl rfl (by with_reducible rfl) ?_)|(refine al_gnf rfl rfl (by with_reducible rfl) rfl ?_)|(refine al_gsp rfl rfl (fun hc => ?_) (fun hc => ?_) <;> (try (exfalso;omega))))|(refine al_v (ov_fieldAddr rfl rfl) rfl ?_)|(refine k_load ?_;first|(refine al_v (ov_load rfl rfl) rfl ?_)|(refine al_v (ov_load_agg rfl rfl rfl) rfl ?_))|(refine k_bin ?_;first|(refine al_v (ov_cmp rfl rfl rfl) rfl ?_)|(refine al_v (ov_add rfl rfl (by (first|exact w64 (by omega) (by omega)|rfl))) rfl ?_))|(refine k_pick ?_;first|(refine al_v (ov_pick_t' rfl (by with_reducible rfl) rfl) rfl ?_)|(refine al_v (ov_pick_f' rfl (by with_reducible rfl) rfl) rfl ?_))|(refine al_v (ov_assign rfl) rfl ?_)|(refine al_v (ov_extract rfl rfl) rfl ?_)|(refine al_nil ?_)|(refine al_alloc rfl rfl rfl (by first|exact ln0|exact ln1) (by repeat constructor) rfl ?_)|(refine al_store rfl rfl rfl rfl rfl (by repeat constructor) (by repeat constructor) ?_)|(refine al_v (ov_build rfl rfl rfl (by repeat constructor)) rfl ?_))|(first|(refine thn_n ?_)|(refine k_awp ?_;first|(refine awp_seq (awp_region ?_))|(refine awp_seq ?_)|(refine awp_region ?_)|(refine k_cond ?_;first|(refine awp_cond_t' rfl (by with_reducible rfl) ?_)|(refine awp_cond_f' rfl (by with_reducible rfl) ?_)|(refine awp_cond_p rfl (fun hc => ?_) (fun hc => ?_) <;> (try (exfalso;omega))))|(refine awp_ret ?_)|(refine awp_skip ?_))|(refine thn_ret ?_))|(first|(refine k_hw ?_;first|(refine hw_s rfl ?_)|(refine hw_v (ov_move rfl) rfl ?_)|(refine hw_v (ov_assign rfl) rfl ?_)|(refine hw_v (ov_fieldAddr rfl rfl) rfl ?_)|(refine hw_v (ov_load rfl rfl) rfl ?_)|(refine hw_v (ov_load_agg rfl rfl rfl) rfl ?_)|(refine hw_v (ov_cmp rfl rfl rfl) rfl ?_)|(refine hw_v (ov_pick_t' rfl (by with_reducible rfl) rfl) rfl ?_)|(refine hw_v (ov_pick_f' rfl (by with_reducible rfl) rfl) rfl ?_)|(refine hw_v (ov_extract rfl rfl) rfl ?_)|(refine hw_v (ov_add rfl rfl (by (first|exact w64 (by omega) (by omega)|rfl))) rfl ?_)|(refine hw_v (ov_build rfl rfl rfl (by repeat constructor)) rfl ?_))|(refine hl_op rfl ?_)|(refine k_ho ?_;first|(refine ho_n ?_)|(refine ho_gy rfl rfl (by with_reducible rfl) ?_)|(refine ho_gnt rfl rfl (by with_reducible rfl) rfl ?_))|(refine hl_nil ?_)|(refine hq_back ?_)))
    all_goals
      refine retc1 (by first | exact .inr rfl | exact .inl rfl) rfl rfl rfl rfl rfl ?_
      exact ⟨⟨(_, _), by rw [hTn]; rfl, fun x h => by rw [hTn] at h; cases h⟩, rfl⟩
  | some a =>
    have ha := firstEq_lt hf
    rw [nameL_len] at ha
    have hTk := s_takes (w0 := w0) (base := base) (op := (a : Int) + 1)
    rw [hf] at hX hT
    dsimp only at hX hT
    by_cases hA : hasAP ((a : Int) + 1)
    · rw [if_pos hA] at hT
      rw [decide_eq_true hA] at hTk
      by_cases hR : R = []
      · have hTn : T = none := by rw [hT, hR, numI_nil]
        rcases split with ⟨rfl, rfl, rfl⟩ | ⟨⟨hk0, hkl⟩, rfl, rfl⟩
        all_goals
          repeat' (first|(first|(refine awp_held (id := 4) [] [⟨0, true, [], bl 9 122⟩, ⟨1, true, [], bl 9 121⟩, ⟨2, true, [], bl 9 123⟩, ⟨3, true, [], bl 9 23⟩, ⟨4, true, [], bl 9 15⟩, ⟨5, true, [], bl 9 31⟩, ⟨6, false, [], []⟩, ⟨7, true, [], bl 9 127⟩, ⟨8, true, [], bl 9 255⟩] (by kernel_rfl) (by kernel_rfl) rfl (by kernel_rfl) ?_)|(refine awp_held (id := 13) [(9, [0])] [⟨0, true, [], bl 11 510⟩, ⟨1, true, [], bl 11 1⟩, ⟨2, true, [], bl 11 3⟩, ⟨3, true, [], bl 11 7⟩, ⟨4, true, [], bl 11 79⟩, ⟨6, true, [0], bl 11 575⟩, ⟨5, false, [], []⟩, ⟨7, true, [0], bl 11 639⟩, ⟨8, true, [0], bl 11 767⟩, ⟨9, false, [], []⟩, ⟨10, true, [], bl 11 1023⟩] (by kernel_rfl) (by kernel_rfl) rfl (by kernel_rfl) ?_)|(refine hw_v (ov_slice_hi rfl rfl (by omega) (by omega)) rfl ?_)|(refine hw_v (ov_slice_lo rfl rfl (by omega) (by omega)) rfl ?_)|(refine k_call ?_;refine al_call rfl rfl rfl rfl hI ?_;rintro _ rfl)|(refine k_call ?_;refine al_call rfl rfl rfl rfl hTr ?_;rintro _ rfl)|(refine k_call ?_;refine al_call rfl rfl rfl rfl s_names ?_;rintro _ rfl)|(refine k_call ?_;refine al_call rfl rfl rfl rfl hX ?_;rintro _ rfl)|(refine k_call ?_;refine al_call rfl rfl rfl rfl hTk ?_;rintro _ rfl)|(refine k_bin ?_;refine al_v (ov_sne_f hR rfl rfl) rfl ?_)|(refine k_bin ?_;refine al_v (ov_bne_t (by decide) rfl rfl) rfl ?_))|(refine k_al ?_;first|(refine al_v (ov_move rfl) rfl ?_)|(refine k_g ?_;first|(refine al_gy' rfl rfl (by with_reducible rfl) ?_)|(refine al_gnf rfl rfl (by with_reducible rfl) rfl ?_)|(refine al_gsp rfl rfl (fun hc => ?_) (fun hc => ?_) <;> (try (exfalso;omega))))|(refine al_v (ov_fieldAddr rfl rfl) rfl ?_)|(refine k_load ?_;first|(refine al_v (ov_load rfl rfl) rfl ?_)|(refine al_v (ov_load_agg rfl rfl rfl) rfl ?_))|(refine k_bin ?_;first|(refine al_v (ov_cmp rfl rfl rfl) rfl ?_)|(refine al_v (ov_add rfl rfl (by (first|exact w64 (by omega) (by omega)|rfl))) rfl ?_))|(refine k_pick ?_;first|(refine al_v (ov_pick_t' rfl (by with_reducible rfl) rfl) rfl ?_)|(refine al_v (ov_pick_f' rfl (by with_reducible rfl) rfl) rfl ?_))|(refine al_v (ov_assign rfl) rfl ?_)|(refine al_v (ov_extract rfl rfl) rfl ?_)|(refine al_nil ?_)|(refine al_alloc rfl rfl rfl (by first|exact ln0|exact ln1) (by repeat constructor) rfl ?_)|(refine al_store rfl rfl rfl rfl rfl (by repeat constructor) (by repeat constructor) ?_)|(refine al_v (ov_build rfl rfl rfl (by repeat constructor)) rfl ?_))|(first|(refine thn_n ?_)|(refine k_awp ?_;first|(refine awp_seq (awp_region ?_))|(refine awp_seq ?_)|(refine awp_region ?_)|(refine k_cond ?_;first|(refine awp_cond_t' rfl (by with_reducible rfl) ?_)|(refine awp_cond_f' rfl (by with_reducible rfl) ?_)|(refine awp_cond_p rfl (fun hc => ?_) (fun hc => ?_) <;> (try (exfalso;omega))))|(refine awp_ret ?_)|(refine awp_skip ?_))|(refine thn_ret ?_))|(first|(refine k_hw ?_;first|(refine hw_s rfl ?_)|(refine hw_v (ov_move rfl) rfl ?_)|(refine hw_v (ov_assign rfl) rfl ?_)|(refine hw_v (ov_fieldAddr rfl rfl) rfl ?_)|(refine hw_v (ov_load rfl rfl) rfl ?_)|(refine hw_v (ov_load_agg rfl rfl rfl) rfl ?_)|(refine hw_v (ov_cmp rfl rfl rfl) rfl ?_)|(refine hw_v (ov_pick_t' rfl (by with_reducible rfl) rfl) rfl ?_)|(refine hw_v (ov_pick_f' rfl (by with_reducible rfl) rfl) rfl ?_)|(refine hw_v (ov_extract rfl rfl) rfl ?_)|(refine hw_v (ov_add rfl rfl (by (first|exact w64 (by omega) (by omega)|rfl))) rfl ?_)|(refine hw_v (ov_build rfl rfl rfl (by repeat constructor)) rfl ?_))|(refine hl_op rfl ?_)|(refine k_ho ?_;first|(refine ho_n ?_)|(refine ho_gy rfl rfl (by with_reducible rfl) ?_)|(refine ho_gnt rfl rfl (by with_reducible rfl) rfl ?_))|(refine hl_nil ?_)|(refine hq_back ?_)))
        all_goals
          refine retc1 (by first | exact .inr rfl | exact .inl rfl) rfl rfl rfl rfl rfl ?_
          exact ⟨⟨(_, _), by rw [hTn]; rfl, fun x h => by rw [hTn] at h; cases h⟩, rfl⟩
      · have hsp : ((0 ≤ k ∧ k < s.length) ∧ W = s.take k.toNat ∧ R = Lib.trimS (s.drop k.toNat) [32, 9]) := by
          rcases split with ⟨_, _, h⟩ | h
          · exact absurd h hR
          · exact h
        obtain ⟨⟨hk0, hkl⟩, rfl, hRe⟩ := hsp
        cases hx : Lib.atoiAll R with
        | ok v =>
          have hrg := atoi_range hx
          have hIt := s_itoaA (w0 := w0) (base := base) hG hrg.1 hrg.2
          have hA1 : PCalls (EE w0 base) 60 [.str R] fun rv => rv = .tup [.int .i64 v, .nilif] := acalls_mono hAt fun rv os h => ⟨by
            rcases h.1 with ⟨u, h1, h2⟩ | ⟨h1, _⟩
            · rw [hx] at h1; injection h1 with h1; subst h1; exact h2
            · exact absurd hx (h1 v), h.2⟩
          have hTv : T = if Lib.itoa v = R then some ((a : Int) + 1, v) else none := by
            rw [hT]
            unfold numI
            rw [hx]
            dsimp only
            split
            · rename_i h; split at h <;> first | (injection h with h; subst h; rename_i hh; rw [if_pos hh]) | cases h
            · rename_i h; split at h <;> first | (rename_i hh; rw [if_neg hh]) | cases h
          by_cases he : Lib.itoa v = R
          · rw [if_pos he] at hTv
            subst hRe
            repeat' (first|(first|(refine awp_held (id := 4) [] [⟨0, true, [], bl 9 122⟩, ⟨1, true, [], bl 9 121⟩, ⟨2, true, [], bl 9 123⟩, ⟨3, true, [], bl 9 23⟩, ⟨4, true, [], bl 9 15⟩, ⟨5, true, [], bl 9 31⟩, ⟨6, false, [], []⟩, ⟨7, true, [], bl 9 127⟩, ⟨8, true, [], bl 9 255⟩] (by kernel_rfl) (by kernel_rfl) rfl (by kernel_rfl) ?_)|(refine awp_held (id := 13) [(9, [0])] [⟨0, true, [], bl 11 510⟩, ⟨1, true, [], bl 11 1⟩, ⟨2, true, [], bl 11 3⟩, ⟨3, true, [], bl 11 7⟩, ⟨4, true, [], bl 11 79⟩, ⟨6, true, [0], bl 11 575⟩, ⟨5, false, [], []⟩, ⟨7, true, [0], bl 11 639⟩, ⟨8, true, [0], bl 11 767⟩, ⟨9, false, [], []⟩, ⟨10, true, [], bl 11 1023⟩] (by kernel_rfl) (by kernel_rfl) rfl (by kernel_rfl) ?_)|(refine hw_v (ov_slice_hi rfl rfl (by omega) (by omega)) rfl ?_)|(refine hw_v (ov_slice_lo rfl rfl (by omega) (by omega)) rfl ?_)|(refine k_call ?_;refine al_call rfl rfl rfl rfl hI ?_;rintro _ rfl)|(refine k_call ?_;refine al_call rfl rfl rfl rfl hTr ?_;rintro _ rfl)|(refine k_call ?_;refine al_call rfl rfl rfl rfl s_names ?_;rintro _ rfl)|(refine k_call ?_;refine al_call rfl rfl rfl rfl hX ?_;rintro _ rfl)|(refine k_call ?_;refine al_call rfl rfl rfl rfl hTk ?_;rintro _ rfl)|(refine k_call ?_;refine al_call rfl rfl rfl rfl hA1 ?_;rintro _ rfl)|(refine k_call ?_;refine al_call rfl rfl rfl rfl hIt ?_;rintro _ rfl)|(refine k_bin ?_;refine al_v (ov_sne_t hR rfl rfl) rfl ?_)|(refine k_bin ?_;refine al_v (ov_seq_f hR rfl rfl) rfl ?_)|(refine k_bin ?_;refine al_v (ov_bne_f rfl rfl rfl) rfl ?_)|(refine hw_v (ov_ieq_nn Tryd.underlying56 rfl) rfl ?_)|(refine hw_v (ov_seq_t he rfl rfl) rfl ?_))|(refine k_al ?_;first|(refine al_v (ov_move rfl) rfl ?_)|(refine k_g ?_;first|(refine al_gy' rfl rfl (by with_reducible rfl) ?_)|(refine al_gnf rfl rfl (by with_reducible rfl) rfl ?_)|(refine al_gsp rfl rfl (fun hc => ?_) (fun hc => ?_) <;> (try (exfalso;omega))))|(refine al_v (ov_fieldAddr rfl rfl) rfl ?_)|(refine k_load ?_;first|(refine al_v (ov_load rfl rfl) rfl ?_)|(refine al_v (ov_load_agg rfl rfl rfl) rfl ?_))|(refine k_bin ?_;first|(refine al_v (ov_cmp rfl rfl rfl) rfl ?_)|(refine al_v (ov_add rfl rfl (by (first|exact w64 (by omega) (by omega)|rfl))) rfl ?_))|(refine k_pick ?_;first|(refine al_v (ov_pick_t' rfl (by with_reducible rfl) rfl) rfl ?_)|(refine al_v (ov_pick_f' rfl (by with_reducible rfl) rfl) rfl ?_))|(refine al_v (ov_assign rfl) rfl ?_)|(refine al_v (ov_extract rfl rfl) rfl ?_)|(refine al_nil ?_)|(refine al_alloc rfl rfl rfl (by first|exact ln0|exact ln1) (by repeat constructor) rfl ?_)|(refine al_store rfl rfl rfl rfl rfl (by repeat constructor) (by repeat constructor) ?_)|(refine al_v (ov_build rfl rfl rfl (by repeat constructor)) rfl ?_))|(first|(refine thn_n ?_)|(refine k_awp ?_;first|(refine awp_seq (awp_region ?_))|(refine awp_seq ?_)|(refine awp_region ?_)|(refine k_cond ?_;first|(refine awp_cond_t' rfl (by with_reducible rfl) ?_)|(refine awp_cond_f' rfl (by with_reducible rfl) ?_)|(refine awp_cond_p rfl (fun hc => ?_) (fun hc => ?_) <;> (try (exfalso;omega))))|(refine awp_ret ?_)|(refine awp_skip ?_))|(refine thn_ret ?_))|(first|(refine k_hw ?_;first|(refine hw_s rfl ?_)|(refine hw_v (ov_move rfl) rfl ?_)|(refine hw_v (ov_assign rfl) rfl ?_)|(refine hw_v (ov_fieldAddr rfl rfl) rfl ?_)|(refine hw_v (ov_load rfl rfl) rfl ?_)|(refine hw_v (ov_load_agg rfl rfl rfl) rfl ?_)|(refine hw_v (ov_cmp rfl rfl rfl) rfl ?_)|(refine hw_v (ov_pick_t' rfl (by with_reducible rfl) rfl) rfl ?_)|(refine hw_v (ov_pick_f' rfl (by with_reducible rfl) rfl) rfl ?_)|(refine hw_v (ov_extract rfl rfl) rfl ?_)|(refine hw_v (ov_add rfl rfl (by (first|exact w64 (by omega) (by omega)|rfl))) rfl ?_)|(refine hw_v (ov_build rfl rfl rfl (by repeat constructor)) rfl ?_))|(refine hl_op rfl ?_)|(refine k_ho ?_;first|(refine ho_n ?_)|(refine ho_gy rfl rfl (by with_reducible rfl) ?_)|(refine ho_gnt rfl rfl (by with_reducible rfl) rfl ?_))|(refine hl_nil ?_)|(refine hq_back ?_)))
            all_goals
              refine retc1 (by first | exact .inr rfl | exact .inl rfl) rfl rfl rfl rfl rfl ?_
              exact ⟨⟨((a : Int) + 1, v), by rw [hTv]; rfl, fun x h => by rw [hTv] at h; injection h⟩, rfl⟩
          · have hTn : T = none := by rw [hTv, if_neg he]
            subst hRe
            repeat' (first|(first|(refine awp_held (id := 4) [] [⟨0, true, [], bl 9 122⟩, ⟨1, true, [], bl 9 121⟩, ⟨2, true, [], bl 9 123⟩, ⟨3, true, [], bl 9 23⟩, ⟨4, true, [], bl 9 15⟩, ⟨5, true, [], bl 9 31⟩, ⟨6, false, [], []⟩, ⟨7, true, [], bl 9 127⟩, ⟨8, true, [], bl 9 255⟩] (by kernel_rfl) (by kernel_rfl) rfl (by kernel_rfl) ?_)|(refine awp_held (id := 13) [(9, [0])] [⟨0, true, [], bl 11 510⟩, ⟨1, true, [], bl 11 1⟩, ⟨2, true, [], bl 11 3⟩, ⟨3, true, [], bl 11 7⟩, ⟨4, true, [], bl 11 79⟩, ⟨6, true, [0], bl 11 575⟩, ⟨5, false, [], []⟩, ⟨7, true, [0], bl 11 639⟩, ⟨8, true, [0], bl 11 767⟩, ⟨9, false, [], []⟩, ⟨10, true, [], bl 11 1023⟩] (by kernel_rfl) (by kernel_rfl) rfl (by kernel_rfl) ?_)|(refine hw_v (ov_slice_hi rfl rfl (by omega) (by omega)) rfl ?_)|(refine hw_v (ov_slice_lo rfl rfl (by omega) (by omega)) rfl ?_)|(refine k_call ?_;refine al_call rfl rfl rfl rfl hI ?_;rintro _ rfl)|(refine k_call ?_;refine al_call rfl rfl rfl rfl hTr ?_;rintro _ rfl)|(refine k_call ?_;refine al_call rfl rfl rfl rfl s_names ?_;rintro _ rfl)|(refine k_call ?_;refine al_call rfl rfl rfl rfl hX ?_;rintro _ rfl)|(refine k_call ?_;refine al_call rfl rfl rfl rfl hTk ?_;rintro _ rfl)|(refine k_call ?_;refine al_call rfl rfl rfl rfl hA1 ?_;rintro _ rfl)|(refine k_call ?_;refine al_call rfl rfl rfl rfl hIt ?_;rintro _ rfl)|(refine k_bin ?_;refine al_v (ov_sne_t hR rfl rfl) rfl ?_)|(refine k_bin ?_;refine al_v (ov_seq_f hR rfl rfl) rfl ?_)|(refine k_bin ?_;refine al_v (ov_bne_f rfl rfl rfl) rfl ?_)|(refine hw_v (ov_ieq_nn Tryd.underlying56 rfl) rfl ?_)|(refine hw_v (ov_seq_f he rfl rfl) rfl ?_))|(refine k_al ?_;first|(refine al_v (ov_move rfl) rfl ?_)|(refine k_g ?_;first|(refine al_gy' rfl rfl (by with_reducible rfl) ?_)|(refine al_gnf rfl rfl (by with_reducible rfl) rfl ?_)|(refine al_gsp rfl rfl (fun hc => ?_) (fun hc => ?_) <;> (try (exfalso;omega))))|(refine al_v (ov_fieldAddr rfl rfl) rfl ?_)|(refine k_load ?_;first|(refine al_v (ov_load rfl rfl) rfl ?_)|(refine al_v (ov_load_agg rfl rfl rfl) rfl ?_))|(refine k_bin ?_;first|(refine al_v (ov_cmp rfl rfl rfl) rfl ?_)|(refine al_v (ov_add rfl rfl (by (first|exact w64 (by omega) (by omega)|rfl))) rfl ?_))|(refine k_pick ?_;first|(refine al_v (ov_pick_t' rfl (by with_reducible rfl) rfl) rfl ?_)|(refine al_v (ov_pick_f' rfl (by with_reducible rfl) rfl) rfl ?_))|(refine al_v (ov_assign rfl) rfl ?_)|(refine al_v (ov_extract rfl rfl) rfl ?_)|(refine al_nil ?_)|(refine al_alloc rfl rfl rfl (by first|exact ln0|exact ln1) (by repeat constructor) rfl ?_)|(refine al_store rfl rfl rfl rfl rfl (by repeat constructor) (by repeat constructor) ?_)|(refine al_v (ov_build rfl rfl rfl (by repeat constructor)) rfl ?_))|(first|(refine thn_n ?_)|(refine k_awp ?_;first|(refine awp_seq (awp_region ?_))|(refine awp_seq ?_)|(refine awp_region ?_)|(refine k_cond ?_;first|(refine awp_cond_t' rfl (by with_reducible rfl) ?_)|(refine awp_cond_f' rfl (by with_reducible rfl) ?_)|(refine awp_cond_p rfl (fun hc => ?_) (fun hc => ?_) <;> (try (exfalso;omega))))|(refine awp_ret ?_)|(refine awp_skip ?_))|(refine thn_ret ?_))|(first|(refine k_hw ?_;first|(refine hw_s rfl ?_)|(refine hw_v (ov_move rfl) rfl ?_)|(refine hw_v (ov_assign rfl) rfl ?_)|(refine hw_v (ov_fieldAddr rfl rfl) rfl ?_)|(refine hw_v (ov_load rfl rfl) rfl ?_)|(refine hw_v (ov_load_agg rfl rfl rfl) rfl ?_)|(refine hw_v (ov_cmp rfl rfl rfl) rfl ?_)|(refine hw_v (ov_pick_t' rfl (by with_reducible rfl) rfl) rfl ?_)|(refine hw_v (ov_pick_f' rfl (by with_reducible rfl) rfl) rfl ?_)|(refine hw_v (ov_extract rfl rfl) rfl ?_)|(refine hw_v (ov_add rfl rfl (by (first|exact w64 (by omega) (by omega)|rfl))) rfl ?_)|(refine hw_v (ov_build rfl rfl rfl (by repeat constructor)) rfl ?_))|(refine hl_op rfl ?_)|(refine k_ho ?_;first|(refine ho_n ?_)|(refine ho_gy rfl rfl (by with_reducible rfl) ?_)|(refine ho_gnt rfl rfl (by with_reducible rfl) rfl ?_))|(refine hl_nil ?_)|(refine hq_back ?_)))
            all_goals
              refine retc1 (by first | exact .inr rfl | exact .inl rfl) rfl rfl rfl rfl rfl ?_
              exact ⟨⟨(_, _), by rw [hTn]; rfl, fun x h => by rw [hTn] at h; cases h⟩, rfl⟩
        | _ =>
          have hA2 : PCalls (EE w0 base) 60 [.str R] fun rv => ∃ n, rv = .tup [.int .i64 n, .iface] := acalls_mono hAt fun rv os h => ⟨by
            rcases h.1 with ⟨u, h1, h2⟩ | ⟨_, h2⟩
            · rw [hx] at h1; cases h1
            · exact h2, h.2⟩
          have hTn : T = none := by
            rw [hT]
            unfold numI
            rw [hx]
          subst hRe
          repeat' (first|(first|(refine awp_held (id := 4) [] [⟨0, true, [], bl 9 122⟩, ⟨1, true, [], bl 9 121⟩, ⟨2, true, [], bl 9 123⟩, ⟨3, true, [], bl 9 23⟩, ⟨4, true, [], bl 9 15⟩, ⟨5, true, [], bl 9 31⟩, ⟨6, false, [], []⟩, ⟨7, true, [], bl 9 127⟩, ⟨8, true, [], bl 9 255⟩] (by kernel_rfl) (by kernel_rfl) rfl (by kernel_rfl) ?_)|(refine awp_held (id := 13) [(9, [0])] [⟨0, true, [], bl 11 510⟩, ⟨1, true, [], bl 11 1⟩, ⟨2, true, [], bl 11 3⟩, ⟨3, true, [], bl 11 7⟩, ⟨4, true, [], bl 11 79⟩, ⟨6, true, [0], bl 11 575⟩, ⟨5, false, [], []⟩, ⟨7, true, [0], bl 11 639⟩, ⟨8, true, [0], bl 11 767⟩, ⟨9, false, [], []⟩, ⟨10, true, [], bl 11 1023⟩] (by kernel_rfl) (by kernel_rfl) rfl (by kernel_rfl) ?_)|(refine hw_v (ov_slice_hi rfl rfl (by omega) (by omega)) rfl ?_)|(refine hw_v (ov_slice_lo rfl rfl (by omega) (by omega)) rfl ?_)|(refine k_call ?_;refine al_call rfl rfl rfl rfl hI ?_;rintro _ rfl)|(refine k_call ?_;refine al_call rfl rfl rfl rfl hTr ?_;rintro _ rfl)|(refine k_call ?_;refine al_call rfl rfl rfl rfl s_names ?_;rintro _ rfl)|(refine k_call ?_;refine al_call rfl rfl rfl rfl hX ?_;rintro _ rfl)|(refine k_call ?_;refine al_call rfl rfl rfl rfl hTk ?_;rintro _ rfl)|(refine k_call ?_;refine al_call rfl rfl rfl rfl hA2 ?_;rintro _ ⟨n, rfl⟩)|(refine k_bin ?_;refine al_v (ov_sne_t hR rfl rfl) rfl ?_)|(refine k_bin ?_;refine al_v (ov_seq_f hR rfl rfl) rfl ?_)|(refine k_bin ?_;refine al_v (ov_bne_f rfl rfl rfl) rfl ?_)|(refine hw_v (ov_ieq_in Tryd.underlying56 rfl rfl) rfl ?_))|(refine k_al ?_;first|(refine al_v (ov_move rfl) rfl ?_)|(refine k_g ?_;first|(refine al_gy' rfl rfl (by with_reducible rfl) ?_)|(refine al_gnf rfl rfl (by with_reducible rfl) rfl ?_)|(refine al_gsp rfl rfl (fun hc => ?_) (fun hc => ?_) <;> (try (exfalso;omega))))|(refine al_v (ov_fieldAddr rfl rfl) rfl ?_)|(refine k_load ?_;first|(refine al_v (ov_load rfl rfl) rfl ?_)|(refine al_v (ov_load_agg rfl rfl rfl) rfl ?_))|(refine k_bin ?_;first|(refine al_v (ov_cmp rfl rfl rfl) rfl ?_)|(refine al_v (ov_add rfl rfl (by (first|exact w64 (by omega) (by omega)|rfl))) rfl ?_))|(refine k_pick ?_;first|(refine al_v (ov_pick_t' rfl (by with_reducible rfl) rfl) rfl ?_)|(refine al_v (ov_pick_f' rfl (by with_reducible rfl) rfl) rfl ?_))|(refine al_v (ov_assign rfl) rfl ?_)|(refine al_v (ov_extract rfl rfl) rfl ?_)|(refine al_nil ?_)|(refine al_alloc rfl rfl rfl (by first|exact ln0|exact ln1) (by repeat constructor) rfl ?_)|(refine al_store rfl rfl rfl rfl rfl (by repeat constructor) (by repeat constructor) ?_)|(refine al_v (ov_build rfl rfl rfl (by repeat constructor)) rfl ?_))|(first|(refine thn_n ?_)|(refine k_awp ?_;first|(refine awp_seq (awp_region ?_))|(refine awp_seq ?_)|(refine awp_region ?_)|(refine k_cond ?_;first|(refine awp_cond_t' rfl (by with_reducible rfl) ?_)|(refine awp_cond_f' rfl (by with_reducible rfl) ?_)|(refine awp_cond_p rfl (fun hc => ?_) (fun hc => ?_) <;> (try (exfalso;omega))))|(refine awp_ret ?_)|(refine awp_skip ?_))|(refine thn_ret ?_))|(first|(refine k_hw ?_;first|(refine hw_s rfl ?_)|(refine hw_v (ov_move rfl) rfl ?_)|(refine hw_v (ov_assign rfl) rfl ?_)|(refine hw_v (ov_fieldAddr rfl rfl) rfl ?_)|(refine hw_v (ov_load rfl rfl) rfl ?_)|(refine hw_v (ov_load_agg rfl rfl rfl) rfl ?_)|(refine hw_v (ov_cmp rfl rfl rfl) rfl ?_)|(refine hw_v (ov_pick_t' rfl (by with_reducible rfl) rfl) rfl ?_)|(refine hw_v (ov_pick_f' rfl (by with_reducible rfl) rfl) rfl ?_)|(refine hw_v (ov_extract rfl rfl) rfl ?_)|(refine hw_v (ov_add rfl rfl (by (first|exact w64 (by omega) (by omega)|rfl))) rfl ?_)|(refine hw_v (ov_build rfl rfl rfl (by repeat constructor)) rfl ?_))|(refine hl_op rfl ?_)|(refine k_ho ?_;first|(refine ho_n ?_)|(refine ho_gy rfl rfl (by with_reducible rfl) ?_)|(refine ho_gnt rfl rfl (by with_reducible rfl) rfl ?_))|(refine hl_nil ?_)|(refine hq_back ?_)))
          all_goals
            refine retc1 (by first | exact .inr rfl | exact .inl rfl) rfl rfl rfl rfl rfl ?_
            exact ⟨⟨(_, _), by rw [hTn]; rfl, fun x h => by rw [hTn] at h; cases h⟩, rfl⟩
    · rw [if_neg hA] at hT
      rw [decide_eq_false hA] at hTk
      by_cases hR : R = []
      · have hTv : T = some ((a : Int) + 1, 0) := by rw [hT, if_pos hR]
        rcases split with ⟨rfl, rfl, rfl⟩ | ⟨⟨hk0, hkl⟩, rfl, rfl⟩
        all_goals
          repeat' (first|(first|(refine awp_held (id := 4) [] [⟨0, true, [], bl 9 122⟩, ⟨1, true, [], bl 9 121⟩, ⟨2, true, [], bl 9 123⟩, ⟨3, true, [], bl 9 23⟩, ⟨4, true, [], bl 9 15⟩, ⟨5, true, [], bl 9 31⟩, ⟨6, false, [], []⟩, ⟨7, true, [], bl 9 127⟩, ⟨8, true, [], bl 9 255⟩] (by kernel_rfl) (by kernel_rfl) rfl (by kernel_rfl) ?_)|(refine awp_held (id := 13) [(9, [0])] [⟨0, true, [], bl 11 510⟩, ⟨1, true, [], bl 11 1⟩, ⟨2, true, [], bl 11 3⟩, ⟨3, true, [], bl 11 7⟩, ⟨4, true, [], bl 11 79⟩, ⟨6, true, [0], bl 11 575⟩, ⟨5, false, [], []⟩, ⟨7, true, [0], bl 11 639⟩, ⟨8, true, [0], bl 11 767⟩, ⟨9, false, [], []⟩, ⟨10, true, [], bl 11 1023⟩] (by kernel_rfl) (by kernel_rfl) rfl (by kernel_rfl) ?_)|(refine hw_v (ov_slice_hi rfl rfl (by omega) (by omega)) rfl ?_)|(refine hw_v (ov_slice_lo rfl rfl (by omega) (by omega)) rfl ?_)|(refine k_call ?_;refine al_call rfl rfl rfl rfl hI ?_;rintro _ rfl)|(refine k_call ?_;refine al_call rfl rfl rfl rfl hTr ?_;rintro _ rfl)|(refine k_call ?_;refine al_call rfl rfl rfl rfl s_names ?_;rintro _ rfl)|(refine k_call ?_;refine al_call rfl rfl rfl rfl hX ?_;rintro _ rfl)|(refine k_call ?_;refine al_call rfl rfl rfl rfl hTk ?_;rintro _ rfl)|(refine k_bin ?_;refine al_v (ov_sne_f hR rfl rfl) rfl ?_)|(refine k_bin ?_;refine al_v (ov_seq_t hR rfl rfl) rfl ?_)|(refine k_bin ?_;refine al_v (ov_bne_f rfl rfl rfl) rfl ?_))|(refine k_al ?_;first|(refine al_v (ov_move rfl) rfl ?_)|(refine k_g ?_;first|(refine al_gy' rfl rfl (by with_reducible rfl) ?_)|(refine al_gnf rfl rfl (by with_reducible rfl) rfl ?_)|(refine al_gsp rfl rfl (fun hc => ?_) (fun hc => ?_) <;> (try (exfalso;omega))))|(refine al_v (ov_fieldAddr rfl rfl) rfl ?_)|(refine k_load ?_;first|(refine al_v (ov_load rfl rfl) rfl ?_)|(refine al_v (ov_load_agg rfl rfl rfl) rfl ?_))|(refine k_bin ?_;first|(refine al_v (ov_cmp rfl rfl rfl) rfl ?_)|(refine al_v (ov_add rfl rfl (by (first|exact w64 (by omega) (by omega)|rfl))) rfl ?_))|(refine k_pick ?_;first|(refine al_v (ov_pick_t' rfl (by with_reducible rfl) rfl) rfl ?_)|(refine al_v (ov_pick_f' rfl (by with_reducible rfl) rfl) rfl ?_))|(refine al_v (ov_assign rfl) rfl ?_)|(refine al_v (ov_extract rfl rfl) rfl ?_)|(refine al_nil ?_)|(refine al_alloc rfl rfl rfl (by first|exact ln0|exact ln1) (by repeat constructor) rfl ?_)|(refine al_store rfl rfl rfl rfl rfl (by repeat constructor) (by repeat constructor) ?_)|(refine al_v (ov_build rfl rfl rfl (by repeat constructor)) rfl ?_))|(first|(refine thn_n ?_)|(refine k_awp ?_;first|(refine awp_seq (awp_region ?_))|(refine awp_seq ?_)|(refine awp_region ?_)|(refine k_cond ?_;first|(refine awp_cond_t' rfl (by with_reducible rfl) ?_)|(refine awp_cond_f' rfl (by with_reducible rfl) ?_)|(refine awp_cond_p rfl (fun hc => ?_) (fun hc => ?_) <;> (try (exfalso;omega))))|(refine awp_ret ?_)|(refine awp_skip ?_))|(refine thn_ret ?_))|(first|(refine k_hw ?_;first|(refine hw_s rfl ?_)|(refine hw_v (ov_move rfl) rfl ?_)|(refine hw_v (ov_assign rfl) rfl ?_)|(refine hw_v (ov_fieldAddr rfl rfl) rfl ?_)|(refine hw_v (ov_load rfl rfl) rfl ?_)|(refine hw_v (ov_load_agg rfl rfl rfl) rfl ?_)|(refine hw_v (ov_cmp rfl rfl rfl) rfl ?_)|(refine hw_v (ov_pick_t' rfl (by with_reducible rfl) rfl) rfl ?_)|(refine hw_v (ov_pick_f' rfl (by with_reducible rfl) rfl) rfl ?_)|(refine hw_v (ov_extract rfl rfl) rfl ?_)|(refine hw_v (ov_add rfl rfl (by (first|exact w64 (by omega) (by omega)|rfl))) rfl ?_)|(refine hw_v (ov_build rfl rfl rfl (by repeat constructor)) rfl ?_))|(refine hl_op rfl ?_)|(refine k_ho ?_;first|(refine ho_n ?_)|(refine ho_gy rfl rfl (by with_reducible rfl) ?_)|(refine ho_gnt rfl rfl (by with_reducible rfl) rfl ?_))|(refine hl_nil ?_)|(refine hq_back ?_)))
        all_goals
          refine retc1 (by first | exact .inr rfl | exact .inl rfl) rfl rfl rfl rfl rfl ?_
          exact ⟨⟨((a : Int) + 1, 0), by rw [hTv]; rfl, fun x h => by rw [hTv] at h; injection h⟩, rfl⟩
      · have hTn : T = none := by rw [hT, if_neg hR]
        rcases split with ⟨rfl, rfl, rfl⟩ | ⟨⟨hk0, hkl⟩, rfl, rfl⟩
        · exact absurd rfl hR
        · repeat' (first|(first|(refine awp_held (id := 4) [] [⟨0, true, [], bl 9 122⟩, ⟨1, true, [], bl 9 121⟩, ⟨2, true, [], bl 9 123⟩, ⟨3, true, [], bl 9 23⟩, ⟨4, true, [], bl 9 15⟩, ⟨5, true, [], bl 9 31⟩, ⟨6, false, [], []⟩, ⟨7, true, [], bl 9 127⟩, ⟨8, true, [], bl 9 255⟩] (by kernel_rfl) (by kernel_rfl) rfl (by kernel_rfl) ?_)|(refine awp_held (id := 13) [(9, [0])] [⟨0, true, [], bl 11 510⟩, ⟨1, true, [], bl 11 1⟩, ⟨2, true, [], bl 11 3⟩, ⟨3, true, [], bl 11 7⟩, ⟨4, true, [], bl 11 79⟩, ⟨6, true, [0], bl 11 575⟩, ⟨5, false, [], []⟩, ⟨7, true, [0], bl 11 639⟩, ⟨8, true, [0], bl 11 767⟩, ⟨9, false, [], []⟩, ⟨10, true, [], bl 11 1023⟩] (by kernel_rfl) (by kernel_rfl) rfl (by kernel_rfl) ?_)|(refine hw_v (ov_slice_hi rfl rfl (by omega) (by omega)) rfl ?_)|(refine hw_v (ov_slice_lo rfl rfl (by omega) (by omega)) rfl ?_)|(refine k_call ?_;refine al_call rfl rfl rfl rfl hI ?_;rintro _ rfl)|(refine k_call ?_;refine al_call rfl rfl rfl rfl hTr ?_;rintro _ rfl)|(refine k_call ?_;refine al_call rfl rfl rfl rfl s_names ?_;rintro _ rfl)|(refine k_call ?_;refine al_call rfl rfl rfl rfl hX ?_;rintro _ rfl)|(refine k_call ?_;refine al_call rfl rfl rfl rfl hTk ?_;rintro _ rfl)|(refine k_bin ?_;refine al_v (ov_sne_t hR rfl rfl) rfl ?_)|(refine k_bin ?_;refine al_v (ov_bne_t (by decide) rfl rfl) rfl ?_))|(refine k_al ?_;first|(refine al_v (ov_move rfl) rfl ?_)|(refine k_g ?_;first|(refine al_gy' rfl rfl (by with_reducible rfl) ?_)|(refine al_gnf rfl rfl (by with_reducible rfl) rfl ?_)|(refine al_gsp rfl rfl (fun hc => ?_) (fun hc => ?_) <;> (try (exfalso;omega))))|(refine al_v (ov_fieldAddr rfl rfl) rfl ?_)|(refine k_load ?_;first|(refine al_v (ov_load rfl rfl) rfl ?_)|(refine al_v (ov_load_agg rfl rfl rfl) rfl ?_))|(refine k_bin ?_;first|(refine al_v (ov_cmp rfl rfl rfl) rfl ?_)|(refine al_v (ov_add rfl rfl (by (first|exact w64 (by omega) (by omega)|rfl))) rfl ?_))|(refine k_pick ?_;first|(refine al_v (ov_pick_t' rfl (by with_reducible rfl) rfl) rfl ?_)|(refine al_v (ov_pick_f' rfl (by with_reducible rfl) rfl) rfl ?_))|(refine al_v (ov_assign rfl) rfl ?_)|(refine al_v (ov_extract rfl rfl) rfl ?_)|(refine al_nil ?_)|(refine al_alloc rfl rfl rfl (by first|exact ln0|exact ln1) (by repeat constructor) rfl ?_)|(refine al_store rfl rfl rfl rfl rfl (by repeat constructor) (by repeat constructor) ?_)|(refine al_v (ov_build rfl rfl rfl (by repeat constructor)) rfl ?_))|(first|(refine thn_n ?_)|(refine k_awp ?_;first|(refine awp_seq (awp_region ?_))|(refine awp_seq ?_)|(refine awp_region ?_)|(refine k_cond ?_;first|(refine awp_cond_t' rfl (by with_reducible rfl) ?_)|(refine awp_cond_f' rfl (by with_reducible rfl) ?_)|(refine awp_cond_p rfl (fun hc => ?_) (fun hc => ?_) <;> (try (exfalso;omega))))|(refine awp_ret ?_)|(refine awp_skip ?_))|(refine thn_ret ?_))|(first|(refine k_hw ?_;first|(refine hw_s rfl ?_)|(refine hw_v (ov_move rfl) rfl ?_)|(refine hw_v (ov_assign rfl) rfl ?_)|(refine hw_v (ov_fieldAddr rfl rfl) rfl ?_)|(refine hw_v (ov_load rfl rfl) rfl ?_)|(refine hw_v (ov_load_agg rfl rfl rfl) rfl ?_)|(refine hw_v (ov_cmp rfl rfl rfl) rfl ?_)|(refine hw_v (ov_pick_t' rfl (by with_reducible rfl) rfl) rfl ?_)|(refine hw_v (ov_pick_f' rfl (by with_reducible rfl) rfl) rfl ?_)|(refine hw_v (ov_extract rfl rfl) rfl ?_)|(refine hw_v (ov_add rfl rfl (by (first|exact w64 (by omega) (by omega)|rfl))) rfl ?_)|(refine hw_v (ov_build rfl rfl rfl (by repeat constructor)) rfl ?_))|(refine hl_op rfl ?_)|(refine k_ho ?_;first|(refine ho_n ?_)|(refine ho_gy rfl rfl (by with_reducible rfl) ?_)|(refine ho_gnt rfl rfl (by with_reducible rfl) rfl ?_))|(refine hl_nil ?_)|(refine hq_back ?_)))
          all_goals
            refine retc1 (by first | exact .inr rfl | exact .inl rfl) rfl rfl rfl rfl rfl ?_
            exact ⟨⟨(_, _), by rw [hTn]; rfl, fun x h => by rw [hTn] at h; cases h⟩, rfl⟩
end
end Go.Proofs.YtnjolbnbpfjdiaaDoor.L

namespace Go.Proofs.YtnjolbnbpfjdiaaDoor.L
open Go Go.RowKit Go.Proofs
set_option linter.unusedVariables false
set_option linter.unusedSimpArgs false
set_option maxRecDepth 100000
attribute [local irreducible] AL QL AWp Thn InB RetQ ACalls LoopQ HL HO HW HQ NoG JmpQ MidQ HF

def cutC (line : List UInt8) : List UInt8 := (Lib.cut line [59]).1
def bareI (t : List UInt8) : List UInt8 := Lib.trimS t [32, 9]
def leadI (t : List UInt8) : Nat := t.length - (Lib.trimLeftS t [32, 9]).length
/-- How the reading of lines ends. -/
inductive PR where
  | bad (p : Nat)
  | done (out : Ins) (ps : List Int)
def codeL : List (List UInt8) → Nat → Ins → List Int → PR
  | [], _, out, ps => .done out ps
  | line :: r, at', out, ps => if bareI (cutC line) = [] then codeL r (at' + (line.length + 1)) out ps else match readI (bareI (cutC line)) with
    | none => .bad (at' + leadI (cutC line))
    | some x => codeL r (at' + (line.length + 1)) (out ++ [x]) (ps ++ [((at' + leadI (cutC line) : Nat) : Int)])
def endC (out : Ins) (ps : List Int) : Ins × Int × Int := if (checkI out).1 = 0 then (out, 0, 0) else if (checkI out).1 = 130 then ([], 130, ps.getD (checkI out).2.toNat 0) else ([], (checkI out).1, 0)
/-- The instructions of a text; a number of what is wrong; where. -/
def parseI (s : List UInt8) : Ins × Int × Int := if 262144 < s.length then ([], 4, 0) else match codeL (splitB 10 s) 0 [] [] with
  | .bad p => ([], 130, (p : Int))
  | .done out ps => endC out ps
def sumL : List (List UInt8) → Nat
  | [] => 0
  | l :: r => l.length + 1 + sumL r
theorem splitB_sum (c : UInt8) : ∀ l : List UInt8, sumL (splitB c l) = l.length + 1 := by
  intro l
  induction l with
  | nil => rfl
  | cons b r ih =>
    rw [splitB]
    split
    · rw [sumL, ih]; simp; omega
    · cases hs : splitB c r with
      | nil => exact absurd hs (splitB_ne c r)
      | cons p q =>
        rw [hs] at ih
        simp only [List.headD_cons, List.tail_cons, sumL, List.length_cons] at ih ⊢
        omega
theorem trimL_len (t : List UInt8) : (Lib.trimLeftS t [32, 9]).length ≤ t.length := by
  unfold Lib.trimLeftS
  exact (List.dropWhile_suffix _).length_le
theorem bareI_len (t : List UInt8) : (bareI t).length ≤ t.length := by
  unfold bareI Lib.trimS Lib.trimLeftS Lib.trimRightS
  refine Nat.le_trans (List.dropWhile_suffix _).length_le ?_
  rw [List.length_reverse]
  refine Nat.le_trans (List.dropWhile_suffix _).length_le ?_
  rw [List.length_reverse]
  exact Nat.le_refl _
theorem cutC_len (l : List UInt8) : (cutC l).length ≤ l.length := by
  unfold cutC Lib.cut
  split
  · dsimp only; rw [List.length_take]; exact Nat.min_le_right _ _
  · exact Nat.le_refl _
theorem firstBad_lt {n : Nat} : ∀ {l : Ins} {k a : Nat}, firstBad n l k = some a → k ≤ a ∧ a < k + l.length := by
  intro l
  induction l with
  | nil => intro k a h; cases h
  | cons x l ih =>
    intro k a h
    rw [firstBad] at h
    split at h
    · have := ih h; simp only [List.length_cons]; omega
    · injection h with h; simp only [List.length_cons]; omega
theorem check_kind (l : Ins) : checkI l = (0, 0) ∨ checkI l = (2, 0) ∨ ∃ k : Nat, checkI l = (130, (k : Int)) ∧ k < l.length := by
  unfold checkI
  split
  · exact .inr (.inl rfl)
  · cases h : firstBad l.length l 0 with
    | none => exact .inl rfl
    | some k => exact .inr (.inr ⟨k, rfl, by have := firstBad_lt h; omega⟩)
section
variable {w0 : World} {base : Nat}
set_option maxHeartbeats 16000000 in
theorem s_codeParse {s : List UInt8} (hG : Tabs w0 base) (hs0 : s.length ≤ 140737488351232) : PCalls (EE w0 base) 24 [.str s] fun rv => rv = .tup [.rs (insAV (parseI s).1), .int .i64 (parseI s).2.1, .int .i64 (parseI s).2.2] := by
  refine acalls_of Tryd.func24 rfl rfl rfl (.cons .nil) ?_
  unfold parseI
  by_cases hbig : 262144 < s.length
  · rw [if_pos hbig]
    repeat' (first|(refine k_al ?_;first|(refine al_v (ov_move rfl) rfl ?_)|(refine k_load ?_;first|(refine al_v (ov_load rfl rfl) rfl ?_)|(refine al_v (ov_load_agg rfl rfl rfl) rfl ?_))|(refine k_bin ?_;first|(refine al_v (ov_cmp rfl rfl rfl) rfl ?_)|(refine al_v (ov_add rfl rfl (by (first|exact w64 (by omega) (by omega)|rfl))) rfl ?_)|(refine al_v (ov_sub rfl rfl (by (first|exact w64 (by omega) (by omega)|rfl))) rfl ?_))|(refine al_v (ov_assign rfl) rfl ?_)|(refine k_call ?_;first|(refine al_v (ov_len_str rfl) rfl ?_))|(refine al_v (ov_extract rfl rfl) rfl ?_)|(refine al_nil ?_)|(refine al_alloc rfl rfl rfl (by first|exact ln2|exact ln3|exact ln4) (by repeat constructor) rfl ?_)|(refine al_store rfl rfl rfl rfl rfl (by repeat constructor) (by repeat constructor) ?_)|(refine al_buildSlice (by rfl) (by rfl) (by rfl) (by rfl) (by decide) (by decide) (by rfl) (by rfl) (by repeat constructor) (by rfl) (by repeat constructor) (by rfl) (by first|exact ln2|exact ln3|exact ln4) (by repeat constructor) rfl ?_)|(refine al_v (ov_not_t rfl (by with_reducible rfl)) rfl ?_)|(refine al_v (ov_not_f rfl (by with_reducible rfl)) rfl ?_))|(first|(refine thn_n ?_)|(refine k_awp ?_;first|(refine awp_seq (awp_region ?_))|(refine awp_seq ?_)|(refine awp_region ?_)|(refine k_cond ?_;first|(refine awp_cond_t' rfl (by with_reducible rfl) ?_)|(refine awp_cond_f' rfl (by with_reducible rfl) ?_)|(refine awp_cond_p rfl (fun hc => ?_) (fun hc => ?_) <;> (try (exfalso;omega))))|(refine awp_block ?_)|(refine awp_ret ?_)|(refine awp_skip ?_)|(refine awp_exit ?_))|(refine thn_ret ?_)|(refine lq_exit ?_)|(refine lq_ret ?_)|(refine thn_exit ?_)|(refine inb_n ?_)|(refine inb_ret ?_)|(refine inb_here ?_)))
    refine retq_wkn (.nil 2 rfl) ?_
    refine ret3 (by first | exact .inr rfl | exact .inl rfl) rfl rfl rfl rfl ?_
    exact ⟨rfl, rfl⟩
  rw [if_neg hbig]
  have hSp := s_split (w0 := w0) (base := base) (s := s) hG.g (by omega)
  have hsum := splitB_sum 10 s
  have hLn := txtAV_len (splitB 10 s)
  revert hSp hsum hLn
  obtain ⟨L, hL⟩ : ∃ L, L = splitB 10 s := ⟨_, rfl⟩
  rw [← hL]
  intro hSp hsum hLn
  have hLl : ∀ l : List (List UInt8), l.length ≤ sumL l := by
    intro l
    induction l with
    | nil => exact Nat.le_refl _
    | cons a l ih => rw [sumL, List.length_cons]; omega
  have hL2 := hLl L
  obtain ⟨T, hT⟩ : ∃ T, T = codeL L 0 [] [] := ⟨_, rfl⟩
  rw [← hT]
  repeat' (first|(first|(refine k_call ?_;refine al_v (ov_len_c L.length rfl hLn) rfl ?_)|(refine k_call ?_;refine al_call rfl rfl rfl rfl hSp ?_;rintro _ rfl))|(refine k_al ?_;first|(refine al_v (ov_move rfl) rfl ?_)|(refine k_load ?_;first|(refine al_v (ov_load rfl rfl) rfl ?_)|(refine al_v (ov_load_agg rfl rfl rfl) rfl ?_))|(refine k_bin ?_;first|(refine al_v (ov_cmp rfl rfl rfl) rfl ?_)|(refine al_v (ov_add rfl rfl (by (first|exact w64 (by omega) (by omega)|rfl))) rfl ?_)|(refine al_v (ov_sub rfl rfl (by (first|exact w64 (by omega) (by omega)|rfl))) rfl ?_))|(refine al_v (ov_assign rfl) rfl ?_)|(refine k_call ?_;first|(refine al_v (ov_len_str rfl) rfl ?_))|(refine al_v (ov_extract rfl rfl) rfl ?_)|(refine al_nil ?_)|(refine al_alloc rfl rfl rfl (by first|exact ln2|exact ln3|exact ln4) (by repeat constructor) rfl ?_)|(refine al_store rfl rfl rfl rfl rfl (by repeat constructor) (by repeat constructor) ?_)|(refine al_buildSlice (by rfl) (by rfl) (by rfl) (by rfl) (by decide) (by decide) (by rfl) (by rfl) (by repeat constructor) (by rfl) (by repeat constructor) (by rfl) (by first|exact ln2|exact ln3|exact ln4) (by repeat constructor) rfl ?_)|(refine al_v (ov_not_t rfl (by with_reducible rfl)) rfl ?_)|(refine al_v (ov_not_f rfl (by with_reducible rfl)) rfl ?_))|(first|(refine thn_n ?_)|(refine k_awp ?_;first|(refine awp_seq (awp_region ?_))|(refine awp_seq ?_)|(refine awp_region ?_)|(refine k_cond ?_;first|(refine awp_cond_t' rfl (by with_reducible rfl) ?_)|(refine awp_cond_f' rfl (by with_reducible rfl) ?_)|(refine awp_cond_p rfl (fun hc => ?_) (fun hc => ?_) <;> (try (exfalso;omega))))|(refine awp_block ?_)|(refine awp_ret ?_)|(refine awp_skip ?_)|(refine awp_exit ?_))|(refine thn_ret ?_)|(refine lq_exit ?_)|(refine lq_ret ?_)|(refine thn_exit ?_)|(refine inb_n ?_)|(refine inb_ret ?_)|(refine inb_here ?_)))
  refine awp_adopt 5 85 2 rfl (by decide) rfl (by repeat constructor) ?_
  refine awp_adopt 6 3 1 rfl (by decide) rfl (by repeat constructor) ?_
  refine awp_loopq (fun q : Nat × Nat × Ins × List Int × (Nat × Nat) × (List (List AV) × List (List AV)) => ⟨[(5, .os 0 q.2.2.2.2.1.1), (6, .os 1 q.2.2.2.2.1.2), (7, .int .i64 q.2.1), (22, .rs (txtAV L)), (23, .int .i64 L.length), (24, .int .i64 q.1)], [.row 85 2 q.2.2.2.2.1.1 0 q.2.2.2.2.2.1, .row 3 1 q.2.2.2.2.1.2 0 q.2.2.2.2.2.2]⟩)
    (fun q => (q.2.2.2.2.2.1 = insAV q.2.2.1 ∧ q.2.2.2.2.2.2 = numAV q.2.2.2.1) ∧ q.1 ≤ L.length ∧ q.2.2.1.length ≤ q.1 ∧ q.2.2.2.1.length = q.2.2.1.length ∧ q.2.1 + sumL (L.drop q.1) = s.length + 1 ∧ T = codeL (L.drop q.1) q.2.1 q.2.2.1 q.2.2.2.1) (fun q => L.length - q.1) (0, 0, [], [], (0, 0), ([], [])) (.of (.same (by repeat constructor))) ⟨⟨rfl, rfl⟩, Nat.zero_le _, Nat.le_refl _, rfl, by dsimp only;rw [List.drop_zero, hsum];omega, hT⟩ ?_
  rintro ⟨i, at', out, ps, ⟨v1, v2⟩, ⟨xs, ys⟩⟩ ⟨⟨hxs, hys⟩, hi, ho, hpo, hat, hTi⟩
  dsimp only at hxs hys hi ho hpo hat hTi ⊢
  by_cases hlt : i < L.length
  · obtain ⟨line, hli⟩ : ∃ line, L[i]? = some line := ⟨_, List.getElem?_eq_getElem hlt⟩
    have hrow := txtAV_row hli
    have hd : L.drop i = line :: L.drop (i + 1) := by
      rw [List.drop_eq_getElem_cons hlt]
      congr 1
      exact (List.getElem?_eq_some_iff.1 hli).2
    rw [hd, sumL] at hat
    rw [hd, codeL] at hTi
    have hCut := s_cut (w0 := w0) (base := base) (s := line) (p := [59]) hG.g (by omega)
    have hcl := cutC_len line
    have hce : (Lib.cut line [59]).1 = cutC line := rfl
    rw [hce] at hCut
    have hTL := s_trimLeft (w0 := w0) (base := base) (s := cutC line)
    have hTr : PCalls (EE w0 base) 50 [.str (cutC line), .str [32, 9]] fun rv => rv = .str (bareI (cutC line)) := s_trim (by omega)
    have hbl := bareI_len (cutC line)
    have htl := trimL_len (cutC line)
    have hRd := s_read (w0 := w0) (base := base) (s := bareI (cutC line)) hG (by omega)
    have hld : ((at' + leadI (cutC line) : Nat) : Int) = (at' : Int) + (cutC line).length - (Lib.trimLeftS (cutC line) [32, 9]).length := by unfold leadI; omega
    by_cases hb : bareI (cutC line) = []
    · rw [if_pos hb] at hTi
      repeat' (first|(first|(refine al_v (ov_indexAddr rfl rfl (by omega) hrow rfl) rfl ?_)|(refine k_call ?_;refine al_call rfl rfl rfl rfl hCut ?_;rintro _ rfl)|(refine k_call ?_;refine al_call rfl rfl rfl rfl hTL ?_;rintro _ rfl)|(refine k_call ?_;refine al_call rfl rfl rfl rfl hTr ?_;rintro _ rfl)|(refine k_bin ?_;refine al_v (ov_seq_t hb rfl rfl) rfl ?_))|(refine k_al ?_;first|(refine al_v (ov_move rfl) rfl ?_)|(refine k_load ?_;first|(refine al_v (ov_load rfl rfl) rfl ?_)|(refine al_v (ov_load_agg rfl rfl rfl) rfl ?_))|(refine k_bin ?_;first|(refine al_v (ov_cmp rfl rfl rfl) rfl ?_)|(refine al_v (ov_add rfl rfl (by (first|exact w64 (by omega) (by omega)|rfl))) rfl ?_)|(refine al_v (ov_sub rfl rfl (by (first|exact w64 (by omega) (by omega)|rfl))) rfl ?_))|(refine al_v (ov_assign rfl) rfl ?_)|(refine k_call ?_;first|(refine al_v (ov_len_str rfl) rfl ?_))|(refine al_v (ov_extract rfl rfl) rfl ?_)|(refine al_nil ?_)|(refine al_alloc rfl rfl rfl (by first|exact ln2|exact ln3|exact ln4) (by repeat constructor) rfl ?_)|(refine al_store rfl rfl rfl rfl rfl (by repeat constructor) (by repeat constructor) ?_)|(refine al_buildSlice (by rfl) (by rfl) (by rfl) (by rfl) (by decide) (by decide) (by rfl) (by rfl) (by repeat constructor) (by rfl) (by repeat constructor) (by rfl) (by first|exact ln2|exact ln3|exact ln4) (by repeat constructor) rfl ?_)|(refine al_v (ov_not_t rfl (by with_reducible rfl)) rfl ?_)|(refine al_v (ov_not_f rfl (by with_reducible rfl)) rfl ?_))|(first|(refine thn_n ?_)|(refine k_awp ?_;first|(refine awp_seq (awp_region ?_))|(refine awp_seq ?_)|(refine awp_region ?_)|(refine k_cond ?_;first|(refine awp_cond_t' rfl (by with_reducible rfl) ?_)|(refine awp_cond_f' rfl (by with_reducible rfl) ?_)|(refine awp_cond_p rfl (fun hc => ?_) (fun hc => ?_) <;> (try (exfalso;omega))))|(refine awp_block ?_)|(refine awp_ret ?_)|(refine awp_skip ?_)|(refine awp_exit ?_))|(refine thn_ret ?_)|(refine lq_exit ?_)|(refine lq_ret ?_)|(refine thn_exit ?_)|(refine inb_n ?_)|(refine inb_ret ?_)|(refine inb_here ?_)))
      refine lq_back (i + 1, at' + (line.length + 1), out, ps, (v1, v2), (xs, ys)) ((Wkn.spell 7 (.int .i64 ((at' + (line.length + 1) : Nat) : Int)) rfl (congrArg (AV.int .i64) (by omega))).trans (.of (.same (by repeat constructor)))) ?_ ?_
      · exact ⟨⟨hxs, hys⟩, by dsimp only; omega, by dsimp only; omega, hpo, by dsimp only; omega, hTi⟩
      · dsimp only; omega
    · rw [if_neg hb] at hTi
      cases hx : readI (bareI (cutC line)) with
      | none =>
        rw [hx] at hTi
        have hR2 : PCalls (EE w0 base) 51 [.str (bareI (cutC line))] fun rv => ∃ j : Int × Int, rv = .tup [.agg (insC j), .bool false] := acalls_mono hRd fun rv os h => ⟨by
          obtain ⟨j, h1, _⟩ := h.1
          rw [hx] at h1
          exact ⟨j, h1⟩, h.2⟩
        repeat' (first|(first|(refine al_v (ov_indexAddr rfl rfl (by omega) hrow rfl) rfl ?_)|(refine k_call ?_;refine al_call rfl rfl rfl rfl hCut ?_;rintro _ rfl)|(refine k_call ?_;refine al_call rfl rfl rfl rfl hTL ?_;rintro _ rfl)|(refine k_call ?_;refine al_call rfl rfl rfl rfl hTr ?_;rintro _ rfl)|(refine k_bin ?_;refine al_v (ov_seq_f hb rfl rfl) rfl ?_)|(refine k_call ?_;refine al_call rfl rfl rfl rfl hR2 ?_;rintro _ ⟨j, rfl⟩))|(refine k_al ?_;first|(refine al_v (ov_move rfl) rfl ?_)|(refine k_load ?_;first|(refine al_v (ov_load rfl rfl) rfl ?_)|(refine al_v (ov_load_agg rfl rfl rfl) rfl ?_))|(refine k_bin ?_;first|(refine al_v (ov_cmp rfl rfl rfl) rfl ?_)|(refine al_v (ov_add rfl rfl (by (first|exact w64 (by omega) (by omega)|rfl))) rfl ?_)|(refine al_v (ov_sub rfl rfl (by (first|exact w64 (by omega) (by omega)|rfl))) rfl ?_))|(refine al_v (ov_assign rfl) rfl ?_)|(refine k_call ?_;first|(refine al_v (ov_len_str rfl) rfl ?_))|(refine al_v (ov_extract rfl rfl) rfl ?_)|(refine al_nil ?_)|(refine al_alloc rfl rfl rfl (by first|exact ln2|exact ln3|exact ln4) (by repeat constructor) rfl ?_)|(refine al_store rfl rfl rfl rfl rfl (by repeat constructor) (by repeat constructor) ?_)|(refine al_buildSlice (by rfl) (by rfl) (by rfl) (by rfl) (by decide) (by decide) (by rfl) (by rfl) (by repeat constructor) (by rfl) (by repeat constructor) (by rfl) (by first|exact ln2|exact ln3|exact ln4) (by repeat constructor) rfl ?_)|(refine al_v (ov_not_t rfl (by with_reducible rfl)) rfl ?_)|(refine al_v (ov_not_f rfl (by with_reducible rfl)) rfl ?_))|(first|(refine thn_n ?_)|(refine k_awp ?_;first|(refine awp_seq (awp_region ?_))|(refine awp_seq ?_)|(refine awp_region ?_)|(refine k_cond ?_;first|(refine awp_cond_t' rfl (by with_reducible rfl) ?_)|(refine awp_cond_f' rfl (by with_reducible rfl) ?_)|(refine awp_cond_p rfl (fun hc => ?_) (fun hc => ?_) <;> (try (exfalso;omega))))|(refine awp_block ?_)|(refine awp_ret ?_)|(refine awp_skip ?_)|(refine awp_exit ?_))|(refine thn_ret ?_)|(refine lq_exit ?_)|(refine lq_ret ?_)|(refine thn_exit ?_)|(refine inb_n ?_)|(refine inb_ret ?_)|(refine inb_here ?_)))
        refine retq_wkn (.nil 2 rfl) ?_
        refine ret3 (by first | exact .inr rfl | exact .inl rfl) rfl rfl rfl rfl ?_
        rw [hTi]
        dsimp only
        exact ⟨by rw [hld]; rfl, rfl⟩
      | some x =>
        rw [hx] at hTi
        dsimp only at hTi
        have hR2 : PCalls (EE w0 base) 51 [.str (bareI (cutC line))] fun rv => rv = .tup [.agg (insC x), .bool true] := acalls_mono hRd fun rv os h => ⟨by
          obtain ⟨j, h1, h2⟩ := h.1
          rw [hx] at h1
          rw [h1, h2 x hx]
          rfl, h.2⟩
        have hxl : xs.length = out.length := by rw [hxs, insAV_len]
        have hyl : ys.length = ps.length := by rw [hys, List.length_map]
        repeat' (first|(first|(refine al_v (ov_indexAddr rfl rfl (by omega) hrow rfl) rfl ?_)|(refine k_call ?_;refine al_call rfl rfl rfl rfl hCut ?_;rintro _ rfl)|(refine k_call ?_;refine al_call rfl rfl rfl rfl hTL ?_;rintro _ rfl)|(refine k_call ?_;refine al_call rfl rfl rfl rfl hTr ?_;rintro _ rfl)|(refine k_bin ?_;refine al_v (ov_seq_f hb rfl rfl) rfl ?_)|(refine k_call ?_;refine al_call rfl rfl rfl rfl hR2 ?_;rintro _ rfl)|(refine k_call ?_;refine al_append rfl rfl (by repeat constructor) (src_os rfl rfl) rfl (by decide) (by simp only [List.length_cons, List.length_nil];omega) rfl ?_))|(refine k_al ?_;first|(refine al_v (ov_move rfl) rfl ?_)|(refine k_load ?_;first|(refine al_v (ov_load rfl rfl) rfl ?_)|(refine al_v (ov_load_agg rfl rfl rfl) rfl ?_))|(refine k_bin ?_;first|(refine al_v (ov_cmp rfl rfl rfl) rfl ?_)|(refine al_v (ov_add rfl rfl (by (first|exact w64 (by omega) (by omega)|rfl))) rfl ?_)|(refine al_v (ov_sub rfl rfl (by (first|exact w64 (by omega) (by omega)|rfl))) rfl ?_))|(refine al_v (ov_assign rfl) rfl ?_)|(refine k_call ?_;first|(refine al_v (ov_len_str rfl) rfl ?_))|(refine al_v (ov_extract rfl rfl) rfl ?_)|(refine al_nil ?_)|(refine al_alloc rfl rfl rfl (by first|exact ln2|exact ln3|exact ln4) (by repeat constructor) rfl ?_)|(refine al_store rfl rfl rfl rfl rfl (by repeat constructor) (by repeat constructor) ?_)|(refine al_buildSlice (by rfl) (by rfl) (by rfl) (by rfl) (by decide) (by decide) (by rfl) (by rfl) (by repeat constructor) (by rfl) (by repeat constructor) (by rfl) (by first|exact ln2|exact ln3|exact ln4) (by repeat constructor) rfl ?_)|(refine al_v (ov_not_t rfl (by with_reducible rfl)) rfl ?_)|(refine al_v (ov_not_f rfl (by with_reducible rfl)) rfl ?_))|(first|(refine thn_n ?_)|(refine k_awp ?_;first|(refine awp_seq (awp_region ?_))|(refine awp_seq ?_)|(refine awp_region ?_)|(refine k_cond ?_;first|(refine awp_cond_t' rfl (by with_reducible rfl) ?_)|(refine awp_cond_f' rfl (by with_reducible rfl) ?_)|(refine awp_cond_p rfl (fun hc => ?_) (fun hc => ?_) <;> (try (exfalso;omega))))|(refine awp_block ?_)|(refine awp_ret ?_)|(refine awp_skip ?_)|(refine awp_exit ?_))|(refine thn_ret ?_)|(refine lq_exit ?_)|(refine lq_ret ?_)|(refine thn_exit ?_)|(refine inb_n ?_)|(refine inb_ret ?_)|(refine inb_here ?_)))
        refine lq_back (i + 1, at' + (line.length + 1), out ++ [x], ps ++ [((at' + leadI (cutC line) : Nat) : Int)], (v1 + 1, v2 + 1), (_, _)) ((Wkn.spell 7 (.int .i64 ((at' + (line.length + 1) : Nat) : Int)) rfl (congrArg (AV.int .i64) (by omega))).trans (.of (wk_drop [_, _, _] rfl (by repeat constructor) rfl (by repeat constructor) rfl))) ?_ ?_
        · refine ⟨⟨?_, ?_⟩, by dsimp only; omega, ?_, ?_, by dsimp only; omega, hTi⟩
          · dsimp only
            rw [hxs]
            unfold insAV
            rw [List.map_append]
            rfl
          · dsimp only
            rw [hys, hld]
            simp [numAV]
          · simp only [List.length_append, List.length_cons, List.length_nil]; omega
          · simp only [List.length_append, List.length_cons, List.length_nil]; omega
        · dsimp only; omega
  · rw [List.drop_eq_nil_of_le (by omega), codeL] at hTi
    rw [hTi]
    dsimp only
    have hC := s_check (w0 := w0) (base := base) (l := out) (by omega)
    subst hxs
    subst hys
    refine awp_wkn (.freeze 5 rfl (by repeat constructor)) ?_
    refine awp_wkn (.freeze 6 rfl (by repeat constructor)) ?_
    unfold endC
    rcases check_kind out with hk | hk | ⟨k, hk, hkl⟩
    · rw [hk] at hC ⊢
      repeat' (first|((refine k_call ?_;refine al_call rfl rfl rfl rfl hC ?_;rintro _ rfl))|(refine k_al ?_;first|(refine al_v (ov_move rfl) rfl ?_)|(refine k_load ?_;first|(refine al_v (ov_load rfl rfl) rfl ?_)|(refine al_v (ov_load_agg rfl rfl rfl) rfl ?_))|(refine k_bin ?_;first|(refine al_v (ov_cmp rfl rfl rfl) rfl ?_)|(refine al_v (ov_add rfl rfl (by (first|exact w64 (by omega) (by omega)|rfl))) rfl ?_)|(refine al_v (ov_sub rfl rfl (by (first|exact w64 (by omega) (by omega)|rfl))) rfl ?_))|(refine al_v (ov_assign rfl) rfl ?_)|(refine k_call ?_;first|(refine al_v (ov_len_str rfl) rfl ?_))|(refine al_v (ov_extract rfl rfl) rfl ?_)|(refine al_nil ?_)|(refine al_alloc rfl rfl rfl (by first|exact ln2|exact ln3|exact ln4) (by repeat constructor) rfl ?_)|(refine al_store rfl rfl rfl rfl rfl (by repeat constructor) (by repeat constructor) ?_)|(refine al_buildSlice (by rfl) (by rfl) (by rfl) (by rfl) (by decide) (by decide) (by rfl) (by rfl) (by repeat constructor) (by rfl) (by repeat constructor) (by rfl) (by first|exact ln2|exact ln3|exact ln4) (by repeat constructor) rfl ?_)|(refine al_v (ov_not_t rfl (by with_reducible rfl)) rfl ?_)|(refine al_v (ov_not_f rfl (by with_reducible rfl)) rfl ?_))|(first|(refine thn_n ?_)|(refine k_awp ?_;first|(refine awp_seq (awp_region ?_))|(refine awp_seq ?_)|(refine awp_region ?_)|(refine k_cond ?_;first|(refine awp_cond_t' rfl (by with_reducible rfl) ?_)|(refine awp_cond_f' rfl (by with_reducible rfl) ?_)|(refine awp_cond_p rfl (fun hc => ?_) (fun hc => ?_) <;> (try (exfalso;omega))))|(refine awp_block ?_)|(refine awp_ret ?_)|(refine awp_skip ?_)|(refine awp_exit ?_))|(refine thn_ret ?_)|(refine lq_exit ?_)|(refine lq_ret ?_)|(refine thn_exit ?_)|(refine inb_n ?_)|(refine inb_ret ?_)|(refine inb_here ?_)))
      refine ret3 (by first | exact .inr rfl | exact .inl rfl) rfl rfl rfl rfl ?_
      exact ⟨rfl, rfl⟩
    · rw [hk] at hC ⊢
      repeat' (first|((refine k_call ?_;refine al_call rfl rfl rfl rfl hC ?_;rintro _ rfl))|(refine k_al ?_;first|(refine al_v (ov_move rfl) rfl ?_)|(refine k_load ?_;first|(refine al_v (ov_load rfl rfl) rfl ?_)|(refine al_v (ov_load_agg rfl rfl rfl) rfl ?_))|(refine k_bin ?_;first|(refine al_v (ov_cmp rfl rfl rfl) rfl ?_)|(refine al_v (ov_add rfl rfl (by (first|exact w64 (by omega) (by omega)|rfl))) rfl ?_)|(refine al_v (ov_sub rfl rfl (by (first|exact w64 (by omega) (by omega)|rfl))) rfl ?_))|(refine al_v (ov_assign rfl) rfl ?_)|(refine k_call ?_;first|(refine al_v (ov_len_str rfl) rfl ?_))|(refine al_v (ov_extract rfl rfl) rfl ?_)|(refine al_nil ?_)|(refine al_alloc rfl rfl rfl (by first|exact ln2|exact ln3|exact ln4) (by repeat constructor) rfl ?_)|(refine al_store rfl rfl rfl rfl rfl (by repeat constructor) (by repeat constructor) ?_)|(refine al_buildSlice (by rfl) (by rfl) (by rfl) (by rfl) (by decide) (by decide) (by rfl) (by rfl) (by repeat constructor) (by rfl) (by repeat constructor) (by rfl) (by first|exact ln2|exact ln3|exact ln4) (by repeat constructor) rfl ?_)|(refine al_v (ov_not_t rfl (by with_reducible rfl)) rfl ?_)|(refine al_v (ov_not_f rfl (by with_reducible rfl)) rfl ?_))|(first|(refine thn_n ?_)|(refine k_awp ?_;first|(refine awp_seq (awp_region ?_))|(refine awp_seq ?_)|(refine awp_region ?_)|(refine k_cond ?_;first|(refine awp_cond_t' rfl (by with_reducible rfl) ?_)|(refine awp_cond_f' rfl (by with_reducible rfl) ?_)|(refine awp_cond_p rfl (fun hc => ?_) (fun hc => ?_) <;> (try (exfalso;omega))))|(refine awp_block ?_)|(refine awp_ret ?_)|(refine awp_skip ?_)|(refine awp_exit ?_))|(refine thn_ret ?_)|(refine lq_exit ?_)|(refine lq_ret ?_)|(refine thn_exit ?_)|(refine inb_n ?_)|(refine inb_ret ?_)|(refine inb_here ?_)))
      refine retq_wkn (.nil 2 rfl) ?_
      refine ret3 (by first | exact .inr rfl | exact .inl rfl) rfl rfl rfl rfl ?_
      exact ⟨rfl, rfl⟩
    · rw [hk] at hC ⊢
      have hpk : ps[k]? = some (ps.getD k 0) := by rw [List.getD_eq_getElem?_getD, List.getElem?_eq_getElem (by omega)]; rfl
      have hrw : (numAV ps)[((k : Nat) : Int).toNat]? = some [.int .i64 (ps.getD k 0)] := by
        have : ((k : Nat) : Int).toNat = k := rfl
        rw [this, List.getElem?_map, hpk]
        rfl
      repeat' (first|(first|(refine k_call ?_;refine al_call rfl rfl rfl rfl hC ?_;rintro _ rfl)|(refine ql_v (ov_indexAddr rfl rfl (by omega) hrw rfl) rfl ?_))|(refine k_al ?_;first|(refine al_v (ov_move rfl) rfl ?_)|(refine k_load ?_;first|(refine al_v (ov_load rfl rfl) rfl ?_)|(refine al_v (ov_load_agg rfl rfl rfl) rfl ?_))|(refine k_bin ?_;first|(refine al_v (ov_cmp rfl rfl rfl) rfl ?_)|(refine al_v (ov_add rfl rfl (by (first|exact w64 (by omega) (by omega)|rfl))) rfl ?_)|(refine al_v (ov_sub rfl rfl (by (first|exact w64 (by omega) (by omega)|rfl))) rfl ?_))|(refine al_v (ov_assign rfl) rfl ?_)|(refine k_call ?_;first|(refine al_v (ov_len_str rfl) rfl ?_))|(refine al_v (ov_extract rfl rfl) rfl ?_)|(refine al_nil ?_)|(refine al_alloc rfl rfl rfl (by first|exact ln2|exact ln3|exact ln4) (by repeat constructor) rfl ?_)|(refine al_store rfl rfl rfl rfl rfl (by repeat constructor) (by repeat constructor) ?_)|(refine al_buildSlice (by rfl) (by rfl) (by rfl) (by rfl) (by decide) (by decide) (by rfl) (by rfl) (by repeat constructor) (by rfl) (by repeat constructor) (by rfl) (by first|exact ln2|exact ln3|exact ln4) (by repeat constructor) rfl ?_)|(refine al_v (ov_not_t rfl (by with_reducible rfl)) rfl ?_)|(refine al_v (ov_not_f rfl (by with_reducible rfl)) rfl ?_))|(first|(refine thn_n ?_)|(refine k_awp ?_;first|(refine awp_seq (awp_region ?_))|(refine awp_seq ?_)|(refine awp_region ?_)|(refine k_cond ?_;first|(refine awp_cond_t' rfl (by with_reducible rfl) ?_)|(refine awp_cond_f' rfl (by with_reducible rfl) ?_)|(refine awp_cond_p rfl (fun hc => ?_) (fun hc => ?_) <;> (try (exfalso;omega))))|(refine awp_block ?_)|(refine awp_ret ?_)|(refine awp_skip ?_)|(refine awp_exit ?_))|(refine thn_ret ?_)|(refine lq_exit ?_)|(refine lq_ret ?_)|(refine thn_exit ?_)|(refine inb_n ?_)|(refine inb_ret ?_)|(refine inb_here ?_))|(refine awp_draw (by kernel_rfl) (by kernel_rfl) ?_)|(first|(refine ql_v (ov_move rfl) rfl ?_)|(refine ql_v (ov_assign rfl) rfl ?_)|(refine ql_v (ov_load rfl rfl) rfl ?_)|(refine ql_v (ov_load_agg rfl rfl rfl) rfl ?_)|(refine ql_v (ov_cmp rfl rfl rfl) rfl ?_)|(refine ql_v (ov_len_str rfl) rfl ?_)|(refine ql_v (ov_extract rfl rfl) rfl ?_)|(refine ql_v (ov_add rfl rfl (by (first|exact w64 (by omega) (by omega)|rfl))) rfl ?_)|(refine ql_v (ov_sub rfl rfl (by (first|exact w64 (by omega) (by omega)|rfl))) rfl ?_)|(refine ql_v (ov_not_t rfl (by with_reducible rfl)) rfl ?_)|(refine ql_v (ov_not_f rfl (by with_reducible rfl)) rfl ?_)|(refine ql_nil ?_)))
      refine retq_wkn (.nil 2 rfl) ?_
      refine ret3 (by first | exact .inr rfl | exact .inl rfl) rfl rfl rfl rfl ?_
      exact ⟨rfl, rfl⟩
end
end Go.Proofs.YtnjolbnbpfjdiaaDoor.L

namespace Go.Proofs.YtnjolbnbpfjdiaaDoor.L
open Go Go.RowKit Go.Proofs
set_option linter.unusedVariables false
set_option linter.unusedSimpArgs false
set_option maxRecDepth 100000

def digB (c : UInt8) : Bool := decide (48 ≤ c.toNat) && decide (c.toNat ≤ 57)
theorem digB_iff {c : UInt8} : digB c = true ↔ 48 ≤ c.toNat ∧ c.toNat ≤ 57 := by simp only [digB, Bool.and_eq_true, decide_eq_true_eq]
def fv (m : Nat) (l : List UInt8) : Nat := l.foldl (fun m c => 10 * m + (c.toNat - 48)) m
theorem fv_cons (m : Nat) (c : UInt8) (l : List UInt8) : fv m (c :: l) = fv (10 * m + (c.toNat - 48)) l := by unfold fv; rw [List.foldl_cons]
theorem fv_snoc (m : Nat) (l : List UInt8) (c : UInt8) : fv m (l ++ [c]) = 10 * fv m l + (c.toNat - 48) := by unfold fv; rw [List.foldl_append, List.foldl_cons, List.foldl_nil]
theorem fv_ge : ∀ (l : List UInt8) (m : Nat), m ≤ fv m l := by
  intro l
  induction l with
  | nil => intro m; exact Nat.le_refl _
  | cons c l ih =>
    intro m
    rw [fv_cons]
    have := ih (10 * m + (c.toNat - 48))
    omega
/-- Digits, without noughts ahead. -/
structure DigL (l : List UInt8) : Prop where
  ne : l ≠ []
  dig : l.all digB = true
  lead : 1 < l.length → l.head? ≠ some 48
theorem ofNat_dig {k : Nat} (h : k < 10) : (UInt8.ofNat (48 + k)).toNat = 48 + k := by
  rw [UInt8.toNat_ofNat']
  omega
theorem dec_of : ∀ (n : Nat) (l : List UInt8), l.length = n → DigL l → Lib.decDigits (fv 0 l) = l := by
  intro n
  induction n with
  | zero => intro l h d; exact absurd (List.length_eq_zero_iff.1 h) d.ne
  | succ n ih =>
    intro l h d
    obtain ⟨init, c, rfl⟩ : ∃ init c, l = init ++ [c] := ⟨l.dropLast, l.getLast d.ne, (List.dropLast_concat_getLast d.ne).symm⟩
    have hall := d.dig
    rw [List.all_append, Bool.and_eq_true] at hall
    have hc : digB c = true := by have := hall.2; simpa using this
    have hc := digB_iff.1 hc
    rw [fv_snoc]
    cases init with
    | nil =>
      have e : fv 0 [] = 0 := rfl
      rw [e, Lib.decDigits, dif_pos (by omega)]
      have : UInt8.ofNat (48 + (10 * 0 + (c.toNat - 48))) = c := by
        have : 48 + (10 * 0 + (c.toNat - 48)) = c.toNat := by omega
        rw [this]
        simp
      rw [this]
      rfl
    | cons b init =>
      have hb : digB b = true := by have := hall.1; rw [List.all_cons, Bool.and_eq_true] at this; exact this.1
      have hb := digB_iff.1 hb
      have hl := d.lead (by simp)
      have hb0 : b ≠ 48 := fun e => hl (by simp [e])
      have hb1 : 1 ≤ b.toNat - 48 := by
        have : b.toNat ≠ 48 := fun e => hb0 (UInt8.toNat_inj.1 (by rw [e]; rfl))
        omega
      have hge : 1 ≤ fv 0 (b :: init) := by
        rw [fv_cons]
        have := fv_ge init (10 * 0 + (b.toNat - 48))
        omega
      have hd : DigL (b :: init) := ⟨by simp, hall.1, fun _ => by simpa using hb0⟩
      have hih := ih (b :: init) (by simp at h ⊢; omega) hd
      rw [Lib.decDigits, dif_neg (by omega)]
      have e1 : (10 * fv 0 (b :: init) + (c.toNat - 48)) / 10 = fv 0 (b :: init) := by omega
      have e2 : (10 * fv 0 (b :: init) + (c.toNat - 48)) % 10 = c.toNat - 48 := by omega
      rw [e1, e2, hih]
      have : UInt8.ofNat (48 + (c.toNat - 48)) = c := by
        have : 48 + (c.toNat - 48) = c.toNat := by omega
        rw [this]
        simp
      rw [this]
theorem dec_is : ∀ (u : Nat), DigL (Lib.decDigits u) ∧ fv 0 (Lib.decDigits u) = u ∧ (1 ≤ u → (Lib.decDigits u).head? ≠ some 48) := by
  intro u
  induction u using Nat.strongRecOn with
  | _ u ih =>
    rw [Lib.decDigits]
    split
    · rename_i h
      have e := ofNat_dig h
      refine ⟨⟨by simp, by rw [List.all_cons, List.all_nil, Bool.and_true]; exact digB_iff.2 (by omega), fun k => by simp at k⟩, ?_, fun h1 k => ?_⟩
      · rw [fv_cons, e]; show 10 * 0 + (48 + u - 48) = u; omega
      · simp only [List.head?_cons, Option.some.injEq] at k
        have := congrArg UInt8.toNat k
        rw [e] at this
        have h48 : (48 : UInt8).toNat = 48 := rfl
        omega
    · rename_i h
      obtain ⟨d, hv, hz⟩ := ih (u / 10) (by omega)
      have e := ofNat_dig (k := u % 10) (by omega)
      have hhead : (Lib.decDigits (u / 10) ++ [UInt8.ofNat (48 + u % 10)]).head? = (Lib.decDigits (u / 10)).head? := by
        cases hq : Lib.decDigits (u / 10) with
        | nil => exact absurd hq d.ne
        | cons a r => rfl
      refine ⟨⟨by simp, by rw [List.all_append, d.dig, List.all_cons, List.all_nil, Bool.and_true, Bool.true_and]; exact digB_iff.2 (by omega), fun _ => by rw [hhead]; exact hz (by omega)⟩, ?_, fun _ => by rw [hhead]; exact hz (by omega)⟩
      rw [fv_snoc, hv, e]
      omega
theorem parseUint_fv : ∀ (l : List UInt8) (acc : Nat), l.all digB = true → fv acc l < 18446744073709551616 → Lib.parseUint10 acc l = .ok (fv acc l) := by
  intro l
  induction l with
  | nil => intro acc _ _; rfl
  | cons c l ih =>
    intro acc h hf
    rw [List.all_cons, Bool.and_eq_true] at h
    have hc := digB_iff.1 h.1
    rw [fv_cons] at hf ⊢
    have hge := fv_ge l (10 * acc + (c.toNat - 48))
    have e : acc * 10 + (c.toNat - 48) = 10 * acc + (c.toNat - 48) := by omega
    rw [Lib.parseUint10, if_pos hc, if_neg (by omega), if_neg (by omega), e]
    exact ih _ h.2 hf
theorem digL_head {l : List UInt8} (d : DigL l) : ∃ c r, l = c :: r ∧ c.toNat ≠ 43 ∧ c.toNat ≠ 45 := by
  cases l with
  | nil => exact absurd rfl d.ne
  | cons c r =>
    have := d.dig
    rw [List.all_cons, Bool.and_eq_true] at this
    have := digB_iff.1 this.1
    exact ⟨c, r, rfl, by omega, by omega⟩
theorem atoi_itoa {v : Int} (h0 : -9223372036854775808 ≤ v) (h1 : v ≤ 9223372036854775807) : Lib.atoiAll (Lib.itoa v) = .ok v := by
  unfold Lib.itoa
  split
  · rename_i hn
    obtain ⟨d, hv, _⟩ := dec_is v.natAbs
    unfold Lib.atoiAll
    dsimp only
    have h45 : (45 : UInt8).toNat = 45 := rfl
    rw [if_pos (.inr h45)]
    unfold Lib.parseMag
    rw [if_neg d.ne, parseUint_fv _ 0 d.dig (by rw [hv]; omega), hv]
    dsimp only
    rw [if_neg (by rw [h45]; simp), if_neg (by omega), if_pos h45]
    congr 1
    omega
  · rename_i hn
    obtain ⟨d, hv, _⟩ := dec_is v.toNat
    obtain ⟨c, r, hcr, hc1, hc2⟩ := digL_head d
    unfold Lib.atoiAll
    rw [hcr]
    dsimp only
    rw [if_neg (by omega), ← hcr]
    unfold Lib.parseMag
    rw [if_neg d.ne, parseUint_fv _ 0 d.dig (by rw [hv]; omega), hv]
    dsimp only
    rw [if_neg (by omega), if_neg (by omega), if_neg hc2]
    congr 1
    omega
/-- A number of a text, the document's: by its negative. -/
def negN : List UInt8 → Nat → Option Nat
  | [], m => some m
  | c :: r, m => if digB c = true ∧ 10 * m + (c.toNat - 48) ≤ 9223372036854775808 then negN r (10 * m + (c.toNat - 48)) else none
theorem negN_fv : ∀ (l : List UInt8) (m : Nat), m ≤ 9223372036854775808 → negN l m = if l.all digB = true ∧ fv m l ≤ 9223372036854775808 then some (fv m l) else none := by
  intro l
  induction l with
  | nil => intro m h; rw [negN, if_pos ⟨rfl, h⟩]; rfl
  | cons c l ih =>
    intro m h
    rw [negN, fv_cons, List.all_cons]
    by_cases hc : digB c = true
    · have hge := fv_ge l (10 * m + (c.toNat - 48))
      by_cases hs : 10 * m + (c.toNat - 48) ≤ 9223372036854775808
      · rw [if_pos ⟨hc, hs⟩, ih _ hs, hc, Bool.true_and]
      · rw [if_neg (fun k => hs k.2), if_neg (fun k => by omega)]
    · rw [if_neg (fun k => hc k.1), if_neg (fun k => by rw [Bool.and_eq_true] at k; exact hc k.1.1)]
def belowN (s : List UInt8) : Prop := 1 < s.length ∧ s.head? = some 45
instance (s : List UInt8) : Decidable (belowN s) := by unfold belowN; exact inferInstance
def tailN (s : List UInt8) : List UInt8 := if belowN s then s.drop 1 else s
def numG (s : List UInt8) : Option Int :=
  if tailN s = [] ∨ (1 < (tailN s).length ∧ (tailN s).head? = some 48) ∨ (belowN s ∧ (tailN s).head? = some 48) then none
  else match negN (tailN s) 0 with
    | none => none
    | some m => if belowN s then some (-(m : Int)) else if m = 9223372036854775808 then none else some (m : Int)
theorem numG_itoa {v : Int} (h0 : -9223372036854775808 ≤ v) (h1 : v ≤ 9223372036854775807) : numG (Lib.itoa v) = some v := by
  unfold Lib.itoa
  split
  · rename_i hn
    obtain ⟨d, hv, hz⟩ := dec_is v.natAbs
    have hpos : 0 < (Lib.decDigits v.natAbs).length := List.length_pos_iff.2 d.ne
    have hb : belowN (45 :: Lib.decDigits v.natAbs) := ⟨by rw [List.length_cons]; omega, rfl⟩
    have ht : tailN (45 :: Lib.decDigits v.natAbs) = Lib.decDigits v.natAbs := by unfold tailN; rw [if_pos hb]; rfl
    unfold numG
    rw [ht, if_neg (by
      rintro (k | ⟨k1, k2⟩ | ⟨_, k⟩)
      · exact d.ne k
      · exact d.lead k1 k2
      · exact hz (by omega) k), negN_fv _ 0 (by omega), if_pos ⟨d.dig, by rw [hv]; omega⟩, hv]
    dsimp only
    rw [if_pos hb]
    congr 1
    omega
  · rename_i hn
    obtain ⟨d, hv, hz⟩ := dec_is v.toNat
    obtain ⟨c, r, hcr, hc1, hc2⟩ := digL_head d
    have hb : ¬ belowN (Lib.decDigits v.toNat) := fun k => by
      have := k.2
      rw [hcr, List.head?_cons] at this
      injection this with this
      exact hc2 (by rw [this]; rfl)
    have ht : tailN (Lib.decDigits v.toNat) = Lib.decDigits v.toNat := by unfold tailN; rw [if_neg hb]
    unfold numG
    rw [ht, if_neg (by
      rintro (k | ⟨k1, k2⟩ | ⟨k, _⟩)
      · exact d.ne k
      · exact d.lead k1 k2
      · exact hb k), negN_fv _ 0 (by omega), if_pos ⟨d.dig, by rw [hv]; omega⟩, hv]
    dsimp only
    rw [if_neg hb, if_neg (by omega)]
    congr 1
    omega
theorem numG_some {s : List UInt8} {v : Int} (h : numG s = some v) : s = Lib.itoa v ∧ -9223372036854775808 ≤ v ∧ v ≤ 9223372036854775807 := by
  unfold numG at h
  split at h
  · cases h
  rename_i hno
  rw [negN_fv _ 0 (by omega)] at h
  split at h
  · cases h
  rename_i m hm
  split at hm
  · rename_i hd
    injection hm with hm
    have hdl : DigL (tailN s) := ⟨fun k => hno (.inl k), hd.1, fun k1 k2 => hno (.inr (.inl ⟨k1, k2⟩))⟩
    have hdec := dec_of _ _ rfl hdl
    rw [hm] at hdec
    have hm2 := hd.2
    rw [hm] at hm2
    by_cases hb : belowN s
    · rw [if_pos hb] at h
      injection h with h
      have hs : s = 45 :: tailN s := by
        unfold tailN
        rw [if_pos hb]
        obtain ⟨h1, h2⟩ := hb
        cases s with
        | nil => simp at h1
        | cons c r => simp at h2; subst h2; rfl
      have hm0 : m ≠ 0 := by
        intro k
        subst k
        have : Lib.decDigits 0 = [48] := by rw [Lib.decDigits, dif_pos (by decide)]; rfl
        rw [this] at hdec
        exact hno (.inr (.inr ⟨hb, by rw [← hdec]; rfl⟩))
      refine ⟨?_, by omega, by omega⟩
      unfold Lib.itoa
      rw [if_pos (by omega)]
      have : v.natAbs = m := by omega
      rw [this, hdec]
      exact hs
    · rw [if_neg hb] at h
      split at h
      · cases h
      · rename_i hm3
        injection h with h
        have hs : s = tailN s := by unfold tailN; rw [if_neg hb]
        refine ⟨?_, by omega, by omega⟩
        unfold Lib.itoa
        rw [if_neg (by omega)]
        have : v.toNat = m := by omega
        rw [this, hdec]
        exact hs
  · cases hm
/-- Both read the same numbers. -/
theorem numI_G (s : List UInt8) : numI s = numG s := by
  cases hg : numG s with
  | some v =>
    obtain ⟨h1, h2, h3⟩ := numG_some hg
    have := atoi_itoa h2 h3
    rw [← h1] at this
    unfold numI
    rw [this]
    dsimp only
    rw [if_pos h1.symm]
  | none =>
    unfold numI
    cases ha : Lib.atoiAll s with
    | ok v =>
      dsimp only
      split
      · rename_i he
        have hr := atoi_range ha
        have := numG_itoa hr.1 hr.2
        rw [he, hg] at this
        cases this
      · rfl
    | _ => rfl
end Go.Proofs.YtnjolbnbpfjdiaaDoor.L

namespace Go.Proofs.YtnjolbnbpfjdiaaDoor.L
open Go Go.RowKit Go.Proofs
set_option linter.unusedVariables false
set_option linter.unusedSimpArgs false
set_option maxRecDepth 100000
attribute [local irreducible] AL QL AWp Thn InB RetQ ACalls LoopQ HL HO HW HQ NoG

section
variable {w0 : World} {base : Nat}
abbrev frmO (ver : Nat) (e k : Int) (xs : List (List AV)) : List AO := [.box [.os 3 ver], .box [.int .i64 e], .box [.int .i64 k], .row 61 2 ver 0 xs]
def FormR (s : List UInt8) (rv : AV) : Prop := ∃ q e k, rv = .tup [.rs q, .int .i64 e, .int .i64 k] ∧ (e = 0 ↔ formOk s = true) ∧ 0 ≤ k ∧ k ≤ s.length + 1 ∧ (e = 0 → q = (formP s).map prAV)
def TgtR (s : List UInt8) (rv : AV) : Prop := ∃ p q e k, rv = .tup [.str p, .rs q, .int .i64 e, .int .i64 k] ∧ (e = 0 ↔ tgtOk s = true) ∧ (e = 0 → p = tgtP s ∧ q = (tgtQ s).map prAV)
end
end Go.Proofs.YtnjolbnbpfjdiaaDoor.L

namespace Go.Proofs.YtnjolbnbpfjdiaaDoor.L
open Go Go.RowKit Go.Proofs
set_option linter.unusedVariables false
set_option linter.unusedSimpArgs false
set_option maxRecDepth 100000
attribute [local irreducible] AL QL AWp Thn InB RetQ ACalls LoopQ HL HO HW HQ NoG

section
variable {w0 : World} {base : Nat}
end
end Go.Proofs.YtnjolbnbpfjdiaaDoor.L

namespace Go.Proofs.YtnjolbnbpfjdiaaDoor.L
open Go Go.RowKit Go.Proofs
set_option linter.unusedVariables false
set_option linter.unusedSimpArgs false
set_option maxRecDepth 100000
attribute [local irreducible] AL QL AWp Thn InB RetQ ACalls LoopQ HL HO HW HQ NoG

section
variable {w0 : World} {base : Nat}
end
end Go.Proofs.YtnjolbnbpfjdiaaDoor.L

namespace Go.Proofs.YtnjolbnbpfjdiaaDoor.L
open Go Go.RowKit Go.Proofs
set_option linter.unusedVariables false
set_option linter.unusedSimpArgs false
set_option maxRecDepth 100000
attribute [local irreducible] AL QL AWp Thn InB RetQ ACalls LoopQ HL HO HW HQ NoG

def lowB (b : UInt8) : UInt8 := if pLarge b then b + 32 else b
def smallS (s : List UInt8) : List UInt8 := s.map lowB
/-- A text whose letters before a place are small. -/
def halfS (s : List UInt8) (k : Nat) : List UInt8 := smallS (s.take k) ++ s.drop k
section
variable {w0 : World} {base : Nat}
end
end Go.Proofs.YtnjolbnbpfjdiaaDoor.L

namespace Go.Proofs.YtnjolbnbpfjdiaaDoor.L
open Go Go.RowKit Go.Proofs
set_option linter.unusedVariables false
set_option linter.unusedSimpArgs false
set_option maxRecDepth 100000
attribute [local irreducible] AL QL AWp Thn InB RetQ ACalls LoopQ HL HO HW HQ NoG

def verOk (v : List UInt8) : Bool := decide (v.length = 8) && (Lib.hasPrefix v [72, 84, 84, 80, 47] && (pDigit (bAt v 5) && (decide (byteAt v 6 = 46) && pDigit (bAt v 7))))
theorem trim_eq {s : List UInt8} {a b : Nat} (hab : a ≤ b) (hb : b ≤ s.length) (h1 : ∀ j : Nat, j < a → ([32, 9] : List UInt8).contains (bAt s (j : Int)) = true) (h2 : ∀ j : Nat, b ≤ j → j < s.length → ([32, 9] : List UInt8).contains (bAt s (j : Int)) = true)
    (h3 : a < b → ([32, 9] : List UInt8).contains (bAt s (a : Int)) = false ∧ ([32, 9] : List UInt8).contains (bAt s ((b - 1 : Nat) : Int)) = false) : Lib.trimS s [32, 9] = (s.take b).drop a := by
  have get : ∀ (j : Nat) (x : UInt8), s[j]? = some x → j < s.length ∧ bAt s (j : Int) = x := fun j x h => by
    have hj := (List.getElem?_eq_some_iff.1 h).1
    rw [get_bAt hj] at h
    injection h with h
    exact ⟨hj, h⟩
  unfold Lib.trimS
  rcases Nat.lt_or_ge a b with hlt | hge
  · obtain ⟨h4, h5⟩ := h3 hlt
    rw [Lib.trimRightS_take s [32, 9] b hb (fun j x hj hx => by obtain ⟨g1, g2⟩ := get j x hx; rw [← g2]; exact h2 j hj g1) (fun x _ hx => by obtain ⟨g1, g2⟩ := get _ x hx; rw [← g2]; exact h5)]
    refine Lib.trimLeftS_drop _ _ a (by simp; omega) (fun j x hj hx => ?_) (fun x hx => ?_)
    · rw [List.getElem?_take, if_pos (by omega)] at hx
      obtain ⟨g1, g2⟩ := get j x hx; rw [← g2]; exact h1 j hj
    · rw [List.getElem?_take, if_pos hlt] at hx
      obtain ⟨g1, g2⟩ := get a x hx; rw [← g2]; exact h4
  · obtain rfl : a = b := by omega
    rw [Lib.trimRightS_take s [32, 9] 0 (Nat.zero_le _) (fun j x _ hx => by
      obtain ⟨g1, g2⟩ := get j x hx
      rw [← g2]
      rcases Nat.lt_or_ge j a with h | h
      · exact h1 j h
      · exact h2 j h g1) (fun x h => absurd h (Nat.lt_irrefl 0))]
    rw [List.drop_eq_nil_of_le (by simp; omega)]
    rfl
theorem blank_iff (s : List UInt8) (m : Int) : ([32, 9] : List UInt8).contains (bAt s m) = true ↔ byteAt s m = 32 ∨ byteAt s m = 9 := by
  rw [byteAt_eq]
  generalize bAt s m = b
  revert b
  exact u8_all (by decide +kernel)
theorem blank_not (s : List UInt8) (m : Int) : ([32, 9] : List UInt8).contains (bAt s m) = false ↔ ¬ (byteAt s m = 32 ∨ byteAt s m = 9) := by
  rw [← blank_iff, Bool.not_eq_true]
section
variable {w0 : World} {base : Nat}
end
end Go.Proofs.YtnjolbnbpfjdiaaDoor.L

namespace Go.Proofs.YtnjolbnbpfjdiaaDoor.L
open Go Go.RowKit Go.Proofs
set_option linter.unusedVariables false
set_option linter.unusedSimpArgs false
set_option maxRecDepth 100000
attribute [local irreducible] AL QL AWp Thn InB RetQ ACalls LoopQ HL HO HW HQ NoG

section
variable {w0 : World} {base : Nat}
end
end Go.Proofs.YtnjolbnbpfjdiaaDoor.L

namespace Go.Proofs.YtnjolbnbpfjdiaaDoor.L
open Go Go.RowKit Go.Proofs
set_option linter.unusedVariables false
set_option linter.unusedSimpArgs false
set_option maxRecDepth 100000
attribute [local irreducible] AL QL AWp Thn InB RetQ ACalls LoopQ HL HO HW HQ NoG

section
variable {w0 : World} {base : Nat}
def endI (s : List UInt8) (at' : Nat) : Int := if (Lib.cut (s.drop at') [13, 10]).2.2 then ((at' + (Lib.cut (s.drop at') [13, 10]).1.length : Nat) : Int) else -1
set_option maxHeartbeats 1000000 in
theorem s_trimR {s : List UInt8} (hs : s.length ≤ 140737488351232) : PCalls (EE w0 base) 52 [.str s] fun rv => rv = .str (Lib.trimS s [32, 9]) := by
  refine acalls_of Tryd.func52 rfl rfl rfl (.cons .nil) ?_
  repeat' (first|(refine k_al ?_;first|(refine al_v (ov_move rfl) rfl ?_)|(refine k_g ?_;first|(refine al_gy' rfl rfl (by with_reducible rfl) ?_)|(refine al_gnt rfl rfl (by with_reducible rfl) rfl ?_)|(refine al_gnf rfl rfl (by with_reducible rfl) rfl ?_)|(refine al_gu rfl rfl rfl ?_)|(refine al_gsp rfl rfl (fun hc => ?_) (fun hc => ?_) <;> (try (exfalso;omega))))|(refine k_bin ?_;first|(refine al_v (ov_cmp rfl rfl rfl) rfl ?_)|(refine al_v (ov_add rfl rfl (by (first|exact w64 (by omega) (by omega)|rfl))) rfl ?_)|(refine al_v (ov_sub rfl rfl (by (first|exact w64 (by omega) (by omega)|rfl))) rfl ?_))|(refine k_pick ?_;first|(refine al_v (ov_pick_t' rfl (by with_reducible rfl) rfl) rfl ?_)|(refine al_v (ov_pick_f' rfl (by with_reducible rfl) rfl) rfl ?_))|(refine al_v (ov_assign rfl) rfl ?_)|(refine k_call ?_;first|(refine al_v (ov_len_str rfl) rfl ?_))|(refine al_nil ?_)|(refine al_v (ov_index rfl rfl (by omega) (by omega)) rfl ?_))|(first|(refine thn_n ?_)|(refine k_awp ?_;first|(refine awp_seq (awp_region ?_))|(refine awp_seq ?_)|(refine awp_region ?_)|(refine k_cond ?_;first|(refine awp_cond_t' rfl (by with_reducible rfl) ?_)|(refine awp_cond_f' rfl (by with_reducible rfl) ?_)|(refine awp_cond_p rfl (fun hc => ?_) (fun hc => ?_) <;> (try (exfalso;omega))))|(refine awp_block ?_)|(refine awp_ret ?_)|(refine awp_skip ?_)|(refine awp_exit ?_))|(refine lq_exit ?_)|(refine thn_exit ?_)|(refine inb_n ?_)|(refine inb_here ?_)))
  refine awp_loopq (fun k : Nat => ⟨[(0, .str s), (3, .int .i64 k), (4, .int .i64 s.length)], []⟩) (fun k => k ≤ s.length ∧ ∀ j : Nat, j < k → ([32, 9] : List UInt8).contains (bAt s (j : Int)) = true) (fun k => s.length - k) 0 (.of (.same (by repeat constructor))) ⟨Nat.zero_le _, fun j h => absurd h (Nat.not_lt_zero _)⟩ ?_
  rintro a ⟨ha, hbl⟩
  try dsimp only
  repeat' (first|(refine k_al ?_;first|(refine al_v (ov_move rfl) rfl ?_)|(refine k_g ?_;first|(refine al_gy' rfl rfl (by with_reducible rfl) ?_)|(refine al_gnt rfl rfl (by with_reducible rfl) rfl ?_)|(refine al_gnf rfl rfl (by with_reducible rfl) rfl ?_)|(refine al_gu rfl rfl rfl ?_)|(refine al_gsp rfl rfl (fun hc => ?_) (fun hc => ?_) <;> (try (exfalso;omega))))|(refine k_bin ?_;first|(refine al_v (ov_cmp rfl rfl rfl) rfl ?_)|(refine al_v (ov_add rfl rfl (by (first|exact w64 (by omega) (by omega)|rfl))) rfl ?_)|(refine al_v (ov_sub rfl rfl (by (first|exact w64 (by omega) (by omega)|rfl))) rfl ?_))|(refine k_pick ?_;first|(refine al_v (ov_pick_t' rfl (by with_reducible rfl) rfl) rfl ?_)|(refine al_v (ov_pick_f' rfl (by with_reducible rfl) rfl) rfl ?_))|(refine al_v (ov_assign rfl) rfl ?_)|(refine k_call ?_;first|(refine al_v (ov_len_str rfl) rfl ?_))|(refine al_nil ?_)|(refine al_v (ov_index rfl rfl (by omega) (by omega)) rfl ?_))|(first|(refine thn_n ?_)|(refine k_awp ?_;first|(refine awp_seq (awp_region ?_))|(refine awp_seq ?_)|(refine awp_region ?_)|(refine k_cond ?_;first|(refine awp_cond_t' rfl (by with_reducible rfl) ?_)|(refine awp_cond_f' rfl (by with_reducible rfl) ?_)|(refine awp_cond_p rfl (fun hc => ?_) (fun hc => ?_) <;> (try (exfalso;omega))))|(refine awp_block ?_)|(refine awp_ret ?_)|(refine awp_skip ?_)|(refine awp_exit ?_))|(refine lq_exit ?_)|(refine thn_exit ?_)|(refine inb_n ?_)|(refine inb_here ?_)))
  iterate 2
    · first | refine lq_back (a + 1) (.of (.same (by repeat constructor))) ?_ ?_ | fail
      · refine ⟨by omega, fun j hj => ?_⟩
        rcases Nat.lt_or_ge j a with h | h
        · exact hbl j h
        · obtain rfl : j = a := by omega
          exact (blank_iff s j).2 (by omega)
      · omega
  all_goals
    have hstop : a < s.length → ([32, 9] : List UInt8).contains (bAt s (a : Int)) = false := fun h => (blank_not s a).2 (by omega)
    refine awp_loopq (fun k : Int => ⟨[(0, .str s), (3, .int .i64 a), (4, .int .i64 k)], []⟩) (fun k => (a : Int) ≤ k ∧ k ≤ s.length ∧ ∀ j : Nat, k ≤ j → j < s.length → ([32, 9] : List UInt8).contains (bAt s (j : Int)) = true) (fun k => k.toNat) (s.length : Int) (.of (.same (by repeat constructor))) ⟨by omega, Int.le_refl _, fun j h1 h2 => by omega⟩ ?_
    rintro b ⟨hab, hb, hbr⟩
    try dsimp only
    repeat' (first|(refine k_al ?_;first|(refine al_v (ov_move rfl) rfl ?_)|(refine k_g ?_;first|(refine al_gy' rfl rfl (by with_reducible rfl) ?_)|(refine al_gnt rfl rfl (by with_reducible rfl) rfl ?_)|(refine al_gnf rfl rfl (by with_reducible rfl) rfl ?_)|(refine al_gu rfl rfl rfl ?_)|(refine al_gsp rfl rfl (fun hc => ?_) (fun hc => ?_) <;> (try (exfalso;omega))))|(refine k_bin ?_;first|(refine al_v (ov_cmp rfl rfl rfl) rfl ?_)|(refine al_v (ov_add rfl rfl (by (first|exact w64 (by omega) (by omega)|rfl))) rfl ?_)|(refine al_v (ov_sub rfl rfl (by (first|exact w64 (by omega) (by omega)|rfl))) rfl ?_))|(refine k_pick ?_;first|(refine al_v (ov_pick_t' rfl (by with_reducible rfl) rfl) rfl ?_)|(refine al_v (ov_pick_f' rfl (by with_reducible rfl) rfl) rfl ?_))|(refine al_v (ov_assign rfl) rfl ?_)|(refine k_call ?_;first|(refine al_v (ov_len_str rfl) rfl ?_))|(refine al_nil ?_)|(refine al_v (ov_index rfl rfl (by omega) (by omega)) rfl ?_))|(first|(refine thn_n ?_)|(refine k_awp ?_;first|(refine awp_seq (awp_region ?_))|(refine awp_seq ?_)|(refine awp_region ?_)|(refine k_cond ?_;first|(refine awp_cond_t' rfl (by with_reducible rfl) ?_)|(refine awp_cond_f' rfl (by with_reducible rfl) ?_)|(refine awp_cond_p rfl (fun hc => ?_) (fun hc => ?_) <;> (try (exfalso;omega))))|(refine awp_block ?_)|(refine awp_ret ?_)|(refine awp_skip ?_)|(refine awp_exit ?_))|(refine lq_exit ?_)|(refine thn_exit ?_)|(refine inb_n ?_)|(refine inb_here ?_)))
    all_goals try (
      first | refine lq_back (b - 1) (.of (.same (by repeat constructor))) ?_ ?_ | fail
      · refine ⟨by omega, by omega, fun j h1 h2 => ?_⟩
        rcases Int.lt_or_le j b with h | h
        · obtain rfl : b = (j : Int) + 1 := by omega
          refine (blank_iff s j).2 ?_
          rw [show ((j : Int) + 1 - 1) = j by omega] at *
          omega
        · exact hbr j h h2
      · omega)
    all_goals
      obtain ⟨n, rfl⟩ : ∃ n : Nat, b = n := ⟨b.toNat, by omega⟩
      have htr : Lib.trimS s [32, 9] = (s.take n).drop a := trim_eq (by omega) (by omega) hbl (fun j h1 h2 => hbr j (by omega) h2) (fun h => ⟨hstop (by omega), by
        rw [show ((n - 1 : Nat) : Int) = (n : Int) - 1 by omega]
        exact (blank_not s _).2 (by omega)⟩)
      repeat' (first|((refine al_v (ov_slice rfl rfl rfl (by omega) (by omega) (by omega)) rfl ?_))|(refine k_al ?_;first|(refine al_v (ov_move rfl) rfl ?_)|(refine k_g ?_;first|(refine al_gy' rfl rfl (by with_reducible rfl) ?_)|(refine al_gnt rfl rfl (by with_reducible rfl) rfl ?_)|(refine al_gnf rfl rfl (by with_reducible rfl) rfl ?_)|(refine al_gu rfl rfl rfl ?_)|(refine al_gsp rfl rfl (fun hc => ?_) (fun hc => ?_) <;> (try (exfalso;omega))))|(refine k_bin ?_;first|(refine al_v (ov_cmp rfl rfl rfl) rfl ?_)|(refine al_v (ov_add rfl rfl (by (first|exact w64 (by omega) (by omega)|rfl))) rfl ?_)|(refine al_v (ov_sub rfl rfl (by (first|exact w64 (by omega) (by omega)|rfl))) rfl ?_))|(refine k_pick ?_;first|(refine al_v (ov_pick_t' rfl (by with_reducible rfl) rfl) rfl ?_)|(refine al_v (ov_pick_f' rfl (by with_reducible rfl) rfl) rfl ?_))|(refine al_v (ov_assign rfl) rfl ?_)|(refine k_call ?_;first|(refine al_v (ov_len_str rfl) rfl ?_))|(refine al_nil ?_)|(refine al_v (ov_index rfl rfl (by omega) (by omega)) rfl ?_))|(first|(refine thn_n ?_)|(refine k_awp ?_;first|(refine awp_seq (awp_region ?_))|(refine awp_seq ?_)|(refine awp_region ?_)|(refine k_cond ?_;first|(refine awp_cond_t' rfl (by with_reducible rfl) ?_)|(refine awp_cond_f' rfl (by with_reducible rfl) ?_)|(refine awp_cond_p rfl (fun hc => ?_) (fun hc => ?_) <;> (try (exfalso;omega))))|(refine awp_block ?_)|(refine awp_ret ?_)|(refine awp_skip ?_)|(refine awp_exit ?_))|(refine lq_exit ?_)|(refine thn_exit ?_)|(refine inb_n ?_)|(refine inb_here ?_)))
      refine ret1 (by first | exact .inr rfl | exact .inl rfl) rfl rfl ?_
      rw [htr]
      exact ⟨rfl, rfl⟩
end
end Go.Proofs.YtnjolbnbpfjdiaaDoor.L

namespace Go.Proofs.YtnjolbnbpfjdiaaDoor.L
open Go Go.RowKit Go.Proofs
set_option linter.unusedVariables false
set_option linter.unusedSimpArgs false
set_option maxRecDepth 100000
attribute [local irreducible] AL QL AWp Thn InB RetQ ACalls LoopQ HL HO HW HQ NoG JmpQ MidQ HF

section
variable {E : Env} {sl : Slots} {H : List AO}
theorem ov_cmp_t {op : BinOp} {t t' : TypeId} {x y : Operand} {k : IntKind} {m n : Int} {p : Prop} {ip : Decidable p} (hx : ev sl x = some (.int k m)) (hy : ev sl y = some (.int k n)) (hb : cmpI op m n = some (@decide p ip)) (h : p) : OV E sl H (.binOp op t x y t') (.bool true) := by
  have := ov_cmp (E := E) (H := H) (t := t) (t' := t') hx hy hb
  rwa [decide_eq_true h] at this
theorem ov_cmp_f {op : BinOp} {t t' : TypeId} {x y : Operand} {k : IntKind} {m n : Int} {p : Prop} {ip : Decidable p} (hx : ev sl x = some (.int k m)) (hy : ev sl y = some (.int k n)) (hb : cmpI op m n = some (@decide p ip)) (h : ¬ p) : OV E sl H (.binOp op t x y t') (.bool false) := by
  have := ov_cmp (E := E) (H := H) (t := t) (t' := t') hx hy hb
  rwa [decide_eq_false h] at this
theorem ov_slice_loT {t : Nat} {n b : Nat} {z : Value} [ti : TI E.P t .string n b z] {x lo : Operand} {s T : List UInt8} {k : IntKind} {l : Int}
    (hx : ev sl x = some (.str s)) (hlo : ev sl lo = some (.int k l)) (h0 : 0 ≤ l) (h2 : l ≤ (s.length : Int)) (he : s.drop l.toNat = T) : OV E sl H (.slice t x (some lo) none none) (.str T) := he ▸ ov_slice_lo hx hlo h0 h2
theorem ov_slice_hiT {t : Nat} {n b : Nat} {z : Value} [ti : TI E.P t .string n b z] {x hi : Operand} {s T : List UInt8} {k : IntKind} {h : Int}
    (hx : ev sl x = some (.str s)) (hhi : ev sl hi = some (.int k h)) (h0 : 0 ≤ h) (h2 : h ≤ (s.length : Int)) (he : s.take h.toNat = T) : OV E sl H (.slice t x none (some hi) none) (.str T) := he ▸ ov_slice_hi hx hhi h0 h2
end
section
variable {w0 : World} {base : Nat}
set_option maxHeartbeats 8000000 in
theorem s_numberR {s : List UInt8} (hs : s.length ≤ 281474976710656) : PCalls (EE w0 base) 78 [.str s] fun rv => rv = .tup [.int .i64 ((numG s).getD 0), .bool (numG s).isSome] := by
  obtain ⟨R, hR⟩ : ∃ R, R = numG s := ⟨_, rfl⟩
  rw [← hR]
  unfold numG at hR
  obtain ⟨T, hT⟩ : ∃ T, T = tailN s := ⟨_, rfl⟩
  rw [← hT] at hR
  refine acalls_of Tryd.func78 rfl rfl rfl (.cons .nil) ?_
  have hhead : ∀ c r, byteAt (c :: r) 0 = (c.toNat : Int) := fun c r => rfl
  have hne : ∀ (c : UInt8) (n : UInt8), c ≠ n → c.toNat ≠ n.toNat := fun c n h k => h (UInt8.toNat_inj.1 k)
  have hTl : (belowN s → (1 < s.length ∧ byteAt s 0 = 45) ∧ s.drop 1 = T) ∧ (¬ belowN s → T = s ∧ ¬ (1 < s.length ∧ byteAt s 0 = 45)) := by
    constructor
    · intro hb
      refine ⟨⟨hb.1, ?_⟩, by rw [hT]; unfold tailN; rw [if_pos hb]⟩
      have h2 := hb.2
      cases s with
      | nil => simp at h2
      | cons c r => simp at h2; rw [hhead, h2]; rfl
    · intro hb
      refine ⟨by rw [hT]; unfold tailN; rw [if_neg hb], fun k => hb ⟨k.1, ?_⟩⟩
      cases s with
      | nil => simp at k
      | cons c r =>
        have := k.2
        rw [hhead] at this
        have : c = 45 := UInt8.toNat_inj.1 (by show c.toNat = 45; omega)
        rw [this]; rfl
  have hTn : T.length ≤ s.length := by rw [hT]; unfold tailN; split <;> simp
  have hz : T = [] ∨ (T ≠ [] ∧ 1 ≤ T.length) ∧ (T.head? = some 48 ∧ byteAt T 0 = 48 ∨ T.head? ≠ some 48 ∧ byteAt T 0 ≠ 48) := by
    cases T with
    | nil => exact .inl rfl
    | cons c r =>
      refine .inr ⟨⟨by simp, by simp⟩, ?_⟩
      rw [hhead, List.head?_cons]
      by_cases h : c = 48
      · left; exact ⟨by rw [h], by rw [h]; rfl⟩
      · right; exact ⟨fun k => h (by injection k), by have := hne c 48 h; have e : (48 : UInt8).toNat = 48 := rfl; omega⟩
  by_cases hb : belowN s
  · obtain ⟨⟨hl0, hbs⟩, hd⟩ := hTl.1 hb
    have hbd : T.length = s.length - 1 := by rw [← hd, List.length_drop]
    rcases hz with h0 | ⟨⟨hn0, hn1⟩, hz⟩
    · rw [h0] at hbd; simp at hbd; omega
    by_cases hbad : T.head? = some 48
    · rw [if_pos (.inr (.inr ⟨hb, hbad⟩))] at hR
      have hcz : byteAt T 0 = 48 := by rcases hz with h | h; exact h.2; exact absurd hbad h.1
      subst hR
      repeat' (first|(first|(refine al_v (ov_slice_loT (T := T) rfl rfl (by omega) (by omega) hd) rfl ?_)|(refine k_bin ?_;refine al_v (ov_seq_f hn0 rfl rfl) rfl ?_)|(refine k_bin ?_;first|(refine al_v (ov_cmp_t rfl rfl rfl (by omega)) rfl ?_)|(refine al_v (ov_cmp_f rfl rfl rfl (by omega)) rfl ?_)))|(refine k_al ?_;first|(refine al_v (ov_move rfl) rfl ?_)|(refine k_g ?_;first|(refine al_gy' rfl rfl (by with_reducible rfl) ?_)|(refine al_gnt rfl rfl (by with_reducible rfl) rfl ?_)|(refine al_gnf rfl rfl (by with_reducible rfl) rfl ?_)|(refine al_gu rfl rfl rfl ?_)|(refine al_gsp rfl rfl (fun hc => ?_) (fun hc => ?_) <;> (try (exfalso;omega))))|(refine k_bin ?_;first|(refine al_v (ov_cmp rfl rfl rfl) rfl ?_)|(refine al_v (ov_add rfl rfl (by (first|exact w64 (by omega) (by omega)|rfl))) rfl ?_)|(refine al_v (ov_sub rfl rfl (by (first|exact w64 (by omega) (by omega)|rfl))) rfl ?_)|(refine al_v (ov_mul rfl rfl (by (first|exact w64 (by omega) (by omega)|rfl))) rfl ?_))|(refine k_pick ?_;first|(refine al_v (ov_pick_t' rfl (by with_reducible rfl) rfl) rfl ?_)|(refine al_v (ov_pick_f' rfl (by with_reducible rfl) rfl) rfl ?_))|(refine al_v (ov_assign rfl) rfl ?_)|(refine k_call ?_;first|(refine al_v (ov_len_str rfl) rfl ?_))|(refine al_nil ?_)|(refine al_v (ov_index rfl rfl (by omega) (by omega)) rfl ?_))|(first|(refine thn_n ?_)|(refine k_awp ?_;first|(refine awp_seq (awp_region ?_))|(refine awp_seq ?_)|(refine awp_region ?_)|(refine k_cond ?_;first|(refine awp_cond_t' rfl (by with_reducible rfl) ?_)|(refine awp_cond_f' rfl (by with_reducible rfl) ?_))|(refine awp_block ?_)|(refine awp_ret ?_)|(refine awp_skip ?_)|(refine awp_exit ?_))|(refine thn_ret ?_)|(refine lq_exit ?_)|(refine lq_ret ?_)|(refine thn_exit ?_)|(refine inb_n ?_)|(refine inb_ret ?_)|(refine inb_here ?_)))
      all_goals
        refine ret2 (by first | exact .inr rfl | exact .inl rfl) rfl rfl rfl ?_
        exact ⟨rfl, rfl⟩
    · rw [if_neg (by rintro (k | k | k); exact hn0 k; exact hbad k.2; exact hbad k.2)] at hR
      have hcz : byteAt T 0 ≠ 48 := by rcases hz with h | h; exact absurd h.1 hbad; exact h.2
      obtain ⟨X, hX⟩ : ∃ X, X = negN T 0 := ⟨_, rfl⟩
      rw [← hX] at hR
      repeat' (first|(first|(refine al_v (ov_slice_loT (T := T) rfl rfl (by omega) (by omega) hd) rfl ?_)|(refine k_bin ?_;refine al_v (ov_seq_f hn0 rfl rfl) rfl ?_)|(refine k_bin ?_;first|(refine al_v (ov_cmp_t rfl rfl rfl (by omega)) rfl ?_)|(refine al_v (ov_cmp_f rfl rfl rfl (by omega)) rfl ?_)))|(refine k_al ?_;first|(refine al_v (ov_move rfl) rfl ?_)|(refine k_g ?_;first|(refine al_gy' rfl rfl (by with_reducible rfl) ?_)|(refine al_gnt rfl rfl (by with_reducible rfl) rfl ?_)|(refine al_gnf rfl rfl (by with_reducible rfl) rfl ?_)|(refine al_gu rfl rfl rfl ?_)|(refine al_gsp rfl rfl (fun hc => ?_) (fun hc => ?_) <;> (try (exfalso;omega))))|(refine k_bin ?_;first|(refine al_v (ov_cmp rfl rfl rfl) rfl ?_)|(refine al_v (ov_add rfl rfl (by (first|exact w64 (by omega) (by omega)|rfl))) rfl ?_)|(refine al_v (ov_sub rfl rfl (by (first|exact w64 (by omega) (by omega)|rfl))) rfl ?_)|(refine al_v (ov_mul rfl rfl (by (first|exact w64 (by omega) (by omega)|rfl))) rfl ?_))|(refine k_pick ?_;first|(refine al_v (ov_pick_t' rfl (by with_reducible rfl) rfl) rfl ?_)|(refine al_v (ov_pick_f' rfl (by with_reducible rfl) rfl) rfl ?_))|(refine al_v (ov_assign rfl) rfl ?_)|(refine k_call ?_;first|(refine al_v (ov_len_str rfl) rfl ?_))|(refine al_nil ?_)|(refine al_v (ov_index rfl rfl (by omega) (by omega)) rfl ?_))|(first|(refine thn_n ?_)|(refine k_awp ?_;first|(refine awp_seq (awp_region ?_))|(refine awp_seq ?_)|(refine awp_region ?_)|(refine k_cond ?_;first|(refine awp_cond_t' rfl (by with_reducible rfl) ?_)|(refine awp_cond_f' rfl (by with_reducible rfl) ?_))|(refine awp_block ?_)|(refine awp_ret ?_)|(refine awp_skip ?_)|(refine awp_exit ?_))|(refine thn_ret ?_)|(refine lq_exit ?_)|(refine lq_ret ?_)|(refine thn_exit ?_)|(refine inb_n ?_)|(refine inb_ret ?_)|(refine inb_here ?_)))
      all_goals
        refine awp_loopq (fun q : Nat × Nat => ⟨[(4, .str T), (5, .bool true), (6, .int .i64 (-(q.2 : Int))), (7, .int .i64 q.1)], []⟩) (fun q => q.1 ≤ T.length ∧ q.2 ≤ 9223372036854775808 ∧ X = negN (T.drop q.1) q.2) (fun q => T.length - q.1) (0, 0) (.of (.same (by repeat constructor))) ⟨Nat.zero_le _, by dsimp only; omega, hX⟩ ?_
        rintro ⟨i, m⟩ ⟨hi, hm63, hXi⟩
        dsimp only at hi hm63 hXi ⊢
        by_cases hlt : i < T.length
        · obtain ⟨c, hc⟩ : ∃ c, T[i]? = some c := ⟨_, List.getElem?_eq_getElem hlt⟩
          have hbc : byteAt T (i : Int) = (c.toNat : Int) := by
            unfold byteAt
            have : ((i : Nat) : Int).toNat = i := rfl
            rw [this, List.getD_eq_getElem?_getD, hc]
            rfl
          have hdr : T.drop i = c :: T.drop (i + 1) := by
            rw [List.drop_eq_getElem_cons hlt]
            congr 1
            exact (List.getElem?_eq_some_iff.1 hc).2
          have hc255 := c.toNat_lt
          rw [hdr, negN] at hXi
          by_cases hg : digB c = true ∧ 10 * m + (c.toNat - 48) ≤ 9223372036854775808
          · rw [if_pos hg] at hXi
            have hdg := digB_iff.1 hg.1
            have hg2 := hg.2
            repeat' (first|(first|(refine k_bin ?_;refine al_v (ov_seq_f hn0 rfl rfl) rfl ?_)|(refine k_bin ?_;first|(refine al_v (ov_cmp_t rfl rfl rfl (by omega)) rfl ?_)|(refine al_v (ov_cmp_f rfl rfl rfl (by omega)) rfl ?_))|(refine al_v (ov_conv_int rfl (by (first|exact w64 (by omega) (by omega)|rfl))) rfl ?_))|(refine k_al ?_;first|(refine al_v (ov_move rfl) rfl ?_)|(refine k_g ?_;first|(refine al_gy' rfl rfl (by with_reducible rfl) ?_)|(refine al_gnt rfl rfl (by with_reducible rfl) rfl ?_)|(refine al_gnf rfl rfl (by with_reducible rfl) rfl ?_)|(refine al_gu rfl rfl rfl ?_)|(refine al_gsp rfl rfl (fun hc => ?_) (fun hc => ?_) <;> (try (exfalso;omega))))|(refine k_bin ?_;first|(refine al_v (ov_cmp rfl rfl rfl) rfl ?_)|(refine al_v (ov_add rfl rfl (by (first|exact w64 (by omega) (by omega)|rfl))) rfl ?_)|(refine al_v (ov_sub rfl rfl (by (first|exact w64 (by omega) (by omega)|rfl))) rfl ?_)|(refine al_v (ov_mul rfl rfl (by (first|exact w64 (by omega) (by omega)|rfl))) rfl ?_))|(refine k_pick ?_;first|(refine al_v (ov_pick_t' rfl (by with_reducible rfl) rfl) rfl ?_)|(refine al_v (ov_pick_f' rfl (by with_reducible rfl) rfl) rfl ?_))|(refine al_v (ov_assign rfl) rfl ?_)|(refine k_call ?_;first|(refine al_v (ov_len_str rfl) rfl ?_))|(refine al_nil ?_)|(refine al_v (ov_index rfl rfl (by omega) (by omega)) rfl ?_))|(first|(refine thn_n ?_)|(refine k_awp ?_;first|(refine awp_seq (awp_region ?_))|(refine awp_seq ?_)|(refine awp_region ?_)|(refine k_cond ?_;first|(refine awp_cond_t' rfl (by with_reducible rfl) ?_)|(refine awp_cond_f' rfl (by with_reducible rfl) ?_))|(refine awp_block ?_)|(refine awp_ret ?_)|(refine awp_skip ?_)|(refine awp_exit ?_))|(refine thn_ret ?_)|(refine lq_exit ?_)|(refine lq_ret ?_)|(refine thn_exit ?_)|(refine inb_n ?_)|(refine inb_ret ?_)|(refine inb_here ?_)))
            all_goals
              refine lq_back (i + 1, 10 * m + (c.toNat - 48)) ((Wkn.spell 6 (.int .i64 (-((10 * m + (c.toNat - 48) : Nat) : Int))) rfl (congrArg (AV.int .i64) (by omega))).trans (.of (.same (by repeat constructor)))) ?_ ?_
              · exact ⟨by dsimp only; omega, hg2, hXi⟩
              · dsimp only; omega
          · rw [if_neg hg] at hXi
            rw [hXi] at hR
            subst hR
            have hg' : ¬ (48 ≤ c.toNat ∧ c.toNat ≤ 57 ∧ 10 * m + (c.toNat - 48) ≤ 9223372036854775808) := fun k => hg ⟨digB_iff.2 ⟨k.1, k.2.1⟩, k.2.2⟩
            repeat' (first|(first|(refine k_bin ?_;refine al_v (ov_seq_f hn0 rfl rfl) rfl ?_)|(refine k_bin ?_;first|(refine al_v (ov_cmp_t rfl rfl rfl (by omega)) rfl ?_)|(refine al_v (ov_cmp_f rfl rfl rfl (by omega)) rfl ?_))|(refine al_v (ov_conv_int rfl (by (first|exact w64 (by omega) (by omega)|rfl))) rfl ?_))|(refine k_al ?_;first|(refine al_v (ov_move rfl) rfl ?_)|(refine k_g ?_;first|(refine al_gy' rfl rfl (by with_reducible rfl) ?_)|(refine al_gnt rfl rfl (by with_reducible rfl) rfl ?_)|(refine al_gnf rfl rfl (by with_reducible rfl) rfl ?_)|(refine al_gu rfl rfl rfl ?_)|(refine al_gsp rfl rfl (fun hc => ?_) (fun hc => ?_) <;> (try (exfalso;omega))))|(refine k_bin ?_;first|(refine al_v (ov_cmp rfl rfl rfl) rfl ?_)|(refine al_v (ov_add rfl rfl (by (first|exact w64 (by omega) (by omega)|rfl))) rfl ?_)|(refine al_v (ov_sub rfl rfl (by (first|exact w64 (by omega) (by omega)|rfl))) rfl ?_)|(refine al_v (ov_mul rfl rfl (by (first|exact w64 (by omega) (by omega)|rfl))) rfl ?_))|(refine k_pick ?_;first|(refine al_v (ov_pick_t' rfl (by with_reducible rfl) rfl) rfl ?_)|(refine al_v (ov_pick_f' rfl (by with_reducible rfl) rfl) rfl ?_))|(refine al_v (ov_assign rfl) rfl ?_)|(refine k_call ?_;first|(refine al_v (ov_len_str rfl) rfl ?_))|(refine al_nil ?_)|(refine al_v (ov_index rfl rfl (by omega) (by omega)) rfl ?_))|(first|(refine thn_n ?_)|(refine k_awp ?_;first|(refine awp_seq (awp_region ?_))|(refine awp_seq ?_)|(refine awp_region ?_)|(refine k_cond ?_;first|(refine awp_cond_t' rfl (by with_reducible rfl) ?_)|(refine awp_cond_f' rfl (by with_reducible rfl) ?_))|(refine awp_block ?_)|(refine awp_ret ?_)|(refine awp_skip ?_)|(refine awp_exit ?_))|(refine thn_ret ?_)|(refine lq_exit ?_)|(refine lq_ret ?_)|(refine thn_exit ?_)|(refine inb_n ?_)|(refine inb_ret ?_)|(refine inb_here ?_)))
            all_goals
              refine ret2 (by first | exact .inr rfl | exact .inl rfl) rfl rfl rfl ?_
              exact ⟨rfl, rfl⟩
        · rw [List.drop_eq_nil_of_le (by omega), negN] at hXi
          rw [hXi] at hR
          dsimp only at hR
          rw [if_pos hb] at hR
          subst hR
          repeat' (first|(first|(refine k_bin ?_;refine al_v (ov_seq_f hn0 rfl rfl) rfl ?_)|(refine k_bin ?_;first|(refine al_v (ov_cmp_t rfl rfl rfl (by omega)) rfl ?_)|(refine al_v (ov_cmp_f rfl rfl rfl (by omega)) rfl ?_)))|(refine k_al ?_;first|(refine al_v (ov_move rfl) rfl ?_)|(refine k_g ?_;first|(refine al_gy' rfl rfl (by with_reducible rfl) ?_)|(refine al_gnt rfl rfl (by with_reducible rfl) rfl ?_)|(refine al_gnf rfl rfl (by with_reducible rfl) rfl ?_)|(refine al_gu rfl rfl rfl ?_)|(refine al_gsp rfl rfl (fun hc => ?_) (fun hc => ?_) <;> (try (exfalso;omega))))|(refine k_bin ?_;first|(refine al_v (ov_cmp rfl rfl rfl) rfl ?_)|(refine al_v (ov_add rfl rfl (by (first|exact w64 (by omega) (by omega)|rfl))) rfl ?_)|(refine al_v (ov_sub rfl rfl (by (first|exact w64 (by omega) (by omega)|rfl))) rfl ?_)|(refine al_v (ov_mul rfl rfl (by (first|exact w64 (by omega) (by omega)|rfl))) rfl ?_))|(refine k_pick ?_;first|(refine al_v (ov_pick_t' rfl (by with_reducible rfl) rfl) rfl ?_)|(refine al_v (ov_pick_f' rfl (by with_reducible rfl) rfl) rfl ?_))|(refine al_v (ov_assign rfl) rfl ?_)|(refine k_call ?_;first|(refine al_v (ov_len_str rfl) rfl ?_))|(refine al_nil ?_)|(refine al_v (ov_index rfl rfl (by omega) (by omega)) rfl ?_))|(first|(refine thn_n ?_)|(refine k_awp ?_;first|(refine awp_seq (awp_region ?_))|(refine awp_seq ?_)|(refine awp_region ?_)|(refine k_cond ?_;first|(refine awp_cond_t' rfl (by with_reducible rfl) ?_)|(refine awp_cond_f' rfl (by with_reducible rfl) ?_))|(refine awp_block ?_)|(refine awp_ret ?_)|(refine awp_skip ?_)|(refine awp_exit ?_))|(refine thn_ret ?_)|(refine lq_exit ?_)|(refine lq_ret ?_)|(refine thn_exit ?_)|(refine inb_n ?_)|(refine inb_ret ?_)|(refine inb_here ?_)))
          refine ret2 (by first | exact .inr rfl | exact .inl rfl) rfl rfl rfl ?_
          exact ⟨rfl, rfl⟩
  · obtain ⟨rfl, hnb⟩ := hTl.2 hb
    rcases hz with h0 | ⟨⟨hn0, hn1⟩, hz⟩
    · rw [if_pos (.inl h0)] at hR
      subst hR
      have h0l : T.length = 0 := by rw [h0]; rfl
      repeat' (first|(first|(refine k_bin ?_;refine al_v (ov_seq_t h0 rfl rfl) rfl ?_)|(refine k_bin ?_;refine al_v (ov_seq_f hn0 rfl rfl) rfl ?_)|(refine k_bin ?_;first|(refine al_v (ov_cmp_t rfl rfl rfl (by omega)) rfl ?_)|(refine al_v (ov_cmp_f rfl rfl rfl (by omega)) rfl ?_)))|(refine k_al ?_;first|(refine al_v (ov_move rfl) rfl ?_)|(refine k_g ?_;first|(refine al_gy' rfl rfl (by with_reducible rfl) ?_)|(refine al_gnt rfl rfl (by with_reducible rfl) rfl ?_)|(refine al_gnf rfl rfl (by with_reducible rfl) rfl ?_)|(refine al_gu rfl rfl rfl ?_)|(refine al_gsp rfl rfl (fun hc => ?_) (fun hc => ?_) <;> (try (exfalso;omega))))|(refine k_bin ?_;first|(refine al_v (ov_cmp rfl rfl rfl) rfl ?_)|(refine al_v (ov_add rfl rfl (by (first|exact w64 (by omega) (by omega)|rfl))) rfl ?_)|(refine al_v (ov_sub rfl rfl (by (first|exact w64 (by omega) (by omega)|rfl))) rfl ?_)|(refine al_v (ov_mul rfl rfl (by (first|exact w64 (by omega) (by omega)|rfl))) rfl ?_))|(refine k_pick ?_;first|(refine al_v (ov_pick_t' rfl (by with_reducible rfl) rfl) rfl ?_)|(refine al_v (ov_pick_f' rfl (by with_reducible rfl) rfl) rfl ?_))|(refine al_v (ov_assign rfl) rfl ?_)|(refine k_call ?_;first|(refine al_v (ov_len_str rfl) rfl ?_))|(refine al_nil ?_)|(refine al_v (ov_index rfl rfl (by omega) (by omega)) rfl ?_))|(first|(refine thn_n ?_)|(refine k_awp ?_;first|(refine awp_seq (awp_region ?_))|(refine awp_seq ?_)|(refine awp_region ?_)|(refine k_cond ?_;first|(refine awp_cond_t' rfl (by with_reducible rfl) ?_)|(refine awp_cond_f' rfl (by with_reducible rfl) ?_))|(refine awp_block ?_)|(refine awp_ret ?_)|(refine awp_skip ?_)|(refine awp_exit ?_))|(refine thn_ret ?_)|(refine lq_exit ?_)|(refine lq_ret ?_)|(refine thn_exit ?_)|(refine inb_n ?_)|(refine inb_ret ?_)|(refine inb_here ?_)))
      all_goals
        refine ret2 (by first | exact .inr rfl | exact .inl rfl) rfl rfl rfl ?_
        exact ⟨rfl, rfl⟩
    by_cases hbad : 1 < T.length ∧ T.head? = some 48
    · rw [if_pos (.inr (.inl hbad))] at hR
      have hcz : byteAt T 0 = 48 := by rcases hz with h | h; exact h.2; exact absurd hbad.2 h.1
      have hl1 := hbad.1
      subst hR
      repeat' (first|(first|(refine k_bin ?_;refine al_v (ov_seq_f hn0 rfl rfl) rfl ?_)|(refine k_bin ?_;first|(refine al_v (ov_cmp_t rfl rfl rfl (by omega)) rfl ?_)|(refine al_v (ov_cmp_f rfl rfl rfl (by omega)) rfl ?_)))|(refine k_al ?_;first|(refine al_v (ov_move rfl) rfl ?_)|(refine k_g ?_;first|(refine al_gy' rfl rfl (by with_reducible rfl) ?_)|(refine al_gnt rfl rfl (by with_reducible rfl) rfl ?_)|(refine al_gnf rfl rfl (by with_reducible rfl) rfl ?_)|(refine al_gu rfl rfl rfl ?_)|(refine al_gsp rfl rfl (fun hc => ?_) (fun hc => ?_) <;> (try (exfalso;omega))))|(refine k_bin ?_;first|(refine al_v (ov_cmp rfl rfl rfl) rfl ?_)|(refine al_v (ov_add rfl rfl (by (first|exact w64 (by omega) (by omega)|rfl))) rfl ?_)|(refine al_v (ov_sub rfl rfl (by (first|exact w64 (by omega) (by omega)|rfl))) rfl ?_)|(refine al_v (ov_mul rfl rfl (by (first|exact w64 (by omega) (by omega)|rfl))) rfl ?_))|(refine k_pick ?_;first|(refine al_v (ov_pick_t' rfl (by with_reducible rfl) rfl) rfl ?_)|(refine al_v (ov_pick_f' rfl (by with_reducible rfl) rfl) rfl ?_))|(refine al_v (ov_assign rfl) rfl ?_)|(refine k_call ?_;first|(refine al_v (ov_len_str rfl) rfl ?_))|(refine al_nil ?_)|(refine al_v (ov_index rfl rfl (by omega) (by omega)) rfl ?_))|(first|(refine thn_n ?_)|(refine k_awp ?_;first|(refine awp_seq (awp_region ?_))|(refine awp_seq ?_)|(refine awp_region ?_)|(refine k_cond ?_;first|(refine awp_cond_t' rfl (by with_reducible rfl) ?_)|(refine awp_cond_f' rfl (by with_reducible rfl) ?_))|(refine awp_block ?_)|(refine awp_ret ?_)|(refine awp_skip ?_)|(refine awp_exit ?_))|(refine thn_ret ?_)|(refine lq_exit ?_)|(refine lq_ret ?_)|(refine thn_exit ?_)|(refine inb_n ?_)|(refine inb_ret ?_)|(refine inb_here ?_)))
      all_goals
        refine ret2 (by first | exact .inr rfl | exact .inl rfl) rfl rfl rfl ?_
        exact ⟨rfl, rfl⟩
    · rw [if_neg (by rintro (k | k | k); exact hn0 k; exact hbad k; exact hb k.1)] at hR
      have hcz : ¬ (1 < T.length ∧ byteAt T 0 = 48) := by rcases hz with h | h; exact fun k => hbad ⟨k.1, h.1⟩; exact fun k => h.2 k.2
      obtain ⟨X, hX⟩ : ∃ X, X = negN T 0 := ⟨_, rfl⟩
      rw [← hX] at hR
      repeat' (first|(first|(refine k_bin ?_;refine al_v (ov_seq_f hn0 rfl rfl) rfl ?_)|(refine k_bin ?_;first|(refine al_v (ov_cmp_t rfl rfl rfl (by omega)) rfl ?_)|(refine al_v (ov_cmp_f rfl rfl rfl (by omega)) rfl ?_)))|(refine k_al ?_;first|(refine al_v (ov_move rfl) rfl ?_)|(refine k_g ?_;first|(refine al_gy' rfl rfl (by with_reducible rfl) ?_)|(refine al_gnt rfl rfl (by with_reducible rfl) rfl ?_)|(refine al_gnf rfl rfl (by with_reducible rfl) rfl ?_)|(refine al_gu rfl rfl rfl ?_)|(refine al_gsp rfl rfl (fun hc => ?_) (fun hc => ?_) <;> (try (exfalso;omega))))|(refine k_bin ?_;first|(refine al_v (ov_cmp rfl rfl rfl) rfl ?_)|(refine al_v (ov_add rfl rfl (by (first|exact w64 (by omega) (by omega)|rfl))) rfl ?_)|(refine al_v (ov_sub rfl rfl (by (first|exact w64 (by omega) (by omega)|rfl))) rfl ?_)|(refine al_v (ov_mul rfl rfl (by (first|exact w64 (by omega) (by omega)|rfl))) rfl ?_))|(refine k_pick ?_;first|(refine al_v (ov_pick_t' rfl (by with_reducible rfl) rfl) rfl ?_)|(refine al_v (ov_pick_f' rfl (by with_reducible rfl) rfl) rfl ?_))|(refine al_v (ov_assign rfl) rfl ?_)|(refine k_call ?_;first|(refine al_v (ov_len_str rfl) rfl ?_))|(refine al_nil ?_)|(refine al_v (ov_index rfl rfl (by omega) (by omega)) rfl ?_))|(first|(refine thn_n ?_)|(refine k_awp ?_;first|(refine awp_seq (awp_region ?_))|(refine awp_seq ?_)|(refine awp_region ?_)|(refine k_cond ?_;first|(refine awp_cond_t' rfl (by with_reducible rfl) ?_)|(refine awp_cond_f' rfl (by with_reducible rfl) ?_))|(refine awp_block ?_)|(refine awp_ret ?_)|(refine awp_skip ?_)|(refine awp_exit ?_))|(refine thn_ret ?_)|(refine lq_exit ?_)|(refine lq_ret ?_)|(refine thn_exit ?_)|(refine inb_n ?_)|(refine inb_ret ?_)|(refine inb_here ?_)))
      all_goals
        refine awp_loopq (fun q : Nat × Nat => ⟨[(4, .str T), (5, .bool false), (6, .int .i64 (-(q.2 : Int))), (7, .int .i64 q.1)], []⟩) (fun q => q.1 ≤ T.length ∧ q.2 ≤ 9223372036854775808 ∧ X = negN (T.drop q.1) q.2) (fun q => T.length - q.1) (0, 0) (.of (.same (by repeat constructor))) ⟨Nat.zero_le _, by dsimp only; omega, hX⟩ ?_
        rintro ⟨i, m⟩ ⟨hi, hm63, hXi⟩
        dsimp only at hi hm63 hXi ⊢
        by_cases hlt : i < T.length
        · obtain ⟨c, hc⟩ : ∃ c, T[i]? = some c := ⟨_, List.getElem?_eq_getElem hlt⟩
          have hbc : byteAt T (i : Int) = (c.toNat : Int) := by
            unfold byteAt
            have : ((i : Nat) : Int).toNat = i := rfl
            rw [this, List.getD_eq_getElem?_getD, hc]
            rfl
          have hdr : T.drop i = c :: T.drop (i + 1) := by
            rw [List.drop_eq_getElem_cons hlt]
            congr 1
            exact (List.getElem?_eq_some_iff.1 hc).2
          have hc255 := c.toNat_lt
          rw [hdr, negN] at hXi
          by_cases hg : digB c = true ∧ 10 * m + (c.toNat - 48) ≤ 9223372036854775808
          · rw [if_pos hg] at hXi
            have hdg := digB_iff.1 hg.1
            have hg2 := hg.2
            repeat' (first|(first|(refine k_bin ?_;refine al_v (ov_seq_f hn0 rfl rfl) rfl ?_)|(refine k_bin ?_;first|(refine al_v (ov_cmp_t rfl rfl rfl (by omega)) rfl ?_)|(refine al_v (ov_cmp_f rfl rfl rfl (by omega)) rfl ?_))|(refine al_v (ov_conv_int rfl (by (first|exact w64 (by omega) (by omega)|rfl))) rfl ?_))|(refine k_al ?_;first|(refine al_v (ov_move rfl) rfl ?_)|(refine k_g ?_;first|(refine al_gy' rfl rfl (by with_reducible rfl) ?_)|(refine al_gnt rfl rfl (by with_reducible rfl) rfl ?_)|(refine al_gnf rfl rfl (by with_reducible rfl) rfl ?_)|(refine al_gu rfl rfl rfl ?_)|(refine al_gsp rfl rfl (fun hc => ?_) (fun hc => ?_) <;> (try (exfalso;omega))))|(refine k_bin ?_;first|(refine al_v (ov_cmp rfl rfl rfl) rfl ?_)|(refine al_v (ov_add rfl rfl (by (first|exact w64 (by omega) (by omega)|rfl))) rfl ?_)|(refine al_v (ov_sub rfl rfl (by (first|exact w64 (by omega) (by omega)|rfl))) rfl ?_)|(refine al_v (ov_mul rfl rfl (by (first|exact w64 (by omega) (by omega)|rfl))) rfl ?_))|(refine k_pick ?_;first|(refine al_v (ov_pick_t' rfl (by with_reducible rfl) rfl) rfl ?_)|(refine al_v (ov_pick_f' rfl (by with_reducible rfl) rfl) rfl ?_))|(refine al_v (ov_assign rfl) rfl ?_)|(refine k_call ?_;first|(refine al_v (ov_len_str rfl) rfl ?_))|(refine al_nil ?_)|(refine al_v (ov_index rfl rfl (by omega) (by omega)) rfl ?_))|(first|(refine thn_n ?_)|(refine k_awp ?_;first|(refine awp_seq (awp_region ?_))|(refine awp_seq ?_)|(refine awp_region ?_)|(refine k_cond ?_;first|(refine awp_cond_t' rfl (by with_reducible rfl) ?_)|(refine awp_cond_f' rfl (by with_reducible rfl) ?_))|(refine awp_block ?_)|(refine awp_ret ?_)|(refine awp_skip ?_)|(refine awp_exit ?_))|(refine thn_ret ?_)|(refine lq_exit ?_)|(refine lq_ret ?_)|(refine thn_exit ?_)|(refine inb_n ?_)|(refine inb_ret ?_)|(refine inb_here ?_)))
            all_goals
              refine lq_back (i + 1, 10 * m + (c.toNat - 48)) ((Wkn.spell 6 (.int .i64 (-((10 * m + (c.toNat - 48) : Nat) : Int))) rfl (congrArg (AV.int .i64) (by omega))).trans (.of (.same (by repeat constructor)))) ?_ ?_
              · exact ⟨by dsimp only; omega, hg2, hXi⟩
              · dsimp only; omega
          · rw [if_neg hg] at hXi
            rw [hXi] at hR
            subst hR
            have hg' : ¬ (48 ≤ c.toNat ∧ c.toNat ≤ 57 ∧ 10 * m + (c.toNat - 48) ≤ 9223372036854775808) := fun k => hg ⟨digB_iff.2 ⟨k.1, k.2.1⟩, k.2.2⟩
            repeat' (first|(first|(refine k_bin ?_;refine al_v (ov_seq_f hn0 rfl rfl) rfl ?_)|(refine k_bin ?_;first|(refine al_v (ov_cmp_t rfl rfl rfl (by omega)) rfl ?_)|(refine al_v (ov_cmp_f rfl rfl rfl (by omega)) rfl ?_))|(refine al_v (ov_conv_int rfl (by (first|exact w64 (by omega) (by omega)|rfl))) rfl ?_))|(refine k_al ?_;first|(refine al_v (ov_move rfl) rfl ?_)|(refine k_g ?_;first|(refine al_gy' rfl rfl (by with_reducible rfl) ?_)|(refine al_gnt rfl rfl (by with_reducible rfl) rfl ?_)|(refine al_gnf rfl rfl (by with_reducible rfl) rfl ?_)|(refine al_gu rfl rfl rfl ?_)|(refine al_gsp rfl rfl (fun hc => ?_) (fun hc => ?_) <;> (try (exfalso;omega))))|(refine k_bin ?_;first|(refine al_v (ov_cmp rfl rfl rfl) rfl ?_)|(refine al_v (ov_add rfl rfl (by (first|exact w64 (by omega) (by omega)|rfl))) rfl ?_)|(refine al_v (ov_sub rfl rfl (by (first|exact w64 (by omega) (by omega)|rfl))) rfl ?_)|(refine al_v (ov_mul rfl rfl (by (first|exact w64 (by omega) (by omega)|rfl))) rfl ?_))|(refine k_pick ?_;first|(refine al_v (ov_pick_t' rfl (by with_reducible rfl) rfl) rfl ?_)|(refine al_v (ov_pick_f' rfl (by with_reducible rfl) rfl) rfl ?_))|(refine al_v (ov_assign rfl) rfl ?_)|(refine k_call ?_;first|(refine al_v (ov_len_str rfl) rfl ?_))|(refine al_nil ?_)|(refine al_v (ov_index rfl rfl (by omega) (by omega)) rfl ?_))|(first|(refine thn_n ?_)|(refine k_awp ?_;first|(refine awp_seq (awp_region ?_))|(refine awp_seq ?_)|(refine awp_region ?_)|(refine k_cond ?_;first|(refine awp_cond_t' rfl (by with_reducible rfl) ?_)|(refine awp_cond_f' rfl (by with_reducible rfl) ?_))|(refine awp_block ?_)|(refine awp_ret ?_)|(refine awp_skip ?_)|(refine awp_exit ?_))|(refine thn_ret ?_)|(refine lq_exit ?_)|(refine lq_ret ?_)|(refine thn_exit ?_)|(refine inb_n ?_)|(refine inb_ret ?_)|(refine inb_here ?_)))
            all_goals
              refine ret2 (by first | exact .inr rfl | exact .inl rfl) rfl rfl rfl ?_
              exact ⟨rfl, rfl⟩
        · rw [List.drop_eq_nil_of_le (by omega), negN] at hXi
          rw [hXi] at hR
          dsimp only at hR
          rw [if_neg hb] at hR
          by_cases hm : m = 9223372036854775808
          · rw [if_pos hm] at hR
            subst hR
            repeat' (first|(first|(refine k_bin ?_;refine al_v (ov_seq_f hn0 rfl rfl) rfl ?_)|(refine k_bin ?_;first|(refine al_v (ov_cmp_t rfl rfl rfl (by omega)) rfl ?_)|(refine al_v (ov_cmp_f rfl rfl rfl (by omega)) rfl ?_)))|(refine k_al ?_;first|(refine al_v (ov_move rfl) rfl ?_)|(refine k_g ?_;first|(refine al_gy' rfl rfl (by with_reducible rfl) ?_)|(refine al_gnt rfl rfl (by with_reducible rfl) rfl ?_)|(refine al_gnf rfl rfl (by with_reducible rfl) rfl ?_)|(refine al_gu rfl rfl rfl ?_)|(refine al_gsp rfl rfl (fun hc => ?_) (fun hc => ?_) <;> (try (exfalso;omega))))|(refine k_bin ?_;first|(refine al_v (ov_cmp rfl rfl rfl) rfl ?_)|(refine al_v (ov_add rfl rfl (by (first|exact w64 (by omega) (by omega)|rfl))) rfl ?_)|(refine al_v (ov_sub rfl rfl (by (first|exact w64 (by omega) (by omega)|rfl))) rfl ?_)|(refine al_v (ov_mul rfl rfl (by (first|exact w64 (by omega) (by omega)|rfl))) rfl ?_))|(refine k_pick ?_;first|(refine al_v (ov_pick_t' rfl (by with_reducible rfl) rfl) rfl ?_)|(refine al_v (ov_pick_f' rfl (by with_reducible rfl) rfl) rfl ?_))|(refine al_v (ov_assign rfl) rfl ?_)|(refine k_call ?_;first|(refine al_v (ov_len_str rfl) rfl ?_))|(refine al_nil ?_)|(refine al_v (ov_index rfl rfl (by omega) (by omega)) rfl ?_))|(first|(refine thn_n ?_)|(refine k_awp ?_;first|(refine awp_seq (awp_region ?_))|(refine awp_seq ?_)|(refine awp_region ?_)|(refine k_cond ?_;first|(refine awp_cond_t' rfl (by with_reducible rfl) ?_)|(refine awp_cond_f' rfl (by with_reducible rfl) ?_))|(refine awp_block ?_)|(refine awp_ret ?_)|(refine awp_skip ?_)|(refine awp_exit ?_))|(refine thn_ret ?_)|(refine lq_exit ?_)|(refine lq_ret ?_)|(refine thn_exit ?_)|(refine inb_n ?_)|(refine inb_ret ?_)|(refine inb_here ?_)))
            refine ret2 (by first | exact .inr rfl | exact .inl rfl) rfl rfl rfl ?_
            exact ⟨rfl, rfl⟩
          · rw [if_neg hm] at hR
            subst hR
            repeat' (first|(first|(refine k_bin ?_;refine al_v (ov_seq_f hn0 rfl rfl) rfl ?_)|(refine k_bin ?_;first|(refine al_v (ov_cmp_t rfl rfl rfl (by omega)) rfl ?_)|(refine al_v (ov_cmp_f rfl rfl rfl (by omega)) rfl ?_)))|(refine k_al ?_;first|(refine al_v (ov_move rfl) rfl ?_)|(refine k_g ?_;first|(refine al_gy' rfl rfl (by with_reducible rfl) ?_)|(refine al_gnt rfl rfl (by with_reducible rfl) rfl ?_)|(refine al_gnf rfl rfl (by with_reducible rfl) rfl ?_)|(refine al_gu rfl rfl rfl ?_)|(refine al_gsp rfl rfl (fun hc => ?_) (fun hc => ?_) <;> (try (exfalso;omega))))|(refine k_bin ?_;first|(refine al_v (ov_cmp rfl rfl rfl) rfl ?_)|(refine al_v (ov_add rfl rfl (by (first|exact w64 (by omega) (by omega)|rfl))) rfl ?_)|(refine al_v (ov_sub rfl rfl (by (first|exact w64 (by omega) (by omega)|rfl))) rfl ?_)|(refine al_v (ov_mul rfl rfl (by (first|exact w64 (by omega) (by omega)|rfl))) rfl ?_))|(refine k_pick ?_;first|(refine al_v (ov_pick_t' rfl (by with_reducible rfl) rfl) rfl ?_)|(refine al_v (ov_pick_f' rfl (by with_reducible rfl) rfl) rfl ?_))|(refine al_v (ov_assign rfl) rfl ?_)|(refine k_call ?_;first|(refine al_v (ov_len_str rfl) rfl ?_))|(refine al_nil ?_)|(refine al_v (ov_index rfl rfl (by omega) (by omega)) rfl ?_))|(first|(refine thn_n ?_)|(refine k_awp ?_;first|(refine awp_seq (awp_region ?_))|(refine awp_seq ?_)|(refine awp_region ?_)|(refine k_cond ?_;first|(refine awp_cond_t' rfl (by with_reducible rfl) ?_)|(refine awp_cond_f' rfl (by with_reducible rfl) ?_))|(refine awp_block ?_)|(refine awp_ret ?_)|(refine awp_skip ?_)|(refine awp_exit ?_))|(refine thn_ret ?_)|(refine lq_exit ?_)|(refine lq_ret ?_)|(refine thn_exit ?_)|(refine inb_n ?_)|(refine inb_ret ?_)|(refine inb_here ?_)))
            refine ret2 (by first | exact .inr rfl | exact .inl rfl) rfl rfl rfl ?_
            exact ⟨by
              show AV.tup [.int .i64 (0 - -(m : Int)), .bool true] = AV.tup [.int .i64 (m : Int), .bool true]
              have : 0 - -(m : Int) = (m : Int) := by omega
              rw [this], rfl⟩
end
end Go.Proofs.YtnjolbnbpfjdiaaDoor.L

namespace Go.Proofs.YtnjolbnbpfjdiaaDoor.L
open Go Go.RowKit Go.Proofs
set_option linter.unusedVariables false
set_option linter.unusedSimpArgs false
set_option maxRecDepth 100000
attribute [local irreducible] AL QL AWp Thn InB RetQ ACalls LoopQ HL HO HW HQ NoG JmpQ MidQ HF

theorem word_rest {s : List UInt8} {k : Nat} (hk : k ≤ s.length) (hno : ∀ (j : Nat) (c : UInt8), j < k → s[j]? = some c → ¬ blank c) (he : k < s.length → ∃ b, s[k]? = some b ∧ blank b) : s.take k = wordI s ∧ Lib.trimS (s.drop k) [32, 9] = restI s := by
  by_cases h : k < s.length
  · obtain ⟨b, hb, hbl⟩ := he h
    have := indexAny_first hno hb hbl
    unfold wordI restI
    rw [this, if_pos (by omega), if_pos (by omega)]
    exact ⟨rfl, rfl⟩
  · have hks : k = s.length := by omega
    have := indexAny_none (s := s) fun j c hc => hno j c (by have := (List.getElem?_eq_some_iff.1 hc).1; omega) hc
    unfold wordI restI
    rw [this, if_neg (by decide), if_neg (by decide), hks]
    exact ⟨List.take_length, by rw [List.drop_length]; rfl⟩
theorem bare_last {t : List UInt8} {b : UInt8} (h : (bareI t).getLast? = some b) : ¬ blank b := by
  unfold bareI Lib.trimS Lib.trimLeftS Lib.trimRightS at h
  obtain ⟨pre, hp⟩ := List.dropWhile_suffix (fun b => ([32, 9] : List UInt8).contains b) (l := (List.dropWhile (fun b => ([32, 9] : List UInt8).contains b) t.reverse).reverse)
  have h1 : (List.dropWhile (fun b => ([32, 9] : List UInt8).contains b) t.reverse).reverse.getLast? = some b := by
    rw [← hp, List.getLast?_append, h]
    rfl
  rw [List.getLast?_reverse] at h1
  have h2 := List.head?_dropWhile_not (fun b => ([32, 9] : List UInt8).contains b) t.reverse
  rw [h1] at h2
  dsimp only at h2
  intro k
  rw [(contains_bl b).2 k] at h2
  cases h2
theorem dw_nil {p : UInt8 → Bool} : ∀ {l : List UInt8}, l.dropWhile p = [] → ∀ x ∈ l, p x = true := by
  intro l
  induction l with
  | nil => intro _ x hx; cases hx
  | cons a l ih =>
    intro h x hx
    cases hp : p a with
    | false => rw [List.dropWhile_cons_of_neg (by rw [hp]; simp)] at h; cases h
    | true =>
      rw [List.dropWhile_cons_of_pos hp] at h
      rcases List.mem_cons.1 hx with rfl | hx
      · exact hp
      · exact ih h x hx
theorem rest_ne {s : List UInt8} {k : Nat} (hk : k < s.length) (hl : ∀ b, s.getLast? = some b → ¬ blank b) : Lib.trimS (s.drop k) [32, 9] ≠ [] := by
  intro h
  obtain ⟨x, hx⟩ : ∃ x, x = s.drop k := ⟨_, rfl⟩
  have hxl : x.length = s.length - k := by rw [hx, List.length_drop]
  have hs : s = s.take k ++ x := by rw [hx, List.take_append_drop]
  rw [← hx] at h
  cases hr : x.reverse with
  | nil =>
    have : x.reverse.length = 0 := by rw [hr]; rfl
    rw [List.length_reverse] at this
    omega
  | cons b r =>
    have hxb : x = r.reverse ++ [b] := by rw [← List.reverse_reverse x, hr, List.reverse_cons]
    have hb : ¬ blank b := hl b (by rw [hs, hxb]; simp)
    have hc : ([32, 9] : List UInt8).contains b = false := by
      cases hq : ([32, 9] : List UInt8).contains b with
      | false => rfl
      | true => exact absurd ((contains_bl b).1 hq) hb
    unfold Lib.trimS Lib.trimLeftS Lib.trimRightS at h
    rw [hr, List.dropWhile_cons_of_neg (by rw [hc]; simp)] at h
    have := dw_nil h b (by simp)
    rw [hc] at this
    cases this
section
variable {w0 : World} {base : Nat}
set_option maxHeartbeats 8000000 in
theorem s_oneR {s : List UInt8} (hs : s.length ≤ 262144) (hlast : ∀ b, s.getLast? = some b → ¬ blank b) : PCalls (EE w0 base) 53 [.str s] (ReadR s) := by
  refine acalls_of Tryd.func53 rfl rfl rfl (.cons .nil) ?_
  have h32 : (32 : UInt8).toNat = 32 := rfl
  have h9 : (9 : UInt8).toNat = 9 := rfl
  repeat' (first|(first|(refine k_call ?_;fail))|(refine k_al ?_;first|(refine al_v (ov_move rfl) rfl ?_)|(refine k_g ?_;first|(refine al_gy' rfl rfl (by with_reducible rfl) ?_)|(refine al_gnt rfl rfl (by with_reducible rfl) rfl ?_))|(refine k_bin ?_;first|(refine al_v (ov_add rfl rfl (by (first|exact w64 (by omega) (by omega)|rfl))) rfl ?_))|(refine k_pick ?_;first|(refine al_v (ov_pick_t' rfl (by with_reducible rfl) rfl) rfl ?_)|(refine al_v (ov_pick_f' rfl (by with_reducible rfl) rfl) rfl ?_))|(refine al_v (ov_assign rfl) rfl ?_)|(refine k_call ?_;first|(refine al_v (ov_len_str rfl) rfl ?_))|(refine al_v (ov_extract rfl rfl) rfl ?_)|(refine al_nil ?_)|(refine al_alloc rfl rfl rfl (by first|exact ln0) (by repeat constructor) rfl ?_)|(refine al_store rfl rfl rfl rfl rfl (by repeat constructor) (by repeat constructor) ?_)|(refine al_v (ov_build rfl rfl rfl (by repeat constructor)) rfl ?_)|(refine al_v (ov_not_t rfl (by with_reducible rfl)) rfl ?_)|(refine al_v (ov_not_f rfl (by with_reducible rfl)) rfl ?_)|(refine al_v (ov_index rfl rfl (by omega) (by omega)) rfl ?_))|(first|(refine thn_n ?_)|(refine k_awp ?_;first|(refine awp_seq (awp_region ?_))|(refine awp_seq ?_)|(refine awp_region ?_)|(refine k_cond ?_;first|(refine awp_cond_t' rfl (by with_reducible rfl) ?_)|(refine awp_cond_f' rfl (by with_reducible rfl) ?_))|(refine awp_block ?_)|(refine awp_ret ?_)|(refine awp_skip ?_)|(refine awp_exit ?_))|(refine thn_ret ?_)|(refine lq_exit ?_)|(refine lq_ret ?_)|(refine thn_exit ?_)|(refine inb_n ?_)|(refine inb_ret ?_)|(refine inb_here ?_)))
  refine awp_loopq (fun k : Nat => ⟨[(0, .str s), (2, .op 0 0), (4, .int .i64 k)], [.box [.int .i64 0, .int .i64 0]]⟩) (fun k => k ≤ s.length ∧ ∀ (j : Nat) (c : UInt8), j < k → s[j]? = some c → ¬ blank c) (fun k => s.length - k) 0 (.of (.same (by repeat constructor))) ⟨Nat.zero_le _, fun j c h => absurd h (Nat.not_lt_zero _)⟩ ?_
  rintro k ⟨hk, hno⟩
  try dsimp only
  by_cases hgo : ∃ c, s[k]? = some c ∧ ¬ blank c
  · obtain ⟨c, hc, hnb⟩ := hgo
    have hlt : k < s.length := (List.getElem?_eq_some_iff.1 hc).1
    have hbc : byteAt s (k : Int) = (c.toNat : Int) := by
      unfold byteAt
      have : ((k : Nat) : Int).toNat = k := rfl
      rw [this, List.getD_eq_getElem?_getD, hc]
      rfl
    have hc1 : c.toNat ≠ 32 := fun h => hnb (by unfold blank; left; exact UInt8.toNat_inj.1 h)
    have hc2 : c.toNat ≠ 9 := fun h => hnb (by unfold blank; right; exact UInt8.toNat_inj.1 h)
    repeat' (first|((refine k_bin ?_;first|(refine al_v (ov_cmp_t rfl rfl rfl (by omega)) rfl ?_)|(refine al_v (ov_cmp_f rfl rfl rfl (by omega)) rfl ?_)))|(refine k_al ?_;first|(refine al_v (ov_move rfl) rfl ?_)|(refine k_g ?_;first|(refine al_gy' rfl rfl (by with_reducible rfl) ?_)|(refine al_gnt rfl rfl (by with_reducible rfl) rfl ?_))|(refine k_bin ?_;first|(refine al_v (ov_add rfl rfl (by (first|exact w64 (by omega) (by omega)|rfl))) rfl ?_))|(refine k_pick ?_;first|(refine al_v (ov_pick_t' rfl (by with_reducible rfl) rfl) rfl ?_)|(refine al_v (ov_pick_f' rfl (by with_reducible rfl) rfl) rfl ?_))|(refine al_v (ov_assign rfl) rfl ?_)|(refine k_call ?_;first|(refine al_v (ov_len_str rfl) rfl ?_))|(refine al_v (ov_extract rfl rfl) rfl ?_)|(refine al_nil ?_)|(refine al_alloc rfl rfl rfl (by first|exact ln0) (by repeat constructor) rfl ?_)|(refine al_store rfl rfl rfl rfl rfl (by repeat constructor) (by repeat constructor) ?_)|(refine al_v (ov_build rfl rfl rfl (by repeat constructor)) rfl ?_)|(refine al_v (ov_not_t rfl (by with_reducible rfl)) rfl ?_)|(refine al_v (ov_not_f rfl (by with_reducible rfl)) rfl ?_)|(refine al_v (ov_index rfl rfl (by omega) (by omega)) rfl ?_))|(first|(refine thn_n ?_)|(refine k_awp ?_;first|(refine awp_seq (awp_region ?_))|(refine awp_seq ?_)|(refine awp_region ?_)|(refine k_cond ?_;first|(refine awp_cond_t' rfl (by with_reducible rfl) ?_)|(refine awp_cond_f' rfl (by with_reducible rfl) ?_))|(refine awp_block ?_)|(refine awp_ret ?_)|(refine awp_skip ?_)|(refine awp_exit ?_))|(refine thn_ret ?_)|(refine lq_exit ?_)|(refine lq_ret ?_)|(refine thn_exit ?_)|(refine inb_n ?_)|(refine inb_ret ?_)|(refine inb_here ?_)))
    first | refine lq_back (k + 1) (.of (.same (by repeat constructor))) ?_ ?_ | fail
    · refine ⟨by omega, fun j d hj hd => ?_⟩
      by_cases hjk : j = k
      · subst hjk; rw [hc] at hd; injection hd with hd; rw [← hd]; exact hnb
      · exact hno j d (by omega) hd
    · omega
  have hst : k = s.length ∨ (k < s.length ∧ ((byteAt s (k : Int) = 32) ∨ (byteAt s (k : Int) = 9))) ∧ ∃ b, s[k]? = some b ∧ blank b := by
    by_cases hlt : k < s.length
    · obtain ⟨c, hc⟩ : ∃ c, s[k]? = some c := ⟨_, List.getElem?_eq_getElem hlt⟩
      have hbl : blank c := Classical.byContradiction fun h => hgo ⟨c, hc, h⟩
      have hbc : byteAt s (k : Int) = (c.toNat : Int) := by
        unfold byteAt
        have : ((k : Nat) : Int).toNat = k := rfl
        rw [this, List.getD_eq_getElem?_getD, hc]
        rfl
      refine .inr ⟨⟨hlt, ?_⟩, c, hc, hbl⟩
      unfold blank at hbl
      rcases hbl with rfl | rfl
      · left; rw [hbc]; rfl
      · right; rw [hbc]; rfl
    · left; omega
  obtain ⟨hW, hR⟩ := word_rest hk hno fun h => by rcases hst with h1 | h1; exact absurd h1 (by omega); exact h1.2
  have hRl : k < s.length → restI s ≠ [] := fun h => by rw [← hR]; exact rest_ne h hlast
  have hRe : k = s.length → restI s = [] := fun h => by rw [← hR, h, List.drop_length]; rfl
  have hTm : PCalls (EE w0 base) 52 [.str (s.drop k)] fun rv => rv = .str (restI s) := by rw [← hR]; exact s_trimR (by rw [List.length_drop]; omega)
  have hRs : (restI s).length ≤ s.length := by
    have := bareI_len (s.drop k)
    unfold bareI at this
    rw [hR, List.length_drop] at this
    omega
  have hNm : PCalls (EE w0 base) 78 [.str (restI s)] fun rv => rv = .tup [.int .i64 ((numI (restI s)).getD 0), .bool (numI (restI s)).isSome] := by rw [numI_G]; exact s_numberR (by omega)
  obtain ⟨W, hWd⟩ : ∃ W, W = wordI s := ⟨_, rfl⟩
  obtain ⟨R, hRd⟩ : ∃ R, R = restI s := ⟨_, rfl⟩
  obtain ⟨Z, hZ⟩ : ∃ Z, Z = readI s := ⟨_, rfl⟩
  unfold ReadR
  rw [← hZ]
  unfold readI at hZ
  rw [← hWd] at hW hZ
  rw [← hRd] at hR hTm hRl hRe hNm hZ
  obtain ⟨T, hT⟩ : ∃ T, T = firstEq W nameL 0 := ⟨_, rfl⟩
  rw [← hT] at hZ
  clear hRs hWd hRd hgo hno hlast
  have hst2 : k = s.length ∨ k < s.length ∧ ((byteAt s (k : Int) = 32) ∨ (byteAt s (k : Int) = 9)) := hst.imp id fun h => h.1
  clear hst
  rcases hst2 with hks | ⟨hks, hb1 | hb1⟩
  all_goals
    repeat' (first|((refine k_bin ?_;first|(refine al_v (ov_cmp_t rfl rfl rfl (by omega)) rfl ?_)|(refine al_v (ov_cmp_f rfl rfl rfl (by omega)) rfl ?_)))|(refine k_al ?_;first|(refine al_v (ov_move rfl) rfl ?_)|(refine k_g ?_;first|(refine al_gy' rfl rfl (by with_reducible rfl) ?_)|(refine al_gnt rfl rfl (by with_reducible rfl) rfl ?_))|(refine k_bin ?_;first|(refine al_v (ov_add rfl rfl (by (first|exact w64 (by omega) (by omega)|rfl))) rfl ?_))|(refine k_pick ?_;first|(refine al_v (ov_pick_t' rfl (by with_reducible rfl) rfl) rfl ?_)|(refine al_v (ov_pick_f' rfl (by with_reducible rfl) rfl) rfl ?_))|(refine al_v (ov_assign rfl) rfl ?_)|(refine k_call ?_;first|(refine al_v (ov_len_str rfl) rfl ?_))|(refine al_v (ov_extract rfl rfl) rfl ?_)|(refine al_nil ?_)|(refine al_alloc rfl rfl rfl (by first|exact ln0) (by repeat constructor) rfl ?_)|(refine al_store rfl rfl rfl rfl rfl (by repeat constructor) (by repeat constructor) ?_)|(refine al_v (ov_build rfl rfl rfl (by repeat constructor)) rfl ?_)|(refine al_v (ov_not_t rfl (by with_reducible rfl)) rfl ?_)|(refine al_v (ov_not_f rfl (by with_reducible rfl)) rfl ?_)|(refine al_v (ov_index rfl rfl (by omega) (by omega)) rfl ?_))|(first|(refine thn_n ?_)|(refine k_awp ?_;first|(refine awp_seq (awp_region ?_))|(refine awp_seq ?_)|(refine awp_region ?_)|(refine k_cond ?_;first|(refine awp_cond_t' rfl (by with_reducible rfl) ?_)|(refine awp_cond_f' rfl (by with_reducible rfl) ?_))|(refine awp_block ?_)|(refine awp_ret ?_)|(refine awp_skip ?_)|(refine awp_exit ?_))|(refine thn_ret ?_)|(refine lq_exit ?_)|(refine lq_ret ?_)|(refine thn_exit ?_)|(refine inb_n ?_)|(refine inb_ret ?_)|(refine inb_here ?_)))
    refine awp_loopq (fun j : Nat => ⟨[(0, .str s), (2, .op 0 0), (4, .int .i64 k), (5, .int .i64 ((j : Int) + 1))], [.box [.int .i64 0, .int .i64 0]]⟩) (fun j => j ≤ 25 ∧ T = firstEq W (nameL.drop j) j) (fun j => 25 - j) 0 (.of (.same (by repeat constructor))) ⟨Nat.zero_le _, hT⟩ ?_
    rintro j ⟨hj, hTj⟩
    try dsimp only
    by_cases hlt : j < 25
    · have hlt2 : j < nameL.length := by rw [nameL_len]; exact hlt
      have hp : nameL[j]? = some (nmI ((j : Int) + 1)) := by
        unfold nmI
        have : ((j : Int) + 1 - 1).toNat = j := by omega
        rw [this, List.getD_eq_getElem?_getD, List.getElem?_eq_getElem hlt2]
        rfl
      rw [firstEq_step hp] at hTj
      have hN : PCalls (EE w0 base) 22 [.int .i64 ((j : Int) + 1)] fun rv => rv = .tup [.str (nmI ((j : Int) + 1)), .int .i64 0] := acalls_mono s_nameR fun rv os h => ⟨by
        have h1 := h.1
        unfold nmV at h1
        rw [if_pos (by omega), if_pos (by omega)] at h1
        exact h1, h.2⟩
      have hH := s_hasAR (w0 := w0) (base := base) (op := (j : Int) + 1)
      by_cases hw : nmI ((j : Int) + 1) = W
      · rw [if_pos hw.symm] at hTj
        rw [hTj] at hZ
        dsimp only at hZ
        by_cases hA : hasAP ((j : Int) + 1)
        · rw [if_pos hA] at hZ
          rw [decide_eq_true hA] at hH
          cases hx : numI R with
          | none =>
            rw [hx] at hNm hZ
            dsimp only at hZ
            dsimp only [Option.getD_some, Option.isSome_some, Option.getD_none, Option.isSome_none] at hNm
            repeat' (first|(first|(refine al_v (ov_slice_hiT (T := W) rfl rfl (by omega) (by omega) hW) rfl ?_)|(refine al_v (ov_slice_loT (T := s.drop k) rfl rfl (by omega) (by omega) rfl) rfl ?_)|(refine k_call ?_;refine al_call rfl rfl rfl rfl hN ?_;rintro _ rfl)|(refine k_call ?_;refine al_call rfl rfl rfl rfl hH ?_;rintro _ rfl)|(refine k_call ?_;refine al_call rfl rfl rfl rfl hTm ?_;rintro _ rfl)|(refine k_call ?_;refine al_call rfl rfl rfl rfl hNm ?_;rintro _ rfl)|(refine k_bin ?_;first|(refine al_v (ov_cmp_t rfl rfl rfl (by omega)) rfl ?_)|(refine al_v (ov_cmp_f rfl rfl rfl (by omega)) rfl ?_))|(refine k_bin ?_;refine al_v (ov_sne_f hw rfl rfl) rfl ?_))|(refine k_al ?_;first|(refine al_v (ov_move rfl) rfl ?_)|(refine k_g ?_;first|(refine al_gy' rfl rfl (by with_reducible rfl) ?_)|(refine al_gnt rfl rfl (by with_reducible rfl) rfl ?_))|(refine k_bin ?_;first|(refine al_v (ov_add rfl rfl (by (first|exact w64 (by omega) (by omega)|rfl))) rfl ?_))|(refine k_pick ?_;first|(refine al_v (ov_pick_t' rfl (by with_reducible rfl) rfl) rfl ?_)|(refine al_v (ov_pick_f' rfl (by with_reducible rfl) rfl) rfl ?_))|(refine al_v (ov_assign rfl) rfl ?_)|(refine k_call ?_;first|(refine al_v (ov_len_str rfl) rfl ?_))|(refine al_v (ov_extract rfl rfl) rfl ?_)|(refine al_nil ?_)|(refine al_alloc rfl rfl rfl (by first|exact ln0) (by repeat constructor) rfl ?_)|(refine al_store rfl rfl rfl rfl rfl (by repeat constructor) (by repeat constructor) ?_)|(refine al_v (ov_build rfl rfl rfl (by repeat constructor)) rfl ?_)|(refine al_v (ov_not_t rfl (by with_reducible rfl)) rfl ?_)|(refine al_v (ov_not_f rfl (by with_reducible rfl)) rfl ?_)|(refine al_v (ov_index rfl rfl (by omega) (by omega)) rfl ?_))|(first|(refine thn_n ?_)|(refine k_awp ?_;first|(refine awp_seq (awp_region ?_))|(refine awp_seq ?_)|(refine awp_region ?_)|(refine k_cond ?_;first|(refine awp_cond_t' rfl (by with_reducible rfl) ?_)|(refine awp_cond_f' rfl (by with_reducible rfl) ?_))|(refine awp_block ?_)|(refine awp_ret ?_)|(refine awp_skip ?_)|(refine awp_exit ?_))|(refine thn_ret ?_)|(refine lq_exit ?_)|(refine lq_ret ?_)|(refine thn_exit ?_)|(refine inb_n ?_)|(refine inb_ret ?_)|(refine inb_here ?_)))
            all_goals
              refine retc1 (by first | exact .inr rfl | exact .inl rfl) rfl rfl rfl rfl rfl ?_
              exact ⟨⟨(_, _), by rw [hZ]; rfl, fun x h => by rw [hZ] at h; cases h⟩, rfl⟩
          | some v =>
            have hks2 : k < s.length := Classical.byContradiction fun h => by
              rw [hRe (by omega), numI_nil] at hx
              cases hx
            try (exfalso; omega)
            all_goals rw [hx] at hNm hZ
            all_goals dsimp only at hZ
            all_goals dsimp only [Option.getD_some, Option.isSome_some, Option.getD_none, Option.isSome_none] at hNm
            repeat' (first|(first|(refine al_v (ov_slice_hiT (T := W) rfl rfl (by omega) (by omega) hW) rfl ?_)|(refine al_v (ov_slice_loT (T := s.drop k) rfl rfl (by omega) (by omega) rfl) rfl ?_)|(refine k_call ?_;refine al_call rfl rfl rfl rfl hN ?_;rintro _ rfl)|(refine k_call ?_;refine al_call rfl rfl rfl rfl hH ?_;rintro _ rfl)|(refine k_call ?_;refine al_call rfl rfl rfl rfl hTm ?_;rintro _ rfl)|(refine k_call ?_;refine al_call rfl rfl rfl rfl hNm ?_;rintro _ rfl)|(refine k_bin ?_;first|(refine al_v (ov_cmp_t rfl rfl rfl (by omega)) rfl ?_)|(refine al_v (ov_cmp_f rfl rfl rfl (by omega)) rfl ?_))|(refine k_bin ?_;refine al_v (ov_sne_f hw rfl rfl) rfl ?_))|(refine k_al ?_;first|(refine al_v (ov_move rfl) rfl ?_)|(refine k_g ?_;first|(refine al_gy' rfl rfl (by with_reducible rfl) ?_)|(refine al_gnt rfl rfl (by with_reducible rfl) rfl ?_))|(refine k_bin ?_;first|(refine al_v (ov_add rfl rfl (by (first|exact w64 (by omega) (by omega)|rfl))) rfl ?_))|(refine k_pick ?_;first|(refine al_v (ov_pick_t' rfl (by with_reducible rfl) rfl) rfl ?_)|(refine al_v (ov_pick_f' rfl (by with_reducible rfl) rfl) rfl ?_))|(refine al_v (ov_assign rfl) rfl ?_)|(refine k_call ?_;first|(refine al_v (ov_len_str rfl) rfl ?_))|(refine al_v (ov_extract rfl rfl) rfl ?_)|(refine al_nil ?_)|(refine al_alloc rfl rfl rfl (by first|exact ln0) (by repeat constructor) rfl ?_)|(refine al_store rfl rfl rfl rfl rfl (by repeat constructor) (by repeat constructor) ?_)|(refine al_v (ov_build rfl rfl rfl (by repeat constructor)) rfl ?_)|(refine al_v (ov_not_t rfl (by with_reducible rfl)) rfl ?_)|(refine al_v (ov_not_f rfl (by with_reducible rfl)) rfl ?_)|(refine al_v (ov_index rfl rfl (by omega) (by omega)) rfl ?_))|(first|(refine thn_n ?_)|(refine k_awp ?_;first|(refine awp_seq (awp_region ?_))|(refine awp_seq ?_)|(refine awp_region ?_)|(refine k_cond ?_;first|(refine awp_cond_t' rfl (by with_reducible rfl) ?_)|(refine awp_cond_f' rfl (by with_reducible rfl) ?_))|(refine awp_block ?_)|(refine awp_ret ?_)|(refine awp_skip ?_)|(refine awp_exit ?_))|(refine thn_ret ?_)|(refine lq_exit ?_)|(refine lq_ret ?_)|(refine thn_exit ?_)|(refine inb_n ?_)|(refine inb_ret ?_)|(refine inb_here ?_)))
            all_goals
              refine retc1 (by first | exact .inr rfl | exact .inl rfl) rfl rfl rfl rfl rfl ?_
              exact ⟨⟨((j : Int) + 1, v), by rw [hZ]; rfl, fun x h => by rw [hZ] at h; injection h⟩, rfl⟩
        · rw [if_neg hA] at hZ
          rw [decide_eq_false hA] at hH
          by_cases hks2 : k < s.length
          · try (exfalso; omega)
            all_goals rw [if_neg (hRl hks2)] at hZ
            repeat' (first|(first|(refine al_v (ov_slice_hiT (T := W) rfl rfl (by omega) (by omega) hW) rfl ?_)|(refine al_v (ov_slice_loT (T := s.drop k) rfl rfl (by omega) (by omega) rfl) rfl ?_)|(refine k_call ?_;refine al_call rfl rfl rfl rfl hN ?_;rintro _ rfl)|(refine k_call ?_;refine al_call rfl rfl rfl rfl hH ?_;rintro _ rfl)|(refine k_bin ?_;first|(refine al_v (ov_cmp_t rfl rfl rfl (by omega)) rfl ?_)|(refine al_v (ov_cmp_f rfl rfl rfl (by omega)) rfl ?_))|(refine k_bin ?_;refine al_v (ov_sne_f hw rfl rfl) rfl ?_))|(refine k_al ?_;first|(refine al_v (ov_move rfl) rfl ?_)|(refine k_g ?_;first|(refine al_gy' rfl rfl (by with_reducible rfl) ?_)|(refine al_gnt rfl rfl (by with_reducible rfl) rfl ?_))|(refine k_bin ?_;first|(refine al_v (ov_add rfl rfl (by (first|exact w64 (by omega) (by omega)|rfl))) rfl ?_))|(refine k_pick ?_;first|(refine al_v (ov_pick_t' rfl (by with_reducible rfl) rfl) rfl ?_)|(refine al_v (ov_pick_f' rfl (by with_reducible rfl) rfl) rfl ?_))|(refine al_v (ov_assign rfl) rfl ?_)|(refine k_call ?_;first|(refine al_v (ov_len_str rfl) rfl ?_))|(refine al_v (ov_extract rfl rfl) rfl ?_)|(refine al_nil ?_)|(refine al_alloc rfl rfl rfl (by first|exact ln0) (by repeat constructor) rfl ?_)|(refine al_store rfl rfl rfl rfl rfl (by repeat constructor) (by repeat constructor) ?_)|(refine al_v (ov_build rfl rfl rfl (by repeat constructor)) rfl ?_)|(refine al_v (ov_not_t rfl (by with_reducible rfl)) rfl ?_)|(refine al_v (ov_not_f rfl (by with_reducible rfl)) rfl ?_)|(refine al_v (ov_index rfl rfl (by omega) (by omega)) rfl ?_))|(first|(refine thn_n ?_)|(refine k_awp ?_;first|(refine awp_seq (awp_region ?_))|(refine awp_seq ?_)|(refine awp_region ?_)|(refine k_cond ?_;first|(refine awp_cond_t' rfl (by with_reducible rfl) ?_)|(refine awp_cond_f' rfl (by with_reducible rfl) ?_))|(refine awp_block ?_)|(refine awp_ret ?_)|(refine awp_skip ?_)|(refine awp_exit ?_))|(refine thn_ret ?_)|(refine lq_exit ?_)|(refine lq_ret ?_)|(refine thn_exit ?_)|(refine inb_n ?_)|(refine inb_ret ?_)|(refine inb_here ?_)))
            all_goals
              refine retc1 (by first | exact .inr rfl | exact .inl rfl) rfl rfl rfl rfl rfl ?_
              exact ⟨⟨(_, _), by rw [hZ]; rfl, fun x h => by rw [hZ] at h; cases h⟩, rfl⟩
          · try (exfalso; omega)
            all_goals rw [if_pos (hRe (by omega))] at hZ
            repeat' (first|(first|(refine al_v (ov_slice_hiT (T := W) rfl rfl (by omega) (by omega) hW) rfl ?_)|(refine al_v (ov_slice_loT (T := s.drop k) rfl rfl (by omega) (by omega) rfl) rfl ?_)|(refine k_call ?_;refine al_call rfl rfl rfl rfl hN ?_;rintro _ rfl)|(refine k_call ?_;refine al_call rfl rfl rfl rfl hH ?_;rintro _ rfl)|(refine k_bin ?_;first|(refine al_v (ov_cmp_t rfl rfl rfl (by omega)) rfl ?_)|(refine al_v (ov_cmp_f rfl rfl rfl (by omega)) rfl ?_))|(refine k_bin ?_;refine al_v (ov_sne_f hw rfl rfl) rfl ?_))|(refine k_al ?_;first|(refine al_v (ov_move rfl) rfl ?_)|(refine k_g ?_;first|(refine al_gy' rfl rfl (by with_reducible rfl) ?_)|(refine al_gnt rfl rfl (by with_reducible rfl) rfl ?_))|(refine k_bin ?_;first|(refine al_v (ov_add rfl rfl (by (first|exact w64 (by omega) (by omega)|rfl))) rfl ?_))|(refine k_pick ?_;first|(refine al_v (ov_pick_t' rfl (by with_reducible rfl) rfl) rfl ?_)|(refine al_v (ov_pick_f' rfl (by with_reducible rfl) rfl) rfl ?_))|(refine al_v (ov_assign rfl) rfl ?_)|(refine k_call ?_;first|(refine al_v (ov_len_str rfl) rfl ?_))|(refine al_v (ov_extract rfl rfl) rfl ?_)|(refine al_nil ?_)|(refine al_alloc rfl rfl rfl (by first|exact ln0) (by repeat constructor) rfl ?_)|(refine al_store rfl rfl rfl rfl rfl (by repeat constructor) (by repeat constructor) ?_)|(refine al_v (ov_build rfl rfl rfl (by repeat constructor)) rfl ?_)|(refine al_v (ov_not_t rfl (by with_reducible rfl)) rfl ?_)|(refine al_v (ov_not_f rfl (by with_reducible rfl)) rfl ?_)|(refine al_v (ov_index rfl rfl (by omega) (by omega)) rfl ?_))|(first|(refine thn_n ?_)|(refine k_awp ?_;first|(refine awp_seq (awp_region ?_))|(refine awp_seq ?_)|(refine awp_region ?_)|(refine k_cond ?_;first|(refine awp_cond_t' rfl (by with_reducible rfl) ?_)|(refine awp_cond_f' rfl (by with_reducible rfl) ?_))|(refine awp_block ?_)|(refine awp_ret ?_)|(refine awp_skip ?_)|(refine awp_exit ?_))|(refine thn_ret ?_)|(refine lq_exit ?_)|(refine lq_ret ?_)|(refine thn_exit ?_)|(refine inb_n ?_)|(refine inb_ret ?_)|(refine inb_here ?_)))
            all_goals
              refine retc1 (by first | exact .inr rfl | exact .inl rfl) rfl rfl rfl rfl rfl ?_
              exact ⟨⟨((j : Int) + 1, 0), by rw [hZ]; rfl, fun x h => by rw [hZ] at h; injection h⟩, rfl⟩
      · rw [if_neg (fun h => hw h.symm)] at hTj
        repeat' (first|(first|(refine al_v (ov_slice_hiT (T := W) rfl rfl (by omega) (by omega) hW) rfl ?_)|(refine al_v (ov_slice_loT (T := s.drop k) rfl rfl (by omega) (by omega) rfl) rfl ?_)|(refine k_call ?_;refine al_call rfl rfl rfl rfl hN ?_;rintro _ rfl)|(refine k_bin ?_;first|(refine al_v (ov_cmp_t rfl rfl rfl (by omega)) rfl ?_)|(refine al_v (ov_cmp_f rfl rfl rfl (by omega)) rfl ?_))|(refine k_bin ?_;refine al_v (ov_sne_t hw rfl rfl) rfl ?_))|(refine k_al ?_;first|(refine al_v (ov_move rfl) rfl ?_)|(refine k_g ?_;first|(refine al_gy' rfl rfl (by with_reducible rfl) ?_)|(refine al_gnt rfl rfl (by with_reducible rfl) rfl ?_))|(refine k_bin ?_;first|(refine al_v (ov_add rfl rfl (by (first|exact w64 (by omega) (by omega)|rfl))) rfl ?_))|(refine k_pick ?_;first|(refine al_v (ov_pick_t' rfl (by with_reducible rfl) rfl) rfl ?_)|(refine al_v (ov_pick_f' rfl (by with_reducible rfl) rfl) rfl ?_))|(refine al_v (ov_assign rfl) rfl ?_)|(refine k_call ?_;first|(refine al_v (ov_len_str rfl) rfl ?_))|(refine al_v (ov_extract rfl rfl) rfl ?_)|(refine al_nil ?_)|(refine al_alloc rfl rfl rfl (by first|exact ln0) (by repeat constructor) rfl ?_)|(refine al_store rfl rfl rfl rfl rfl (by repeat constructor) (by repeat constructor) ?_)|(refine al_v (ov_build rfl rfl rfl (by repeat constructor)) rfl ?_)|(refine al_v (ov_not_t rfl (by with_reducible rfl)) rfl ?_)|(refine al_v (ov_not_f rfl (by with_reducible rfl)) rfl ?_)|(refine al_v (ov_index rfl rfl (by omega) (by omega)) rfl ?_))|(first|(refine thn_n ?_)|(refine k_awp ?_;first|(refine awp_seq (awp_region ?_))|(refine awp_seq ?_)|(refine awp_region ?_)|(refine k_cond ?_;first|(refine awp_cond_t' rfl (by with_reducible rfl) ?_)|(refine awp_cond_f' rfl (by with_reducible rfl) ?_))|(refine awp_block ?_)|(refine awp_ret ?_)|(refine awp_skip ?_)|(refine awp_exit ?_))|(refine thn_ret ?_)|(refine lq_exit ?_)|(refine lq_ret ?_)|(refine thn_exit ?_)|(refine inb_n ?_)|(refine inb_ret ?_)|(refine inb_here ?_)))
        all_goals
          first | refine lq_back (j + 1) (.of (.same (by repeat constructor))) ?_ ?_ | fail
          · exact ⟨by omega, hTj⟩
          · omega
    · rw [List.drop_eq_nil_of_le (by rw [nameL_len]; omega), firstEq] at hTj
      rw [hTj] at hZ
      dsimp only at hZ
      repeat' (first|((refine k_bin ?_;first|(refine al_v (ov_cmp_t rfl rfl rfl (by omega)) rfl ?_)|(refine al_v (ov_cmp_f rfl rfl rfl (by omega)) rfl ?_)))|(refine k_al ?_;first|(refine al_v (ov_move rfl) rfl ?_)|(refine k_g ?_;first|(refine al_gy' rfl rfl (by with_reducible rfl) ?_)|(refine al_gnt rfl rfl (by with_reducible rfl) rfl ?_))|(refine k_bin ?_;first|(refine al_v (ov_add rfl rfl (by (first|exact w64 (by omega) (by omega)|rfl))) rfl ?_))|(refine k_pick ?_;first|(refine al_v (ov_pick_t' rfl (by with_reducible rfl) rfl) rfl ?_)|(refine al_v (ov_pick_f' rfl (by with_reducible rfl) rfl) rfl ?_))|(refine al_v (ov_assign rfl) rfl ?_)|(refine k_call ?_;first|(refine al_v (ov_len_str rfl) rfl ?_))|(refine al_v (ov_extract rfl rfl) rfl ?_)|(refine al_nil ?_)|(refine al_alloc rfl rfl rfl (by first|exact ln0) (by repeat constructor) rfl ?_)|(refine al_store rfl rfl rfl rfl rfl (by repeat constructor) (by repeat constructor) ?_)|(refine al_v (ov_build rfl rfl rfl (by repeat constructor)) rfl ?_)|(refine al_v (ov_not_t rfl (by with_reducible rfl)) rfl ?_)|(refine al_v (ov_not_f rfl (by with_reducible rfl)) rfl ?_)|(refine al_v (ov_index rfl rfl (by omega) (by omega)) rfl ?_))|(first|(refine thn_n ?_)|(refine k_awp ?_;first|(refine awp_seq (awp_region ?_))|(refine awp_seq ?_)|(refine awp_region ?_)|(refine k_cond ?_;first|(refine awp_cond_t' rfl (by with_reducible rfl) ?_)|(refine awp_cond_f' rfl (by with_reducible rfl) ?_))|(refine awp_block ?_)|(refine awp_ret ?_)|(refine awp_skip ?_)|(refine awp_exit ?_))|(refine thn_ret ?_)|(refine lq_exit ?_)|(refine lq_ret ?_)|(refine thn_exit ?_)|(refine inb_n ?_)|(refine inb_ret ?_)|(refine inb_here ?_)))
      all_goals
        refine retc1 (by first | exact .inr rfl | exact .inl rfl) rfl rfl rfl rfl rfl ?_
        exact ⟨⟨(_, _), by rw [hZ]; rfl, fun x h => by rw [hZ] at h; cases h⟩, rfl⟩
end
end Go.Proofs.YtnjolbnbpfjdiaaDoor.L

namespace Go.Proofs.YtnjolbnbpfjdiaaDoor.L
open Go Go.RowKit Go.Proofs
set_option linter.unusedVariables false
set_option linter.unusedSimpArgs false
set_option maxRecDepth 100000
attribute [local irreducible] AL QL AWp Thn InB RetQ ACalls LoopQ HL HO HW HQ NoG JmpQ MidQ HF

section
variable {E : Env} {sl : Slots} {H : List AO}
theorem ov_sliceT {t : Nat} {n b : Nat} {z : Value} [ti : TI E.P t .string n b z] {x lo hi : Operand} {s T : List UInt8} {k k' : IntKind} {l h : Int}
    (hx : ev sl x = some (.str s)) (hlo : ev sl lo = some (.int k l)) (hhi : ev sl hi = some (.int k' h)) (h0 : 0 ≤ l) (h1 : l ≤ h) (h2 : h ≤ (s.length : Int)) (he : (s.take h.toNat).drop l.toNat = T) : OV E sl H (.slice t x (some lo) (some hi) none) (.str T) := he ▸ ov_slice hx hlo hhi h0 h1 h2
end
theorem cutC_take (l : List UInt8) : cutC l = l.take (cutC l).length := by
  apply List.prefix_iff_eq_take.1
  unfold cutC Lib.cut
  split
  · exact List.take_prefix _ _
  · exact List.prefix_refl _
theorem cutC_at {line : List UInt8} {k : Nat} (h : line[k]? = some 59) (hno : ∀ j, j < k → line[j]? ≠ some 59) : cutC line = line.take k := by unfold cutC; rw [cut1_at h hno]
theorem cutC_no {line : List UInt8} (hno : ∀ j : Nat, line[j]? ≠ some 59) : cutC line = line := by unfold cutC; rw [cut1_no hno]
theorem lead_at {V : List UInt8} {d : Nat} (hd : d ≤ V.length) (h1 : ∀ (j : Nat) (c : UInt8), j < d → V[j]? = some c → blank c) (h2 : ∀ c, V[d]? = some c → ¬ blank c) : leadI V = d := by
  have := Lib.dropWhile_drop (fun b => ([32, 9] : List UInt8).contains b) V d (fun j b hj hb => (contains_bl b).2 (h1 j b hj hb)) (fun b hb => by
    cases hq : ([32, 9] : List UInt8).contains b with
    | false => rfl
    | true => exact absurd ((contains_bl b).1 hq) (h2 b hb)) hd
  unfold leadI Lib.trimLeftS
  rw [this, List.length_drop]
  omega
/-- The lines from a place on. -/
def restL (s : List UInt8) (a : Nat) : List (List UInt8) := if a ≤ s.length then splitB 10 (s.drop a) else []
theorem restL_line {s : List UInt8} {a i : Nat} (h : a ≤ i) (hi : i ≤ s.length) (hno : ∀ j, a ≤ j → j < i → s[j]? ≠ some 10) (he : i < s.length → s[i]? = some 10) : restL s a = (s.take i).drop a :: restL s (i + 1) := by
  have hn : (10 : UInt8) ∉ (s.take i).drop a := by
    intro hm
    obtain ⟨j, hj, hjc⟩ := mem_bAt hm
    rw [List.length_drop, List.length_take] at hj
    rw [List.getElem?_drop, List.getElem?_take, if_pos (by omega)] at hjc
    exact hno (a + j) (by omega) (by omega) hjc
  have hd : s.drop a = (s.take i).drop a ++ s.drop i := by
    have h1 : s.drop a = (s.take i ++ s.drop i).drop a := by rw [List.take_append_drop]
    rw [h1, List.drop_append_of_le_length (by rw [List.length_take]; omega)]
  unfold restL
  rw [if_pos (by omega), hd]
  by_cases hlt : i < s.length
  · have h6 := List.getElem?_eq_some_iff.1 (he hlt)
    rw [if_pos (by omega), List.drop_eq_getElem_cons hlt, h6.2]
    exact splitB_at hn
  · rw [if_neg (by omega), List.drop_eq_nil_of_le (show s.length ≤ i by omega), List.append_nil]
    exact splitB_no hn
section
variable {w0 : World} {base : Nat}
set_option maxHeartbeats 16000000 in
theorem s_codeParseR {s : List UInt8} (hs0 : s.length ≤ 140737488351232) : PCalls (EE w0 base) 25 [.str s] fun rv => rv = .tup [.rs (insAV (parseI s).1), .int .i64 (parseI s).2.1, .int .i64 (parseI s).2.2] := by
  refine acalls_of Tryd.func25 rfl rfl rfl (.cons .nil) ?_
  unfold parseI
  by_cases hbig : 262144 < s.length
  · rw [if_pos hbig]
    repeat' (first|(refine k_al ?_;first|(refine al_v (ov_move rfl) rfl ?_)|(refine k_g ?_;first|(refine al_gy' rfl rfl (by with_reducible rfl) ?_)|(refine al_gnt rfl rfl (by with_reducible rfl) rfl ?_)|(refine al_gnf rfl rfl (by with_reducible rfl) rfl ?_)|(refine al_gu rfl rfl rfl ?_))|(refine k_load ?_;first|(refine al_v (ov_load rfl rfl) rfl ?_)|(refine al_v (ov_load_agg rfl rfl rfl) rfl ?_))|(refine k_bin ?_;first|(refine al_v (ov_cmp rfl rfl rfl) rfl ?_)|(refine al_v (ov_add rfl rfl (by (first|exact w64 (by omega) (by omega)|rfl))) rfl ?_))|(refine k_pick ?_;first|(refine al_v (ov_pick_t' rfl (by with_reducible rfl) rfl) rfl ?_)|(refine al_v (ov_pick_f' rfl (by with_reducible rfl) rfl) rfl ?_))|(refine al_v (ov_assign rfl) rfl ?_)|(refine k_call ?_;first|(refine al_v (ov_len_str rfl) rfl ?_))|(refine al_v (ov_extract rfl rfl) rfl ?_)|(refine al_nil ?_)|(refine al_alloc rfl rfl rfl (by first|exact ln2|exact ln3|exact ln4) (by repeat constructor) rfl ?_)|(refine al_store rfl rfl rfl rfl rfl (by repeat constructor) (by repeat constructor) ?_)|(refine al_buildSlice (by rfl) (by rfl) (by rfl) (by rfl) (by decide) (by decide) (by rfl) (by rfl) (by repeat constructor) (by rfl) (by repeat constructor) (by rfl) (by first|exact ln2|exact ln3|exact ln4) (by repeat constructor) rfl ?_)|(refine al_v (ov_not_t rfl (by with_reducible rfl)) rfl ?_)|(refine al_v (ov_not_f rfl (by with_reducible rfl)) rfl ?_)|(refine al_v (ov_index rfl rfl (by omega) (by omega)) rfl ?_))|(first|(refine thn_n ?_)|(refine k_awp ?_;first|(refine awp_seq (awp_region ?_))|(refine awp_seq ?_)|(refine awp_region ?_)|(refine k_cond ?_;first|(refine awp_cond_t' rfl (by with_reducible rfl) ?_)|(refine awp_cond_f' rfl (by with_reducible rfl) ?_)|(refine awp_cond_p rfl (fun hc => ?_) (fun hc => ?_) <;> (try (exfalso;omega))))|(refine awp_block ?_)|(refine awp_ret ?_)|(refine awp_skip ?_)|(refine awp_exit ?_))|(refine thn_ret ?_)|(refine lq_exit ?_)|(refine lq_ret ?_)|(refine thn_exit ?_)|(refine inb_n ?_)|(refine inb_ret ?_)|(refine inb_here ?_)))
    refine retq_wkn (.nil 2 rfl) ?_
    refine ret3 (by first | exact .inr rfl | exact .inl rfl) rfl rfl rfl rfl ?_
    exact ⟨rfl, rfl⟩
  rw [if_neg hbig]
  obtain ⟨T, hT⟩ : ∃ T, T = codeL (splitB 10 s) 0 [] [] := ⟨_, rfl⟩
  rw [← hT]
  have hT0 : T = codeL (restL s 0) 0 [] [] := by unfold restL; rw [if_pos (Nat.zero_le _), List.drop_zero]; exact hT
  clear hT
  have hbyte : ∀ (l : List UInt8) (i : Nat) (c : UInt8), l[i]? = some c → byteAt l (i : Int) = (c.toNat : Int) := by
    intro l i c hc
    unfold byteAt
    have : ((i : Nat) : Int).toNat = i := rfl
    rw [this, List.getD_eq_getElem?_getD, hc]
    rfl
  have hne : ∀ (c : UInt8) (n : UInt8), c ≠ n → c.toNat ≠ n.toNat := fun c n h k => h (UInt8.toNat_inj.1 k)
  have e10 : (10 : UInt8).toNat = 10 := rfl
  have e59 : (59 : UInt8).toNat = 59 := rfl
  have e32 : (32 : UInt8).toNat = 32 := rfl
  have e9 : (9 : UInt8).toNat = 9 := rfl
  repeat' (first|((refine k_bin ?_;first|(refine al_v (ov_cmp_t rfl rfl rfl (by omega)) rfl ?_)|(refine al_v (ov_cmp_f rfl rfl rfl (by omega)) rfl ?_)))|(refine k_al ?_;first|(refine al_v (ov_move rfl) rfl ?_)|(refine k_g ?_;first|(refine al_gy' rfl rfl (by with_reducible rfl) ?_)|(refine al_gnt rfl rfl (by with_reducible rfl) rfl ?_)|(refine al_gnf rfl rfl (by with_reducible rfl) rfl ?_)|(refine al_gu rfl rfl rfl ?_))|(refine k_load ?_;first|(refine al_v (ov_load rfl rfl) rfl ?_)|(refine al_v (ov_load_agg rfl rfl rfl) rfl ?_))|(refine k_bin ?_;first|(refine al_v (ov_cmp rfl rfl rfl) rfl ?_)|(refine al_v (ov_add rfl rfl (by (first|exact w64 (by omega) (by omega)|rfl))) rfl ?_))|(refine k_pick ?_;first|(refine al_v (ov_pick_t' rfl (by with_reducible rfl) rfl) rfl ?_)|(refine al_v (ov_pick_f' rfl (by with_reducible rfl) rfl) rfl ?_))|(refine al_v (ov_assign rfl) rfl ?_)|(refine k_call ?_;first|(refine al_v (ov_len_str rfl) rfl ?_))|(refine al_v (ov_extract rfl rfl) rfl ?_)|(refine al_nil ?_)|(refine al_alloc rfl rfl rfl (by first|exact ln2|exact ln3|exact ln4) (by repeat constructor) rfl ?_)|(refine al_store rfl rfl rfl rfl rfl (by repeat constructor) (by repeat constructor) ?_)|(refine al_buildSlice (by rfl) (by rfl) (by rfl) (by rfl) (by decide) (by decide) (by rfl) (by rfl) (by repeat constructor) (by rfl) (by repeat constructor) (by rfl) (by first|exact ln2|exact ln3|exact ln4) (by repeat constructor) rfl ?_)|(refine al_v (ov_not_t rfl (by with_reducible rfl)) rfl ?_)|(refine al_v (ov_not_f rfl (by with_reducible rfl)) rfl ?_)|(refine al_v (ov_index rfl rfl (by omega) (by omega)) rfl ?_))|(first|(refine thn_n ?_)|(refine k_awp ?_;first|(refine awp_seq (awp_region ?_))|(refine awp_seq ?_)|(refine awp_region ?_)|(refine k_cond ?_;first|(refine awp_cond_t' rfl (by with_reducible rfl) ?_)|(refine awp_cond_f' rfl (by with_reducible rfl) ?_)|(refine awp_cond_p rfl (fun hc => ?_) (fun hc => ?_) <;> (try (exfalso;omega))))|(refine awp_block ?_)|(refine awp_ret ?_)|(refine awp_skip ?_)|(refine awp_exit ?_))|(refine thn_ret ?_)|(refine lq_exit ?_)|(refine lq_ret ?_)|(refine thn_exit ?_)|(refine inb_n ?_)|(refine inb_ret ?_)|(refine inb_here ?_)))
  refine awp_adopt 5 85 2 rfl (by decide) rfl (by repeat constructor) ?_
  refine awp_adopt 6 3 1 rfl (by decide) rfl (by repeat constructor) ?_
  refine awp_loopq (fun q : Nat × Nat × Ins × List Int × (Nat × Nat) × (List (List AV) × List (List AV)) => ⟨[(0, .str s), (5, .os 0 q.2.2.2.2.1.1), (6, .os 1 q.2.2.2.2.1.2), (7, .int .i64 q.2.1), (8, .int .i64 q.1)], [.row 85 2 q.2.2.2.2.1.1 0 q.2.2.2.2.2.1, .row 3 1 q.2.2.2.2.1.2 0 q.2.2.2.2.2.2]⟩)
    (fun q => (q.2.2.2.2.2.1 = insAV q.2.2.1 ∧ q.2.2.2.2.2.2 = numAV q.2.2.2.1) ∧ q.1 ≤ s.length + 1 ∧ q.2.2.1.length ≤ q.1 ∧ q.2.2.2.1.length = q.2.2.1.length ∧ q.2.1 ≤ q.1 ∧ (q.1 = s.length + 1 → q.2.1 = s.length + 1) ∧ (∀ j, q.2.1 ≤ j → j < q.1 → s[j]? ≠ some 10) ∧ T = codeL (restL s q.2.1) q.2.1 q.2.2.1 q.2.2.2.1) (fun q => s.length + 1 - q.1) (0, 0, [], [], (0, 0), ([], [])) (.of (.same (by repeat constructor))) ⟨⟨rfl, rfl⟩, Nat.zero_le _, Nat.le_refl _, rfl, Nat.le_refl _, fun h => by omega, fun j h1 h2 => by omega, hT0⟩ ?_
  rintro ⟨i, a, out, ps, ⟨v1, v2⟩, ⟨xs, ys⟩⟩ ⟨⟨hxs, hys⟩, hi, ho, hpo, hai, hend, hno, hTi⟩
  dsimp only at hxs hys hi ho hpo hai hend hno hTi ⊢
  by_cases hlt : i < s.length + 1
  · by_cases hskip : ∃ c, s[i]? = some c ∧ c ≠ 10
    · obtain ⟨c, hc, hc10⟩ := hskip
      have hil : i < s.length := (List.getElem?_eq_some_iff.1 hc).1
      have hb := hbyte s i c hc
      have := hne c 10 hc10
      repeat' (first|((refine k_bin ?_;first|(refine al_v (ov_cmp_t rfl rfl rfl (by omega)) rfl ?_)|(refine al_v (ov_cmp_f rfl rfl rfl (by omega)) rfl ?_)))|(refine k_al ?_;first|(refine al_v (ov_move rfl) rfl ?_)|(refine k_g ?_;first|(refine al_gy' rfl rfl (by with_reducible rfl) ?_)|(refine al_gnt rfl rfl (by with_reducible rfl) rfl ?_)|(refine al_gnf rfl rfl (by with_reducible rfl) rfl ?_)|(refine al_gu rfl rfl rfl ?_))|(refine k_load ?_;first|(refine al_v (ov_load rfl rfl) rfl ?_)|(refine al_v (ov_load_agg rfl rfl rfl) rfl ?_))|(refine k_bin ?_;first|(refine al_v (ov_cmp rfl rfl rfl) rfl ?_)|(refine al_v (ov_add rfl rfl (by (first|exact w64 (by omega) (by omega)|rfl))) rfl ?_))|(refine k_pick ?_;first|(refine al_v (ov_pick_t' rfl (by with_reducible rfl) rfl) rfl ?_)|(refine al_v (ov_pick_f' rfl (by with_reducible rfl) rfl) rfl ?_))|(refine al_v (ov_assign rfl) rfl ?_)|(refine k_call ?_;first|(refine al_v (ov_len_str rfl) rfl ?_))|(refine al_v (ov_extract rfl rfl) rfl ?_)|(refine al_nil ?_)|(refine al_alloc rfl rfl rfl (by first|exact ln2|exact ln3|exact ln4) (by repeat constructor) rfl ?_)|(refine al_store rfl rfl rfl rfl rfl (by repeat constructor) (by repeat constructor) ?_)|(refine al_buildSlice (by rfl) (by rfl) (by rfl) (by rfl) (by decide) (by decide) (by rfl) (by rfl) (by repeat constructor) (by rfl) (by repeat constructor) (by rfl) (by first|exact ln2|exact ln3|exact ln4) (by repeat constructor) rfl ?_)|(refine al_v (ov_not_t rfl (by with_reducible rfl)) rfl ?_)|(refine al_v (ov_not_f rfl (by with_reducible rfl)) rfl ?_)|(refine al_v (ov_index rfl rfl (by omega) (by omega)) rfl ?_))|(first|(refine thn_n ?_)|(refine k_awp ?_;first|(refine awp_seq (awp_region ?_))|(refine awp_seq ?_)|(refine awp_region ?_)|(refine k_cond ?_;first|(refine awp_cond_t' rfl (by with_reducible rfl) ?_)|(refine awp_cond_f' rfl (by with_reducible rfl) ?_)|(refine awp_cond_p rfl (fun hc => ?_) (fun hc => ?_) <;> (try (exfalso;omega))))|(refine awp_block ?_)|(refine awp_ret ?_)|(refine awp_skip ?_)|(refine awp_exit ?_))|(refine thn_ret ?_)|(refine lq_exit ?_)|(refine lq_ret ?_)|(refine thn_exit ?_)|(refine inb_n ?_)|(refine inb_ret ?_)|(refine inb_here ?_)))
      refine lq_back (i + 1, a, out, ps, (v1, v2), (xs, ys)) (.of (.same (by repeat constructor))) ?_ ?_
      · refine ⟨⟨hxs, hys⟩, by dsimp only; omega, by dsimp only; omega, hpo, by dsimp only; omega, fun h => by dsimp only at h; omega, fun j h1 h2 => ?_, hTi⟩
        dsimp only at h1 h2
        by_cases hj : j = i
        · subst hj; rw [hc]; intro h; injection h with h; exact hc10 h
        · exact hno j h1 (by omega)
      · dsimp only; omega
    have hat : i < s.length → s[i]? = some 10 := fun h => by
      obtain ⟨c, hc⟩ : ∃ c, s[i]? = some c := ⟨_, List.getElem?_eq_getElem h⟩
      have : c = 10 := Classical.byContradiction fun k => hskip ⟨c, hc, k⟩
      rw [hc, this]
    have hat2 : i = s.length ∨ i < s.length ∧ byteAt s (i : Int) = 10 := by
      by_cases h : i < s.length
      · right; exact ⟨h, by rw [hbyte s i 10 (hat h)]; rfl⟩
      · left; omega
    rw [restL_line hai (by omega) hno hat] at hTi
    obtain ⟨line, hline⟩ : ∃ line, line = (s.take i).drop a := ⟨_, rfl⟩
    rw [← hline, codeL] at hTi
    have hll : line.length = i - a := by rw [hline, List.length_drop, List.length_take]; omega
    have hlg : ∀ j : Nat, a + j < i → line[j]? = s[a + j]? := fun j h => by rw [hline, List.getElem?_drop, List.getElem?_take, if_pos (by omega)]
    have hnext : a + (line.length + 1) = i + 1 := by omega
    rw [hnext] at hTi
    have hcl := cutC_len line
    have hbl := bareI_len (cutC line)
    have hld : leadI (cutC line) ≤ (cutC line).length := by unfold leadI; omega
    have hVg : ∀ j : Nat, j < (cutC line).length → (cutC line)[j]? = s[a + j]? := fun j h => by
      rw [cutC_take line, List.getElem?_take, if_pos h]
      exact hlg j (by omega)
    have hTr : PCalls (EE w0 base) 52 [.str (cutC line)] fun rv => rv = .str (bareI (cutC line)) := s_trimR (by omega)
    have hOne := s_oneR (w0 := w0) (base := base) (s := bareI (cutC line)) (by omega) (fun b h => bare_last h)
    rcases hat2 with hat2 | ⟨hat2, hat3⟩
    all_goals
      repeat' (first|(first|(refine al_v (ov_sliceT (T := line) rfl rfl rfl (by omega) (by omega) (by omega) hline.symm) rfl ?_)|(refine k_bin ?_;first|(refine al_v (ov_cmp_t rfl rfl rfl (by omega)) rfl ?_)|(refine al_v (ov_cmp_f rfl rfl rfl (by omega)) rfl ?_)))|(refine k_al ?_;first|(refine al_v (ov_move rfl) rfl ?_)|(refine k_g ?_;first|(refine al_gy' rfl rfl (by with_reducible rfl) ?_)|(refine al_gnt rfl rfl (by with_reducible rfl) rfl ?_)|(refine al_gnf rfl rfl (by with_reducible rfl) rfl ?_)|(refine al_gu rfl rfl rfl ?_))|(refine k_load ?_;first|(refine al_v (ov_load rfl rfl) rfl ?_)|(refine al_v (ov_load_agg rfl rfl rfl) rfl ?_))|(refine k_bin ?_;first|(refine al_v (ov_cmp rfl rfl rfl) rfl ?_)|(refine al_v (ov_add rfl rfl (by (first|exact w64 (by omega) (by omega)|rfl))) rfl ?_))|(refine k_pick ?_;first|(refine al_v (ov_pick_t' rfl (by with_reducible rfl) rfl) rfl ?_)|(refine al_v (ov_pick_f' rfl (by with_reducible rfl) rfl) rfl ?_))|(refine al_v (ov_assign rfl) rfl ?_)|(refine k_call ?_;first|(refine al_v (ov_len_str rfl) rfl ?_))|(refine al_v (ov_extract rfl rfl) rfl ?_)|(refine al_nil ?_)|(refine al_alloc rfl rfl rfl (by first|exact ln2|exact ln3|exact ln4) (by repeat constructor) rfl ?_)|(refine al_store rfl rfl rfl rfl rfl (by repeat constructor) (by repeat constructor) ?_)|(refine al_buildSlice (by rfl) (by rfl) (by rfl) (by rfl) (by decide) (by decide) (by rfl) (by rfl) (by repeat constructor) (by rfl) (by repeat constructor) (by rfl) (by first|exact ln2|exact ln3|exact ln4) (by repeat constructor) rfl ?_)|(refine al_v (ov_not_t rfl (by with_reducible rfl)) rfl ?_)|(refine al_v (ov_not_f rfl (by with_reducible rfl)) rfl ?_)|(refine al_v (ov_index rfl rfl (by omega) (by omega)) rfl ?_))|(first|(refine thn_n ?_)|(refine k_awp ?_;first|(refine awp_seq (awp_region ?_))|(refine awp_seq ?_)|(refine awp_region ?_)|(refine k_cond ?_;first|(refine awp_cond_t' rfl (by with_reducible rfl) ?_)|(refine awp_cond_f' rfl (by with_reducible rfl) ?_)|(refine awp_cond_p rfl (fun hc => ?_) (fun hc => ?_) <;> (try (exfalso;omega))))|(refine awp_block ?_)|(refine awp_ret ?_)|(refine awp_skip ?_)|(refine awp_exit ?_))|(refine thn_ret ?_)|(refine lq_exit ?_)|(refine lq_ret ?_)|(refine thn_exit ?_)|(refine inb_n ?_)|(refine inb_ret ?_)|(refine inb_here ?_)))
      refine awp_loopq (fun q : List UInt8 × Nat => ⟨[(0, .str s), (5, .os 0 v1), (6, .os 1 v2), (7, .int .i64 a), (8, .int .i64 i), (9, .str q.1), (10, .int .i64 q.2)], [.row 85 2 v1 0 xs, .row 3 1 v2 0 ys]⟩)
        (fun q => q.1 = line ∧ q.2 ≤ line.length ∧ (∀ j, j < q.2 → line[j]? ≠ some 59) ∨ q.1 = cutC line ∧ (cutC line).length ≤ q.2 ∧ q.2 ≤ line.length) (fun q => q.1.length - q.2) (line, 0) (.of (.same (by repeat constructor))) (.inl ⟨rfl, Nat.zero_le _, fun j h => absurd h (Nat.not_lt_zero _)⟩) ?_
      rintro ⟨V, k⟩ hV
      dsimp only at hV ⊢
      by_cases hk : k < V.length
      · rcases hV with ⟨rfl, hk1, hkn⟩ | ⟨rfl, hk1, _⟩
        · obtain ⟨c, hc⟩ : ∃ c, V[k]? = some c := ⟨_, List.getElem?_eq_getElem hk⟩
          have hb := hbyte V k c hc
          by_cases h59 : c = 59
          · have hb2 : byteAt V (k : Int) = 59 := by rw [hb, h59]; rfl
            have hcut := cutC_at (by rw [hc, h59]) hkn
            have hcul : (cutC V).length = k := by rw [hcut, List.length_take]; omega
            repeat' (first|(first|(refine al_v (ov_slice_hiT (T := cutC V) rfl rfl (by omega) (by omega) hcut.symm) rfl ?_)|(refine k_bin ?_;first|(refine al_v (ov_cmp_t rfl rfl rfl (by omega)) rfl ?_)|(refine al_v (ov_cmp_f rfl rfl rfl (by omega)) rfl ?_)))|(refine k_al ?_;first|(refine al_v (ov_move rfl) rfl ?_)|(refine k_g ?_;first|(refine al_gy' rfl rfl (by with_reducible rfl) ?_)|(refine al_gnt rfl rfl (by with_reducible rfl) rfl ?_)|(refine al_gnf rfl rfl (by with_reducible rfl) rfl ?_)|(refine al_gu rfl rfl rfl ?_))|(refine k_load ?_;first|(refine al_v (ov_load rfl rfl) rfl ?_)|(refine al_v (ov_load_agg rfl rfl rfl) rfl ?_))|(refine k_bin ?_;first|(refine al_v (ov_cmp rfl rfl rfl) rfl ?_)|(refine al_v (ov_add rfl rfl (by (first|exact w64 (by omega) (by omega)|rfl))) rfl ?_))|(refine k_pick ?_;first|(refine al_v (ov_pick_t' rfl (by with_reducible rfl) rfl) rfl ?_)|(refine al_v (ov_pick_f' rfl (by with_reducible rfl) rfl) rfl ?_))|(refine al_v (ov_assign rfl) rfl ?_)|(refine k_call ?_;first|(refine al_v (ov_len_str rfl) rfl ?_))|(refine al_v (ov_extract rfl rfl) rfl ?_)|(refine al_nil ?_)|(refine al_alloc rfl rfl rfl (by first|exact ln2|exact ln3|exact ln4) (by repeat constructor) rfl ?_)|(refine al_store rfl rfl rfl rfl rfl (by repeat constructor) (by repeat constructor) ?_)|(refine al_buildSlice (by rfl) (by rfl) (by rfl) (by rfl) (by decide) (by decide) (by rfl) (by rfl) (by repeat constructor) (by rfl) (by repeat constructor) (by rfl) (by first|exact ln2|exact ln3|exact ln4) (by repeat constructor) rfl ?_)|(refine al_v (ov_not_t rfl (by with_reducible rfl)) rfl ?_)|(refine al_v (ov_not_f rfl (by with_reducible rfl)) rfl ?_)|(refine al_v (ov_index rfl rfl (by omega) (by omega)) rfl ?_))|(first|(refine thn_n ?_)|(refine k_awp ?_;first|(refine awp_seq (awp_region ?_))|(refine awp_seq ?_)|(refine awp_region ?_)|(refine k_cond ?_;first|(refine awp_cond_t' rfl (by with_reducible rfl) ?_)|(refine awp_cond_f' rfl (by with_reducible rfl) ?_)|(refine awp_cond_p rfl (fun hc => ?_) (fun hc => ?_) <;> (try (exfalso;omega))))|(refine awp_block ?_)|(refine awp_ret ?_)|(refine awp_skip ?_)|(refine awp_exit ?_))|(refine thn_ret ?_)|(refine lq_exit ?_)|(refine lq_ret ?_)|(refine thn_exit ?_)|(refine inb_n ?_)|(refine inb_ret ?_)|(refine inb_here ?_)))
            refine lq_back (cutC V, k + 1) (.of (.same (by repeat constructor))) (.inr ⟨rfl, by dsimp only; omega, by dsimp only; omega⟩) ?_
            dsimp only; omega
          · have hb2 := hne c 59 h59
            repeat' (first|((refine k_bin ?_;first|(refine al_v (ov_cmp_t rfl rfl rfl (by omega)) rfl ?_)|(refine al_v (ov_cmp_f rfl rfl rfl (by omega)) rfl ?_)))|(refine k_al ?_;first|(refine al_v (ov_move rfl) rfl ?_)|(refine k_g ?_;first|(refine al_gy' rfl rfl (by with_reducible rfl) ?_)|(refine al_gnt rfl rfl (by with_reducible rfl) rfl ?_)|(refine al_gnf rfl rfl (by with_reducible rfl) rfl ?_)|(refine al_gu rfl rfl rfl ?_))|(refine k_load ?_;first|(refine al_v (ov_load rfl rfl) rfl ?_)|(refine al_v (ov_load_agg rfl rfl rfl) rfl ?_))|(refine k_bin ?_;first|(refine al_v (ov_cmp rfl rfl rfl) rfl ?_)|(refine al_v (ov_add rfl rfl (by (first|exact w64 (by omega) (by omega)|rfl))) rfl ?_))|(refine k_pick ?_;first|(refine al_v (ov_pick_t' rfl (by with_reducible rfl) rfl) rfl ?_)|(refine al_v (ov_pick_f' rfl (by with_reducible rfl) rfl) rfl ?_))|(refine al_v (ov_assign rfl) rfl ?_)|(refine k_call ?_;first|(refine al_v (ov_len_str rfl) rfl ?_))|(refine al_v (ov_extract rfl rfl) rfl ?_)|(refine al_nil ?_)|(refine al_alloc rfl rfl rfl (by first|exact ln2|exact ln3|exact ln4) (by repeat constructor) rfl ?_)|(refine al_store rfl rfl rfl rfl rfl (by repeat constructor) (by repeat constructor) ?_)|(refine al_buildSlice (by rfl) (by rfl) (by rfl) (by rfl) (by decide) (by decide) (by rfl) (by rfl) (by repeat constructor) (by rfl) (by repeat constructor) (by rfl) (by first|exact ln2|exact ln3|exact ln4) (by repeat constructor) rfl ?_)|(refine al_v (ov_not_t rfl (by with_reducible rfl)) rfl ?_)|(refine al_v (ov_not_f rfl (by with_reducible rfl)) rfl ?_)|(refine al_v (ov_index rfl rfl (by omega) (by omega)) rfl ?_))|(first|(refine thn_n ?_)|(refine k_awp ?_;first|(refine awp_seq (awp_region ?_))|(refine awp_seq ?_)|(refine awp_region ?_)|(refine k_cond ?_;first|(refine awp_cond_t' rfl (by with_reducible rfl) ?_)|(refine awp_cond_f' rfl (by with_reducible rfl) ?_)|(refine awp_cond_p rfl (fun hc => ?_) (fun hc => ?_) <;> (try (exfalso;omega))))|(refine awp_block ?_)|(refine awp_ret ?_)|(refine awp_skip ?_)|(refine awp_exit ?_))|(refine thn_ret ?_)|(refine lq_exit ?_)|(refine lq_ret ?_)|(refine thn_exit ?_)|(refine inb_n ?_)|(refine inb_ret ?_)|(refine inb_here ?_)))
            refine lq_back (V, k + 1) (.of (.same (by repeat constructor))) (.inl ⟨rfl, by dsimp only; omega, fun j hj => ?_⟩) ?_
            · dsimp only at hj
              by_cases hjk : j = k
              · subst hjk; rw [hc]; intro h; injection h with h; exact h59 h
              · exact hkn j (by omega)
            · dsimp only; omega
        · exfalso; omega
      · have hVc : V = cutC line := by
          rcases hV with ⟨rfl, hk1, hkn⟩ | ⟨rfl, _⟩
          · rw [cutC_no fun j h => by
              by_cases hj : j < k
              · exact hkn j hj h
              · have := (List.getElem?_eq_some_iff.1 h).1
                omega]
          · rfl
        clear hV
        subst hVc
        repeat' (first|((refine k_bin ?_;first|(refine al_v (ov_cmp_t rfl rfl rfl (by omega)) rfl ?_)|(refine al_v (ov_cmp_f rfl rfl rfl (by omega)) rfl ?_)))|(refine k_al ?_;first|(refine al_v (ov_move rfl) rfl ?_)|(refine k_g ?_;first|(refine al_gy' rfl rfl (by with_reducible rfl) ?_)|(refine al_gnt rfl rfl (by with_reducible rfl) rfl ?_)|(refine al_gnf rfl rfl (by with_reducible rfl) rfl ?_)|(refine al_gu rfl rfl rfl ?_))|(refine k_load ?_;first|(refine al_v (ov_load rfl rfl) rfl ?_)|(refine al_v (ov_load_agg rfl rfl rfl) rfl ?_))|(refine k_bin ?_;first|(refine al_v (ov_cmp rfl rfl rfl) rfl ?_)|(refine al_v (ov_add rfl rfl (by (first|exact w64 (by omega) (by omega)|rfl))) rfl ?_))|(refine k_pick ?_;first|(refine al_v (ov_pick_t' rfl (by with_reducible rfl) rfl) rfl ?_)|(refine al_v (ov_pick_f' rfl (by with_reducible rfl) rfl) rfl ?_))|(refine al_v (ov_assign rfl) rfl ?_)|(refine k_call ?_;first|(refine al_v (ov_len_str rfl) rfl ?_))|(refine al_v (ov_extract rfl rfl) rfl ?_)|(refine al_nil ?_)|(refine al_alloc rfl rfl rfl (by first|exact ln2|exact ln3|exact ln4) (by repeat constructor) rfl ?_)|(refine al_store rfl rfl rfl rfl rfl (by repeat constructor) (by repeat constructor) ?_)|(refine al_buildSlice (by rfl) (by rfl) (by rfl) (by rfl) (by decide) (by decide) (by rfl) (by rfl) (by repeat constructor) (by rfl) (by repeat constructor) (by rfl) (by first|exact ln2|exact ln3|exact ln4) (by repeat constructor) rfl ?_)|(refine al_v (ov_not_t rfl (by with_reducible rfl)) rfl ?_)|(refine al_v (ov_not_f rfl (by with_reducible rfl)) rfl ?_)|(refine al_v (ov_index rfl rfl (by omega) (by omega)) rfl ?_))|(first|(refine thn_n ?_)|(refine k_awp ?_;first|(refine awp_seq (awp_region ?_))|(refine awp_seq ?_)|(refine awp_region ?_)|(refine k_cond ?_;first|(refine awp_cond_t' rfl (by with_reducible rfl) ?_)|(refine awp_cond_f' rfl (by with_reducible rfl) ?_)|(refine awp_cond_p rfl (fun hc => ?_) (fun hc => ?_) <;> (try (exfalso;omega))))|(refine awp_block ?_)|(refine awp_ret ?_)|(refine awp_skip ?_)|(refine awp_exit ?_))|(refine thn_ret ?_)|(refine lq_exit ?_)|(refine lq_ret ?_)|(refine thn_exit ?_)|(refine inb_n ?_)|(refine inb_ret ?_)|(refine inb_here ?_)))
        refine awp_loopq (fun d : Nat => ⟨[(0, .str s), (5, .os 0 v1), (6, .os 1 v2), (7, .int .i64 a), (8, .int .i64 i), (9, .str (cutC line)), (11, .int .i64 ((a + d : Nat) : Int))], [.row 85 2 v1 0 xs, .row 3 1 v2 0 ys]⟩)
          (fun d => d ≤ (cutC line).length ∧ ∀ (j : Nat) (c : UInt8), j < d → (cutC line)[j]? = some c → blank c) (fun d => (cutC line).length - d) 0 (.of (.same (by repeat constructor))) ⟨Nat.zero_le _, fun j c h => absurd h (Nat.not_lt_zero _)⟩ ?_
        rintro d ⟨hd, hdb⟩
        try dsimp only
        have hsplit : leadI (cutC line) = d ∧ (d = (cutC line).length ∨ d < (cutC line).length ∧ byteAt s ((a + d : Nat) : Int) ≠ 32 ∧ byteAt s ((a + d : Nat) : Int) ≠ 9) ∨ d < (cutC line).length ∧ (byteAt s ((a + d : Nat) : Int) = 32 ∨ byteAt s ((a + d : Nat) : Int) = 9) ∧ ∃ c, (cutC line)[d]? = some c ∧ blank c := by
          by_cases hdl : d < (cutC line).length
          · obtain ⟨c, hc⟩ : ∃ c, (cutC line)[d]? = some c := ⟨_, List.getElem?_eq_getElem hdl⟩
            have hb := hbyte s (a + d) c (by rw [← hVg d hdl]; exact hc)
            by_cases hbl : blank c
            · refine .inr ⟨hdl, ?_, c, hc, hbl⟩
              rw [hb]
              unfold blank at hbl
              rcases hbl with rfl | rfl
              · left; rfl
              · right; rfl
            · refine .inl ⟨lead_at hd hdb (fun x h => by rw [hc] at h; injection h with h; rw [← h]; exact hbl), .inr ⟨hdl, ?_⟩⟩
              have h1 := hne c 32 fun h => hbl (.inl h)
              have h2 := hne c 9 fun h => hbl (.inr h)
              omega
          · exact .inl ⟨lead_at hd hdb (fun x h => by have := (List.getElem?_eq_some_iff.1 h).1; omega), .inl (by omega)⟩
        rcases hsplit with ⟨hlead, hds⟩ | ⟨hdl, hbb, c, hc, hbl⟩
        rotate_left
        · rcases hbb with hbb | hbb
          all_goals
            repeat' (first|((refine k_bin ?_;first|(refine al_v (ov_cmp_t rfl rfl rfl (by omega)) rfl ?_)|(refine al_v (ov_cmp_f rfl rfl rfl (by omega)) rfl ?_)))|(refine k_al ?_;first|(refine al_v (ov_move rfl) rfl ?_)|(refine k_g ?_;first|(refine al_gy' rfl rfl (by with_reducible rfl) ?_)|(refine al_gnt rfl rfl (by with_reducible rfl) rfl ?_)|(refine al_gnf rfl rfl (by with_reducible rfl) rfl ?_)|(refine al_gu rfl rfl rfl ?_))|(refine k_load ?_;first|(refine al_v (ov_load rfl rfl) rfl ?_)|(refine al_v (ov_load_agg rfl rfl rfl) rfl ?_))|(refine k_bin ?_;first|(refine al_v (ov_cmp rfl rfl rfl) rfl ?_)|(refine al_v (ov_add rfl rfl (by (first|exact w64 (by omega) (by omega)|rfl))) rfl ?_))|(refine k_pick ?_;first|(refine al_v (ov_pick_t' rfl (by with_reducible rfl) rfl) rfl ?_)|(refine al_v (ov_pick_f' rfl (by with_reducible rfl) rfl) rfl ?_))|(refine al_v (ov_assign rfl) rfl ?_)|(refine k_call ?_;first|(refine al_v (ov_len_str rfl) rfl ?_))|(refine al_v (ov_extract rfl rfl) rfl ?_)|(refine al_nil ?_)|(refine al_alloc rfl rfl rfl (by first|exact ln2|exact ln3|exact ln4) (by repeat constructor) rfl ?_)|(refine al_store rfl rfl rfl rfl rfl (by repeat constructor) (by repeat constructor) ?_)|(refine al_buildSlice (by rfl) (by rfl) (by rfl) (by rfl) (by decide) (by decide) (by rfl) (by rfl) (by repeat constructor) (by rfl) (by repeat constructor) (by rfl) (by first|exact ln2|exact ln3|exact ln4) (by repeat constructor) rfl ?_)|(refine al_v (ov_not_t rfl (by with_reducible rfl)) rfl ?_)|(refine al_v (ov_not_f rfl (by with_reducible rfl)) rfl ?_)|(refine al_v (ov_index rfl rfl (by omega) (by omega)) rfl ?_))|(first|(refine thn_n ?_)|(refine k_awp ?_;first|(refine awp_seq (awp_region ?_))|(refine awp_seq ?_)|(refine awp_region ?_)|(refine k_cond ?_;first|(refine awp_cond_t' rfl (by with_reducible rfl) ?_)|(refine awp_cond_f' rfl (by with_reducible rfl) ?_)|(refine awp_cond_p rfl (fun hc => ?_) (fun hc => ?_) <;> (try (exfalso;omega))))|(refine awp_block ?_)|(refine awp_ret ?_)|(refine awp_skip ?_)|(refine awp_exit ?_))|(refine thn_ret ?_)|(refine lq_exit ?_)|(refine lq_ret ?_)|(refine thn_exit ?_)|(refine inb_n ?_)|(refine inb_ret ?_)|(refine inb_here ?_)))
            first|refine lq_back (d + 1) (.of (.same (by repeat constructor))) ?_ ?_|refine lq_back (d + 1) (.of (wk_drop [_] rfl (by repeat constructor) rfl (by repeat constructor) rfl)) ?_ ?_|refine lq_back (d + 1) (.of (wk_drop [_, _] rfl (by repeat constructor) rfl (by repeat constructor) rfl)) ?_ ?_|refine lq_back (d + 1) (.of (wk_drop [_, _, _] rfl (by repeat constructor) rfl (by repeat constructor) rfl)) ?_ ?_
            · refine ⟨by omega, fun j x hj hx => ?_⟩
              by_cases hjd : j = d
              · subst hjd; rw [hc] at hx; injection hx with hx; rw [← hx]; exact hbl
              · exact hdb j x (by omega) hx
            · omega
        rw [hlead] at hTi
        have hnx : ∀ (out' : Ins) (ps' : List Int) (v : Nat × Nat) (zs : List (List AV) × List (List AV)), zs.1 = insAV out' → zs.2 = numAV ps' → out'.length ≤ i + 1 → ps'.length = out'.length → T = codeL (restL s (i + 1)) (i + 1) out' ps' → (fun q : Nat × Nat × Ins × List Int × (Nat × Nat) × (List (List AV) × List (List AV)) => (q.2.2.2.2.2.1 = insAV q.2.2.1 ∧ q.2.2.2.2.2.2 = numAV q.2.2.2.1) ∧ q.1 ≤ s.length + 1 ∧ q.2.2.1.length ≤ q.1 ∧ q.2.2.2.1.length = q.2.2.1.length ∧ q.2.1 ≤ q.1 ∧ (q.1 = s.length + 1 → q.2.1 = s.length + 1) ∧ (∀ j, q.2.1 ≤ j → j < q.1 → s[j]? ≠ some 10) ∧ T = codeL (restL s q.2.1) q.2.1 q.2.2.1 q.2.2.2.1) (i + 1, i + 1, out', ps', v, zs) := fun out' ps' v zs h1 h2 h3 h4 h5 => ⟨⟨h1, h2⟩, by dsimp only;omega, h3, h4, Nat.le_refl _, fun h => h, fun j h1 h2 => by dsimp only at h1 h2;omega, h5⟩
        rcases hds with hds | ⟨hds, hds1, hds2⟩
        all_goals
          by_cases hbe : bareI (cutC line) = []
          · rw [if_pos hbe] at hTi
            repeat' (first|(first|(refine k_bin ?_;first|(refine al_v (ov_cmp_t rfl rfl rfl (by omega)) rfl ?_)|(refine al_v (ov_cmp_f rfl rfl rfl (by omega)) rfl ?_))|(refine k_call ?_;refine al_call rfl rfl rfl rfl hTr ?_;rintro _ rfl)|(refine k_bin ?_;refine al_v (ov_seq_t hbe rfl rfl) rfl ?_))|(refine k_al ?_;first|(refine al_v (ov_move rfl) rfl ?_)|(refine k_g ?_;first|(refine al_gy' rfl rfl (by with_reducible rfl) ?_)|(refine al_gnt rfl rfl (by with_reducible rfl) rfl ?_)|(refine al_gnf rfl rfl (by with_reducible rfl) rfl ?_)|(refine al_gu rfl rfl rfl ?_))|(refine k_load ?_;first|(refine al_v (ov_load rfl rfl) rfl ?_)|(refine al_v (ov_load_agg rfl rfl rfl) rfl ?_))|(refine k_bin ?_;first|(refine al_v (ov_cmp rfl rfl rfl) rfl ?_)|(refine al_v (ov_add rfl rfl (by (first|exact w64 (by omega) (by omega)|rfl))) rfl ?_))|(refine k_pick ?_;first|(refine al_v (ov_pick_t' rfl (by with_reducible rfl) rfl) rfl ?_)|(refine al_v (ov_pick_f' rfl (by with_reducible rfl) rfl) rfl ?_))|(refine al_v (ov_assign rfl) rfl ?_)|(refine k_call ?_;first|(refine al_v (ov_len_str rfl) rfl ?_))|(refine al_v (ov_extract rfl rfl) rfl ?_)|(refine al_nil ?_)|(refine al_alloc rfl rfl rfl (by first|exact ln2|exact ln3|exact ln4) (by repeat constructor) rfl ?_)|(refine al_store rfl rfl rfl rfl rfl (by repeat constructor) (by repeat constructor) ?_)|(refine al_buildSlice (by rfl) (by rfl) (by rfl) (by rfl) (by decide) (by decide) (by rfl) (by rfl) (by repeat constructor) (by rfl) (by repeat constructor) (by rfl) (by first|exact ln2|exact ln3|exact ln4) (by repeat constructor) rfl ?_)|(refine al_v (ov_not_t rfl (by with_reducible rfl)) rfl ?_)|(refine al_v (ov_not_f rfl (by with_reducible rfl)) rfl ?_)|(refine al_v (ov_index rfl rfl (by omega) (by omega)) rfl ?_))|(first|(refine thn_n ?_)|(refine k_awp ?_;first|(refine awp_seq (awp_region ?_))|(refine awp_seq ?_)|(refine awp_region ?_)|(refine k_cond ?_;first|(refine awp_cond_t' rfl (by with_reducible rfl) ?_)|(refine awp_cond_f' rfl (by with_reducible rfl) ?_)|(refine awp_cond_p rfl (fun hc => ?_) (fun hc => ?_) <;> (try (exfalso;omega))))|(refine awp_block ?_)|(refine awp_ret ?_)|(refine awp_skip ?_)|(refine awp_exit ?_))|(refine thn_ret ?_)|(refine lq_exit ?_)|(refine lq_ret ?_)|(refine thn_exit ?_)|(refine inb_n ?_)|(refine inb_ret ?_)|(refine inb_here ?_)))
            refine lq_back (i + 1, i + 1, out, ps, (v1, v2), (xs, ys)) (.of (.same (by repeat constructor))) (hnx _ _ _ _ hxs hys (by omega) hpo hTi) ?_
            dsimp only; omega
          · rw [if_neg hbe] at hTi
            cases hx : readI (bareI (cutC line)) with
            | none =>
              rw [hx] at hTi
              dsimp only at hTi
              have hR2 : PCalls (EE w0 base) 53 [.str (bareI (cutC line))] fun rv => ∃ j : Int × Int, rv = .tup [.agg (insC j), .bool false] := acalls_mono hOne fun rv os h => ⟨by
                obtain ⟨j, h1, _⟩ := h.1
                rw [hx] at h1
                exact ⟨j, h1⟩, h.2⟩
              repeat' (first|(first|(refine k_bin ?_;first|(refine al_v (ov_cmp_t rfl rfl rfl (by omega)) rfl ?_)|(refine al_v (ov_cmp_f rfl rfl rfl (by omega)) rfl ?_))|(refine k_call ?_;refine al_call rfl rfl rfl rfl hTr ?_;rintro _ rfl)|(refine k_bin ?_;refine al_v (ov_seq_f hbe rfl rfl) rfl ?_)|(refine k_call ?_;refine al_call rfl rfl rfl rfl hR2 ?_;rintro _ ⟨j, rfl⟩))|(refine k_al ?_;first|(refine al_v (ov_move rfl) rfl ?_)|(refine k_g ?_;first|(refine al_gy' rfl rfl (by with_reducible rfl) ?_)|(refine al_gnt rfl rfl (by with_reducible rfl) rfl ?_)|(refine al_gnf rfl rfl (by with_reducible rfl) rfl ?_)|(refine al_gu rfl rfl rfl ?_))|(refine k_load ?_;first|(refine al_v (ov_load rfl rfl) rfl ?_)|(refine al_v (ov_load_agg rfl rfl rfl) rfl ?_))|(refine k_bin ?_;first|(refine al_v (ov_cmp rfl rfl rfl) rfl ?_)|(refine al_v (ov_add rfl rfl (by (first|exact w64 (by omega) (by omega)|rfl))) rfl ?_))|(refine k_pick ?_;first|(refine al_v (ov_pick_t' rfl (by with_reducible rfl) rfl) rfl ?_)|(refine al_v (ov_pick_f' rfl (by with_reducible rfl) rfl) rfl ?_))|(refine al_v (ov_assign rfl) rfl ?_)|(refine k_call ?_;first|(refine al_v (ov_len_str rfl) rfl ?_))|(refine al_v (ov_extract rfl rfl) rfl ?_)|(refine al_nil ?_)|(refine al_alloc rfl rfl rfl (by first|exact ln2|exact ln3|exact ln4) (by repeat constructor) rfl ?_)|(refine al_store rfl rfl rfl rfl rfl (by repeat constructor) (by repeat constructor) ?_)|(refine al_buildSlice (by rfl) (by rfl) (by rfl) (by rfl) (by decide) (by decide) (by rfl) (by rfl) (by repeat constructor) (by rfl) (by repeat constructor) (by rfl) (by first|exact ln2|exact ln3|exact ln4) (by repeat constructor) rfl ?_)|(refine al_v (ov_not_t rfl (by with_reducible rfl)) rfl ?_)|(refine al_v (ov_not_f rfl (by with_reducible rfl)) rfl ?_)|(refine al_v (ov_index rfl rfl (by omega) (by omega)) rfl ?_))|(first|(refine thn_n ?_)|(refine k_awp ?_;first|(refine awp_seq (awp_region ?_))|(refine awp_seq ?_)|(refine awp_region ?_)|(refine k_cond ?_;first|(refine awp_cond_t' rfl (by with_reducible rfl) ?_)|(refine awp_cond_f' rfl (by with_reducible rfl) ?_)|(refine awp_cond_p rfl (fun hc => ?_) (fun hc => ?_) <;> (try (exfalso;omega))))|(refine awp_block ?_)|(refine awp_ret ?_)|(refine awp_skip ?_)|(refine awp_exit ?_))|(refine thn_ret ?_)|(refine lq_exit ?_)|(refine lq_ret ?_)|(refine thn_exit ?_)|(refine inb_n ?_)|(refine inb_ret ?_)|(refine inb_here ?_)))
              refine retq_wkn (.nil 2 rfl) ?_
              refine ret3 (by first | exact .inr rfl | exact .inl rfl) rfl rfl rfl rfl ?_
              rw [hTi]
              exact ⟨rfl, rfl⟩
            | some x =>
              rw [hx] at hTi
              dsimp only at hTi
              have hR2 : PCalls (EE w0 base) 53 [.str (bareI (cutC line))] fun rv => rv = .tup [.agg (insC x), .bool true] := acalls_mono hOne fun rv os h => ⟨by
                obtain ⟨j, h1, h2⟩ := h.1
                rw [hx] at h1
                rw [h1, h2 x hx]
                rfl, h.2⟩
              have hxl : xs.length = out.length := by rw [hxs, insAV_len]
              have hyl : ys.length = ps.length := by rw [hys, List.length_map]
              repeat' (first|(first|(refine k_bin ?_;first|(refine al_v (ov_cmp_t rfl rfl rfl (by omega)) rfl ?_)|(refine al_v (ov_cmp_f rfl rfl rfl (by omega)) rfl ?_))|(refine k_call ?_;refine al_call rfl rfl rfl rfl hTr ?_;rintro _ rfl)|(refine k_bin ?_;refine al_v (ov_seq_f hbe rfl rfl) rfl ?_)|(refine k_call ?_;refine al_call rfl rfl rfl rfl hR2 ?_;rintro _ rfl)|(refine k_call ?_;refine al_append rfl rfl (by repeat constructor) (src_os rfl rfl) rfl (by decide) (by simp only [List.length_cons, List.length_nil];omega) rfl ?_))|(refine k_al ?_;first|(refine al_v (ov_move rfl) rfl ?_)|(refine k_g ?_;first|(refine al_gy' rfl rfl (by with_reducible rfl) ?_)|(refine al_gnt rfl rfl (by with_reducible rfl) rfl ?_)|(refine al_gnf rfl rfl (by with_reducible rfl) rfl ?_)|(refine al_gu rfl rfl rfl ?_))|(refine k_load ?_;first|(refine al_v (ov_load rfl rfl) rfl ?_)|(refine al_v (ov_load_agg rfl rfl rfl) rfl ?_))|(refine k_bin ?_;first|(refine al_v (ov_cmp rfl rfl rfl) rfl ?_)|(refine al_v (ov_add rfl rfl (by (first|exact w64 (by omega) (by omega)|rfl))) rfl ?_))|(refine k_pick ?_;first|(refine al_v (ov_pick_t' rfl (by with_reducible rfl) rfl) rfl ?_)|(refine al_v (ov_pick_f' rfl (by with_reducible rfl) rfl) rfl ?_))|(refine al_v (ov_assign rfl) rfl ?_)|(refine k_call ?_;first|(refine al_v (ov_len_str rfl) rfl ?_))|(refine al_v (ov_extract rfl rfl) rfl ?_)|(refine al_nil ?_)|(refine al_alloc rfl rfl rfl (by first|exact ln2|exact ln3|exact ln4) (by repeat constructor) rfl ?_)|(refine al_store rfl rfl rfl rfl rfl (by repeat constructor) (by repeat constructor) ?_)|(refine al_buildSlice (by rfl) (by rfl) (by rfl) (by rfl) (by decide) (by decide) (by rfl) (by rfl) (by repeat constructor) (by rfl) (by repeat constructor) (by rfl) (by first|exact ln2|exact ln3|exact ln4) (by repeat constructor) rfl ?_)|(refine al_v (ov_not_t rfl (by with_reducible rfl)) rfl ?_)|(refine al_v (ov_not_f rfl (by with_reducible rfl)) rfl ?_)|(refine al_v (ov_index rfl rfl (by omega) (by omega)) rfl ?_))|(first|(refine thn_n ?_)|(refine k_awp ?_;first|(refine awp_seq (awp_region ?_))|(refine awp_seq ?_)|(refine awp_region ?_)|(refine k_cond ?_;first|(refine awp_cond_t' rfl (by with_reducible rfl) ?_)|(refine awp_cond_f' rfl (by with_reducible rfl) ?_)|(refine awp_cond_p rfl (fun hc => ?_) (fun hc => ?_) <;> (try (exfalso;omega))))|(refine awp_block ?_)|(refine awp_ret ?_)|(refine awp_skip ?_)|(refine awp_exit ?_))|(refine thn_ret ?_)|(refine lq_exit ?_)|(refine lq_ret ?_)|(refine thn_exit ?_)|(refine inb_n ?_)|(refine inb_ret ?_)|(refine inb_here ?_)))
              refine lq_back (i + 1, i + 1, out ++ [x], ps ++ [((a + d : Nat) : Int)], (v1 + 1, v2 + 1), (_, _)) (.of (wk_drop [_, _, _] rfl (by repeat constructor) rfl (by repeat constructor) rfl)) (hnx _ _ _ _ ?_ ?_ ?_ ?_ hTi) ?_
              · dsimp only
                rw [hxs]
                unfold insAV
                rw [List.map_append]
                rfl
              · dsimp only
                rw [hys]
                simp [numAV]
              · simp only [List.length_append, List.length_cons, List.length_nil]; omega
              · simp only [List.length_append, List.length_cons, List.length_nil]; omega
              · dsimp only; omega
  · have hil : i = s.length + 1 := by omega
    have hae := hend hil
    have hr0 : restL s a = [] := by unfold restL; rw [if_neg (by omega)]
    rw [hr0, codeL] at hTi
    rw [hTi]
    dsimp only
    have hC := s_checkR (w0 := w0) (base := base) (l := out) (by omega)
    subst hxs
    subst hys
    refine awp_wkn (.freeze 5 rfl (by repeat constructor)) ?_
    refine awp_wkn (.freeze 6 rfl (by repeat constructor)) ?_
    unfold endC
    rcases check_kind out with hk | hk | ⟨k, hk, hkl⟩
    · rw [hk] at hC ⊢
      repeat' (first|(first|(refine k_bin ?_;first|(refine al_v (ov_cmp_t rfl rfl rfl (by omega)) rfl ?_)|(refine al_v (ov_cmp_f rfl rfl rfl (by omega)) rfl ?_))|(refine k_call ?_;refine al_call rfl rfl rfl rfl hC ?_;rintro _ rfl))|(refine k_al ?_;first|(refine al_v (ov_move rfl) rfl ?_)|(refine k_g ?_;first|(refine al_gy' rfl rfl (by with_reducible rfl) ?_)|(refine al_gnt rfl rfl (by with_reducible rfl) rfl ?_)|(refine al_gnf rfl rfl (by with_reducible rfl) rfl ?_)|(refine al_gu rfl rfl rfl ?_))|(refine k_load ?_;first|(refine al_v (ov_load rfl rfl) rfl ?_)|(refine al_v (ov_load_agg rfl rfl rfl) rfl ?_))|(refine k_bin ?_;first|(refine al_v (ov_cmp rfl rfl rfl) rfl ?_)|(refine al_v (ov_add rfl rfl (by (first|exact w64 (by omega) (by omega)|rfl))) rfl ?_))|(refine k_pick ?_;first|(refine al_v (ov_pick_t' rfl (by with_reducible rfl) rfl) rfl ?_)|(refine al_v (ov_pick_f' rfl (by with_reducible rfl) rfl) rfl ?_))|(refine al_v (ov_assign rfl) rfl ?_)|(refine k_call ?_;first|(refine al_v (ov_len_str rfl) rfl ?_))|(refine al_v (ov_extract rfl rfl) rfl ?_)|(refine al_nil ?_)|(refine al_alloc rfl rfl rfl (by first|exact ln2|exact ln3|exact ln4) (by repeat constructor) rfl ?_)|(refine al_store rfl rfl rfl rfl rfl (by repeat constructor) (by repeat constructor) ?_)|(refine al_buildSlice (by rfl) (by rfl) (by rfl) (by rfl) (by decide) (by decide) (by rfl) (by rfl) (by repeat constructor) (by rfl) (by repeat constructor) (by rfl) (by first|exact ln2|exact ln3|exact ln4) (by repeat constructor) rfl ?_)|(refine al_v (ov_not_t rfl (by with_reducible rfl)) rfl ?_)|(refine al_v (ov_not_f rfl (by with_reducible rfl)) rfl ?_)|(refine al_v (ov_index rfl rfl (by omega) (by omega)) rfl ?_))|(first|(refine thn_n ?_)|(refine k_awp ?_;first|(refine awp_seq (awp_region ?_))|(refine awp_seq ?_)|(refine awp_region ?_)|(refine k_cond ?_;first|(refine awp_cond_t' rfl (by with_reducible rfl) ?_)|(refine awp_cond_f' rfl (by with_reducible rfl) ?_)|(refine awp_cond_p rfl (fun hc => ?_) (fun hc => ?_) <;> (try (exfalso;omega))))|(refine awp_block ?_)|(refine awp_ret ?_)|(refine awp_skip ?_)|(refine awp_exit ?_))|(refine thn_ret ?_)|(refine lq_exit ?_)|(refine lq_ret ?_)|(refine thn_exit ?_)|(refine inb_n ?_)|(refine inb_ret ?_)|(refine inb_here ?_)))
      refine ret3 (by first | exact .inr rfl | exact .inl rfl) rfl rfl rfl rfl ?_
      exact ⟨rfl, rfl⟩
    · rw [hk] at hC ⊢
      repeat' (first|(first|(refine k_bin ?_;first|(refine al_v (ov_cmp_t rfl rfl rfl (by omega)) rfl ?_)|(refine al_v (ov_cmp_f rfl rfl rfl (by omega)) rfl ?_))|(refine k_call ?_;refine al_call rfl rfl rfl rfl hC ?_;rintro _ rfl))|(refine k_al ?_;first|(refine al_v (ov_move rfl) rfl ?_)|(refine k_g ?_;first|(refine al_gy' rfl rfl (by with_reducible rfl) ?_)|(refine al_gnt rfl rfl (by with_reducible rfl) rfl ?_)|(refine al_gnf rfl rfl (by with_reducible rfl) rfl ?_)|(refine al_gu rfl rfl rfl ?_))|(refine k_load ?_;first|(refine al_v (ov_load rfl rfl) rfl ?_)|(refine al_v (ov_load_agg rfl rfl rfl) rfl ?_))|(refine k_bin ?_;first|(refine al_v (ov_cmp rfl rfl rfl) rfl ?_)|(refine al_v (ov_add rfl rfl (by (first|exact w64 (by omega) (by omega)|rfl))) rfl ?_))|(refine k_pick ?_;first|(refine al_v (ov_pick_t' rfl (by with_reducible rfl) rfl) rfl ?_)|(refine al_v (ov_pick_f' rfl (by with_reducible rfl) rfl) rfl ?_))|(refine al_v (ov_assign rfl) rfl ?_)|(refine k_call ?_;first|(refine al_v (ov_len_str rfl) rfl ?_))|(refine al_v (ov_extract rfl rfl) rfl ?_)|(refine al_nil ?_)|(refine al_alloc rfl rfl rfl (by first|exact ln2|exact ln3|exact ln4) (by repeat constructor) rfl ?_)|(refine al_store rfl rfl rfl rfl rfl (by repeat constructor) (by repeat constructor) ?_)|(refine al_buildSlice (by rfl) (by rfl) (by rfl) (by rfl) (by decide) (by decide) (by rfl) (by rfl) (by repeat constructor) (by rfl) (by repeat constructor) (by rfl) (by first|exact ln2|exact ln3|exact ln4) (by repeat constructor) rfl ?_)|(refine al_v (ov_not_t rfl (by with_reducible rfl)) rfl ?_)|(refine al_v (ov_not_f rfl (by with_reducible rfl)) rfl ?_)|(refine al_v (ov_index rfl rfl (by omega) (by omega)) rfl ?_))|(first|(refine thn_n ?_)|(refine k_awp ?_;first|(refine awp_seq (awp_region ?_))|(refine awp_seq ?_)|(refine awp_region ?_)|(refine k_cond ?_;first|(refine awp_cond_t' rfl (by with_reducible rfl) ?_)|(refine awp_cond_f' rfl (by with_reducible rfl) ?_)|(refine awp_cond_p rfl (fun hc => ?_) (fun hc => ?_) <;> (try (exfalso;omega))))|(refine awp_block ?_)|(refine awp_ret ?_)|(refine awp_skip ?_)|(refine awp_exit ?_))|(refine thn_ret ?_)|(refine lq_exit ?_)|(refine lq_ret ?_)|(refine thn_exit ?_)|(refine inb_n ?_)|(refine inb_ret ?_)|(refine inb_here ?_)))
      refine retq_wkn (.nil 2 rfl) ?_
      refine ret3 (by first | exact .inr rfl | exact .inl rfl) rfl rfl rfl rfl ?_
      exact ⟨rfl, rfl⟩
    · rw [hk] at hC ⊢
      have hpk : ps[k]? = some (ps.getD k 0) := by rw [List.getD_eq_getElem?_getD, List.getElem?_eq_getElem (by omega)]; rfl
      have hrw : (numAV ps)[((k : Nat) : Int).toNat]? = some [.int .i64 (ps.getD k 0)] := by
        have : ((k : Nat) : Int).toNat = k := rfl
        rw [this, List.getElem?_map, hpk]
        rfl
      repeat' (first|(first|(refine k_bin ?_;first|(refine al_v (ov_cmp_t rfl rfl rfl (by omega)) rfl ?_)|(refine al_v (ov_cmp_f rfl rfl rfl (by omega)) rfl ?_))|(refine k_call ?_;refine al_call rfl rfl rfl rfl hC ?_;rintro _ rfl)|(refine ql_v (ov_indexAddr rfl rfl (by omega) hrw rfl) rfl ?_))|(refine k_al ?_;first|(refine al_v (ov_move rfl) rfl ?_)|(refine k_g ?_;first|(refine al_gy' rfl rfl (by with_reducible rfl) ?_)|(refine al_gnt rfl rfl (by with_reducible rfl) rfl ?_)|(refine al_gnf rfl rfl (by with_reducible rfl) rfl ?_)|(refine al_gu rfl rfl rfl ?_))|(refine k_load ?_;first|(refine al_v (ov_load rfl rfl) rfl ?_)|(refine al_v (ov_load_agg rfl rfl rfl) rfl ?_))|(refine k_bin ?_;first|(refine al_v (ov_cmp rfl rfl rfl) rfl ?_)|(refine al_v (ov_add rfl rfl (by (first|exact w64 (by omega) (by omega)|rfl))) rfl ?_))|(refine k_pick ?_;first|(refine al_v (ov_pick_t' rfl (by with_reducible rfl) rfl) rfl ?_)|(refine al_v (ov_pick_f' rfl (by with_reducible rfl) rfl) rfl ?_))|(refine al_v (ov_assign rfl) rfl ?_)|(refine k_call ?_;first|(refine al_v (ov_len_str rfl) rfl ?_))|(refine al_v (ov_extract rfl rfl) rfl ?_)|(refine al_nil ?_)|(refine al_alloc rfl rfl rfl (by first|exact ln2|exact ln3|exact ln4) (by repeat constructor) rfl ?_)|(refine al_store rfl rfl rfl rfl rfl (by repeat constructor) (by repeat constructor) ?_)|(refine al_buildSlice (by rfl) (by rfl) (by rfl) (by rfl) (by decide) (by decide) (by rfl) (by rfl) (by repeat constructor) (by rfl) (by repeat constructor) (by rfl) (by first|exact ln2|exact ln3|exact ln4) (by repeat constructor) rfl ?_)|(refine al_v (ov_not_t rfl (by with_reducible rfl)) rfl ?_)|(refine al_v (ov_not_f rfl (by with_reducible rfl)) rfl ?_)|(refine al_v (ov_index rfl rfl (by omega) (by omega)) rfl ?_))|(first|(refine thn_n ?_)|(refine k_awp ?_;first|(refine awp_seq (awp_region ?_))|(refine awp_seq ?_)|(refine awp_region ?_)|(refine k_cond ?_;first|(refine awp_cond_t' rfl (by with_reducible rfl) ?_)|(refine awp_cond_f' rfl (by with_reducible rfl) ?_)|(refine awp_cond_p rfl (fun hc => ?_) (fun hc => ?_) <;> (try (exfalso;omega))))|(refine awp_block ?_)|(refine awp_ret ?_)|(refine awp_skip ?_)|(refine awp_exit ?_))|(refine thn_ret ?_)|(refine lq_exit ?_)|(refine lq_ret ?_)|(refine thn_exit ?_)|(refine inb_n ?_)|(refine inb_ret ?_)|(refine inb_here ?_))|(refine awp_draw (by kernel_rfl) (by kernel_rfl) ?_)|(first|(refine ql_v (ov_move rfl) rfl ?_)|(refine ql_v (ov_assign rfl) rfl ?_)|(refine ql_v (ov_load rfl rfl) rfl ?_)|(refine ql_v (ov_load_agg rfl rfl rfl) rfl ?_)|(refine ql_v (ov_cmp rfl rfl rfl) rfl ?_)|(refine ql_v (ov_pick_t' rfl (by with_reducible rfl) rfl) rfl ?_)|(refine ql_v (ov_pick_f' rfl (by with_reducible rfl) rfl) rfl ?_)|(refine ql_v (ov_len_str rfl) rfl ?_)|(refine ql_v (ov_extract rfl rfl) rfl ?_)|(refine ql_v (ov_index rfl rfl (by omega) (by omega)) rfl ?_)|(refine ql_v (ov_add rfl rfl (by (first|exact w64 (by omega) (by omega)|rfl))) rfl ?_)|(refine ql_v (ov_not_t rfl (by with_reducible rfl)) rfl ?_)|(refine ql_v (ov_not_f rfl (by with_reducible rfl)) rfl ?_)|(refine ql_nil ?_)))
      refine retq_wkn (.nil 2 rfl) ?_
      refine ret3 (by first | exact .inr rfl | exact .inl rfl) rfl rfl rfl rfl ?_
      exact ⟨rfl, rfl⟩
end
end Go.Proofs.YtnjolbnbpfjdiaaDoor.L

namespace Go.Proofs.YtnjolbnbpfjdiaaDoor.L
open Go Go.RowKit Go.Proofs
set_option linter.unusedVariables false
set_option linter.unusedSimpArgs false
set_option maxRecDepth 100000
attribute [local irreducible] AL QL AWp Thn InB RetQ ACalls LoopQ HL HO HW HQ NoG JmpQ MidQ HF

def awS1 : List UInt8 := "push 5 ; five\n\n halt".toUTF8.data.toList
def awS2 : List UInt8 := "halt\n pop 0".toUTF8.data.toList
def awS3 : List UInt8 := "push 5\nhalt\n".toUTF8.data.toList
theorem aw_p1 : parseI awS1 = ([(1, 5), (25, 0)], 0, 0) := by decide +kernel
theorem aw_p2 : parseI awS2 = ([], 130, 6) := by decide +kernel
theorem aw_p3 : checkI [(1, 5), (25, 0)] = (0, 0) := by decide +kernel
theorem aw_p4 : printI [(1, 5), (25, 0)] = awS3 := by decide +kernel
theorem eqI_val (p q : Int × Int) : eqC (List.take 2 [AV.int .i64 p.1, AV.int .i64 p.2]) (List.take 2 [AV.int .i64 q.1, AV.int .i64 q.2]) = decide (p = q) := by
  obtain ⟨p1, p2⟩ := p
  obtain ⟨q1, q2⟩ := q
  rw [Bool.eq_iff_iff]
  simp [eqC]
theorem eqI_t (p q : Int × Int) : (!eqC (List.take 2 [AV.int .i64 p.1, AV.int .i64 p.2]) (List.take 2 [AV.int .i64 q.1, AV.int .i64 q.2])) = true ↔ p ≠ q := by
  rw [eqI_val]; simp
theorem eqI_f (p q : Int × Int) : (!eqC (List.take 2 [AV.int .i64 p.1, AV.int .i64 p.2]) (List.take 2 [AV.int .i64 q.1, AV.int .i64 q.2])) = false ↔ p = q := by
  rw [eqI_val]; simp
theorem parseI_len (s : List UInt8) : (parseI s).1.length ≤ 1024 := by
  unfold parseI
  split
  · exact Nat.zero_le _
  · split
    · exact Nat.zero_le _
    · unfold endC
      split
      · rename_i h
        have := (check_ok.1 h).1
        dsimp only; omega
      · split <;> exact Nat.zero_le _
section
variable {w0 : World} {base : Nat}
set_option maxHeartbeats 4000000 in
theorem s_sameI {f g : Ins} (hf : f.length ≤ 140737488351232) (hg : g.length ≤ 140737488351232) : PCalls (EE w0 base) 26 [.rs (insAV f), .rs (insAV g)] fun rv => rv = .bool (decide (f = g)) := by
  refine acalls_of Tryd.func26 rfl rfl rfl (.cons (.cons .nil)) ?_
  have hlf := insAV_len f
  have hlg := insAV_len g
  repeat' (first|(refine k_al ?_;first|(refine al_v (ov_move rfl) rfl ?_)|(refine k_bin ?_;first|(refine al_v (ov_cmp rfl rfl rfl) rfl ?_)|(refine al_v (ov_add rfl rfl (by (first|exact w64 (by omega) (by omega)|rfl))) rfl ?_)|(refine al_v (ov_ane rfl rfl (by repeat constructor) (by repeat constructor)) rfl ?_))|(refine al_v (ov_assign rfl) rfl ?_)|(refine k_call ?_;first|(refine al_v (ov_len_rs rfl) rfl ?_))|(refine al_nil ?_))|(first|(refine thn_n ?_)|(refine k_awp ?_;first|(refine awp_seq (awp_region ?_))|(refine awp_seq ?_)|(refine awp_region ?_)|(refine k_cond ?_;first|(refine awp_cond_p rfl (fun hc => ?_) (fun hc => ?_) <;> (try (exfalso;omega)))|(refine awp_cond_b rfl (fun hc => ?_) (fun hc => ?_) <;> (try (exact absurd hc (by decide)))))|(refine awp_block ?_)|(refine awp_ret ?_)|(refine awp_skip ?_)|(refine awp_exit ?_))|(refine thn_ret ?_)|(refine lq_exit ?_)|(refine lq_ret ?_)|(refine thn_exit ?_)|(refine inb_n ?_)|(refine inb_ret ?_)|(refine inb_here ?_)))
  · refine ret1 (by first | exact .inr rfl | exact .inl rfl) rfl rfl ?_
    rw [decide_eq_false (fun e => by subst e; omega)]
    exact ⟨rfl, rfl⟩
  refine awp_loopq (fun k : Nat => ⟨[(0, .rs (insAV f)), (1, .rs (insAV g)), (5, .int .i64 k)], []⟩) (fun k => k ≤ f.length ∧ f.take k = g.take k) (fun k => f.length - k) 0 (.of (.same (by repeat constructor))) ⟨Nat.zero_le _, rfl⟩ ?_
  rintro i ⟨hi, he⟩
  try dsimp only
  by_cases hlt : i < f.length
  · obtain ⟨p, hp⟩ : ∃ p, f[i]? = some p := ⟨_, List.getElem?_eq_getElem hlt⟩
    obtain ⟨q, hq⟩ : ∃ q, g[i]? = some q := ⟨_, List.getElem?_eq_getElem (by omega)⟩
    have r1 := insAV_row hp
    have r2 := insAV_row hq
    repeat' (first|(first|(refine ql_v (ov_indexAddr rfl rfl (by omega) r1 rfl) rfl ?_)|(refine ql_v (ov_indexAddr rfl rfl (by omega) r2 rfl) rfl ?_))|(refine k_al ?_;first|(refine al_v (ov_move rfl) rfl ?_)|(refine k_bin ?_;first|(refine al_v (ov_cmp rfl rfl rfl) rfl ?_)|(refine al_v (ov_add rfl rfl (by (first|exact w64 (by omega) (by omega)|rfl))) rfl ?_)|(refine al_v (ov_ane rfl rfl (by repeat constructor) (by repeat constructor)) rfl ?_))|(refine al_v (ov_assign rfl) rfl ?_)|(refine k_call ?_;first|(refine al_v (ov_len_rs rfl) rfl ?_))|(refine al_nil ?_))|(first|(refine thn_n ?_)|(refine k_awp ?_;first|(refine awp_seq (awp_region ?_))|(refine awp_seq ?_)|(refine awp_region ?_)|(refine k_cond ?_;first|(refine awp_cond_p rfl (fun hc => ?_) (fun hc => ?_) <;> (try (exfalso;omega)))|(refine awp_cond_b rfl (fun hc => ?_) (fun hc => ?_) <;> (try (exact absurd hc (by decide)))))|(refine awp_block ?_)|(refine awp_ret ?_)|(refine awp_skip ?_)|(refine awp_exit ?_))|(refine thn_ret ?_)|(refine lq_exit ?_)|(refine lq_ret ?_)|(refine thn_exit ?_)|(refine inb_n ?_)|(refine inb_ret ?_)|(refine inb_here ?_))|(refine awp_draw (by kernel_rfl) (by kernel_rfl) ?_)|(first|(refine ql_v (ov_move rfl) rfl ?_)|(refine ql_v (ov_assign rfl) rfl ?_)|(refine ql_v (ov_load_agg rfl rfl rfl) rfl ?_)|(refine ql_v (ov_cmp rfl rfl rfl) rfl ?_)|(refine ql_v (ov_len_rs rfl) rfl ?_)|(refine ql_v (ov_ane rfl rfl (by repeat constructor) (by repeat constructor)) rfl ?_)|(refine ql_v (ov_add rfl rfl (by (first|exact w64 (by omega) (by omega)|rfl))) rfl ?_)|(refine ql_nil ?_)))
    · have hne : p ≠ q := (eqI_t p q).1 ‹_›
      refine ret1 (by first | exact .inr rfl | exact .inl rfl) rfl rfl ?_
      rw [decide_eq_false (fun e => by subst e; rw [hp] at hq; injection hq with hq; exact hne hq)]
      exact ⟨rfl, rfl⟩
    · have hpq : p = q := (eqI_f p q).1 ‹_›
      first | refine lq_back (i + 1) (.of (.same (by repeat constructor))) ?_ ?_ | fail
      · refine ⟨by omega, ?_⟩
        rw [List.take_add_one, List.take_add_one, hp, hq, he, hpq]
      · omega
  · repeat' (first|(refine k_al ?_;first|(refine al_v (ov_move rfl) rfl ?_)|(refine k_bin ?_;first|(refine al_v (ov_cmp rfl rfl rfl) rfl ?_)|(refine al_v (ov_add rfl rfl (by (first|exact w64 (by omega) (by omega)|rfl))) rfl ?_)|(refine al_v (ov_ane rfl rfl (by repeat constructor) (by repeat constructor)) rfl ?_))|(refine al_v (ov_assign rfl) rfl ?_)|(refine k_call ?_;first|(refine al_v (ov_len_rs rfl) rfl ?_))|(refine al_nil ?_))|(first|(refine thn_n ?_)|(refine k_awp ?_;first|(refine awp_seq (awp_region ?_))|(refine awp_seq ?_)|(refine awp_region ?_)|(refine k_cond ?_;first|(refine awp_cond_p rfl (fun hc => ?_) (fun hc => ?_) <;> (try (exfalso;omega)))|(refine awp_cond_b rfl (fun hc => ?_) (fun hc => ?_) <;> (try (exact absurd hc (by decide)))))|(refine awp_block ?_)|(refine awp_ret ?_)|(refine awp_skip ?_)|(refine awp_exit ?_))|(refine thn_ret ?_)|(refine lq_exit ?_)|(refine lq_ret ?_)|(refine thn_exit ?_)|(refine inb_n ?_)|(refine inb_ret ?_)|(refine inb_here ?_)))
    refine ret1 (by first | exact .inr rfl | exact .inl rfl) rfl rfl ?_
    rw [List.take_of_length_le (by omega), List.take_of_length_le (by omega)] at he
    rw [decide_eq_true he]
    exact ⟨rfl, rfl⟩
theorem s_awake13 (hG : Tabs w0 base) : PCalls (EE w0 base) 23 [] fun rv => rv = .bool true := by
  have h1 := s_codeParse (w0 := w0) (base := base) (s := awS1) hG (by decide)
  have h2 := s_codeParse (w0 := w0) (base := base) (s := awS2) hG (by decide)
  have h3 := s_codePrint (w0 := w0) (base := base) (l := [(1, 5), (25, 0)]) hG (by decide) (by intro p h; simp at h; rcases h with rfl | rfl <;> decide)
  rw [aw_p1] at h1
  rw [aw_p2] at h2
  unfold prnC at h3
  rw [aw_p3, aw_p4, if_pos rfl] at h3
  refine acalls_of Tryd.func23 rfl rfl rfl .nil ?_
  repeat' (first|(first|(refine k_call ?_;refine al_call rfl rfl rfl rfl h1 ?_;rintro _ rfl)|(refine k_call ?_;refine al_call rfl rfl rfl rfl h2 ?_;rintro _ rfl)|(refine k_call ?_;refine al_call rfl rfl rfl rfl h3 ?_;rintro _ rfl)|(refine k_call ?_;refine al_v (ov_len_c 2 rfl rfl) rfl ?_)|(refine k_bin ?_;first|(refine al_v (ov_cmp_t rfl rfl rfl (by decide)) rfl ?_)|(refine al_v (ov_seq_t (n := awS3) rfl rfl rfl) rfl ?_)))|(refine k_al ?_;first|(refine al_v (ov_move rfl) rfl ?_)|(refine k_g ?_;first|(refine al_gy' rfl rfl (by with_reducible rfl) ?_))|(refine k_pick ?_;first|(refine al_v (ov_pick_t' rfl (by with_reducible rfl) rfl) rfl ?_))|(refine al_v (ov_assign rfl) rfl ?_)|(refine al_v (ov_extract rfl rfl) rfl ?_)|(refine al_nil ?_))|(first|(refine thn_n ?_)|(refine k_awp ?_;first|(refine awp_seq (awp_region ?_))|(refine awp_seq ?_)|(refine awp_region ?_)|(refine awp_ret ?_))))
  refine ret1 (by first | exact .inr rfl | exact .inl rfl) rfl rfl ?_
  exact ⟨rfl, rfl⟩
theorem s_lawCodeParses {s : List UInt8} (hG : Tabs w0 base) (hs : s.length ≤ 140737488351232) : PCalls (EE w0 base) 6 [.str s] fun rv => rv = .bool true := by
  have h1 := s_codeParse (w0 := w0) (base := base) (s := s) hG hs
  have h2 := s_codeParseR (w0 := w0) (base := base) (s := s) hs
  have hl := parseI_len s
  revert h1 h2 hl
  generalize parseI s = z
  obtain ⟨l, e, a⟩ := z
  intro h1 h2 hl
  dsimp only at h1 h2 hl
  have h3 := s_sameI (w0 := w0) (base := base) (f := l) (g := l) (by omega) (by omega)
  rw [decide_eq_true rfl] at h3
  have hW := s_awake13 (w0 := w0) (base := base) hG
  refine acalls_of Tryd.func6 rfl rfl rfl (.cons .nil) ?_
  repeat' (first|(first|(refine k_call ?_;refine al_call rfl rfl rfl rfl h1 ?_;rintro _ rfl)|(refine k_call ?_;refine al_call rfl rfl rfl rfl h2 ?_;rintro _ rfl)|(refine k_call ?_;refine al_call rfl rfl rfl rfl h3 ?_;rintro _ rfl)|(refine k_call ?_;refine al_call rfl rfl rfl rfl hW ?_;rintro _ rfl)|(refine k_bin ?_;refine al_v (ov_cmp_t rfl rfl rfl rfl) rfl ?_))|(refine k_al ?_;first|(refine al_v (ov_move rfl) rfl ?_)|(refine k_g ?_;first|(refine al_gy' rfl rfl (by with_reducible rfl) ?_))|(refine k_pick ?_;first|(refine al_v (ov_pick_t' rfl (by with_reducible rfl) rfl) rfl ?_))|(refine al_v (ov_assign rfl) rfl ?_)|(refine al_v (ov_extract rfl rfl) rfl ?_)|(refine al_nil ?_))|(first|(refine thn_n ?_)|(refine k_awp ?_;first|(refine awp_seq (awp_region ?_))|(refine awp_seq ?_)|(refine awp_region ?_)|(refine awp_ret ?_))))
  refine ret1 (by first | exact .inr rfl | exact .inl rfl) rfl rfl ?_
  exact ⟨rfl, rfl⟩
theorem s_lawCodeChecks {l : Ins} {op : Int} (hG : Tabs w0 base) (hl : l.length ≤ 140737488351232) (hI : InI l) : PCalls (EE w0 base) 5 [.rs (insAV l), .int .i64 op] fun rv => rv = .bool true := by
  have h1 := s_check (w0 := w0) (base := base) hl
  have h2 := s_checkR (w0 := w0) (base := base) hl
  have h3 := s_codePrint (w0 := w0) (base := base) hG hl hI
  have h4 := s_codePrintR (w0 := w0) (base := base) hG hl hI
  have h5 := s_codeName (w0 := w0) (base := base) (op := op)
  have h6 := s_nameR (w0 := w0) (base := base) (op := op)
  unfold nmV at h5 h6
  unfold prnC at h3 h4
  have hW := s_awake13 (w0 := w0) (base := base) hG
  revert h1 h2 h3 h4 h5 h6
  generalize (checkI l).1 = c1
  generalize (checkI l).2 = c2
  generalize (if c1 = 0 then printI l else []) = c3
  intro h1 h2 h3 h4 h5 h6
  refine acalls_of Tryd.func5 rfl rfl rfl (.cons (.cons .nil)) ?_
  repeat' (first|(first|(refine k_call ?_;refine al_call rfl rfl rfl rfl h1 ?_;rintro _ rfl)|(refine k_call ?_;refine al_call rfl rfl rfl rfl h2 ?_;rintro _ rfl)|(refine k_call ?_;refine al_call rfl rfl rfl rfl h3 ?_;rintro _ rfl)|(refine k_call ?_;refine al_call rfl rfl rfl rfl h4 ?_;rintro _ rfl)|(refine k_call ?_;refine al_call rfl rfl rfl rfl h5 ?_;rintro _ rfl)|(refine k_call ?_;refine al_call rfl rfl rfl rfl h6 ?_;rintro _ rfl)|(refine k_call ?_;refine al_call rfl rfl rfl rfl hW ?_;rintro _ rfl)|(refine k_bin ?_;first|(refine al_v (ov_cmp_t rfl rfl rfl rfl) rfl ?_)|(refine al_v (ov_seq_t rfl rfl rfl) rfl ?_)))|(refine k_al ?_;first|(refine al_v (ov_move rfl) rfl ?_)|(refine k_g ?_;first|(refine al_gy' rfl rfl (by with_reducible rfl) ?_))|(refine k_pick ?_;first|(refine al_v (ov_pick_t' rfl (by with_reducible rfl) rfl) rfl ?_))|(refine al_v (ov_assign rfl) rfl ?_)|(refine al_v (ov_extract rfl rfl) rfl ?_)|(refine al_nil ?_))|(first|(refine thn_n ?_)|(refine k_awp ?_;first|(refine awp_seq (awp_region ?_))|(refine awp_seq ?_)|(refine awp_region ?_)|(refine awp_ret ?_))))
  refine ret1 (by first | exact .inr rfl | exact .inl rfl) rfl rfl ?_
  exact ⟨rfl, rfl⟩
end
end Go.Proofs.YtnjolbnbpfjdiaaDoor.L

namespace Go.Proofs.YtnjolbnbpfjdiaaDoor.L
open Go Go.RowKit Go.ChangeShapes Go.WideShapes
set_option linter.unusedVariables false
set_option linter.unusedSimpArgs false

mutual
/-- How many values and letters. -/
def avB : AV → Nat
  | .str s => s.length + 1
  | .rs xs => rowsB xs + 1
  | .agg cs => cellsB cs + 1
  | _ => 1
def cellsB : List AV → Nat
  | [] => 0
  | x :: r => avB x + cellsB r
def rowsB : List (List AV) → Nat
  | [] => 0
  | c :: r => cellsB c + rowsB r
end
def sumN (β : Nat → Nat) : Nat → Nat
  | 0 => 0
  | n + 1 => sumN β n + β n
section
variable {H : Type} {enc : TypeId × Value → H} {P : Program} {w : World} {sp : Nat → Bool} {held : Bool}

end
end Go.Proofs.YtnjolbnbpfjdiaaDoor.L

namespace Go.Proofs.YtnjolbnbpfjdiaaDoor.L
open Go Go.RowKit Go.Proofs Go.ChangeShapes Go.WideShapes Go.ChangeAt
set_option linter.unusedVariables false
set_option maxRecDepth 100000
attribute [local irreducible] AL QL AWp Thn InB RetQ ACalls LoopQ
theorem rowOwn : ownKnob Tryd.prog.godebug = none := by kernel_rfl
theorem rowLaid : laidOutB Tryd.prog = true := by kernel_rfl
theorem glob_of {W : World} (h : W.ShapedOpen Tryd.prog) : Glob W W.heap.size := by
  obtain ⟨m, hm⟩ := cell_of_shapedOpen_int (P := Tryd.prog) (g := 0) (t := 3) (zero := #[.int .i64 0]) (k := .i64) h (of_decide_eq_true (by kernel_rfl)) (by kernel_rfl) (by kernel_rfl) (by kernel_rfl) (by kernel_rfl) (by kernel_rfl)
  refine ⟨?_, m, hm⟩
  by_cases h0 : 0 < W.heap.size
  · exact h0
  · exfalso
    have : W.heap[0]? = none := by rw [Array.getElem?_eq_none_iff]; omega
    simp [World.cell?, this] at hm
theorem gES : Tryd.prog.globalNamed "strconv.ErrSyntax" = some 2 := by kernel_rfl
theorem gER : Tryd.prog.globalNamed "strconv.ErrRange" = some 3 := by kernel_rfl
theorem gESType : (Tryd.prog.globals[2]?).map (·.type) = some 56 := by kernel_rfl
theorem gERType : (Tryd.prog.globals[3]?).map (·.type) = some 56 := by kernel_rfl
theorem starErr : "*" ++ "errors.errorString" = "*errors.errorString" := by decide
theorem rowErr (u : TypeId) (h : Tryd.prog.typeName? 3 u = some "*errors.errorString") : u = 164 :=
  typeName_ptr_named (nm := "errors.errorString") (by rw [starErr]; kernel_rfl) (by kernel_rfl) (by decide) u (by rw [starErr]; exact h)
abbrev powL : List (String × DataW Unit) := [("internal/strconv.uint64pow10", Lib.tabData .u64 Lib.pow10Tab)]
abbrev esL : List (String × DataW Unit) := [("strconv.ErrSyntax", .iface "*errors.errorString" (.ptr (.agg [.lit (.string [105, 110, 118, 97, 108, 105, 100, 32, 115, 121, 110, 116, 97, 120])])))]
abbrev erL : List (String × DataW Unit) := [("strconv.ErrRange", .iface "*errors.errorString" (.ptr (.agg [.lit (.string [118, 97, 108, 117, 101, 32, 111, 117, 116, 32, 111, 102, 32, 114, 97, 110, 103, 101])])))]
theorem tabs_of {W : World} {l : List (String × DataW Unit)} (h : W.ShapedOpen Tryd.prog) (hL : laidMet Tryd.prog l W) (h1 : l.filter (fun x => x.1 == "internal/strconv.uint64pow10") = powL) (h2 : l.filter (fun x => x.1 == "strconv.ErrSyntax") = esL) (h3 : l.filter (fun x => x.1 == "strconv.ErrRange") = erL) : Tabs W W.heap.size := by
  have f1 := hL.filter (fun x => x.1 == "internal/strconv.uint64pow10")
  have f2 := hL.filter (fun x => x.1 == "strconv.ErrSyntax")
  have f3 := hL.filter (fun x => x.1 == "strconv.ErrRange")
  rw [h1] at f1
  rw [h2] at f2
  rw [h3] at f3
  obtain ⟨a0, s0, hv0, -, -, -⟩ := laid_sentinel f2 gES gESType Tryd.underlying56 rowErr Tryd.underlying164 Tryd.underlying166 rfl rfl Tryd.underlying9 (by kernel_rfl) (by kernel_rfl)
  obtain ⟨a1, s1, hv1, -, -, -⟩ := laid_sentinel f3 gER gERType Tryd.underlying56 rowErr Tryd.underlying164 Tryd.underlying166 rfl rfl Tryd.underlying9 (by kernel_rfl) (by kernel_rfl)
  have c0 : W.cell? ⟨2, 0, none⟩ = some (.iface 164 (.pointer (some a0))) := by have h0 := World.var?_cell gES hv0 0; simpa using h0
  have c1 : W.cell? ⟨3, 0, none⟩ = some (.iface 164 (.pointer (some a1))) := by have h0 := World.var?_cell gER hv1 0; simpa using h0
  refine ⟨glob_of h, ?_, ⟨_, _, c0⟩, ⟨_, _, c1⟩, Lib.tabIs_of_head (g := (Tryd.prog.globalNamed "internal/strconv.uint64pow10").getD 0) (t := ((Tryd.prog.globals[(Tryd.prog.globalNamed "internal/strconv.uint64pow10").getD 0]?).map (·.type)).getD 0) (e := 132) (n := 20) (by kernel_rfl) (by kernel_rfl) (by kernel_rfl) (by kernel_rfl) (by kernel_rfl) (by kernel_rfl) f1⟩
  by_cases h0 : 4 ≤ W.heap.size
  · exact h0
  · exfalso
    have : W.heap[3]? = none := by rw [Array.getElem?_eq_none_iff]; omega
    simp [World.cell?, this] at c1
theorem okr_ins : ∀ {rows : List (List AV)}, OKR [.int .i64, .int .i64] rows → ∃ l : Ins, rows = insAV l ∧ InI l := by
  intro rows
  induction rows with
  | nil => intro _; exact ⟨[], rfl, fun p h => by cases h⟩
  | cons r rows ih =>
    intro h
    cases h with
    | cons h1 h2 =>
      obtain ⟨l, rfl, hl⟩ := ih h2
      cases h1 with
      | cons h1 h3 => cases h3 with
        | cons h3 h4 =>
          cases h4
          cases h1 with
          | int _ a ha => cases h3 with
            | int _ b hb =>
              refine ⟨(a, b) :: l, rfl, fun p hp => ?_⟩
              rcases List.mem_cons.1 hp with rfl | hp
              · rw [Lit.wf, Bool.and_eq_true, decide_eq_true_eq, decide_eq_true_eq] at hb
                have e1 : IntKind.i64.min = -9223372036854775808 := by decide
                have e2 : IntKind.i64.max = 9223372036854775807 := by decide
                rw [e1, e2] at hb
                exact hb
              · exact hl p hp
end Go.Proofs.YtnjolbnbpfjdiaaDoor.L
