/- Part 5 of the texts behind the theorem of this claim: Layer 7 (head): Print, the document's; Layer 7 (head): Print, the program's; Layer 7 (head): the laws HeadPrints, HeadBack, HeadAgain; Layer 7 (head), plain: letters of names and blanks ahead of values; so many fields; The logic, part 30: the greater and the smaller of two integers; Layer 7 (head): the laws HeadLimits, HeadLetters; Layer 7 (head): the law HeadLetters; The logic, part 29: data that a row hands in, and how much it holds: for the rows' second form; Layer 7 (head): what rows hand in -/
import Derived.Test.YtffcgpkbibijpaaDoorQh4
import Derived.Test.YtffcgpkbibijpaaDoorQh3
import Derived.Laws.Small
import Derived.Test.YtffcgpkbibijpaaDoorQh2
import Derived.Test.YtffcgpkbibijpaaDoorRows
import Derived.WalkKit
import Derived.ProofKit
import Derived.OpenShut
import Derived.SizedLaws
import Derived.HandedShaped
import Derived.Shelf.Vars
import Derived.LaidMore
import Derived.Lay
import Derived.Stop.Joined
import Derived.Deep.DeepHandedRow
import Derived.Lib.LaidTab
set_option linter.unusedVariables false
set_option linter.unusedSimpArgs false
namespace Go.Proofs.YtffcgpkbibijpaaDoor.L
open Go Go.RowKit Go.Proofs
set_option linter.unusedVariables false
set_option linter.unusedSimpArgs false
set_option maxRecDepth 100000
attribute [local irreducible] AL QL AWp Thn InB RetQ ACalls LoopQ HL HO HW HQ NoG

theorem parse_v {s : List UInt8} {x : Hd} {a : Int} (h : headParse s = (x, 0, a)) : (x.v = 0 ∨ x.v = 1) ∧ x.fs.length ≤ 32 := by
  obtain ⟨l, ls, _, _, h2, _, h4, h5, _, _⟩ := headParse_inv h
  subst h5
  exact ⟨req_minor h2.ok, by simpa [hdOf] using h4⟩
theorem linesOf_snoc (ls : List (List UInt8)) (l : List UInt8) : linesOf (ls ++ [l]) = linesOf ls ++ (l ++ [13, 10]) := by simp [linesOf]
theorem linesOf_take_le {ls : List (List UInt8)} (k : Nat) : (linesOf (ls.take k)).length ≤ (linesOf ls).length := by
  have : linesOf ls = linesOf (ls.take k) ++ linesOf (ls.drop k) := by rw [← linesOf_append, List.take_append_drop]
  rw [this, List.length_append]
  omega
theorem fLines_next {fs : Fs} {k : Nat} {p : List UInt8 × List UInt8} (h : fs[k]? = some p) : linesOf ((fs.take (k + 1)).map fLine) = linesOf ((fs.take k).map fLine) ++ (((p.1 ++ [58, 32]) ++ p.2) ++ [13, 10]) := by
  rw [List.take_add_one, h, List.map_append]
  show linesOf (_ ++ [fLine p]) = _
  rw [linesOf_snoc]
  simp [fLine]
theorem rLine_eq (h : Hd) : rLine h ++ [13, 10] = ((((h.m ++ [32]) ++ h.t) ++ [32, 72, 84, 84, 80, 47, 49, 46]) ++ digS h.v) ++ [13, 10] := by simp [rLine]
theorem printS_eq (h : Hd) : printS h = ((rLine h ++ [13, 10]) ++ linesOf (h.fs.map fLine)) ++ [13, 10] := by
  unfold printS textOf
  rw [linesOf_cons]
  simp
theorem digS_len (v : Int) : (digS v).length = 1 := by unfold digS; split; rfl; split <;> rfl
theorem rLine_len (h : Hd) : (rLine h ++ [13, 10]).length = h.m.length + h.t.length + 12 := by
  rw [rLine_eq]
  simp only [List.length_append, List.length_cons, List.length_nil, digS_len]
  omega
section
variable {w0 : World} {base : Nat}
abbrev prnR (h : Hd) (rv : AV) : Prop := rv = .tup [.str (if printOk h then printS h else []), .int .i64 (if printOk h then 0 else 70)]
theorem prnR_not {h : Hd} (hn : ¬ printOk h) : prnR h (.tup [.str [], .int .i64 70]) := by unfold prnR; rw [if_neg hn, if_neg hn]
theorem prnR_yes {h : Hd} {s : List UInt8} (hn : printOk h) (hs : s = printS h) : prnR h (.tup [.str s, .int .i64 0]) := by unfold prnR; rw [if_pos hn, if_pos hn, hs]
set_option maxHeartbeats 8000000 in
theorem s_printR {h : Hd} (hz : h.m.length + h.t.length + (linesOf (h.fs.map fLine)).length ≤ 35184372088832) (hf : h.fs.length * 16 ≤ 140737488351232) :
    PCalls (EE w0 base) 14 [hdAV h.m h.t h.v h.fs] (prnR h) := by
  refine acalls_of Tryd.func14 rfl rfl rfl (.cons .nil) ?_
  have hlen : (h.fs.map prAV).length = h.fs.length := List.length_map _
  have hrl := rLine_len h
  repeat' (first | (refine k_al ?_; first | (refine al_v (ov_move rfl) rfl ?_) | (refine k_g ?_; first | (refine al_gy' rfl rfl (by with_reducible rfl) ?_) | (refine al_gnt rfl rfl (by with_reducible rfl) rfl ?_) | (refine al_gnf rfl rfl (by with_reducible rfl) rfl ?_) | (refine al_gsp rfl rfl (fun hc => ?_) (fun hc => ?_) <;> (try (exfalso; omega))) | fail) | (refine al_v (ov_fieldAddr rfl rfl) rfl ?_) | (refine k_load ?_; first | (refine al_v (ov_load rfl rfl) rfl ?_) | (refine al_v (ov_load_agg rfl rfl rfl) rfl ?_)) | (refine k_bin ?_; first | (refine al_v (ov_cmp rfl rfl rfl) rfl ?_) | (refine al_v (ov_cat rfl rfl (by first | omega | (simp only [List.length_append, List.length_cons, List.length_nil]; omega) | (simp; omega))) rfl ?_) | (refine al_v (ov_add rfl rfl (by (first | exact w64 (by omega) (by omega) | rfl | fail))) rfl ?_) | fail) | (refine k_pick ?_; first | (refine al_v (ov_pick_t' rfl (by with_reducible rfl) rfl) rfl ?_) | (refine al_v (ov_pick_f' rfl (by with_reducible rfl) rfl) rfl ?_) | fail) | (refine al_v (ov_assign rfl) rfl ?_) | (refine k_call ?_; first | (refine al_v (ov_len_rs rfl) rfl ?_) | fail) | (refine al_v (ov_extract rfl rfl) rfl ?_) | (refine al_nil ?_) | (refine al_box rfl rfl rfl (by (first | exact (rfl : _ = 0) | exact (rfl : _ = 1) | exact (rfl : _ = 2) | exact (rfl : _ = 3) | exact (rfl : _ = 4) | exact (rfl : _ = 5) | exact (rfl : _ = 6))) (by repeat constructor) rfl ?_) | (refine al_alloc rfl rfl rfl (by (first | exact (rfl : _ = 0) | exact (rfl : _ = 1) | exact (rfl : _ = 2) | exact (rfl : _ = 3) | exact (rfl : _ = 4) | exact (rfl : _ = 5) | exact (rfl : _ = 6))) (by repeat constructor) rfl ?_) | (refine al_store rfl rfl rfl rfl rfl (by repeat constructor) (by repeat constructor) ?_) | (refine al_v (ov_not_p rfl) rfl ?_) | fail) | (first | (refine thn_n ?_) | (refine k_awp ?_; first | (refine awp_seq (awp_region ?_)) | (refine awp_seq ?_) | (refine awp_region ?_) | (refine k_cond ?_; first | (refine awp_cond_t' rfl (by with_reducible rfl) ?_) | (refine awp_cond_f' rfl (by with_reducible rfl) ?_) | (refine awp_cond_p rfl (fun hc => ?_) (fun hc => ?_) <;> (try (exfalso; omega))) | fail) | (refine awp_block ?_) | (refine awp_ret ?_) | (refine awp_skip ?_) | (refine awp_exit ?_) | fail) | (refine thn_ret ?_) | (refine lq_exit ?_) | (refine thn_exit ?_) | (refine inb_n ?_) | (refine inb_here ?_) | fail))
  all_goals
    refine awp_wkn (.spell 5 (.str (rLine h ++ [13, 10])) rfl (congrArg AV.str (by rw [rLine_eq]; simp [digS, *]))) ?_
    refine awp_loopq (fun p : Nat × List UInt8 => ⟨[(1, .op 0 0), (5, .str p.2), (6, .int .i64 p.1)], [.box [.str h.m, .str h.t, .int .i64 h.v, .rs (h.fs.map prAV)]]⟩)
      (fun p => p.1 ≤ h.fs.length ∧ p.1 ≤ 33 ∧ p.2 = (rLine h ++ [13, 10]) ++ linesOf ((h.fs.take p.1).map fLine)) (fun p => h.fs.length - p.1) (0, rLine h ++ [13, 10]) (.of (.same (by repeat constructor))) ⟨Nat.zero_le _, Nat.zero_le _, by simp [linesOf]⟩ ?_
    rintro ⟨i, l⟩ ⟨hi, hi2, hl⟩
    dsimp only at hi hi2 hl ⊢
    have hll := linesOf_take_le (ls := h.fs.map fLine) i
    rw [← List.map_take] at hll
    have hlb : l.length ≤ 35184372088832 + 100 := by rw [hl, List.length_append, hrl]; omega
    by_cases hlt : i < h.fs.length ∧ i ≤ 32
    · obtain ⟨hlt, hlt2⟩ := hlt
      obtain ⟨p, hp⟩ : ∃ p, h.fs[i]? = some p := ⟨_, List.getElem?_eq_getElem hlt⟩
      have hrow := prAV_row hp
      have hnx := fLines_next hp
      have hpl : p.1.length + p.2.length ≤ 35184372088832 := by
        have := linesOf_take_le (ls := h.fs.map fLine) (i + 1)
        rw [← List.map_take, hnx, List.length_append] at this
        simp only [List.length_append, List.length_cons, List.length_nil] at this
        omega
      repeat' (first | ((refine ql_v (ov_indexAddr rfl rfl (by omega) hrow rfl) rfl ?_)) | (refine k_al ?_; first | (refine al_v (ov_move rfl) rfl ?_) | (refine k_g ?_; first | (refine al_gy' rfl rfl (by with_reducible rfl) ?_) | (refine al_gnt rfl rfl (by with_reducible rfl) rfl ?_) | (refine al_gnf rfl rfl (by with_reducible rfl) rfl ?_) | (refine al_gsp rfl rfl (fun hc => ?_) (fun hc => ?_) <;> (try (exfalso; omega))) | fail) | (refine al_v (ov_fieldAddr rfl rfl) rfl ?_) | (refine k_load ?_; first | (refine al_v (ov_load rfl rfl) rfl ?_) | (refine al_v (ov_load_agg rfl rfl rfl) rfl ?_)) | (refine k_bin ?_; first | (refine al_v (ov_cmp rfl rfl rfl) rfl ?_) | (refine al_v (ov_cat rfl rfl (by first | omega | (simp only [List.length_append, List.length_cons, List.length_nil]; omega) | (simp; omega))) rfl ?_) | (refine al_v (ov_add rfl rfl (by (first | exact w64 (by omega) (by omega) | rfl | fail))) rfl ?_) | fail) | (refine k_pick ?_; first | (refine al_v (ov_pick_t' rfl (by with_reducible rfl) rfl) rfl ?_) | (refine al_v (ov_pick_f' rfl (by with_reducible rfl) rfl) rfl ?_) | fail) | (refine al_v (ov_assign rfl) rfl ?_) | (refine k_call ?_; first | (refine al_v (ov_len_rs rfl) rfl ?_) | fail) | (refine al_v (ov_extract rfl rfl) rfl ?_) | (refine al_nil ?_) | (refine al_box rfl rfl rfl (by (first | exact (rfl : _ = 0) | exact (rfl : _ = 1) | exact (rfl : _ = 2) | exact (rfl : _ = 3) | exact (rfl : _ = 4) | exact (rfl : _ = 5) | exact (rfl : _ = 6))) (by repeat constructor) rfl ?_) | (refine al_alloc rfl rfl rfl (by (first | exact (rfl : _ = 0) | exact (rfl : _ = 1) | exact (rfl : _ = 2) | exact (rfl : _ = 3) | exact (rfl : _ = 4) | exact (rfl : _ = 5) | exact (rfl : _ = 6))) (by repeat constructor) rfl ?_) | (refine al_store rfl rfl rfl rfl rfl (by repeat constructor) (by repeat constructor) ?_) | (refine al_v (ov_not_p rfl) rfl ?_) | fail) | (first | (refine thn_n ?_) | (refine k_awp ?_; first | (refine awp_seq (awp_region ?_)) | (refine awp_seq ?_) | (refine awp_region ?_) | (refine k_cond ?_; first | (refine awp_cond_t' rfl (by with_reducible rfl) ?_) | (refine awp_cond_f' rfl (by with_reducible rfl) ?_) | (refine awp_cond_p rfl (fun hc => ?_) (fun hc => ?_) <;> (try (exfalso; omega))) | fail) | (refine awp_block ?_) | (refine awp_ret ?_) | (refine awp_skip ?_) | (refine awp_exit ?_) | fail) | (refine thn_ret ?_) | (refine lq_exit ?_) | (refine thn_exit ?_) | (refine inb_n ?_) | (refine inb_here ?_) | fail) | (refine awp_draw (by kernel_rfl) (by kernel_rfl) ?_) | (first | (refine ql_v (ov_move rfl) rfl ?_) | (refine ql_v (ov_assign rfl) rfl ?_) | (refine ql_v (ov_fieldAddr rfl rfl) rfl ?_) | (refine ql_v (ov_load rfl rfl) rfl ?_) | (refine ql_v (ov_load_agg rfl rfl rfl) rfl ?_) | (refine ql_v (ov_cmp rfl rfl rfl) rfl ?_) | (refine ql_v (ov_pick_t' rfl (by with_reducible rfl) rfl) rfl ?_) | (refine ql_v (ov_pick_f' rfl (by with_reducible rfl) rfl) rfl ?_) | (refine ql_v (ov_len_rs rfl) rfl ?_) | (refine ql_v (ov_extract rfl rfl) rfl ?_) | (refine ql_v (ov_add rfl rfl (by (first | exact w64 (by omega) (by omega) | rfl | fail))) rfl ?_) | (refine ql_v (ov_not_p rfl) rfl ?_) | (refine ql_v (ov_cat rfl rfl (by first | omega | (simp only [List.length_append, List.length_cons, List.length_nil]; omega) | (simp; omega))) rfl ?_) | (refine ql_nil ?_) | fail))
      first | refine lq_back (i + 1, _) (.of (.same (by repeat constructor))) ?_ ?_ | fail
      · refine ⟨by dsimp only; omega, by dsimp only; omega, ?_⟩
        dsimp only
        rw [hl, hnx]
        simp
      · dsimp only; omega
    · have hP := s_parseR (w0 := w0) (base := base) (s := l ++ [13, 10])
      have he : l ++ [13, 10] = printS ⟨h.m, h.t, h.v, h.fs.take i⟩ := by rw [printS_eq, hl]; rfl
      obtain ⟨x, st, a, hx⟩ : ∃ x st a, headParse (l ++ [13, 10]) = (x, st, a) := ⟨_, _, _, rfl⟩
      unfold prR at hP
      rw [hx] at hP
      dsimp only at hP
      have hxf : x.fs.length ≤ 32 := by have := headParse_fs (l ++ [13, 10]); rw [hx] at this; exact this
      have hE := s_same (w0 := w0) (base := base) (m := x.m) (t := x.t) (v := x.v) (m' := h.m) (t' := h.t) (v' := h.v) (f := x.fs) (g := h.fs) (by omega) hf
      have htk : h.fs.length ≤ 32 → h.fs.take i = h.fs := fun k => List.take_of_length_le (by omega)
      have hok : printOk h ↔ st = 0 ∧ x = h := by
        constructor
        · intro k
          have k0 := k
          obtain ⟨k1, k2, k3, k4⟩ := k
          rw [htk k1] at he
          have he' : l ++ [13, 10] = printS h := he
          rw [← he', hx] at k3 k4
          exact ⟨k3, k4⟩
        · rintro ⟨k1, k2⟩
          subst k1
          have hv := parse_v hx
          subst k2
          have he' : l ++ [13, 10] = printS x := by rw [he, htk hv.2]
          refine ⟨hv.2, hv.1, ?_, ?_⟩ <;> rw [← he', hx]
      repeat' (first | (first | (refine k_call ?_; refine al_call rfl rfl rfl rfl hP ?_; rintro _ rfl) | (refine k_call ?_; refine al_call rfl rfl rfl rfl hE ?_; rintro _ rfl)) | (refine k_al ?_; first | (refine al_v (ov_move rfl) rfl ?_) | (refine k_g ?_; first | (refine al_gy' rfl rfl (by with_reducible rfl) ?_) | (refine al_gnt rfl rfl (by with_reducible rfl) rfl ?_) | (refine al_gnf rfl rfl (by with_reducible rfl) rfl ?_) | (refine al_gsp rfl rfl (fun hc => ?_) (fun hc => ?_) <;> (try (exfalso; omega))) | fail) | (refine al_v (ov_fieldAddr rfl rfl) rfl ?_) | (refine k_load ?_; first | (refine al_v (ov_load rfl rfl) rfl ?_) | (refine al_v (ov_load_agg rfl rfl rfl) rfl ?_)) | (refine k_bin ?_; first | (refine al_v (ov_cmp rfl rfl rfl) rfl ?_) | (refine al_v (ov_cat rfl rfl (by first | omega | (simp only [List.length_append, List.length_cons, List.length_nil]; omega) | (simp; omega))) rfl ?_) | (refine al_v (ov_add rfl rfl (by (first | exact w64 (by omega) (by omega) | rfl | fail))) rfl ?_) | fail) | (refine k_pick ?_; first | (refine al_v (ov_pick_t' rfl (by with_reducible rfl) rfl) rfl ?_) | (refine al_v (ov_pick_f' rfl (by with_reducible rfl) rfl) rfl ?_) | fail) | (refine al_v (ov_assign rfl) rfl ?_) | (refine k_call ?_; first | (refine al_v (ov_len_rs rfl) rfl ?_) | fail) | (refine al_v (ov_extract rfl rfl) rfl ?_) | (refine al_nil ?_) | (refine al_box rfl rfl rfl (by (first | exact (rfl : _ = 0) | exact (rfl : _ = 1) | exact (rfl : _ = 2) | exact (rfl : _ = 3) | exact (rfl : _ = 4) | exact (rfl : _ = 5) | exact (rfl : _ = 6))) (by repeat constructor) rfl ?_) | (refine al_alloc rfl rfl rfl (by (first | exact (rfl : _ = 0) | exact (rfl : _ = 1) | exact (rfl : _ = 2) | exact (rfl : _ = 3) | exact (rfl : _ = 4) | exact (rfl : _ = 5) | exact (rfl : _ = 6))) (by repeat constructor) rfl ?_) | (refine al_store rfl rfl rfl rfl rfl (by repeat constructor) (by repeat constructor) ?_) | (refine al_v (ov_not_p rfl) rfl ?_) | fail) | (first | (refine thn_n ?_) | (refine k_awp ?_; first | (refine awp_seq (awp_region ?_)) | (refine awp_seq ?_) | (refine awp_region ?_) | (refine k_cond ?_; first | (refine awp_cond_t' rfl (by with_reducible rfl) ?_) | (refine awp_cond_f' rfl (by with_reducible rfl) ?_) | (refine awp_cond_p rfl (fun hc => ?_) (fun hc => ?_) <;> (try (exfalso; omega))) | fail) | (refine awp_block ?_) | (refine awp_ret ?_) | (refine awp_skip ?_) | (refine awp_exit ?_) | fail) | (refine thn_ret ?_) | (refine lq_exit ?_) | (refine thn_exit ?_) | (refine inb_n ?_) | (refine inb_here ?_) | fail))
      all_goals first
        | (refine ret2 (by first | exact .inr rfl | exact .inl rfl) rfl rfl rfl ?_
           exact ⟨prnR_not fun k => by
             obtain ⟨k1, k2⟩ := hok.1 k
             subst k2
             first | (exact absurd k1 ‹_›) | (exact absurd (⟨rfl, rfl, rfl, rfl⟩ : x.m = x.m ∧ x.t = x.t ∧ x.v = x.v ∧ x.fs = x.fs) ‹_›), rfl⟩)
        | (have hyes := hok.2 ⟨by first | omega | (exact Classical.not_not.1 ‹_›), by cases x; cases h; simp_all⟩
           refine ret2 (by first | exact .inr rfl | exact .inl rfl) rfl rfl rfl ?_
           exact ⟨prnR_yes hyes (by rw [he, htk hyes.1]), rfl⟩)

theorem pcalls_mono {E : Env} {f : Nat} {xs : List AV} {R R' : AV → Prop} (h : PCalls E f xs R) (k : ∀ rv, R rv → R' rv) : PCalls E f xs R' :=
  acalls_mono h fun rv os hr => ⟨k rv hr.1, hr.2⟩
/-- A head that is not too long for memory. -/
structure Small (h : Hd) : Prop where
  z : h.m.length + h.t.length + (linesOf (h.fs.map fLine)).length ≤ 35184372088832
  f : h.fs.length * 16 ≤ 140737488351232
theorem small_parsed {s : List UInt8} {h : Hd} {a : Int} (hs : headParse s = (h, 0, a)) : Small h := by
  obtain ⟨l, ls, e, h1, h2, h3, h4, h5, h6, h7⟩ := headParse_inv hs
  have hr : rLine h = l := by rw [h5]; exact rLine_of h2.ok ls
  have hg := lines_grow h3
  have hfs : h.fs = ls.map fieldOf := by rw [h5]; rfl
  have hl1 : s.length = l.length + 2 + (linesOf ls).length + 2 := by rw [e, textOf_length, linesOf_cons]; simp; omega
  have hm : h.m.length + h.t.length ≤ l.length := by rw [← hr]; unfold rLine; simp; omega
  constructor
  · rw [hfs]; omega
  · rw [hfs, List.length_map]; omega
end
end Go.Proofs.YtffcgpkbibijpaaDoor.L

namespace Go.Proofs.YtffcgpkbibijpaaDoor.L
open Go Go.RowKit Go.Proofs
set_option linter.unusedVariables false
set_option linter.unusedSimpArgs false
set_option maxRecDepth 100000
attribute [local irreducible] AL QL AWp Thn InB RetQ ACalls LoopQ HL HO HW HQ NoG

section
variable {w0 : World} {base : Nat}
theorem bld_rn {l : List UInt8} {ver : Nat} {o : AO} (h : BldB l ver o) {r : Nat → Nat} : RnO r o o := by
  rcases h with rfl | ⟨wr, rfl⟩
  · exact .row
  · exact .arr
theorem s_itoa01 {v : Int} (h : v = 0 ∨ v = 1) : PCalls (EE w0 base) 30 [.int .i64 v] fun rv => rv = .str (digS v) := by
  rcases h with rfl | rfl
  · exact acalls_mono (s_itoa (n := 0) (by decide)) fun rv os h => ⟨h.1.trans (congrArg AV.str (by decide +kernel)), h.2⟩
  · exact acalls_mono (s_itoa (n := 1) (by decide)) fun rv os h => ⟨h.1.trans (congrArg AV.str (by decide +kernel)), h.2⟩
set_option maxHeartbeats 4000000 in
theorem s_eqPairs {f g : Fs} (hf : f.length * 16 ≤ 140737488351232) (hg : g.length * 16 ≤ 140737488351232) : PCalls (EE w0 base) 32 [.rs (f.map prAV), .rs (g.map prAV)] fun rv => rv = .bool (decide (f = g)) := by
  refine acalls_of Tryd.func32 rfl rfl rfl (.cons (.cons .nil)) ?_
  have hlf : (f.map prAV).length = f.length := List.length_map _
  have hlg : (g.map prAV).length = g.length := List.length_map _
  repeat' (first | (refine k_al ?_; first | (refine al_v (ov_move rfl) rfl ?_) | (refine k_bin ?_; first | (refine al_v (ov_cmp rfl rfl rfl) rfl ?_) | (refine al_v (ov_add rfl rfl (by (first | exact w64 (by omega) (by omega) | rfl | fail))) rfl ?_) | (refine al_v (ov_ane rfl rfl (by repeat constructor) (by repeat constructor)) rfl ?_) | fail) | (refine al_v (ov_assign rfl) rfl ?_) | (refine k_call ?_; first | (refine al_v (ov_len_rs rfl) rfl ?_) | fail) | (refine al_nil ?_) | fail) | (first | (refine thn_n ?_) | (refine k_awp ?_; first | (refine awp_seq (awp_region ?_)) | (refine awp_seq ?_) | (refine awp_region ?_) | (refine k_cond ?_; first | (refine awp_cond_p rfl (fun hc => ?_) (fun hc => ?_) <;> (try (exfalso; omega))) | (refine awp_cond_b rfl (fun hc => ?_) (fun hc => ?_) <;> (try (exact absurd hc (by decide)))) | fail) | (refine awp_block ?_) | (refine awp_ret ?_) | (refine awp_skip ?_) | (refine awp_exit ?_) | fail) | (refine thn_ret ?_) | (refine lq_exit ?_) | (refine lq_ret ?_) | (refine thn_exit ?_) | (refine inb_n ?_) | (refine inb_ret ?_) | (refine inb_here ?_) | fail))
  · refine ret1 (by first | exact .inr rfl | exact .inl rfl) rfl rfl ?_
    rw [decide_eq_false (fun e => by subst e; omega)]
    exact ⟨rfl, rfl⟩
  refine awp_wkn (.spell 12 (.int .i64 (f.length : Int)) rfl (by rw [hlf])) ?_
  refine awp_loopq (fun k : Nat => ⟨[(0, .rs (f.map prAV)), (1, .rs (g.map prAV)), (12, .int .i64 (f.length : Int)), (13, .int .i64 k)], []⟩) (fun k => k ≤ f.length ∧ f.take k = g.take k) (fun k => f.length - k) 0 (.of (.same (by repeat constructor))) ⟨Nat.zero_le _, rfl⟩ ?_
  rintro i ⟨hi, he⟩
  try dsimp only
  by_cases hlt : i < f.length
  · obtain ⟨p, hp⟩ : ∃ p, f[i]? = some p := ⟨_, List.getElem?_eq_getElem hlt⟩
    obtain ⟨q, hq⟩ : ∃ q, g[i]? = some q := ⟨_, List.getElem?_eq_getElem (by omega)⟩
    have r1 := prAV_row hp
    have r2 := prAV_row hq
    repeat' (first | (first | (refine ql_v (ov_indexAddr rfl rfl (by omega) r1 rfl) rfl ?_) | (refine ql_v (ov_indexAddr rfl rfl (by omega) r2 rfl) rfl ?_)) | (refine k_al ?_; first | (refine al_v (ov_move rfl) rfl ?_) | (refine k_bin ?_; first | (refine al_v (ov_cmp rfl rfl rfl) rfl ?_) | (refine al_v (ov_add rfl rfl (by (first | exact w64 (by omega) (by omega) | rfl | fail))) rfl ?_) | (refine al_v (ov_ane rfl rfl (by repeat constructor) (by repeat constructor)) rfl ?_) | fail) | (refine al_v (ov_assign rfl) rfl ?_) | (refine k_call ?_; first | (refine al_v (ov_len_rs rfl) rfl ?_) | fail) | (refine al_nil ?_) | fail) | (first | (refine thn_n ?_) | (refine k_awp ?_; first | (refine awp_seq (awp_region ?_)) | (refine awp_seq ?_) | (refine awp_region ?_) | (refine k_cond ?_; first | (refine awp_cond_p rfl (fun hc => ?_) (fun hc => ?_) <;> (try (exfalso; omega))) | (refine awp_cond_b rfl (fun hc => ?_) (fun hc => ?_) <;> (try (exact absurd hc (by decide)))) | fail) | (refine awp_block ?_) | (refine awp_ret ?_) | (refine awp_skip ?_) | (refine awp_exit ?_) | fail) | (refine thn_ret ?_) | (refine lq_exit ?_) | (refine lq_ret ?_) | (refine thn_exit ?_) | (refine inb_n ?_) | (refine inb_ret ?_) | (refine inb_here ?_) | fail) | (refine awp_draw (by kernel_rfl) (by kernel_rfl) ?_) | (first | (refine ql_v (ov_move rfl) rfl ?_) | (refine ql_v (ov_assign rfl) rfl ?_) | (refine ql_v (ov_load_agg rfl rfl rfl) rfl ?_) | (refine ql_v (ov_cmp rfl rfl rfl) rfl ?_) | (refine ql_v (ov_len_rs rfl) rfl ?_) | (refine ql_v (ov_ane rfl rfl (by repeat constructor) (by repeat constructor)) rfl ?_) | (refine ql_v (ov_add rfl rfl (by (first | exact w64 (by omega) (by omega) | rfl | fail))) rfl ?_) | (refine ql_nil ?_) | fail))
    · have hne : p ≠ q := (eqC_pr p q).1 ‹_›
      refine ret1 (by first | exact .inr rfl | exact .inl rfl) rfl rfl ?_
      rw [decide_eq_false (fun e => by subst e; rw [hp] at hq; injection hq with hq; exact hne hq)]
      exact ⟨rfl, rfl⟩
    · have hpq : p = q := (eqC_pr' p q).1 ‹_›
      first | refine lq_back (i + 1) (.of (.same (by repeat constructor))) ?_ ?_ | fail
      · refine ⟨by omega, ?_⟩
        rw [List.take_add_one, List.take_add_one, hp, hq, he, hpq]
      · omega
  · repeat' (first | (refine k_al ?_; first | (refine al_v (ov_move rfl) rfl ?_) | (refine k_bin ?_; first | (refine al_v (ov_cmp rfl rfl rfl) rfl ?_) | (refine al_v (ov_add rfl rfl (by (first | exact w64 (by omega) (by omega) | rfl | fail))) rfl ?_) | (refine al_v (ov_ane rfl rfl (by repeat constructor) (by repeat constructor)) rfl ?_) | fail) | (refine al_v (ov_assign rfl) rfl ?_) | (refine k_call ?_; first | (refine al_v (ov_len_rs rfl) rfl ?_) | fail) | (refine al_nil ?_) | fail) | (first | (refine thn_n ?_) | (refine k_awp ?_; first | (refine awp_seq (awp_region ?_)) | (refine awp_seq ?_) | (refine awp_region ?_) | (refine k_cond ?_; first | (refine awp_cond_p rfl (fun hc => ?_) (fun hc => ?_) <;> (try (exfalso; omega))) | (refine awp_cond_b rfl (fun hc => ?_) (fun hc => ?_) <;> (try (exact absurd hc (by decide)))) | fail) | (refine awp_block ?_) | (refine awp_ret ?_) | (refine awp_skip ?_) | (refine awp_exit ?_) | fail) | (refine thn_ret ?_) | (refine lq_exit ?_) | (refine lq_ret ?_) | (refine thn_exit ?_) | (refine inb_n ?_) | (refine inb_ret ?_) | (refine inb_here ?_) | fail))
    refine ret1 (by first | exact .inr rfl | exact .inl rfl) rfl rfl ?_
    rw [List.take_of_length_le (by omega), List.take_of_length_le (by omega)] at he
    rw [decide_eq_true he]
    exact ⟨rfl, rfl⟩
theorem strAV_row {a : List (List UInt8)} {i : Nat} {p : List UInt8} (h : a[i]? = some p) : (strAV a)[((i : Nat) : Int).toNat]? = some [.str p] := by
  have : ((i : Nat) : Int).toNat = i := rfl
  rw [this]
  unfold strAV
  rw [List.getElem?_map, h]
  rfl
set_option maxHeartbeats 4000000 in
theorem s_texts {f g : List (List UInt8)} (hf : f.length ≤ 140737488351232) (hg : g.length ≤ 140737488351232) : PCalls (EE w0 base) 15 [.rs (strAV f), .rs (strAV g)] fun rv => rv = .bool (decide (f = g)) := by
  refine acalls_of Tryd.func15 rfl rfl rfl (.cons (.cons .nil)) ?_
  have hlf : (strAV f).length = f.length := List.length_map _
  have hlg : (strAV g).length = g.length := List.length_map _
  repeat' (first | (refine k_al ?_; first | (refine al_v (ov_move rfl) rfl ?_) | (refine k_bin ?_; first | (refine al_v (ov_cmp rfl rfl rfl) rfl ?_) | (refine al_v (ov_add rfl rfl (by (first | exact w64 (by omega) (by omega) | rfl | fail))) rfl ?_) | (refine al_v (ov_sne rfl rfl) rfl ?_) | fail) | (refine al_v (ov_assign rfl) rfl ?_) | (refine k_call ?_; first | (refine al_v (ov_len_rs rfl) rfl ?_) | fail) | (refine al_nil ?_) | fail) | (first | (refine thn_n ?_) | (refine k_awp ?_; first | (refine awp_seq (awp_region ?_)) | (refine awp_seq ?_) | (refine awp_region ?_) | (refine k_cond ?_; first | (refine awp_cond_p rfl (fun hc => ?_) (fun hc => ?_) <;> (try (exfalso; omega))) | fail) | (refine awp_block ?_) | (refine awp_ret ?_) | (refine awp_skip ?_) | (refine awp_exit ?_) | fail) | (refine thn_ret ?_) | (refine lq_exit ?_) | (refine lq_ret ?_) | (refine thn_exit ?_) | (refine inb_n ?_) | (refine inb_ret ?_) | (refine inb_here ?_) | fail))
  · refine ret1 (by first | exact .inr rfl | exact .inl rfl) rfl rfl ?_
    rw [decide_eq_false (fun e => by subst e; omega)]
    exact ⟨rfl, rfl⟩
  refine awp_loopq (fun k : Nat => ⟨[(0, .rs (strAV f)), (1, .rs (strAV g)), (5, .int .i64 k)], []⟩) (fun k => k ≤ f.length ∧ f.take k = g.take k) (fun k => f.length - k) 0 (.of (.same (by repeat constructor))) ⟨Nat.zero_le _, rfl⟩ ?_
  rintro i ⟨hi, he⟩
  try dsimp only
  by_cases hlt : i < f.length
  · obtain ⟨p, hp⟩ : ∃ p, f[i]? = some p := ⟨_, List.getElem?_eq_getElem hlt⟩
    obtain ⟨q, hq⟩ : ∃ q, g[i]? = some q := ⟨_, List.getElem?_eq_getElem (by omega)⟩
    have r1 := strAV_row hp
    have r2 := strAV_row hq
    repeat' (first | (first | (refine ql_v (ov_indexAddr rfl rfl (by omega) r1 rfl) rfl ?_) | (refine ql_v (ov_indexAddr rfl rfl (by omega) r2 rfl) rfl ?_)) | (refine k_al ?_; first | (refine al_v (ov_move rfl) rfl ?_) | (refine k_bin ?_; first | (refine al_v (ov_cmp rfl rfl rfl) rfl ?_) | (refine al_v (ov_add rfl rfl (by (first | exact w64 (by omega) (by omega) | rfl | fail))) rfl ?_) | (refine al_v (ov_sne rfl rfl) rfl ?_) | fail) | (refine al_v (ov_assign rfl) rfl ?_) | (refine k_call ?_; first | (refine al_v (ov_len_rs rfl) rfl ?_) | fail) | (refine al_nil ?_) | fail) | (first | (refine thn_n ?_) | (refine k_awp ?_; first | (refine awp_seq (awp_region ?_)) | (refine awp_seq ?_) | (refine awp_region ?_) | (refine k_cond ?_; first | (refine awp_cond_p rfl (fun hc => ?_) (fun hc => ?_) <;> (try (exfalso; omega))) | fail) | (refine awp_block ?_) | (refine awp_ret ?_) | (refine awp_skip ?_) | (refine awp_exit ?_) | fail) | (refine thn_ret ?_) | (refine lq_exit ?_) | (refine lq_ret ?_) | (refine thn_exit ?_) | (refine inb_n ?_) | (refine inb_ret ?_) | (refine inb_here ?_) | fail) | (refine awp_draw (by kernel_rfl) (by kernel_rfl) ?_) | (first | (refine ql_v (ov_move rfl) rfl ?_) | (refine ql_v (ov_assign rfl) rfl ?_) | (refine ql_v (ov_load rfl rfl) rfl ?_) | (refine ql_v (ov_cmp rfl rfl rfl) rfl ?_) | (refine ql_v (ov_len_rs rfl) rfl ?_) | (refine ql_v (ov_sne rfl rfl) rfl ?_) | (refine ql_v (ov_add rfl rfl (by (first | exact w64 (by omega) (by omega) | rfl | fail))) rfl ?_) | (refine ql_nil ?_) | fail))
    · have hne : p ≠ q := ‹_›
      refine ret1 (by first | exact .inr rfl | exact .inl rfl) rfl rfl ?_
      rw [decide_eq_false (fun e => by subst e; rw [hp] at hq; injection hq with hq; exact hne hq)]
      exact ⟨rfl, rfl⟩
    · have hpq : p = q := Classical.not_not.1 ‹_›
      first | refine lq_back (i + 1) (.of (.same (by repeat constructor))) ?_ ?_ | fail
      · refine ⟨by omega, ?_⟩
        rw [List.take_add_one, List.take_add_one, hp, hq, he, hpq]
      · omega
  · repeat' (first | (refine k_al ?_; first | (refine al_v (ov_move rfl) rfl ?_) | (refine k_bin ?_; first | (refine al_v (ov_cmp rfl rfl rfl) rfl ?_) | (refine al_v (ov_add rfl rfl (by (first | exact w64 (by omega) (by omega) | rfl | fail))) rfl ?_) | (refine al_v (ov_sne rfl rfl) rfl ?_) | fail) | (refine al_v (ov_assign rfl) rfl ?_) | (refine k_call ?_; first | (refine al_v (ov_len_rs rfl) rfl ?_) | fail) | (refine al_nil ?_) | fail) | (first | (refine thn_n ?_) | (refine k_awp ?_; first | (refine awp_seq (awp_region ?_)) | (refine awp_seq ?_) | (refine awp_region ?_) | (refine k_cond ?_; first | (refine awp_cond_p rfl (fun hc => ?_) (fun hc => ?_) <;> (try (exfalso; omega))) | fail) | (refine awp_block ?_) | (refine awp_ret ?_) | (refine awp_skip ?_) | (refine awp_exit ?_) | fail) | (refine thn_ret ?_) | (refine lq_exit ?_) | (refine lq_ret ?_) | (refine thn_exit ?_) | (refine inb_n ?_) | (refine inb_ret ?_) | (refine inb_here ?_) | fail))
    refine ret1 (by first | exact .inr rfl | exact .inl rfl) rfl rfl ?_
    rw [List.take_of_length_le (by omega), List.take_of_length_le (by omega)] at he
    rw [decide_eq_true he]
    exact ⟨rfl, rfl⟩
set_option maxHeartbeats 8000000 in
theorem s_print {h : Hd} (hG : Glob w0 base) (hz : h.m.length + h.t.length + (linesOf (h.fs.map fLine)).length ≤ 35184372088832) (hf : h.fs.length * 16 ≤ 140737488351232) :
    PCalls (EE w0 base) 13 [hdAV h.m h.t h.v h.fs] (prnR h) := by
  refine acalls_of Tryd.func13 rfl rfl rfl (.cons .nil) ?_
  have hlen : (h.fs.map prAV).length = h.fs.length := List.length_map _
  repeat' (first | ((refine al_alloc_t rfl rfl rfl (by (first | exact (rfl : _ = 0) | exact (rfl : _ = 1) | exact (rfl : _ = 2) | exact (rfl : _ = 3) | exact (rfl : _ = 4) | exact (rfl : _ = 5) | exact (rfl : _ = 6))) (by repeat constructor) rfl ?_)) | (refine k_al ?_; first | (refine al_v (ov_move rfl) rfl ?_) | (refine k_g ?_; first | (refine al_gy' rfl rfl (by with_reducible rfl) ?_) | (refine al_gnt rfl rfl (by with_reducible rfl) rfl ?_) | (refine al_gnf rfl rfl (by with_reducible rfl) rfl ?_) | (refine al_gu rfl rfl rfl ?_) | (refine al_gsp rfl rfl (fun hc => ?_) (fun hc => ?_) <;> (try (exfalso; omega))) | fail) | (refine al_v (ov_fieldAddr rfl rfl) rfl ?_) | (refine k_load ?_; first | (refine al_v (ov_load rfl rfl) rfl ?_) | (refine al_v (ov_load_agg rfl rfl rfl) rfl ?_)) | (refine k_bin ?_; first | (refine al_v (ov_cmp rfl rfl rfl) rfl ?_) | (refine al_v (ov_cat rfl rfl (by first | omega | (simp only [List.length_append, List.length_cons, List.length_nil]; omega) | (simp; omega))) rfl ?_) | (refine al_v (ov_add rfl rfl (by (first | exact w64 (by omega) (by omega) | rfl | fail))) rfl ?_) | (refine al_v (ov_sne rfl rfl) rfl ?_) | fail) | (refine k_pick ?_; first | (refine al_v (ov_pick_t' rfl (by with_reducible rfl) rfl) rfl ?_) | (refine al_v (ov_pick_f' rfl (by with_reducible rfl) rfl) rfl ?_) | fail) | (refine al_v (ov_assign rfl) rfl ?_) | (refine k_call ?_; first | (refine al_v (ov_len_rs rfl) rfl ?_) | fail) | (refine al_v (ov_extract rfl rfl) rfl ?_) | (refine al_nil ?_) | (refine al_box rfl rfl rfl (by (first | exact (rfl : _ = 0) | exact (rfl : _ = 1) | exact (rfl : _ = 2) | exact (rfl : _ = 3) | exact (rfl : _ = 4) | exact (rfl : _ = 5) | exact (rfl : _ = 6))) (by repeat constructor) rfl ?_) | (refine al_alloc rfl rfl rfl (by (first | exact (rfl : _ = 0) | exact (rfl : _ = 1) | exact (rfl : _ = 2) | exact (rfl : _ = 3) | exact (rfl : _ = 4) | exact (rfl : _ = 5) | exact (rfl : _ = 6))) (by repeat constructor) rfl ?_) | (refine al_store rfl rfl rfl rfl rfl (by repeat constructor) (by repeat constructor) ?_) | (refine al_v (ov_not_p rfl) rfl ?_) | fail) | (first | (refine thn_n ?_) | (refine k_awp ?_; first | (refine awp_seq (awp_region ?_)) | (refine awp_seq ?_) | (refine awp_region ?_) | (refine k_cond ?_; first | (refine awp_cond_t' rfl (by with_reducible rfl) ?_) | (refine awp_cond_f' rfl (by with_reducible rfl) ?_) | (refine awp_cond_p rfl (fun hc => ?_) (fun hc => ?_) <;> (try (exfalso; omega))) | fail) | (refine awp_block ?_) | (refine awp_ret ?_) | (refine awp_skip ?_) | (refine awp_exit ?_) | fail) | (refine thn_ret ?_) | (refine lq_exit ?_) | (refine thn_exit ?_) | (refine inb_n ?_) | (refine inb_here ?_) | fail))
  · refine ret2 (by first | exact .inr rfl | exact .inl rfl) rfl rfl rfl ?_
    exact ⟨prnR_not fun k => by have := k.1; omega, rfl⟩
  · refine ret2 (by first | exact .inr rfl | exact .inl rfl) rfl rfl rfl ?_
    exact ⟨prnR_not fun k => by have := k.2.1; omega, rfl⟩
  all_goals
    have hv : h.v = 0 ∨ h.v = 1 := by omega
    have hi01 := s_itoa01 (w0 := w0) (base := base) hv
    have hdl := digS_len h.v
    refine awp_wkn (.adoptBox (id := 1) (k := 1) (e := 5) (sz := 1) rfl rfl (by decide) rfl rfl rfl) ?_
    repeat' (first | (first | (refine awp_held (id := 4) [(12, [1, 2])] [⟨0, true, [], bl 13 920⟩, ⟨1, true, [], bl 13 921⟩, ⟨2, true, [], bl 13 923⟩, ⟨3, true, [], bl 13 903⟩, ⟨4, true, [], bl 13 911⟩, ⟨5, true, [], bl 13 927⟩, ⟨6, true, [], bl 13 959⟩, ⟨7, true, [], bl 13 127⟩, ⟨8, true, [], bl 13 255⟩, ⟨9, false, [], []⟩, ⟨10, true, [], bl 13 1023⟩, ⟨11, true, [], bl 13 2047⟩, ⟨12, false, [], []⟩] (by kernel_rfl) (by kernel_rfl) rfl (by kernel_rfl) ?_) | (refine k_call ?_; refine al_call rfl rfl rfl rfl hi01 ?_; rintro _ rfl) | (refine k_call ?_; refine al_acall [1, 2] rfl rfl (a_writeString (.inl rfl) (bs := []) (s := ((((h.m ++ [32]) ++ h.t) ++ [32, 72, 84, 84, 80, 47, 49, 46]) ++ digS h.v) ++ [13, 10]) (ver := 0) (by simp only [List.length_append, List.length_cons, List.length_nil]; omega)) (by repeat constructor) (by repeat constructor) rfl rfl ?_; rintro _ _ ⟨rfl, rfl⟩; refine ⟨_, _, by repeat constructor, by repeat constructor, ?_⟩)) | (refine k_al ?_; first | (refine al_v (ov_move rfl) rfl ?_) | (refine k_g ?_; first | (refine al_gy' rfl rfl (by with_reducible rfl) ?_) | (refine al_gnt rfl rfl (by with_reducible rfl) rfl ?_) | (refine al_gnf rfl rfl (by with_reducible rfl) rfl ?_) | (refine al_gu rfl rfl rfl ?_) | (refine al_gsp rfl rfl (fun hc => ?_) (fun hc => ?_) <;> (try (exfalso; omega))) | fail) | (refine al_v (ov_fieldAddr rfl rfl) rfl ?_) | (refine k_load ?_; first | (refine al_v (ov_load rfl rfl) rfl ?_) | (refine al_v (ov_load_agg rfl rfl rfl) rfl ?_)) | (refine k_bin ?_; first | (refine al_v (ov_cmp rfl rfl rfl) rfl ?_) | (refine al_v (ov_cat rfl rfl (by first | omega | (simp only [List.length_append, List.length_cons, List.length_nil]; omega) | (simp; omega))) rfl ?_) | (refine al_v (ov_add rfl rfl (by (first | exact w64 (by omega) (by omega) | rfl | fail))) rfl ?_) | (refine al_v (ov_sne rfl rfl) rfl ?_) | fail) | (refine k_pick ?_; first | (refine al_v (ov_pick_t' rfl (by with_reducible rfl) rfl) rfl ?_) | (refine al_v (ov_pick_f' rfl (by with_reducible rfl) rfl) rfl ?_) | fail) | (refine al_v (ov_assign rfl) rfl ?_) | (refine k_call ?_; first | (refine al_v (ov_len_rs rfl) rfl ?_) | fail) | (refine al_v (ov_extract rfl rfl) rfl ?_) | (refine al_nil ?_) | (refine al_box rfl rfl rfl (by (first | exact (rfl : _ = 0) | exact (rfl : _ = 1) | exact (rfl : _ = 2) | exact (rfl : _ = 3) | exact (rfl : _ = 4) | exact (rfl : _ = 5) | exact (rfl : _ = 6))) (by repeat constructor) rfl ?_) | (refine al_alloc rfl rfl rfl (by (first | exact (rfl : _ = 0) | exact (rfl : _ = 1) | exact (rfl : _ = 2) | exact (rfl : _ = 3) | exact (rfl : _ = 4) | exact (rfl : _ = 5) | exact (rfl : _ = 6))) (by repeat constructor) rfl ?_) | (refine al_store rfl rfl rfl rfl rfl (by repeat constructor) (by repeat constructor) ?_) | (refine al_v (ov_not_p rfl) rfl ?_) | fail) | (first | (refine thn_n ?_) | (refine k_awp ?_; first | (refine awp_seq (awp_region ?_)) | (refine awp_seq ?_) | (refine awp_region ?_) | (refine k_cond ?_; first | (refine awp_cond_t' rfl (by with_reducible rfl) ?_) | (refine awp_cond_f' rfl (by with_reducible rfl) ?_) | (refine awp_cond_p rfl (fun hc => ?_) (fun hc => ?_) <;> (try (exfalso; omega))) | fail) | (refine awp_block ?_) | (refine awp_ret ?_) | (refine awp_skip ?_) | (refine awp_exit ?_) | fail) | (refine thn_ret ?_) | (refine lq_exit ?_) | (refine thn_exit ?_) | (refine inb_n ?_) | (refine inb_here ?_) | fail) | (first | (refine k_hw ?_; first | (refine hw_s rfl ?_) | (refine hw_v (ov_move rfl) rfl ?_) | (refine hw_v (ov_assign rfl) rfl ?_) | (refine hw_v (ov_fieldAddr rfl rfl) rfl ?_) | (refine hw_v (ov_load rfl rfl) rfl ?_) | (refine hw_v (ov_load_agg rfl rfl rfl) rfl ?_) | (refine hw_v (ov_cmp rfl rfl rfl) rfl ?_) | (refine hw_v (ov_pick_t' rfl (by with_reducible rfl) rfl) rfl ?_) | (refine hw_v (ov_pick_f' rfl (by with_reducible rfl) rfl) rfl ?_) | (refine hw_v (ov_len_rs rfl) rfl ?_) | (refine hw_v (ov_sne rfl rfl) rfl ?_) | (refine hw_v (ov_extract rfl rfl) rfl ?_) | (refine hw_v (ov_add rfl rfl (by (first | exact w64 (by omega) (by omega) | rfl | fail))) rfl ?_) | (refine hw_v (ov_not_p rfl) rfl ?_) | (refine hw_v (ov_cat rfl rfl (by first | omega | (simp only [List.length_append, List.length_cons, List.length_nil]; omega) | (simp; omega))) rfl ?_) | fail) | (refine hl_op rfl ?_) | (refine k_ho ?_; first | (refine ho_n ?_) | fail) | (refine hl_nil ?_) | (refine hq_back ?_)))
    refine awp_loopq (fun p : Nat × Nat × List UInt8 => ⟨[(1, .op 0 0), (4, .op 1 0), (38, .rs (h.fs.map prAV)), (39, .int .i64 ((h.fs.map prAV).length : Int)), (40, .int .i64 p.1)], [.box [.str h.m, .str h.t, .int .i64 h.v, .rs (h.fs.map prAV)], .box [.op 1 0, .os 2 p.2.1] (some 59), .row 5 1 p.2.1 0 (bytesAV p.2.2)]⟩)
      (fun p => p.1 ≤ h.fs.length ∧ p.2.2 = (rLine h ++ [13, 10]) ++ linesOf ((h.fs.take p.1).map fLine)) (fun p => h.fs.length - p.1) (0, 1, [] ++ (((((h.m ++ [32]) ++ h.t) ++ [32, 72, 84, 84, 80, 47, 49, 46]) ++ digS h.v) ++ [13, 10])) (.of (.same (by repeat constructor))) ⟨Nat.zero_le _, by rw [rLine_eq]; simp [linesOf]⟩ ?_
    rintro ⟨i, ver, l⟩ ⟨hi, hl⟩
    dsimp only at hi hl ⊢
    have hll := linesOf_take_le (ls := h.fs.map fLine) i
    rw [← List.map_take] at hll
    have hrl := rLine_len h
    have hlb : l.length ≤ 35184372088832 + 100 := by rw [hl, List.length_append, hrl]; omega
    by_cases hlt : i < h.fs.length
    · obtain ⟨p, hp⟩ : ∃ p, h.fs[i]? = some p := ⟨_, List.getElem?_eq_getElem hlt⟩
      have hrow := prAV_row hp
      have hnx := fLines_next hp
      have hpl : p.1.length + p.2.length ≤ 35184372088832 := by
        have := linesOf_take_le (ls := h.fs.map fLine) (i + 1)
        rw [← List.map_take, hnx, List.length_append] at this
        simp only [List.length_append, List.length_cons, List.length_nil] at this
        omega
      repeat' (first | (first | (refine al_v (ov_indexAddr rfl rfl (by omega) hrow rfl) rfl ?_) | (refine k_call ?_; refine al_acall [1, 2] rfl rfl (a_writeString (.inr rfl) (bs := l) (s := ((p.1 ++ [58, 32]) ++ p.2) ++ [13, 10]) (ver := ver) (by simp only [List.length_append, List.length_cons, List.length_nil]; omega)) (by repeat constructor) (by repeat constructor) rfl rfl ?_; rintro _ _ ⟨rfl, rfl⟩; refine ⟨_, _, by repeat constructor, by repeat constructor, ?_⟩)) | (refine k_al ?_; first | (refine al_v (ov_move rfl) rfl ?_) | (refine k_g ?_; first | (refine al_gy' rfl rfl (by with_reducible rfl) ?_) | (refine al_gnt rfl rfl (by with_reducible rfl) rfl ?_) | (refine al_gnf rfl rfl (by with_reducible rfl) rfl ?_) | (refine al_gu rfl rfl rfl ?_) | (refine al_gsp rfl rfl (fun hc => ?_) (fun hc => ?_) <;> (try (exfalso; omega))) | fail) | (refine al_v (ov_fieldAddr rfl rfl) rfl ?_) | (refine k_load ?_; first | (refine al_v (ov_load rfl rfl) rfl ?_) | (refine al_v (ov_load_agg rfl rfl rfl) rfl ?_)) | (refine k_bin ?_; first | (refine al_v (ov_cmp rfl rfl rfl) rfl ?_) | (refine al_v (ov_cat rfl rfl (by first | omega | (simp only [List.length_append, List.length_cons, List.length_nil]; omega) | (simp; omega))) rfl ?_) | (refine al_v (ov_add rfl rfl (by (first | exact w64 (by omega) (by omega) | rfl | fail))) rfl ?_) | (refine al_v (ov_sne rfl rfl) rfl ?_) | fail) | (refine k_pick ?_; first | (refine al_v (ov_pick_t' rfl (by with_reducible rfl) rfl) rfl ?_) | (refine al_v (ov_pick_f' rfl (by with_reducible rfl) rfl) rfl ?_) | fail) | (refine al_v (ov_assign rfl) rfl ?_) | (refine k_call ?_; first | (refine al_v (ov_len_rs rfl) rfl ?_) | fail) | (refine al_v (ov_extract rfl rfl) rfl ?_) | (refine al_nil ?_) | (refine al_box rfl rfl rfl (by (first | exact (rfl : _ = 0) | exact (rfl : _ = 1) | exact (rfl : _ = 2) | exact (rfl : _ = 3) | exact (rfl : _ = 4) | exact (rfl : _ = 5) | exact (rfl : _ = 6))) (by repeat constructor) rfl ?_) | (refine al_alloc rfl rfl rfl (by (first | exact (rfl : _ = 0) | exact (rfl : _ = 1) | exact (rfl : _ = 2) | exact (rfl : _ = 3) | exact (rfl : _ = 4) | exact (rfl : _ = 5) | exact (rfl : _ = 6))) (by repeat constructor) rfl ?_) | (refine al_store rfl rfl rfl rfl rfl (by repeat constructor) (by repeat constructor) ?_) | (refine al_v (ov_not_p rfl) rfl ?_) | fail) | (first | (refine thn_n ?_) | (refine k_awp ?_; first | (refine awp_seq (awp_region ?_)) | (refine awp_seq ?_) | (refine awp_region ?_) | (refine k_cond ?_; first | (refine awp_cond_t' rfl (by with_reducible rfl) ?_) | (refine awp_cond_f' rfl (by with_reducible rfl) ?_) | (refine awp_cond_p rfl (fun hc => ?_) (fun hc => ?_) <;> (try (exfalso; omega))) | fail) | (refine awp_block ?_) | (refine awp_ret ?_) | (refine awp_skip ?_) | (refine awp_exit ?_) | fail) | (refine thn_ret ?_) | (refine lq_exit ?_) | (refine thn_exit ?_) | (refine inb_n ?_) | (refine inb_here ?_) | fail))
      first | refine lq_back (i + 1, ver + 1, l ++ (((p.1 ++ [58, 32]) ++ p.2) ++ [13, 10])) (.of (.same (by repeat constructor))) ?_ ?_ | refine lq_back (i + 1, ver + 1, l ++ (((p.1 ++ [58, 32]) ++ p.2) ++ [13, 10])) (.of (wk_drop [_] rfl (by repeat constructor) rfl (by repeat constructor) rfl)) ?_ ?_ | refine lq_back (i + 1, ver + 1, l ++ (((p.1 ++ [58, 32]) ++ p.2) ++ [13, 10])) (.of (wk_drop [_, _] rfl (by repeat constructor) rfl (by repeat constructor) rfl)) ?_ ?_ | refine lq_back (i + 1, ver + 1, l ++ (((p.1 ++ [58, 32]) ++ p.2) ++ [13, 10])) (.of (wk_drop [_, _, _] rfl (by repeat constructor) rfl (by repeat constructor) rfl)) ?_ ?_
      · exact ⟨by dsimp only; omega, by dsimp only; rw [hl, hnx, List.append_assoc]⟩
      · dsimp only; omega
    · have hie : i = h.fs.length := by omega
      subst hie
      rw [List.take_length] at hl
      have he : l ++ [13, 10] = printS h := by rw [printS_eq, hl]
      have hP := s_parse (w0 := w0) (base := base) (s := l ++ [13, 10]) hG
      obtain ⟨x, st, a, hx⟩ : ∃ x st a, headParse (l ++ [13, 10]) = (x, st, a) := ⟨_, _, _, rfl⟩
      unfold prR at hP
      rw [hx] at hP
      dsimp only at hP
      have hxf : x.fs.length ≤ 32 := by have := headParse_fs (l ++ [13, 10]); rw [hx] at this; exact this
      have hE := s_eqPairs (w0 := w0) (base := base) (f := x.fs) (g := h.fs) (by omega) hf
      have hok : printOk h ↔ st = 0 ∧ x = h := by
        unfold printOk
        rw [← he, hx]
        constructor
        · exact fun k => ⟨k.2.2.1, k.2.2.2⟩
        · rintro ⟨k1, k2⟩
          refine ⟨by subst k2; omega, hv, k1, k2⟩
      repeat' (first | (first | (refine k_call ?_; refine al_acall [1, 2] rfl rfl (a_writeString (.inr rfl) (bs := l) (s := [13, 10]) (ver := ver) (by simp only [List.length_cons, List.length_nil]; omega)) (by repeat constructor) (by repeat constructor) rfl rfl ?_; rintro _ _ ⟨rfl, rfl⟩; refine ⟨_, _, by repeat constructor, by repeat constructor, ?_⟩) | (refine k_call ?_; refine al_acall [1, 2] rfl rfl (a_string (.inr rfl) (l := l ++ [13, 10]) (ver := ver + 1) ‹BldB (l ++ [13, 10]) (ver + 1) _› (by simp; omega)) (by repeat constructor) (by repeat (first | exact bld_rn ‹_› | constructor)) rfl rfl ?_; rintro _ _ ⟨rfl, o', rfl, hB⟩; refine ⟨_, _, by repeat constructor, (by repeat (first | exact bld_rn ‹_› | constructor)), ?_⟩) | (refine k_call ?_; refine al_acall [1, 2] rfl rfl (a_string (.inr rfl) (l := l ++ [13, 10]) (ver := ver + 1) (.inl rfl) (by simp; omega)) (by repeat constructor) (by repeat (first | exact bld_rn ‹_› | constructor)) rfl rfl ?_; rintro _ _ ⟨rfl, o', rfl, hB⟩; refine ⟨_, _, by repeat constructor, (by repeat (first | exact bld_rn ‹_› | constructor)), ?_⟩) | (refine k_call ?_; refine al_call rfl rfl rfl rfl hP ?_; rintro _ rfl) | (refine k_call ?_; refine al_call rfl rfl rfl rfl hE ?_; rintro _ rfl)) | (refine k_al ?_; first | (refine al_v (ov_move rfl) rfl ?_) | (refine k_g ?_; first | (refine al_gy' rfl rfl (by with_reducible rfl) ?_) | (refine al_gnt rfl rfl (by with_reducible rfl) rfl ?_) | (refine al_gnf rfl rfl (by with_reducible rfl) rfl ?_) | (refine al_gu rfl rfl rfl ?_) | (refine al_gsp rfl rfl (fun hc => ?_) (fun hc => ?_) <;> (try (exfalso; omega))) | fail) | (refine al_v (ov_fieldAddr rfl rfl) rfl ?_) | (refine k_load ?_; first | (refine al_v (ov_load rfl rfl) rfl ?_) | (refine al_v (ov_load_agg rfl rfl rfl) rfl ?_)) | (refine k_bin ?_; first | (refine al_v (ov_cmp rfl rfl rfl) rfl ?_) | (refine al_v (ov_cat rfl rfl (by first | omega | (simp only [List.length_append, List.length_cons, List.length_nil]; omega) | (simp; omega))) rfl ?_) | (refine al_v (ov_add rfl rfl (by (first | exact w64 (by omega) (by omega) | rfl | fail))) rfl ?_) | (refine al_v (ov_sne rfl rfl) rfl ?_) | fail) | (refine k_pick ?_; first | (refine al_v (ov_pick_t' rfl (by with_reducible rfl) rfl) rfl ?_) | (refine al_v (ov_pick_f' rfl (by with_reducible rfl) rfl) rfl ?_) | fail) | (refine al_v (ov_assign rfl) rfl ?_) | (refine k_call ?_; first | (refine al_v (ov_len_rs rfl) rfl ?_) | fail) | (refine al_v (ov_extract rfl rfl) rfl ?_) | (refine al_nil ?_) | (refine al_box rfl rfl rfl (by (first | exact (rfl : _ = 0) | exact (rfl : _ = 1) | exact (rfl : _ = 2) | exact (rfl : _ = 3) | exact (rfl : _ = 4) | exact (rfl : _ = 5) | exact (rfl : _ = 6))) (by repeat constructor) rfl ?_) | (refine al_alloc rfl rfl rfl (by (first | exact (rfl : _ = 0) | exact (rfl : _ = 1) | exact (rfl : _ = 2) | exact (rfl : _ = 3) | exact (rfl : _ = 4) | exact (rfl : _ = 5) | exact (rfl : _ = 6))) (by repeat constructor) rfl ?_) | (refine al_store rfl rfl rfl rfl rfl (by repeat constructor) (by repeat constructor) ?_) | (refine al_v (ov_not_p rfl) rfl ?_) | fail) | (first | (refine thn_n ?_) | (refine k_awp ?_; first | (refine awp_seq (awp_region ?_)) | (refine awp_seq ?_) | (refine awp_region ?_) | (refine k_cond ?_; first | (refine awp_cond_t' rfl (by with_reducible rfl) ?_) | (refine awp_cond_f' rfl (by with_reducible rfl) ?_) | (refine awp_cond_p rfl (fun hc => ?_) (fun hc => ?_) <;> (try (exfalso; omega))) | fail) | (refine awp_block ?_) | (refine awp_ret ?_) | (refine awp_skip ?_) | (refine awp_exit ?_) | fail) | (refine thn_ret ?_) | (refine lq_exit ?_) | (refine thn_exit ?_) | (refine inb_n ?_) | (refine inb_here ?_) | fail))
      all_goals first
        | (refine ret2 (by first | exact .inr rfl | exact .inl rfl) rfl rfl rfl ?_
           exact ⟨prnR_not fun k => by
             obtain ⟨k1, k2⟩ := hok.1 k
             subst k2
             first | (exact absurd k1 ‹_›) | (exact absurd rfl ‹_›), rfl⟩)
        | (refine ret2 (by first | exact .inr rfl | exact .inl rfl) rfl rfl rfl ?_
           exact ⟨prnR_yes (hok.2 ⟨by first | omega | (exact Classical.not_not.1 ‹_›), by cases x; cases h; simp_all⟩) he, rfl⟩)
end
end Go.Proofs.YtffcgpkbibijpaaDoor.L

namespace Go.Proofs.YtffcgpkbibijpaaDoor.L
open Go Go.RowKit Go.Proofs
set_option linter.unusedVariables false
set_option linter.unusedSimpArgs false
set_option maxRecDepth 100000
attribute [local irreducible] AL QL AWp Thn InB RetQ ACalls LoopQ HL HO HW HQ NoG

section
variable {w0 : World} {base : Nat}
set_option maxHeartbeats 2000000 in
theorem s_lawPrints {h : Hd} {name : List UInt8} (hG : Glob w0 base) (hs : Small h) (hn : name.length ≤ 140737488351232) : PCalls (EE w0 base) 5 [hdAV h.m h.t h.v h.fs, .str name] fun rv => rv = .bool true := by
  have hA := s_print (w0 := w0) (base := base) hG hs.z hs.f
  have hB := s_printR (w0 := w0) (base := base) hs.z hs.f
  obtain ⟨s, e, hse⟩ : ∃ s e, ∀ rv, prnR h rv ↔ rv = .tup [.str s, .int .i64 e] := ⟨_, _, fun _ => Iff.rfl⟩
  have hA' := pcalls_mono hA fun rv k => (hse rv).1 k
  have hB' := pcalls_mono hB fun rv k => (hse rv).1 k
  have hV := s_values (w0 := w0) (base := base) (m := h.m) (t := h.t) (v := h.v) (fs := h.fs) hn hs.f
  have hW := s_valuesR (w0 := w0) (base := base) (m := h.m) (t := h.t) (v := h.v) (fs := h.fs) hn hs.f
  have hvl := valsOf_len h.fs name
  have hf := hs.f
  have hT := s_texts (w0 := w0) (base := base) (f := valsOf h.fs name) (g := valsOf h.fs name) (by omega) (by omega)
  rw [decide_eq_true rfl] at hT
  refine acalls_of Tryd.func5 rfl rfl rfl (.cons (.cons .nil)) ?_
  repeat' (first | (first | (refine awp_held (id := 3) [] [⟨0, true, [], bl 21 2⟩, ⟨1, true, [], bl 21 1⟩, ⟨2, true, [], bl 21 3⟩, ⟨3, true, [], bl 21 7⟩, ⟨4, true, [], bl 21 47⟩, ⟨5, true, [], bl 21 31⟩, ⟨6, true, [], bl 21 63⟩, ⟨7, true, [], bl 21 127⟩, ⟨8, true, [], bl 21 255⟩, ⟨9, true, [], bl 21 13823⟩, ⟨10, true, [], bl 21 13311⟩, ⟨12, true, [], bl 21 12287⟩, ⟨13, true, [], bl 21 8191⟩, ⟨11, false, [], []⟩, ⟨14, false, [], []⟩, ⟨15, false, [], []⟩, ⟨16, true, [], bl 21 65535⟩, ⟨17, true, [], bl 21 131071⟩, ⟨18, false, [], []⟩, ⟨19, true, [], bl 21 524287⟩, ⟨20, true, [], bl 21 1048575⟩] (by kernel_rfl) (by kernel_rfl) rfl (by kernel_rfl) ?_) | (refine k_call ?_; refine al_call rfl rfl rfl rfl hA' ?_; rintro _ rfl) | (refine k_call ?_; refine al_call rfl rfl rfl rfl hB' ?_; rintro _ rfl) | (refine k_call ?_; refine al_call rfl rfl rfl rfl hV ?_; rintro _ rfl) | (refine k_call ?_; refine al_call rfl rfl rfl rfl hW ?_; rintro _ rfl) | (refine k_call ?_; refine al_call rfl rfl rfl rfl hT ?_; rintro _ rfl) | (refine k_call ?_; refine al_call rfl rfl rfl rfl (s_awake hG) ?_; rintro _ rfl)) | (refine k_al ?_; first | (refine al_v (ov_move rfl) rfl ?_) | (refine k_load ?_; first | (refine al_v (ov_load_agg rfl rfl rfl) rfl ?_) | fail) | (refine al_v (ov_assign rfl) rfl ?_) | (refine al_v (ov_extract rfl rfl) rfl ?_) | (refine al_nil ?_) | (refine al_box rfl rfl rfl (by (first | exact (rfl : _ = 0) | exact (rfl : _ = 1) | exact (rfl : _ = 2) | exact (rfl : _ = 3) | exact (rfl : _ = 4) | exact (rfl : _ = 5) | exact (rfl : _ = 6))) (by repeat constructor) rfl ?_) | fail) | (first | (refine thn_n ?_) | (refine k_awp ?_; first | (refine awp_seq (awp_region ?_)) | (refine awp_seq ?_) | (refine awp_region ?_) | (refine awp_ret ?_) | fail) | fail) | (first | (refine k_hw ?_; first | (refine hw_s rfl ?_) | (refine hw_v (ov_move rfl) rfl ?_) | (refine hw_v (ov_assign rfl) rfl ?_) | (refine hw_v (ov_load_agg rfl rfl rfl) rfl ?_) | (refine hw_v (ov_cmp rfl rfl rfl) rfl ?_) | (refine hw_v (ov_pick_t' rfl (by with_reducible rfl) rfl) rfl ?_) | (refine hw_v (ov_pick_f' rfl (by with_reducible rfl) rfl) rfl ?_) | (refine hw_v (ov_seq rfl rfl) rfl ?_) | (refine hw_v (ov_extract rfl rfl) rfl ?_) | fail) | (refine hl_op rfl ?_) | (refine k_ho ?_; first | (refine ho_n ?_) | (refine ho_gy rfl rfl (by with_reducible rfl) ?_) | (refine ho_gnt rfl rfl (by with_reducible rfl) rfl ?_) | (refine ho_gsp rfl rfl (fun hc => ?_) (fun hc => ?_) <;> (try (exfalso; omega))) | fail) | (refine hl_nil ?_) | (refine hq_back ?_)))
  all_goals first
    | (refine ret1 (by first | exact .inr rfl | exact .inl rfl) rfl rfl ?_
       exact ⟨rfl, rfl⟩)
    | exact absurd rfl ‹_›
set_option maxHeartbeats 2000000 in
theorem s_lawBack {h : Hd} (hG : Glob w0 base) (hs : Small h) : PCalls (EE w0 base) 6 [hdAV h.m h.t h.v h.fs] fun rv => rv = .bool true := by
  have hA := s_print (w0 := w0) (base := base) hG hs.z hs.f
  have hB := s_printR (w0 := w0) (base := base) hs.z hs.f
  by_cases hp : printOk h
  · have hA' := pcalls_mono hA (R' := fun rv => rv = .tup [.str (printS h), .int .i64 0]) fun rv k => by unfold prnR at k; rw [if_pos hp, if_pos hp] at k; exact k
    have hP := s_parse (w0 := w0) (base := base) (s := printS h) hG
    unfold prR at hP
    rw [back_ok hp] at hP
    have hf := hs.f
    have hS := s_same (w0 := w0) (base := base) (m := h.m) (t := h.t) (v := h.v) (m' := h.m) (t' := h.t) (v' := h.v) (f := h.fs) (g := h.fs) hf hf
    rw [decide_eq_true ⟨rfl, rfl, rfl, rfl⟩] at hS
    refine acalls_of Tryd.func6 rfl rfl rfl (.cons .nil) ?_
    repeat' (first | (first | (refine k_call ?_; refine al_call rfl rfl rfl rfl hA' ?_; rintro _ rfl) | (refine k_call ?_; refine al_call rfl rfl rfl rfl hP ?_; rintro _ rfl) | (refine k_call ?_; refine al_call rfl rfl rfl rfl hS ?_; rintro _ rfl) | (refine k_call ?_; refine al_call rfl rfl rfl rfl (s_awake hG) ?_; rintro _ rfl)) | (refine k_al ?_; first | (refine al_v (ov_move rfl) rfl ?_) | (refine k_g ?_; first | (refine al_gy' rfl rfl (by with_reducible rfl) ?_) | (refine al_gnt rfl rfl (by with_reducible rfl) rfl ?_) | (refine al_gsp rfl rfl (fun hc => ?_) (fun hc => ?_) <;> (try (exfalso; omega))) | fail) | (refine k_load ?_; first | (refine al_v (ov_load_agg rfl rfl rfl) rfl ?_) | fail) | (refine k_bin ?_; first | (refine al_v (ov_cmp rfl rfl rfl) rfl ?_) | (refine al_v (ov_seq rfl rfl) rfl ?_) | fail) | (refine k_pick ?_; first | (refine al_v (ov_pick_t' rfl (by with_reducible rfl) rfl) rfl ?_) | (refine al_v (ov_pick_f' rfl (by with_reducible rfl) rfl) rfl ?_) | fail) | (refine al_v (ov_assign rfl) rfl ?_) | (refine al_v (ov_extract rfl rfl) rfl ?_) | (refine al_nil ?_) | (refine al_box rfl rfl rfl (by (first | exact (rfl : _ = 0) | exact (rfl : _ = 1) | exact (rfl : _ = 2) | exact (rfl : _ = 3) | exact (rfl : _ = 4) | exact (rfl : _ = 5) | exact (rfl : _ = 6))) (by repeat constructor) rfl ?_) | (refine al_alloc rfl rfl rfl (by (first | exact (rfl : _ = 0) | exact (rfl : _ = 1) | exact (rfl : _ = 2) | exact (rfl : _ = 3) | exact (rfl : _ = 4) | exact (rfl : _ = 5) | exact (rfl : _ = 6))) (by repeat constructor) rfl ?_) | (refine al_store rfl rfl rfl rfl rfl (by repeat constructor) (by repeat constructor) ?_) | fail) | (first | (refine thn_n ?_) | (refine k_awp ?_; first | (refine awp_seq (awp_region ?_)) | (refine awp_seq ?_) | (refine awp_region ?_) | (refine k_cond ?_; first | (refine awp_cond_p rfl (fun hc => ?_) (fun hc => ?_) <;> (try (exfalso; omega))) | fail) | (refine awp_ret ?_) | (refine awp_skip ?_) | fail) | (refine thn_ret ?_) | fail))
    all_goals first
      | (refine ret1 (by first | exact .inr rfl | exact .inl rfl) rfl rfl ?_
         exact ⟨rfl, rfl⟩)
      | exact absurd rfl ‹_›
  · have hA' := pcalls_mono hA (R' := fun rv => rv = .tup [.str [], .int .i64 70]) fun rv k => by unfold prnR at k; rw [if_neg hp, if_neg hp] at k; exact k
    have hB' := pcalls_mono hB (R' := fun rv => rv = .tup [.str [], .int .i64 70]) fun rv k => by unfold prnR at k; rw [if_neg hp, if_neg hp] at k; exact k
    refine acalls_of Tryd.func6 rfl rfl rfl (.cons .nil) ?_
    repeat' (first | (first | (refine k_call ?_; refine al_call rfl rfl rfl rfl hA' ?_; rintro _ rfl) | (refine k_call ?_; refine al_call rfl rfl rfl rfl hB' ?_; rintro _ rfl) | (refine k_call ?_; refine al_call rfl rfl rfl rfl (s_awake hG) ?_; rintro _ rfl)) | (refine k_al ?_; first | (refine al_v (ov_move rfl) rfl ?_) | (refine k_g ?_; first | (refine al_gy' rfl rfl (by with_reducible rfl) ?_) | (refine al_gnt rfl rfl (by with_reducible rfl) rfl ?_) | (refine al_gsp rfl rfl (fun hc => ?_) (fun hc => ?_) <;> (try (exfalso; omega))) | fail) | (refine k_load ?_; first | (refine al_v (ov_load_agg rfl rfl rfl) rfl ?_) | fail) | (refine k_bin ?_; first | (refine al_v (ov_cmp rfl rfl rfl) rfl ?_) | (refine al_v (ov_seq rfl rfl) rfl ?_) | fail) | (refine k_pick ?_; first | (refine al_v (ov_pick_t' rfl (by with_reducible rfl) rfl) rfl ?_) | (refine al_v (ov_pick_f' rfl (by with_reducible rfl) rfl) rfl ?_) | fail) | (refine al_v (ov_assign rfl) rfl ?_) | (refine al_v (ov_extract rfl rfl) rfl ?_) | (refine al_nil ?_) | (refine al_box rfl rfl rfl (by (first | exact (rfl : _ = 0) | exact (rfl : _ = 1) | exact (rfl : _ = 2) | exact (rfl : _ = 3) | exact (rfl : _ = 4) | exact (rfl : _ = 5) | exact (rfl : _ = 6))) (by repeat constructor) rfl ?_) | (refine al_alloc rfl rfl rfl (by (first | exact (rfl : _ = 0) | exact (rfl : _ = 1) | exact (rfl : _ = 2) | exact (rfl : _ = 3) | exact (rfl : _ = 4) | exact (rfl : _ = 5) | exact (rfl : _ = 6))) (by repeat constructor) rfl ?_) | (refine al_store rfl rfl rfl rfl rfl (by repeat constructor) (by repeat constructor) ?_) | fail) | (first | (refine thn_n ?_) | (refine k_awp ?_; first | (refine awp_seq (awp_region ?_)) | (refine awp_seq ?_) | (refine awp_region ?_) | (refine k_cond ?_; first | (refine awp_cond_p rfl (fun hc => ?_) (fun hc => ?_) <;> (try (exfalso; omega))) | fail) | (refine awp_ret ?_) | (refine awp_skip ?_) | fail) | (refine thn_ret ?_) | fail))
    all_goals first
      | (refine ret1 (by first | exact .inr rfl | exact .inl rfl) rfl rfl ?_
         exact ⟨rfl, rfl⟩)
      | exact absurd rfl ‹_›
set_option maxHeartbeats 2000000 in
theorem s_lawAgain {s : List UInt8} (hG : Glob w0 base) : PCalls (EE w0 base) 7 [.str s] fun rv => rv = .bool true := by
  have hP := s_parse (w0 := w0) (base := base) (s := s) hG
  have hR := s_parseR (w0 := w0) (base := base) (s := s)
  obtain ⟨h, st, p, he⟩ : ∃ h st p, headParse s = (h, st, p) := ⟨_, _, _, rfl⟩
  unfold prR at hP hR
  rw [he] at hP hR
  dsimp only at hP hR
  by_cases hst : st = 0
  · subst hst
    have hs := small_parsed he
    have hf := hs.f
    have hA := s_print (w0 := w0) (base := base) hG hs.z hs.f
    by_cases hp : printOk h
    · have hA' := pcalls_mono hA (R' := fun rv => rv = .tup [.str (printS h), .int .i64 0]) fun rv k => by unfold prnR at k; rw [if_pos hp, if_pos hp] at k; exact k
      have hQ := s_parse (w0 := w0) (base := base) (s := printS h) hG
      unfold prR at hQ
      rw [back_ok hp] at hQ
      have hS := s_same (w0 := w0) (base := base) (m := h.m) (t := h.t) (v := h.v) (m' := h.m) (t' := h.t) (v' := h.v) (f := h.fs) (g := h.fs) hf hf
      rw [decide_eq_true ⟨rfl, rfl, rfl, rfl⟩] at hS
      refine acalls_of Tryd.func7 rfl rfl rfl (.cons .nil) ?_
      repeat' (first | (first | (refine k_call ?_; refine al_call rfl rfl rfl rfl hP ?_; rintro _ rfl) | (refine k_call ?_; refine al_call rfl rfl rfl rfl hA' ?_; rintro _ rfl) | (refine k_call ?_; refine al_call rfl rfl rfl rfl hQ ?_; rintro _ rfl) | (refine k_call ?_; refine al_call rfl rfl rfl rfl hS ?_; rintro _ rfl) | (refine k_call ?_; refine al_call rfl rfl rfl rfl (s_awake hG) ?_; rintro _ rfl)) | (refine k_al ?_; first | (refine al_v (ov_move rfl) rfl ?_) | (refine k_g ?_; first | (refine al_gy' rfl rfl (by with_reducible rfl) ?_) | (refine al_gnt rfl rfl (by with_reducible rfl) rfl ?_) | (refine al_gsp rfl rfl (fun hc => ?_) (fun hc => ?_) <;> (try (exfalso; omega))) | fail) | (refine k_load ?_; first | (refine al_v (ov_load_agg rfl rfl rfl) rfl ?_) | fail) | (refine k_bin ?_; first | (refine al_v (ov_cmp rfl rfl rfl) rfl ?_) | fail) | (refine k_pick ?_; first | (refine al_v (ov_pick_t' rfl (by with_reducible rfl) rfl) rfl ?_) | (refine al_v (ov_pick_f' rfl (by with_reducible rfl) rfl) rfl ?_) | fail) | (refine al_v (ov_assign rfl) rfl ?_) | (refine k_call ?_; first | (refine al_v (ov_len_str rfl) rfl ?_) | fail) | (refine al_v (ov_extract rfl rfl) rfl ?_) | (refine al_nil ?_) | (refine al_alloc rfl rfl rfl (by (first | exact (rfl : _ = 0) | exact (rfl : _ = 1) | exact (rfl : _ = 2) | exact (rfl : _ = 3) | exact (rfl : _ = 4) | exact (rfl : _ = 5) | exact (rfl : _ = 6))) (by repeat constructor) rfl ?_) | (refine al_store rfl rfl rfl rfl rfl (by repeat constructor) (by repeat constructor) ?_) | fail) | (first | (refine thn_n ?_) | (refine k_awp ?_; first | (refine awp_seq (awp_region ?_)) | (refine awp_seq ?_) | (refine awp_region ?_) | (refine k_cond ?_; first | (refine awp_cond_p rfl (fun hc => ?_) (fun hc => ?_) <;> (try (exfalso; omega))) | fail) | (refine awp_ret ?_) | (refine awp_skip ?_) | fail) | (refine thn_ret ?_) | fail))
      all_goals first
        | (refine ret1 (by first | exact .inr rfl | exact .inl rfl) rfl rfl ?_
           exact ⟨rfl, rfl⟩)
        | exact absurd rfl ‹_›
    · have hlong : 1024 < s.length := Nat.lt_of_not_le fun k => hp (again_ok he k)
      have hA' := pcalls_mono hA (R' := fun rv => rv = .tup [.str [], .int .i64 70]) fun rv k => by unfold prnR at k; rw [if_neg hp, if_neg hp] at k; exact k
      refine acalls_of Tryd.func7 rfl rfl rfl (.cons .nil) ?_
      repeat' (first | (first | (refine k_call ?_; refine al_call rfl rfl rfl rfl hP ?_; rintro _ rfl) | (refine k_call ?_; refine al_call rfl rfl rfl rfl hA' ?_; rintro _ rfl) | (refine k_call ?_; refine al_call rfl rfl rfl rfl (s_awake hG) ?_; rintro _ rfl)) | (refine k_al ?_; first | (refine al_v (ov_move rfl) rfl ?_) | (refine k_g ?_; first | (refine al_gy' rfl rfl (by with_reducible rfl) ?_) | (refine al_gnt rfl rfl (by with_reducible rfl) rfl ?_) | (refine al_gsp rfl rfl (fun hc => ?_) (fun hc => ?_) <;> (try (exfalso; omega))) | fail) | (refine k_load ?_; first | (refine al_v (ov_load_agg rfl rfl rfl) rfl ?_) | fail) | (refine k_bin ?_; first | (refine al_v (ov_cmp rfl rfl rfl) rfl ?_) | fail) | (refine k_pick ?_; first | (refine al_v (ov_pick_t' rfl (by with_reducible rfl) rfl) rfl ?_) | (refine al_v (ov_pick_f' rfl (by with_reducible rfl) rfl) rfl ?_) | fail) | (refine al_v (ov_assign rfl) rfl ?_) | (refine k_call ?_; first | (refine al_v (ov_len_str rfl) rfl ?_) | fail) | (refine al_v (ov_extract rfl rfl) rfl ?_) | (refine al_nil ?_) | (refine al_alloc rfl rfl rfl (by (first | exact (rfl : _ = 0) | exact (rfl : _ = 1) | exact (rfl : _ = 2) | exact (rfl : _ = 3) | exact (rfl : _ = 4) | exact (rfl : _ = 5) | exact (rfl : _ = 6))) (by repeat constructor) rfl ?_) | (refine al_store rfl rfl rfl rfl rfl (by repeat constructor) (by repeat constructor) ?_) | fail) | (first | (refine thn_n ?_) | (refine k_awp ?_; first | (refine awp_seq (awp_region ?_)) | (refine awp_seq ?_) | (refine awp_region ?_) | (refine k_cond ?_; first | (refine awp_cond_p rfl (fun hc => ?_) (fun hc => ?_) <;> (try (exfalso; omega))) | fail) | (refine awp_ret ?_) | (refine awp_skip ?_) | fail) | (refine thn_ret ?_) | fail))
      all_goals first
        | (refine ret1 (by first | exact .inr rfl | exact .inl rfl) rfl rfl ?_
           exact ⟨rfl, rfl⟩)
        | exact absurd rfl ‹_›
        | omega
  · refine acalls_of Tryd.func7 rfl rfl rfl (.cons .nil) ?_
    repeat' (first | (first | (refine k_call ?_; refine al_call rfl rfl rfl rfl hP ?_; rintro _ rfl) | (refine k_call ?_; refine al_call rfl rfl rfl rfl hR ?_; rintro _ rfl) | (refine k_call ?_; refine al_call rfl rfl rfl rfl (s_awake hG) ?_; rintro _ rfl)) | (refine k_al ?_; first | (refine al_v (ov_move rfl) rfl ?_) | (refine k_g ?_; first | (refine al_gy' rfl rfl (by with_reducible rfl) ?_) | (refine al_gnt rfl rfl (by with_reducible rfl) rfl ?_) | (refine al_gsp rfl rfl (fun hc => ?_) (fun hc => ?_) <;> (try (exfalso; omega))) | fail) | (refine k_load ?_; first | (refine al_v (ov_load_agg rfl rfl rfl) rfl ?_) | fail) | (refine k_bin ?_; first | (refine al_v (ov_cmp rfl rfl rfl) rfl ?_) | fail) | (refine k_pick ?_; first | (refine al_v (ov_pick_t' rfl (by with_reducible rfl) rfl) rfl ?_) | (refine al_v (ov_pick_f' rfl (by with_reducible rfl) rfl) rfl ?_) | fail) | (refine al_v (ov_assign rfl) rfl ?_) | (refine k_call ?_; first | (refine al_v (ov_len_str rfl) rfl ?_) | fail) | (refine al_v (ov_extract rfl rfl) rfl ?_) | (refine al_nil ?_) | (refine al_alloc rfl rfl rfl (by (first | exact (rfl : _ = 0) | exact (rfl : _ = 1) | exact (rfl : _ = 2) | exact (rfl : _ = 3) | exact (rfl : _ = 4) | exact (rfl : _ = 5) | exact (rfl : _ = 6))) (by repeat constructor) rfl ?_) | (refine al_store rfl rfl rfl rfl rfl (by repeat constructor) (by repeat constructor) ?_) | fail) | (first | (refine thn_n ?_) | (refine k_awp ?_; first | (refine awp_seq (awp_region ?_)) | (refine awp_seq ?_) | (refine awp_region ?_) | (refine k_cond ?_; first | (refine awp_cond_p rfl (fun hc => ?_) (fun hc => ?_) <;> (try (exfalso; omega))) | fail) | (refine awp_ret ?_) | (refine awp_skip ?_) | fail) | (refine thn_ret ?_) | fail))
    all_goals first
      | (refine ret1 (by first | exact .inr rfl | exact .inl rfl) rfl rfl ?_
         exact ⟨rfl, rfl⟩)
      | exact absurd rfl ‹_›
      | omega
end
end Go.Proofs.YtffcgpkbibijpaaDoor.L

namespace Go.Proofs.YtffcgpkbibijpaaDoor.L
open Go Go.RowKit Go.Proofs
set_option linter.unusedVariables false
set_option linter.unusedSimpArgs false
set_option maxRecDepth 100000

def isLow (b : UInt8) : Bool := decide (97 ≤ b.toNat) && decide (b.toNat ≤ 122)
def upB (i : Nat) (b : UInt8) : UInt8 := if isLow b && decide (i % 2 = 0) then b - 32 else b
def letGo (bl : List UInt8) : Nat → Bool → List UInt8 → List UInt8
  | _, _, [] => []
  | i, nm, b :: r =>
    if nm && decide ((if nm then upB i b else b) = 58) then (if nm then upB i b else b) :: (bl ++ letGo bl (i + 1) false r)
    else (if nm then upB i b else b) :: letGo bl (i + 1) (nm || decide (b = 10)) r
theorem low_up : ∀ b : UInt8, pToken b = true → lowB (if isLow b then b - 32 else b) = lowB b ∧ pToken (if isLow b then b - 32 else b) = true := u8_all (by decide +kernel)
theorem up_tok {i : Nat} {b : UInt8} (h : pToken b = true) : lowB (upB i b) = lowB b ∧ pToken (upB i b) = true := by
  have := low_up b h
  unfold upB
  cases hl : isLow b with
  | false => simp [h]
  | true =>
    rw [hl, if_pos rfl] at this
    by_cases hi : i % 2 = 0
    · simp [hi, this]
    · simp [hi, h]
theorem up_58 (i : Nat) : upB i 58 = 58 := by
  have h : isLow 58 = false := by decide
  unfold upB; rw [h]; rfl
theorem up_13 (i : Nat) : upB i 13 = 13 := by
  have h : isLow 13 = false := by decide
  unfold upB; rw [h]; rfl
theorem up_10 (i : Nat) : upB i 10 = 10 := by
  have h : isLow 10 = false := by decide
  unfold upB; rw [h]; rfl
theorem letGo_name (bl : List UInt8) : ∀ (n : List UInt8) (i : Nat) (r : List UInt8), n.all pToken = true →
    ∃ n', letGo bl i true (n ++ 58 :: r) = n' ++ 58 :: (bl ++ letGo bl (i + n.length + 1) false r) ∧ smallS n' = smallS n ∧ n'.all pToken = true ∧ n'.length = n.length := by
  intro n
  induction n with
  | nil =>
    intro i r _
    refine ⟨[], ?_, rfl, rfl, rfl⟩
    rw [List.nil_append, letGo]
    simp [up_58]
  | cons b t ih =>
    intro i r h
    rw [List.all_cons, Bool.and_eq_true] at h
    obtain ⟨n', h1, h2, h3, h4⟩ := ih (i + 1) r h.2
    obtain ⟨u1, u2⟩ := up_tok (i := i) h.1
    have u3 : upB i b ≠ 58 := fun e => by rw [e, tok_58] at u2; cases u2
    refine ⟨upB i b :: n', ?_, ?_, ?_, ?_⟩
    · rw [List.cons_append, letGo]
      simp only [if_true, Bool.true_and, Bool.true_or]
      rw [if_neg (by simpa using u3), h1]
      have : i + 1 + t.length + 1 = i + (b :: t).length + 1 := by simp; omega
      rw [this]
      rfl
    · unfold smallS at h2 ⊢
      rw [List.map_cons, List.map_cons, h2, u1]
    · rw [List.all_cons, u2, h3]; rfl
    · simp [h4]
theorem letGo_rest (bl : List UInt8) : ∀ (l : List UInt8) (i : Nat) (r : List UInt8), 10 ∉ l → letGo bl i false (l ++ 10 :: r) = l ++ 10 :: letGo bl (i + l.length + 1) true r := by
  intro l
  induction l with
  | nil => intro i r _; rw [List.nil_append, letGo]; simp
  | cons b t ih =>
    intro i r h
    rw [List.cons_append, letGo]
    have hb : b ≠ 10 := fun e => h (by simp [e])
    have ht : 10 ∉ t := fun e => h (by simp [e])
    simp only [Bool.false_and, Bool.false_or, Bool.false_eq_true, if_false]
    rw [decide_eq_false hb, ih _ _ ht]
    have : i + 1 + t.length + 1 = i + (b :: t).length + 1 := by simp; omega
    rw [this]
    rfl
theorem letGo_end (bl : List UInt8) (i : Nat) : letGo bl i true [13, 10] = [13, 10] := by
  simp [letGo, up_13, up_10]
theorem letters_fields (bl : List UInt8) (hb : ∀ b ∈ bl, b = 32 ∨ b = 9) : ∀ (fs : List (List UInt8 × List UInt8)) (i : Nat), (∀ p ∈ fs, FldOk p) → (∀ p ∈ fs, (fLine p).length + bl.length ≤ 1024) →
    ∃ ls, letGo bl i true (textOf (fs.map fLine)) = textOf ls ∧ ls.map fieldOf = fs ∧ (∀ l ∈ ls, FLine l) := by
  intro fs
  induction fs with
  | nil => intro i _ _; exact ⟨[], letGo_end bl i, rfl, by simp⟩
  | cons p fs ih =>
    intro i hok hlen
    have hp := hok p (by simp)
    have hl := hlen p (by simp)
    obtain ⟨n', h1, h2, h3, h4⟩ := letGo_name bl p.1 i (32 :: (p.2 ++ 13 :: 10 :: textOf (fs.map fLine))) hp.tok
    obtain ⟨ls, k1, k2, k3⟩ := ih (i + p.1.length + 1 + (32 :: (p.2 ++ [13])).length + 1) (fun q hq => hok q (by simp [hq])) (fun q hq => hlen q (by simp [hq]))
    have hnl : (n' ++ 58 :: ((bl ++ [32]) ++ p.2)).length ≤ 1024 := by
      unfold fLine at hl
      simp only [List.length_append, List.length_cons, List.length_nil] at hl ⊢
      omega
    obtain ⟨g1, g2⟩ := line_of (p := p) (n := n') (bl := bl ++ [32]) hp (by rw [h2, hp.low]) h3 (fun b hm => (List.mem_append.1 hm).elim (hb b) fun hm => .inl (by simpa using hm)) hnl
    refine ⟨(n' ++ 58 :: ((bl ++ [32]) ++ p.2)) :: ls, ?_, ?_, ?_⟩
    · rw [List.map_cons, textOf_cons, fLine, textOf_cons]
      have e : p.1 ++ 58 :: 32 :: p.2 ++ 13 :: 10 :: textOf (fs.map fLine) = p.1 ++ 58 :: (32 :: (p.2 ++ 13 :: 10 :: textOf (fs.map fLine))) := by simp
      rw [e, h1]
      have e2 : 32 :: (p.2 ++ 13 :: 10 :: textOf (fs.map fLine)) = (32 :: (p.2 ++ [13])) ++ 10 :: textOf (fs.map fLine) := by simp
      have hno : (10 : UInt8) ∉ 32 :: (p.2 ++ [13]) := by
        intro hm
        rcases List.mem_cons.1 hm with hm | hm
        · cases hm
        rcases List.mem_append.1 hm with hm | hm
        · exact all_not hp.loose (by decide) hm
        · simp at hm
      rw [e2, letGo_rest bl _ _ _ hno, k1]
      simp
    · rw [List.map_cons, g2, k2]
    · intro l hl
      rcases List.mem_cons.1 hl with rfl | hl
      · exact g1
      · exact k3 l hl
theorem fields_ok {s : List UInt8} {h : Hd} {a : Int} (hs : headParse s = (h, 0, a)) : ∀ p ∈ h.fs, FldOk p := by
  obtain ⟨l, ls, e, h1, h2, h3, h4, h5, h6, h7⟩ := headParse_inv hs
  subst h5
  intro p hp
  obtain ⟨x, hx, rfl⟩ := List.mem_map.1 hp
  exact fldOk_of (h3 x hx).ok
/-- Other letters of names, blanks ahead of values: the same head. -/
theorem letters_ok {h : Hd} {bl : List UInt8} (hp : printOk h) (hb : ∀ b ∈ bl, b = 32 ∨ b = 9) (h8 : bl.length ≤ 8) (hlen : (printS h).length ≤ 900) (hout : (letGo bl 0 false (printS h)).length ≤ 4096) :
    headParse (letGo bl 0 false (printS h)) = (h, 0, 0) := by
  have hback := back_ok hp
  have hfo := fields_ok hback
  obtain ⟨l, ls, e, h1, h2, h3, h4, h5, h6, h7⟩ := headParse_inv hback
  have hrl : rLine h = l := by rw [h5]; exact rLine_of h2.ok ls
  have hlin : (linesOf (h.fs.map fLine)).length + 2 ≤ 900 := by
    have : (printS h).length = (rLine h).length + 2 + (linesOf (h.fs.map fLine)).length + 2 := by
      unfold printS
      rw [textOf_length, linesOf_cons]
      simp only [List.length_append, List.length_cons]
      omega
    omega
  obtain ⟨ls', k1, k2, k3⟩ := letters_fields bl hb h.fs (0 + (rLine h ++ [13]).length + 1) hfo (fun p hp => by
    have := lines_mem (List.mem_map_of_mem (f := fLine) hp)
    omega)
  have hno : (10 : UInt8) ∉ rLine h ++ [13] := by
    intro hm
    rcases List.mem_append.1 hm with hm | hm
    · rw [hrl] at hm; exact hasBr10 h2.br hm
    · simp at hm
  have eo : letGo bl 0 false (printS h) = textOf (l :: ls') := by
    unfold printS
    rw [textOf_cons]
    have e2 : rLine h ++ 13 :: 10 :: textOf (h.fs.map fLine) = (rLine h ++ [13]) ++ 10 :: textOf (h.fs.map fLine) := by simp
    rw [e2, letGo_rest bl _ _ _ hno, k1, hrl, textOf_cons]
    simp
  have hl' : ls'.length = ls.length := by
    have : (ls'.map fieldOf).length = h.fs.length := congrArg List.length k2
    rw [h5] at this
    simpa [hdOf] using this
  rw [eo] at hout ⊢
  rw [headParse_text rfl hout h2 k3 (by omega)]
  have eh : hdOf l ls' = h := by rw [h5]; unfold hdOf; rw [k2, h5]; rfl
  rw [eh]
  unfold endR
  rw [if_pos h6]

/-! So many fields, each of so many bytes. -/
def limLine (k : Nat) : List UInt8 := 120 :: 58 :: List.replicate k 118
def getLine : List UInt8 := [71, 69, 84, 32, 47, 32, 72, 84, 84, 80, 47, 49, 46, 49]
def hostLine : List UInt8 := [104, 111, 115, 116, 58, 32, 97]
def limText (n k : Nat) : List UInt8 := textOf (getLine :: hostLine :: List.replicate (n - 1) (limLine k))
theorem getLine_ok : RLine getLine := ⟨by decide +kernel, by decide +kernel, by decide +kernel⟩
theorem hostLine_ok : FLine hostLine := ⟨by decide +kernel, by decide +kernel, by decide +kernel, by decide +kernel⟩
theorem limLine_all : ∀ k : Fin 64, (¬ hasBr (limLine k.1) ∧ fieldOk (limLine k.1)) ∧ (fieldOf (limLine k.1)).1 = [120] := by decide +kernel
theorem limLine_len (k : Nat) : (limLine k).length = k + 2 := by simp [limLine]
theorem limLine_ok {k : Nat} (h : k < 64) : FLine (limLine k) := by
  obtain ⟨⟨h1, h2⟩, _⟩ := limLine_all ⟨k, h⟩
  exact ⟨h1, by simp [limLine], by rw [limLine_len]; omega, h2⟩
theorem linesOf_rep (m k : Nat) : (linesOf (List.replicate m (limLine k))).length = m * (k + 4) := by
  induction m with
  | zero => simp [linesOf]
  | succ m ih =>
    rw [List.replicate_succ, linesOf_cons]
    simp only [List.length_append, List.length_cons, ih, limLine_len, Nat.succ_mul]
    omega
theorem lim_ok {n k : Nat} (hk : k < 64) : ∃ h s a, headParse (limText n k) = (h, s, a) ∧ (if 4096 < (limText n k).length then s = 431 ∧ a = 0 else if 32 < n then s = 431 ∧ a = ((25 + 31 * (k + 4) : Nat) : Int) else s = 0 ∧ h.fs.length = max 1 n) := by
  obtain ⟨h, s, a, he⟩ : ∃ h s a, headParse (limText n k) = (h, s, a) := ⟨_, _, _, rfl⟩
  refine ⟨h, s, a, he, ?_⟩
  split
  · rename_i hlen
    have : headParse (limText n k) = (hd0, 431, 0) := if_pos hlen
    rw [this] at he
    injection he with e1 e2; injection e2 with e2 e3
    exact ⟨e2.symm, e3.symm⟩
  · rename_i hlen
    have hall : ∀ l ∈ hostLine :: List.replicate (n - 1) (limLine k), FLine l := by
      intro l hl
      rcases List.mem_cons.1 hl with rfl | hl
      · exact hostLine_ok
      · rw [(List.mem_replicate.1 hl).2]; exact limLine_ok hk
    split
    · rename_i hn
      have e := headParse_over (s := limText n k) rfl (by omega) getLine_ok hall (by simp; omega)
      rw [e] at he
      injection he with e1 e2; injection e2 with e2 e3
      refine ⟨e2.symm, ?_⟩
      rw [← e3]
      have ht : (hostLine :: List.replicate (n - 1) (limLine k)).take 32 = hostLine :: List.replicate 31 (limLine k) := by
        rw [List.take_succ_cons, List.take_replicate]
        congr 2
        omega
      rw [ht, linesOf_cons]
      simp only [List.length_append, List.length_cons, linesOf_rep]
      have h1 : getLine.length = 14 := rfl
      have h2 : hostLine.length = 7 := rfl
      rw [h1, h2]
      omega
    · rename_i hn
      have e := headParse_text (s := limText n k) rfl (by omega) getLine_ok hall (by simp; omega)
      have hx := (limLine_all ⟨k, hk⟩).2
      have hho : hostsOk (hdOf getLine (hostLine :: List.replicate (n - 1) (limLine k))) := by
        left
        unfold nHost valsOf hdOf
        dsimp only
        rw [List.map_cons, List.map_replicate, List.filter_cons, List.filter_replicate]
        have h1 : decide ((fieldOf hostLine).1 = smallS hostS) = true := by decide +kernel
        have h2 : decide ((fieldOf (limLine k)).1 = smallS hostS) = false := by
          rw [hx]; decide +kernel
        rw [h1, h2]
        rfl
      rw [e] at he
      unfold endR at he
      rw [if_pos hho] at he
      injection he with e1 e2; injection e2 with e2 e3
      refine ⟨e2.symm, ?_⟩
      rw [← e1]
      simp [hdOf]
      omega
end Go.Proofs.YtffcgpkbibijpaaDoor.L

namespace Go.Proofs.YtffcgpkbibijpaaDoor.L
open Go Go.RowKit
set_option linter.unusedVariables false
section
variable {E : Env} {sl : Slots} {H : List AO}
theorem ov_max {x y : Operand} {k k' : IntKind} {m n c : Int} {ts : Array TypeId} (hx : ev sl x = some (.int k m)) (hy : ev sl y = some (.int k' n)) (hc : max m n = c) : OV E sl H (.call { callee := .builtin .max, args := #[x, y], argTypes := ts }) (.int k c) := by
  intro I ν a w hh hs
  have e1 := (ev_ok hs hx).int_inv
  have e2 := (ev_ok hs hy).int_inv
  refine ⟨_, .pure (.int k _), fun o w' ho hb => ?_⟩
  have e3 : (if n > m then n else m) = c := by rw [← hc]; split <;> omega
  simp [execOp, ho, e1, e2, resolve, invoke, builtin, run_max_int2, e3]
end
end Go.Proofs.YtffcgpkbibijpaaDoor.L

namespace Go.Proofs.YtffcgpkbibijpaaDoor.L
open Go Go.RowKit Go.Proofs
set_option linter.unusedVariables false
set_option linter.unusedSimpArgs false
set_option maxRecDepth 100000
attribute [local irreducible] AL QL AWp Thn InB RetQ ACalls LoopQ HL HO HW HQ NoG

theorem and63 (x : Int) : ∃ m : Nat, m < 64 ∧ bits .and .i64 x 63 = (m : Int) := by
  refine ⟨(BitVec.ofInt 64 x &&& 63#64).toNat, ?_, ?_⟩
  · rw [BitVec.toNat_and]
    exact Nat.lt_of_le_of_lt Nat.and_le_right (by decide)
  · have h : (BitVec.ofInt 64 x &&& 63#64).toNat ≤ 63 := by rw [BitVec.toNat_and]; exact Nat.and_le_right
    have e : bits .and .i64 x 63 = IntKind.i64.wrap ((BitVec.ofInt 64 x &&& 63#64).toNat : Int) := rfl
    rw [e, IntKind.wrap_i64]
    omega
def limPre : List UInt8 := linesOf [getLine, hostLine]
theorem limPre_len : limPre.length = 25 := rfl
theorem lim_next (m k : Nat) : linesOf (List.replicate (m + 1) (limLine k)) = linesOf (List.replicate m (limLine k)) ++ (([120, 58] ++ List.replicate k 118) ++ [13, 10]) := by
  rw [List.replicate_succ', linesOf_snoc]
  rfl
theorem limText_eq (n k : Nat) : limText n k = (limPre ++ linesOf (List.replicate (n - 1) (limLine k))) ++ [13, 10] := by
  unfold limText textOf limPre
  rw [linesOf_cons, linesOf_cons, linesOf_cons, linesOf_cons]
  simp [linesOf]
section
variable {w0 : World} {base : Nat}
set_option maxHeartbeats 4000000 in
theorem s_lawLimits {f g : Int} (hG : Glob w0 base) : PCalls (EE w0 base) 4 [.int .i64 f, .int .i64 g] fun rv => rv = .bool true := by
  obtain ⟨n, hn, hbn⟩ := and63 f
  obtain ⟨k, hk, hbk⟩ := and63 g
  refine acalls_of Tryd.func4 rfl rfl rfl (.cons (.cons .nil)) ?_
  repeat' (first | (first | (refine al_v (ov_bits rfl rfl (.inl rfl) hbn) rfl ?_) | (refine al_v (ov_bits rfl rfl (.inl rfl) hbk) rfl ?_)) | (refine k_al ?_; first | (refine al_v (ov_move rfl) rfl ?_) | (refine k_g ?_; first | (refine al_gy' rfl rfl (by with_reducible rfl) ?_) | (refine al_gsp rfl rfl (fun hc => ?_) (fun hc => ?_) <;> (try (exfalso; omega))) | fail) | (refine al_v (ov_fieldAddr rfl rfl) rfl ?_) | (refine k_load ?_; first | (refine al_v (ov_load rfl rfl) rfl ?_) | fail) | (refine k_bin ?_; first | (refine al_v (ov_cmp rfl rfl rfl) rfl ?_) | (refine al_v (ov_cat rfl rfl (by first | omega | (simp only [List.length_append, List.length_cons, List.length_nil]; omega) | (simp; omega))) rfl ?_) | (refine al_v (ov_add rfl rfl (by (first | exact w64 (by omega) (by omega) | rfl | fail))) rfl ?_) | fail) | (refine k_pick ?_; first | (refine al_v (ov_pick_t' rfl (by with_reducible rfl) rfl) rfl ?_) | fail) | (refine al_v (ov_assign rfl) rfl ?_) | (refine k_call ?_; first | (refine al_v (ov_len_rs rfl) rfl ?_) | (refine al_v (ov_len_str rfl) rfl ?_) | fail) | (refine al_v (ov_extract rfl rfl) rfl ?_) | (refine al_nil ?_) | (refine al_alloc rfl rfl rfl (by (first | exact (rfl : _ = 0) | exact (rfl : _ = 1) | exact (rfl : _ = 2) | exact (rfl : _ = 3) | exact (rfl : _ = 4) | exact (rfl : _ = 5) | exact (rfl : _ = 6))) (by repeat constructor) rfl ?_) | (refine al_store rfl rfl rfl rfl rfl (by repeat constructor) (by repeat constructor) ?_) | fail) | (first | (refine thn_n ?_) | (refine k_awp ?_; first | (refine awp_seq (awp_region ?_)) | (refine awp_seq ?_) | (refine awp_region ?_) | (refine k_cond ?_; first | (refine awp_cond_p rfl (fun hc => ?_) (fun hc => ?_) <;> (try (exfalso; omega))) | fail) | (refine awp_block ?_) | (refine awp_ret ?_) | (refine awp_skip ?_) | (refine awp_exit ?_) | fail) | (refine thn_ret ?_) | (refine lq_exit ?_) | (refine thn_exit ?_) | (refine inb_n ?_) | (refine inb_ret ?_) | (refine inb_here ?_) | fail))
  refine awp_loopq (fun p : Nat × List UInt8 × Int => ⟨[(5, .int .i64 n), (6, .int .i64 k), (7, .str p.2.1), (8, .int .i64 p.2.2), (9, .int .i64 p.1)], []⟩)
    (fun p => 1 ≤ p.1 ∧ (p.1 ≤ n ∨ p.1 = 1) ∧ p.2.1 = limPre ++ linesOf (List.replicate (p.1 - 1) (limLine k)) ∧ p.2.2 = if 32 < p.1 then ((25 + 31 * (k + 4) : Nat) : Int) else 0) (fun p => n - p.1) (1, limPre, 0) (.of (.same (by repeat constructor))) ⟨Nat.le_refl _, .inr rfl, by simp [linesOf], rfl⟩ ?_
  rintro ⟨i, s, at'⟩ ⟨hi, hin, hs, ha⟩
  dsimp only at hi hin hs ha ⊢
  have hsl : s.length = 25 + (i - 1) * (k + 4) := by rw [hs, List.length_append, linesOf_rep, limPre_len]
  have hmul : (i - 1) * (k + 4) ≤ 64 * 68 := Nat.mul_le_mul (by omega) (by omega)
  repeat' (first | (refine k_al ?_; first | (refine al_v (ov_move rfl) rfl ?_) | (refine k_g ?_; first | (refine al_gy' rfl rfl (by with_reducible rfl) ?_) | (refine al_gsp rfl rfl (fun hc => ?_) (fun hc => ?_) <;> (try (exfalso; omega))) | fail) | (refine al_v (ov_fieldAddr rfl rfl) rfl ?_) | (refine k_load ?_; first | (refine al_v (ov_load rfl rfl) rfl ?_) | fail) | (refine k_bin ?_; first | (refine al_v (ov_cmp rfl rfl rfl) rfl ?_) | (refine al_v (ov_cat rfl rfl (by first | omega | (simp only [List.length_append, List.length_cons, List.length_nil]; omega) | (simp; omega))) rfl ?_) | (refine al_v (ov_add rfl rfl (by (first | exact w64 (by omega) (by omega) | rfl | fail))) rfl ?_) | fail) | (refine k_pick ?_; first | (refine al_v (ov_pick_t' rfl (by with_reducible rfl) rfl) rfl ?_) | fail) | (refine al_v (ov_assign rfl) rfl ?_) | (refine k_call ?_; first | (refine al_v (ov_len_rs rfl) rfl ?_) | (refine al_v (ov_len_str rfl) rfl ?_) | fail) | (refine al_v (ov_extract rfl rfl) rfl ?_) | (refine al_nil ?_) | (refine al_alloc rfl rfl rfl (by (first | exact (rfl : _ = 0) | exact (rfl : _ = 1) | exact (rfl : _ = 2) | exact (rfl : _ = 3) | exact (rfl : _ = 4) | exact (rfl : _ = 5) | exact (rfl : _ = 6))) (by repeat constructor) rfl ?_) | (refine al_store rfl rfl rfl rfl rfl (by repeat constructor) (by repeat constructor) ?_) | fail) | (first | (refine thn_n ?_) | (refine k_awp ?_; first | (refine awp_seq (awp_region ?_)) | (refine awp_seq ?_) | (refine awp_region ?_) | (refine k_cond ?_; first | (refine awp_cond_p rfl (fun hc => ?_) (fun hc => ?_) <;> (try (exfalso; omega))) | fail) | (refine awp_block ?_) | (refine awp_ret ?_) | (refine awp_skip ?_) | (refine awp_exit ?_) | fail) | (refine thn_ret ?_) | (refine lq_exit ?_) | (refine thn_exit ?_) | (refine inb_n ?_) | (refine inb_ret ?_) | (refine inb_here ?_) | fail))
  · refine awp_loopq (fun p : Nat × List UInt8 => ⟨[(5, .int .i64 n), (6, .int .i64 k), (7, .str p.2), (8, .int .i64 s.length), (9, .int .i64 i), (10, .int .i64 p.1)], []⟩)
      (fun p => p.1 ≤ k ∧ p.2 = s ++ ([120, 58] ++ List.replicate p.1 118)) (fun p => k - p.1) (0, s ++ [120, 58]) (.of (.same (by repeat constructor))) ⟨Nat.zero_le _, by simp⟩ ?_
    rintro ⟨j, t⟩ ⟨hj, ht⟩
    dsimp only at hj ht ⊢
    have htl : t.length = s.length + (2 + j) := by rw [ht]; simp; omega
    repeat' (first | (refine k_al ?_; first | (refine al_v (ov_move rfl) rfl ?_) | (refine k_g ?_; first | (refine al_gy' rfl rfl (by with_reducible rfl) ?_) | (refine al_gsp rfl rfl (fun hc => ?_) (fun hc => ?_) <;> (try (exfalso; omega))) | fail) | (refine al_v (ov_fieldAddr rfl rfl) rfl ?_) | (refine k_load ?_; first | (refine al_v (ov_load rfl rfl) rfl ?_) | fail) | (refine k_bin ?_; first | (refine al_v (ov_cmp rfl rfl rfl) rfl ?_) | (refine al_v (ov_cat rfl rfl (by first | omega | (simp only [List.length_append, List.length_cons, List.length_nil]; omega) | (simp; omega))) rfl ?_) | (refine al_v (ov_add rfl rfl (by (first | exact w64 (by omega) (by omega) | rfl | fail))) rfl ?_) | fail) | (refine k_pick ?_; first | (refine al_v (ov_pick_t' rfl (by with_reducible rfl) rfl) rfl ?_) | fail) | (refine al_v (ov_assign rfl) rfl ?_) | (refine k_call ?_; first | (refine al_v (ov_len_rs rfl) rfl ?_) | (refine al_v (ov_len_str rfl) rfl ?_) | fail) | (refine al_v (ov_extract rfl rfl) rfl ?_) | (refine al_nil ?_) | (refine al_alloc rfl rfl rfl (by (first | exact (rfl : _ = 0) | exact (rfl : _ = 1) | exact (rfl : _ = 2) | exact (rfl : _ = 3) | exact (rfl : _ = 4) | exact (rfl : _ = 5) | exact (rfl : _ = 6))) (by repeat constructor) rfl ?_) | (refine al_store rfl rfl rfl rfl rfl (by repeat constructor) (by repeat constructor) ?_) | fail) | (first | (refine thn_n ?_) | (refine k_awp ?_; first | (refine awp_seq (awp_region ?_)) | (refine awp_seq ?_) | (refine awp_region ?_) | (refine k_cond ?_; first | (refine awp_cond_p rfl (fun hc => ?_) (fun hc => ?_) <;> (try (exfalso; omega))) | fail) | (refine awp_block ?_) | (refine awp_ret ?_) | (refine awp_skip ?_) | (refine awp_exit ?_) | fail) | (refine thn_ret ?_) | (refine lq_exit ?_) | (refine thn_exit ?_) | (refine inb_n ?_) | (refine inb_ret ?_) | (refine inb_here ?_) | fail))
    · first | refine lq_back (j + 1, t ++ [118]) (.of (.same (by repeat constructor))) ?_ ?_ | fail
      · refine ⟨by dsimp only; omega, ?_⟩
        dsimp only
        rw [ht, List.replicate_succ']
        simp
      · dsimp only; omega
    · have hjk : j = k := by omega
      first | refine lq_back (i + 1, t ++ [13, 10], s.length) (.of (.same (by repeat constructor))) ?_ ?_ | fail
      · refine ⟨by dsimp only; omega, .inl (by dsimp only; omega), ?_, ?_⟩
        · dsimp only
          rw [ht, hs, hjk]
          have : i + 1 - 1 = (i - 1) + 1 := by omega
          rw [this, lim_next]
          simp
        · dsimp only
          rw [hsl]
          have : i = 32 := by omega
          subst this
          rfl
      · dsimp only; omega
  · refine awp_loopq (fun p : Nat × List UInt8 => ⟨[(5, .int .i64 n), (6, .int .i64 k), (7, .str p.2), (8, .int .i64 at'), (9, .int .i64 i), (10, .int .i64 p.1)], []⟩)
      (fun p => p.1 ≤ k ∧ p.2 = s ++ ([120, 58] ++ List.replicate p.1 118)) (fun p => k - p.1) (0, s ++ [120, 58]) (.of (.same (by repeat constructor))) ⟨Nat.zero_le _, by simp⟩ ?_
    rintro ⟨j, t⟩ ⟨hj, ht⟩
    dsimp only at hj ht ⊢
    have htl : t.length = s.length + (2 + j) := by rw [ht]; simp; omega
    repeat' (first | (refine k_al ?_; first | (refine al_v (ov_move rfl) rfl ?_) | (refine k_g ?_; first | (refine al_gy' rfl rfl (by with_reducible rfl) ?_) | (refine al_gsp rfl rfl (fun hc => ?_) (fun hc => ?_) <;> (try (exfalso; omega))) | fail) | (refine al_v (ov_fieldAddr rfl rfl) rfl ?_) | (refine k_load ?_; first | (refine al_v (ov_load rfl rfl) rfl ?_) | fail) | (refine k_bin ?_; first | (refine al_v (ov_cmp rfl rfl rfl) rfl ?_) | (refine al_v (ov_cat rfl rfl (by first | omega | (simp only [List.length_append, List.length_cons, List.length_nil]; omega) | (simp; omega))) rfl ?_) | (refine al_v (ov_add rfl rfl (by (first | exact w64 (by omega) (by omega) | rfl | fail))) rfl ?_) | fail) | (refine k_pick ?_; first | (refine al_v (ov_pick_t' rfl (by with_reducible rfl) rfl) rfl ?_) | fail) | (refine al_v (ov_assign rfl) rfl ?_) | (refine k_call ?_; first | (refine al_v (ov_len_rs rfl) rfl ?_) | (refine al_v (ov_len_str rfl) rfl ?_) | fail) | (refine al_v (ov_extract rfl rfl) rfl ?_) | (refine al_nil ?_) | (refine al_alloc rfl rfl rfl (by (first | exact (rfl : _ = 0) | exact (rfl : _ = 1) | exact (rfl : _ = 2) | exact (rfl : _ = 3) | exact (rfl : _ = 4) | exact (rfl : _ = 5) | exact (rfl : _ = 6))) (by repeat constructor) rfl ?_) | (refine al_store rfl rfl rfl rfl rfl (by repeat constructor) (by repeat constructor) ?_) | fail) | (first | (refine thn_n ?_) | (refine k_awp ?_; first | (refine awp_seq (awp_region ?_)) | (refine awp_seq ?_) | (refine awp_region ?_) | (refine k_cond ?_; first | (refine awp_cond_p rfl (fun hc => ?_) (fun hc => ?_) <;> (try (exfalso; omega))) | fail) | (refine awp_block ?_) | (refine awp_ret ?_) | (refine awp_skip ?_) | (refine awp_exit ?_) | fail) | (refine thn_ret ?_) | (refine lq_exit ?_) | (refine thn_exit ?_) | (refine inb_n ?_) | (refine inb_ret ?_) | (refine inb_here ?_) | fail))
    · first | refine lq_back (j + 1, t ++ [118]) (.of (.same (by repeat constructor))) ?_ ?_ | fail
      · refine ⟨by dsimp only; omega, ?_⟩
        dsimp only
        rw [ht, List.replicate_succ']
        simp
      · dsimp only; omega
    · have hjk : j = k := by omega
      first | refine lq_back (i + 1, t ++ [13, 10], at') (.of (.same (by repeat constructor))) ?_ ?_ | fail
      · refine ⟨by dsimp only; omega, .inl (by dsimp only; omega), ?_, ?_⟩
        · dsimp only
          rw [ht, hs, hjk]
          have : i + 1 - 1 = (i - 1) + 1 := by omega
          rw [this, lim_next]
          simp
        · dsimp only
          rw [ha]
          have : i ≠ 32 := by omega
          by_cases h32 : 32 < i
          · rw [if_pos h32, if_pos (by omega)]
          · rw [if_neg h32, if_neg (by omega)]
      · dsimp only; omega
  · have hs' : s ++ [13, 10] = limText n k := by
      rw [limText_eq, hs]
      rcases hin with h | h
      · have : i = n := by omega
        rw [this]
      · have : i - 1 = n - 1 := by omega
        rw [this]
    obtain ⟨h, st, a, he, hco⟩ := lim_ok (n := n) hk
    have hP := s_parse (w0 := w0) (base := base) (s := s ++ [13, 10]) hG
    unfold prR at hP
    rw [hs', he] at hP
    rw [← hs'] at hP hco
    dsimp only at hP
    have hsl2 : (s ++ [13, 10]).length = s.length + 2 := by simp
    have hsl3 : (s ++ (ByteArray.mk #[13, 10]).data.toList).length = s.length + 2 := hsl2
    have hfl : (h.fs.map prAV).length = h.fs.length := List.length_map _
    have hc1 : 4096 < s.length + 2 → st = 431 ∧ a = 0 := fun k => by rw [hsl2, if_pos k] at hco; exact hco
    have hc2 : ¬ 4096 < s.length + 2 → 32 < n → st = 431 ∧ a = at' := fun k1 k2 => by
      rw [hsl2, if_neg k1, if_pos k2] at hco
      rw [ha, if_pos (by omega)]
      exact hco
    have hc3 : ¬ 4096 < s.length + 2 → ¬ 32 < n → st = 0 ∧ h.fs.length = max 1 n := fun k1 k2 => by
      rw [hsl2, if_neg k1, if_neg k2] at hco
      exact hco
    clear hco he ha hs
    repeat' (first | (first | (refine k_call ?_; refine al_call rfl rfl rfl rfl hP ?_; rintro _ rfl) | (refine k_call ?_; refine al_call rfl rfl rfl rfl (s_awake hG) ?_; rintro _ rfl) | (refine k_call ?_; refine al_v (ov_max rfl rfl rfl) rfl ?_)) | (refine k_al ?_; first | (refine al_v (ov_move rfl) rfl ?_) | (refine k_g ?_; first | (refine al_gy' rfl rfl (by with_reducible rfl) ?_) | (refine al_gsp rfl rfl (fun hc => ?_) (fun hc => ?_) <;> (try (exfalso; omega))) | fail) | (refine al_v (ov_fieldAddr rfl rfl) rfl ?_) | (refine k_load ?_; first | (refine al_v (ov_load rfl rfl) rfl ?_) | fail) | (refine k_bin ?_; first | (refine al_v (ov_cmp rfl rfl rfl) rfl ?_) | (refine al_v (ov_cat rfl rfl (by first | omega | (simp only [List.length_append, List.length_cons, List.length_nil]; omega) | (simp; omega))) rfl ?_) | (refine al_v (ov_add rfl rfl (by (first | exact w64 (by omega) (by omega) | rfl | fail))) rfl ?_) | fail) | (refine k_pick ?_; first | (refine al_v (ov_pick_t' rfl (by with_reducible rfl) rfl) rfl ?_) | fail) | (refine al_v (ov_assign rfl) rfl ?_) | (refine k_call ?_; first | (refine al_v (ov_len_rs rfl) rfl ?_) | (refine al_v (ov_len_str rfl) rfl ?_) | fail) | (refine al_v (ov_extract rfl rfl) rfl ?_) | (refine al_nil ?_) | (refine al_alloc rfl rfl rfl (by (first | exact (rfl : _ = 0) | exact (rfl : _ = 1) | exact (rfl : _ = 2) | exact (rfl : _ = 3) | exact (rfl : _ = 4) | exact (rfl : _ = 5) | exact (rfl : _ = 6))) (by repeat constructor) rfl ?_) | (refine al_store rfl rfl rfl rfl rfl (by repeat constructor) (by repeat constructor) ?_) | fail) | (first | (refine thn_n ?_) | (refine k_awp ?_; first | (refine awp_seq (awp_region ?_)) | (refine awp_seq ?_) | (refine awp_region ?_) | (refine k_cond ?_; first | (refine awp_cond_p rfl (fun hc => ?_) (fun hc => ?_) <;> (try (exfalso; omega))) | fail) | (refine awp_block ?_) | (refine awp_ret ?_) | (refine awp_skip ?_) | (refine awp_exit ?_) | fail) | (refine thn_ret ?_) | (refine lq_exit ?_) | (refine thn_exit ?_) | (refine inb_n ?_) | (refine inb_ret ?_) | (refine inb_here ?_) | fail))
    all_goals first
      | (refine ret1 (by first | exact .inr rfl | exact .inl rfl) rfl rfl ?_
         exact ⟨rfl, rfl⟩)
      | (exfalso; omega)
end
end Go.Proofs.YtffcgpkbibijpaaDoor.L

namespace Go.Proofs.YtffcgpkbibijpaaDoor.L
open Go Go.RowKit Go.Proofs
set_option linter.unusedVariables false
set_option linter.unusedSimpArgs false
set_option maxRecDepth 100000
attribute [local irreducible] AL QL AWp Thn InB RetQ ACalls LoopQ HL HO HW HQ NoG

theorem dw_mem {α : Type} {p : α → Bool} {b : α} (hb : p b = false) : ∀ {l : List α}, b ∈ l → b ∈ l.dropWhile p := by
  intro l
  induction l with
  | nil => intro h; cases h
  | cons a t ih =>
    intro h
    rw [List.dropWhile_cons]
    cases ha : p a with
    | true =>
      rw [if_pos rfl]
      rcases List.mem_cons.1 h with rfl | h
      · rw [hb] at ha; cases ha
      · exact ih h
    | false => rw [if_neg (by decide)]; exact h
theorem trim_blank {bl : List UInt8} (h : Lib.trimS bl [32, 9] = []) : ∀ b ∈ bl, b = 32 ∨ b = 9 := by
  intro b hb
  cases hc : ([32, 9] : List UInt8).contains b with
  | true => simpa using hc
  | false =>
    exfalso
    unfold Lib.trimS Lib.trimLeftS Lib.trimRightS at h
    have h1 := dw_mem (p := (([32, 9] : List UInt8).contains ·)) hc (List.mem_reverse.2 hb)
    have h2 := dw_mem (p := (([32, 9] : List UInt8).contains ·)) hc (List.mem_reverse.2 h1)
    rw [h] at h2
    cases h2
def cB (nm : Bool) (i : Nat) (b : UInt8) : UInt8 := if nm then upB i b else b
theorem letGo_cons (bl : List UInt8) (i : Nat) (nm : Bool) (b : UInt8) (r : List UInt8) : letGo bl i nm (b :: r) = if nm = true ∧ cB nm i b = 58 then [cB nm i b] ++ (bl ++ letGo bl (i + 1) false r) else [cB nm i b] ++ letGo bl (i + 1) (nm || decide (b = 10)) r := by
  rw [letGo]
  unfold cB
  by_cases h : nm = true ∧ (if nm then upB i b else b) = 58
  · rw [if_pos h, if_pos (by rw [Bool.and_eq_true, decide_eq_true_eq]; exact h)]; rfl
  · rw [if_neg h, if_neg (by
      intro k
      rw [Bool.and_eq_true, decide_eq_true_eq] at k
      exact h k)]; rfl
theorem letGo_len (bl : List UInt8) : ∀ (l : List UInt8) (i : Nat) (nm : Bool), (letGo bl i nm l).length ≤ l.length * (bl.length + 1) := by
  intro l
  induction l with
  | nil => intro i nm; rw [letGo]; simp
  | cons b r ih =>
    intro i nm
    rw [letGo_cons]
    have h1 := ih (i + 1) false
    have h2 := ih (i + 1) (nm || decide (b = 10))
    rw [List.length_cons, Nat.succ_mul]
    split <;> simp only [List.length_append, List.length_cons, List.length_nil] <;> omega
theorem u8_sub32 (b : UInt8) (h : 97 ≤ b.toNat) (h2 : b.toNat ≤ 122) : ((b - 32).toNat : Int) = (b.toNat : Int) - 32 := by
  have : ∀ b : UInt8, 97 ≤ b.toNat → ((b - 32).toNat : Int) = (b.toNat : Int) - 32 := u8_all (by decide +kernel)
  exact this b h
theorem cB_up {b : UInt8} {i : Nat} (h : 97 ≤ b.toNat) (h2 : b.toNat ≤ 122) (h3 : i % 2 = 0) : ((cB true i b).toNat : Int) = (b.toNat : Int) - 32 := by
  unfold cB upB isLow
  simp [h, h2, h3, u8_sub32]
theorem cB_same {b : UInt8} {i : Nat} {nm : Bool} (h : nm = false ∨ b.toNat < 97 ∨ 122 < b.toNat ∨ i % 2 ≠ 0) : cB nm i b = b := by
  unfold cB upB isLow
  cases nm with
  | false => rfl
  | true =>
    simp only [if_true]
    rw [if_neg]
    simp
    intro h1 h2
    rcases h with h | h | h | h
    · cases h
    · omega
    · omega
    · omega
theorem u8_eq (b : UInt8) (n : Nat) (hn : n < 256) : b = UInt8.ofNat n ↔ b.toNat = n := by
  constructor
  · intro h; rw [h]; simp; omega
  · intro h; apply UInt8.toNat_inj.1; rw [h]; simp; omega
/-- A step: what is put out, and how it goes on. -/
theorem let_step {bl s : List UInt8} {i : Nat} {nm nm' : Bool} {out o2 : List UInt8} (hi : i < s.length) (h : out ++ letGo bl i nm (s.drop i) = letGo bl 0 false s)
    (ho : (nm = true ∧ (cB nm i (bAt s (i : Int))).toNat = 58 ∧ nm' = false ∧ o2 = [cB nm i (bAt s (i : Int))] ++ bl) ∨ (¬ (nm = true ∧ (cB nm i (bAt s (i : Int))).toNat = 58) ∧ nm' = (nm || decide ((bAt s (i : Int)).toNat = 10)) ∧ o2 = [cB nm i (bAt s (i : Int))])) :
    (out ++ o2) ++ letGo bl (i + 1) nm' (s.drop (i + 1)) = letGo bl 0 false s := by
  rw [← h, drop_bAt hi, letGo_cons]
  have e58 : ∀ c : UInt8, c = 58 ↔ c.toNat = 58 := fun c => u8_eq c 58 (by decide)
  have e10 : ∀ c : UInt8, c = 10 ↔ c.toNat = 10 := fun c => u8_eq c 10 (by decide)
  rcases ho with ⟨h1, h2, h3, h4⟩ | ⟨h1, h3, h4⟩
  · rw [if_pos ⟨h1, (e58 _).2 h2⟩, h3, h4]
    simp
  · rw [if_neg (fun k => h1 ⟨k.1, (e58 _).1 k.2⟩), h3, h4]
    have : decide (bAt s (i : Int) = 10) = decide ((bAt s (i : Int)).toNat = 10) := by rw [Bool.eq_iff_iff, decide_eq_true_eq, decide_eq_true_eq]; exact e10 _
    rw [this]
    simp
section
variable {w0 : World} {base : Nat}
set_option maxHeartbeats 8000000 in
theorem s_lawLetters {h : Hd} {bl : List UInt8} (hG : Glob w0 base) (hs : Small h) (hbl : bl.length ≤ 1048580) : PCalls (EE w0 base) 8 [hdAV h.m h.t h.v h.fs, .str bl] fun rv => rv = .bool true := by
  have hA := s_print (w0 := w0) (base := base) hG hs.z hs.f
  have hB := s_printR (w0 := w0) (base := base) hs.z hs.f
  have hT := s_trimR (w0 := w0) (base := base) (s := bl) (by omega)
  by_cases hp : printOk h
  · have hA' := pcalls_mono hA (R' := fun rv => rv = .tup [.str (printS h), .int .i64 0]) fun rv k => by unfold prnR at k; rw [if_pos hp, if_pos hp] at k; exact k
    have hB' := pcalls_mono hB (R' := fun rv => rv = .tup [.str (printS h), .int .i64 0]) fun rv k => by unfold prnR at k; rw [if_pos hp, if_pos hp] at k; exact k
    have hback := back_ok hp
    obtain ⟨s, hsd⟩ : ∃ s, s = printS h := ⟨_, rfl⟩
    have hlen : s.length ≤ 4096 := by
      obtain ⟨_, _, _, k, _⟩ := headParse_inv hback
      rw [hsd]; exact k
    have hlo := letters_ok (bl := bl) hp
    rw [← hsd] at hA' hB' hback hlo
    have htot := letGo_len bl s 0 false
    have htot2 : s.length * (bl.length + 1) ≤ 4096 * 1048581 := Nat.mul_le_mul hlen (by omega)
    have hf := hs.f
    have hS := s_same (w0 := w0) (base := base) (m := h.m) (t := h.t) (v := h.v) (m' := h.m) (t' := h.t) (v' := h.v) (f := h.fs) (g := h.fs) hf hf
    rw [decide_eq_true ⟨rfl, rfl, rfl, rfl⟩] at hS
    by_cases hb : Lib.trimS bl [32, 9] = []
    · have hbb := trim_blank hb
      rw [hb] at hT
      refine acalls_of Tryd.func8 rfl rfl rfl (.cons (.cons .nil)) ?_
      repeat' (first | (first | (refine k_call ?_; refine al_call rfl rfl rfl rfl hA' ?_; rintro _ rfl) | (refine k_call ?_; refine al_call rfl rfl rfl rfl hT ?_; rintro _ rfl)) | (refine k_al ?_; first | (refine al_v (ov_move rfl) rfl ?_) | (refine k_g ?_; first | (refine al_gy' rfl rfl (by with_reducible rfl) ?_) | (refine al_gnt rfl rfl (by with_reducible rfl) rfl ?_) | (refine al_gnf rfl rfl (by with_reducible rfl) rfl ?_) | (refine al_gsp rfl rfl (fun hc => ?_) (fun hc => ?_) <;> (try (exfalso; omega))) | fail) | (refine k_load ?_; first | (refine al_v (ov_load_agg rfl rfl rfl) rfl ?_) | fail) | (refine k_bin ?_; first | (refine al_v (ov_cmp rfl rfl rfl) rfl ?_) | (refine al_v (ov_add rfl rfl (by (first | exact w64 (by omega) (by omega) | exact w8 (by omega) (by omega) | rfl))) rfl ?_) | (refine al_v (ov_sub rfl rfl (by (first | exact w64 (by omega) (by omega) | exact w8 (by omega) (by omega) | rfl))) rfl ?_) | (refine al_v (ov_rem rfl rfl (by decide) rfl) rfl ?_) | (refine al_v (ov_sne rfl rfl) rfl ?_) | fail) | (refine k_pick ?_; first | (refine al_v (ov_pick_t' rfl (by with_reducible rfl) rfl) rfl ?_) | (refine al_v (ov_pick_f' rfl (by with_reducible rfl) rfl) rfl ?_) | fail) | (refine al_v (ov_assign rfl) rfl ?_) | (refine k_call ?_; first | (refine al_v (ov_len_str rfl) rfl ?_) | (refine al_v (ov_len_os rfl rfl rfl) rfl ?_) | fail) | (refine al_v (ov_extract rfl rfl) rfl ?_) | (refine al_nil ?_) | (refine al_box rfl rfl rfl (by (first | exact (rfl : _ = 0) | exact (rfl : _ = 1) | exact (rfl : _ = 2) | exact (rfl : _ = 3) | exact (rfl : _ = 4) | exact (rfl : _ = 5) | exact (rfl : _ = 6))) (by repeat constructor) rfl ?_) | (refine al_alloc rfl rfl rfl (by (first | exact (rfl : _ = 0) | exact (rfl : _ = 1) | exact (rfl : _ = 2) | exact (rfl : _ = 3) | exact (rfl : _ = 4) | exact (rfl : _ = 5) | exact (rfl : _ = 6))) (by repeat constructor) rfl ?_) | (refine al_store rfl rfl rfl rfl rfl (by repeat constructor) (by repeat constructor) ?_) | (refine al_buildSlice (by rfl) (by rfl) (by rfl) (by rfl) (by decide) (by decide) (by rfl) (by rfl) (by repeat constructor) (by rfl) (by repeat constructor) (by rfl) (by (first | exact (rfl : _ = 0) | exact (rfl : _ = 1) | exact (rfl : _ = 2) | exact (rfl : _ = 3) | exact (rfl : _ = 4) | exact (rfl : _ = 5) | exact (rfl : _ = 6))) (by repeat constructor) rfl ?_) | (refine al_v (ov_index rfl rfl (by omega) (by omega)) rfl ?_) | fail) | (first | (refine thn_n ?_) | (refine k_awp ?_; first | (refine awp_seq (awp_region ?_)) | (refine awp_seq ?_) | (refine awp_region ?_) | (refine k_cond ?_; first | (refine awp_cond_t' rfl (by with_reducible rfl) ?_) | (refine awp_cond_f' rfl (by with_reducible rfl) ?_) | (refine awp_cond_p rfl (fun hc => ?_) (fun hc => ?_) <;> (try (exfalso; omega))) | fail) | (refine awp_block ?_) | (refine awp_ret ?_) | (refine awp_skip ?_) | (refine awp_exit ?_) | fail) | (refine thn_ret ?_) | (refine lq_exit ?_) | (refine thn_exit ?_) | (refine inb_n ?_) | (refine inb_here ?_) | fail))
      any_goals exact absurd rfl ‹_›
      refine awp_adopt 9 5 1 rfl (by decide) rfl (by repeat constructor) ?_
      refine awp_loopq (fun p : Nat × Bool × Nat × List (List AV) => ⟨[(1, .str bl), (2, .op 0 0), (5, .str s), (9, .os 1 p.2.2.1), (10, .bool p.2.1), (11, .int .i64 p.1)], [.box [.str h.m, .str h.t, .int .i64 h.v, .rs (h.fs.map prAV)], .row 5 1 p.2.2.1 0 p.2.2.2]⟩)
        (fun p => p.1 ≤ s.length ∧ ∃ out, p.2.2.2 = bytesAV out ∧ out ++ letGo bl p.1 p.2.1 (s.drop p.1) = letGo bl 0 false s) (fun p => s.length - p.1) (0, false, 0, []) (.of (.same (by repeat constructor))) ⟨Nat.zero_le _, [], rfl, rfl⟩ ?_
      rintro ⟨i, nm, ver, xs⟩ ⟨hi, out, hx, ho⟩
      dsimp only at hi hx ho ⊢
      subst hx
      have hol : (bytesAV out).length = out.length := List.length_map _
      have hbll : (bytesAV bl).length = bl.length := List.length_map _
      have hot : out.length ≤ 4096 * 1048581 := by
        have := congrArg List.length ho
        rw [List.length_append] at this
        omega
      have hby := byteAt_eq s (i : Int)
      have hlb := (bAt s (i : Int)).toNat_lt
      by_cases hlt : i < s.length
      · have hmod : ((i : Int).tmod 2) = ((i % 2 : Nat) : Int) := by rw [Int.tmod_eq_emod_of_nonneg (by omega)]; omega
        cases nm
        all_goals
          repeat' (first | (first | (refine k_call ?_; refine al_append rfl rfl (by repeat constructor) (src_os rfl rfl) rfl (by decide) (by simp only [hol, List.length_cons, List.length_nil]; omega) rfl ?_) | (refine k_call ?_; refine al_append rfl rfl (by repeat constructor) src_str rfl (by decide) (by simp only [List.length_append, List.length_map, hol, List.length_cons, List.length_nil]; omega) rfl ?_)) | (refine k_al ?_; first | (refine al_v (ov_move rfl) rfl ?_) | (refine k_g ?_; first | (refine al_gy' rfl rfl (by with_reducible rfl) ?_) | (refine al_gnt rfl rfl (by with_reducible rfl) rfl ?_) | (refine al_gnf rfl rfl (by with_reducible rfl) rfl ?_) | (refine al_gsp rfl rfl (fun hc => ?_) (fun hc => ?_) <;> (try (exfalso; omega))) | fail) | (refine k_load ?_; first | (refine al_v (ov_load_agg rfl rfl rfl) rfl ?_) | fail) | (refine k_bin ?_; first | (refine al_v (ov_cmp rfl rfl rfl) rfl ?_) | (refine al_v (ov_add rfl rfl (by (first | exact w64 (by omega) (by omega) | exact w8 (by omega) (by omega) | rfl))) rfl ?_) | (refine al_v (ov_sub rfl rfl (by (first | exact w64 (by omega) (by omega) | exact w8 (by omega) (by omega) | rfl))) rfl ?_) | (refine al_v (ov_rem rfl rfl (by decide) rfl) rfl ?_) | (refine al_v (ov_sne rfl rfl) rfl ?_) | fail) | (refine k_pick ?_; first | (refine al_v (ov_pick_t' rfl (by with_reducible rfl) rfl) rfl ?_) | (refine al_v (ov_pick_f' rfl (by with_reducible rfl) rfl) rfl ?_) | fail) | (refine al_v (ov_assign rfl) rfl ?_) | (refine k_call ?_; first | (refine al_v (ov_len_str rfl) rfl ?_) | (refine al_v (ov_len_os rfl rfl rfl) rfl ?_) | fail) | (refine al_v (ov_extract rfl rfl) rfl ?_) | (refine al_nil ?_) | (refine al_box rfl rfl rfl (by (first | exact (rfl : _ = 0) | exact (rfl : _ = 1) | exact (rfl : _ = 2) | exact (rfl : _ = 3) | exact (rfl : _ = 4) | exact (rfl : _ = 5) | exact (rfl : _ = 6))) (by repeat constructor) rfl ?_) | (refine al_alloc rfl rfl rfl (by (first | exact (rfl : _ = 0) | exact (rfl : _ = 1) | exact (rfl : _ = 2) | exact (rfl : _ = 3) | exact (rfl : _ = 4) | exact (rfl : _ = 5) | exact (rfl : _ = 6))) (by repeat constructor) rfl ?_) | (refine al_store rfl rfl rfl rfl rfl (by repeat constructor) (by repeat constructor) ?_) | (refine al_buildSlice (by rfl) (by rfl) (by rfl) (by rfl) (by decide) (by decide) (by rfl) (by rfl) (by repeat constructor) (by rfl) (by repeat constructor) (by rfl) (by (first | exact (rfl : _ = 0) | exact (rfl : _ = 1) | exact (rfl : _ = 2) | exact (rfl : _ = 3) | exact (rfl : _ = 4) | exact (rfl : _ = 5) | exact (rfl : _ = 6))) (by repeat constructor) rfl ?_) | (refine al_v (ov_index rfl rfl (by omega) (by omega)) rfl ?_) | fail) | (first | (refine thn_n ?_) | (refine k_awp ?_; first | (refine awp_seq (awp_region ?_)) | (refine awp_seq ?_) | (refine awp_region ?_) | (refine k_cond ?_; first | (refine awp_cond_t' rfl (by with_reducible rfl) ?_) | (refine awp_cond_f' rfl (by with_reducible rfl) ?_) | (refine awp_cond_p rfl (fun hc => ?_) (fun hc => ?_) <;> (try (exfalso; omega))) | fail) | (refine awp_block ?_) | (refine awp_ret ?_) | (refine awp_skip ?_) | (refine awp_exit ?_) | fail) | (refine thn_ret ?_) | (refine lq_exit ?_) | (refine thn_exit ?_) | (refine inb_n ?_) | (refine inb_here ?_) | fail))
        all_goals first | refine lq_back (i + 1, _, _, _) (.of (.same (by repeat constructor))) ?_ ?_ | refine lq_back (i + 1, _, _, _) (.of (wk_drop [_] rfl (by repeat constructor) rfl (by repeat constructor) rfl)) ?_ ?_ | refine lq_back (i + 1, _, _, _) (.of (wk_drop [_, _] rfl (by repeat constructor) rfl (by repeat constructor) rfl)) ?_ ?_ | refine lq_back (i + 1, _, _, _) (.of (wk_drop [_, _, _] rfl (by repeat constructor) rfl (by repeat constructor) rfl)) ?_ ?_
        all_goals first
          | (dsimp only; omega)
          | (refine ⟨by dsimp only; omega, out ++ [bAt s (i : Int)], ?_, ?_⟩
             · dsimp only
               rw [← bytes_snocB, ← hby]
             · dsimp only
               have hcc : ∀ nm, nm = false ∨ (bAt s (i : Int)).toNat < 97 ∨ 122 < (bAt s (i : Int)).toNat ∨ i % 2 ≠ 0 → cB nm i (bAt s (i : Int)) = bAt s (i : Int) := fun nm k => cB_same k
               refine let_step hlt ho (.inr ⟨?_, ?_, ?_⟩)
               · first | rw [hcc false (.inl rfl)] | rw [hcc true (.inr (by omega))]
                 first
                   | (rintro ⟨_, k⟩; omega)
                   | (rintro ⟨k, _⟩; cases k)
               · first
                   | rfl
                   | (rw [decide_eq_true (by omega)]; rfl)
                   | (rw [decide_eq_false (by omega)]; rfl)
               · first | rw [hcc false (.inl rfl)] | rw [hcc true (.inr (by omega))])
          | (refine ⟨by dsimp only; omega, out ++ ([bAt s (i : Int)] ++ bl), ?_, ?_⟩
             · dsimp only
               rw [hby]
               simp [bytesAV]
             · dsimp only
               have hcc : cB true i (bAt s (i : Int)) = bAt s (i : Int) := cB_same (by omega)
               exact let_step hlt ho (.inl ⟨rfl, by rw [hcc]; omega, rfl, by rw [hcc]⟩))
          | (have hcc := cB_up (b := bAt s (i : Int)) (i := i) (by omega) (by omega) (by omega)
             refine ⟨by dsimp only; omega, out ++ [cB true i (bAt s (i : Int))], ?_, ?_⟩
             · dsimp only
               rw [← bytes_snocB, hcc, ← hby]
             · dsimp only
               exact let_step hlt ho (.inr ⟨by rintro ⟨_, k⟩; omega, rfl, rfl⟩))
      · have hie : i = s.length := by omega
        have hT2 : out = letGo bl 0 false s := by
          rw [← ho, List.drop_of_length_le (by omega), letGo, List.append_nil]
        have hP := s_parse (w0 := w0) (base := base) (s := out) hG
        unfold prR at hP
        obtain ⟨x, st, a, hx⟩ : ∃ x st a, headParse out = (x, st, a) := ⟨_, _, _, rfl⟩
        rw [hx] at hP
        dsimp only at hP
        by_cases hcond : bl.length ≤ 8 ∧ out.length ≤ 4096 ∧ s.length ≤ 900
        · rw [hT2, hlo hbb hcond.1 hcond.2.2 (by rw [← hT2]; exact hcond.2.1)] at hx
          injection hx with h1 h2
          injection h2 with h2 h3
          subst h1; subst h2; subst h3
          repeat' (first | (first | (refine al_v (ov_conv_bytes (l := out) rfl rfl (.row _ _)) rfl ?_) | (refine k_call ?_; refine al_call rfl rfl rfl rfl hP ?_; rintro _ rfl) | (refine k_call ?_; refine al_call rfl rfl rfl rfl hS ?_; rintro _ rfl) | (refine k_call ?_; refine al_call rfl rfl rfl rfl (s_awake hG) ?_; rintro _ rfl)) | (refine k_al ?_; first | (refine al_v (ov_move rfl) rfl ?_) | (refine k_g ?_; first | (refine al_gy' rfl rfl (by with_reducible rfl) ?_) | (refine al_gnt rfl rfl (by with_reducible rfl) rfl ?_) | (refine al_gnf rfl rfl (by with_reducible rfl) rfl ?_) | (refine al_gsp rfl rfl (fun hc => ?_) (fun hc => ?_) <;> (try (exfalso; omega))) | fail) | (refine k_load ?_; first | (refine al_v (ov_load_agg rfl rfl rfl) rfl ?_) | fail) | (refine k_bin ?_; first | (refine al_v (ov_cmp rfl rfl rfl) rfl ?_) | (refine al_v (ov_add rfl rfl (by (first | exact w64 (by omega) (by omega) | exact w8 (by omega) (by omega) | rfl))) rfl ?_) | (refine al_v (ov_sub rfl rfl (by (first | exact w64 (by omega) (by omega) | exact w8 (by omega) (by omega) | rfl))) rfl ?_) | (refine al_v (ov_rem rfl rfl (by decide) rfl) rfl ?_) | (refine al_v (ov_sne rfl rfl) rfl ?_) | fail) | (refine k_pick ?_; first | (refine al_v (ov_pick_t' rfl (by with_reducible rfl) rfl) rfl ?_) | (refine al_v (ov_pick_f' rfl (by with_reducible rfl) rfl) rfl ?_) | fail) | (refine al_v (ov_assign rfl) rfl ?_) | (refine k_call ?_; first | (refine al_v (ov_len_str rfl) rfl ?_) | (refine al_v (ov_len_os rfl rfl rfl) rfl ?_) | fail) | (refine al_v (ov_extract rfl rfl) rfl ?_) | (refine al_nil ?_) | (refine al_box rfl rfl rfl (by (first | exact (rfl : _ = 0) | exact (rfl : _ = 1) | exact (rfl : _ = 2) | exact (rfl : _ = 3) | exact (rfl : _ = 4) | exact (rfl : _ = 5) | exact (rfl : _ = 6))) (by repeat constructor) rfl ?_) | (refine al_alloc rfl rfl rfl (by (first | exact (rfl : _ = 0) | exact (rfl : _ = 1) | exact (rfl : _ = 2) | exact (rfl : _ = 3) | exact (rfl : _ = 4) | exact (rfl : _ = 5) | exact (rfl : _ = 6))) (by repeat constructor) rfl ?_) | (refine al_store rfl rfl rfl rfl rfl (by repeat constructor) (by repeat constructor) ?_) | (refine al_buildSlice (by rfl) (by rfl) (by rfl) (by rfl) (by decide) (by decide) (by rfl) (by rfl) (by repeat constructor) (by rfl) (by repeat constructor) (by rfl) (by (first | exact (rfl : _ = 0) | exact (rfl : _ = 1) | exact (rfl : _ = 2) | exact (rfl : _ = 3) | exact (rfl : _ = 4) | exact (rfl : _ = 5) | exact (rfl : _ = 6))) (by repeat constructor) rfl ?_) | (refine al_v (ov_index rfl rfl (by omega) (by omega)) rfl ?_) | fail) | (first | (refine thn_n ?_) | (refine k_awp ?_; first | (refine awp_seq (awp_region ?_)) | (refine awp_seq ?_) | (refine awp_region ?_) | (refine k_cond ?_; first | (refine awp_cond_t' rfl (by with_reducible rfl) ?_) | (refine awp_cond_f' rfl (by with_reducible rfl) ?_) | (refine awp_cond_p rfl (fun hc => ?_) (fun hc => ?_) <;> (try (exfalso; omega))) | fail) | (refine awp_block ?_) | (refine awp_ret ?_) | (refine awp_skip ?_) | (refine awp_exit ?_) | fail) | (refine thn_ret ?_) | (refine lq_exit ?_) | (refine thn_exit ?_) | (refine inb_n ?_) | (refine inb_here ?_) | fail))
          all_goals first
            | (refine ret1 (by first | exact .inr rfl | exact .inl rfl) rfl rfl ?_
               exact ⟨rfl, rfl⟩)
            | exact absurd rfl ‹_›
            | (exfalso; omega)
        · repeat' (first | (first | (refine al_v (ov_conv_bytes (l := out) rfl rfl (.row _ _)) rfl ?_) | (refine k_call ?_; refine al_call rfl rfl rfl rfl hP ?_; rintro _ rfl) | (refine k_call ?_; refine al_call rfl rfl rfl rfl (s_awake hG) ?_; rintro _ rfl)) | (refine k_al ?_; first | (refine al_v (ov_move rfl) rfl ?_) | (refine k_g ?_; first | (refine al_gy' rfl rfl (by with_reducible rfl) ?_) | (refine al_gnt rfl rfl (by with_reducible rfl) rfl ?_) | (refine al_gnf rfl rfl (by with_reducible rfl) rfl ?_) | (refine al_gsp rfl rfl (fun hc => ?_) (fun hc => ?_) <;> (try (exfalso; omega))) | fail) | (refine k_load ?_; first | (refine al_v (ov_load_agg rfl rfl rfl) rfl ?_) | fail) | (refine k_bin ?_; first | (refine al_v (ov_cmp rfl rfl rfl) rfl ?_) | (refine al_v (ov_add rfl rfl (by (first | exact w64 (by omega) (by omega) | exact w8 (by omega) (by omega) | rfl))) rfl ?_) | (refine al_v (ov_sub rfl rfl (by (first | exact w64 (by omega) (by omega) | exact w8 (by omega) (by omega) | rfl))) rfl ?_) | (refine al_v (ov_rem rfl rfl (by decide) rfl) rfl ?_) | (refine al_v (ov_sne rfl rfl) rfl ?_) | fail) | (refine k_pick ?_; first | (refine al_v (ov_pick_t' rfl (by with_reducible rfl) rfl) rfl ?_) | (refine al_v (ov_pick_f' rfl (by with_reducible rfl) rfl) rfl ?_) | fail) | (refine al_v (ov_assign rfl) rfl ?_) | (refine k_call ?_; first | (refine al_v (ov_len_str rfl) rfl ?_) | (refine al_v (ov_len_os rfl rfl rfl) rfl ?_) | fail) | (refine al_v (ov_extract rfl rfl) rfl ?_) | (refine al_nil ?_) | (refine al_box rfl rfl rfl (by (first | exact (rfl : _ = 0) | exact (rfl : _ = 1) | exact (rfl : _ = 2) | exact (rfl : _ = 3) | exact (rfl : _ = 4) | exact (rfl : _ = 5) | exact (rfl : _ = 6))) (by repeat constructor) rfl ?_) | (refine al_alloc rfl rfl rfl (by (first | exact (rfl : _ = 0) | exact (rfl : _ = 1) | exact (rfl : _ = 2) | exact (rfl : _ = 3) | exact (rfl : _ = 4) | exact (rfl : _ = 5) | exact (rfl : _ = 6))) (by repeat constructor) rfl ?_) | (refine al_store rfl rfl rfl rfl rfl (by repeat constructor) (by repeat constructor) ?_) | (refine al_buildSlice (by rfl) (by rfl) (by rfl) (by rfl) (by decide) (by decide) (by rfl) (by rfl) (by repeat constructor) (by rfl) (by repeat constructor) (by rfl) (by (first | exact (rfl : _ = 0) | exact (rfl : _ = 1) | exact (rfl : _ = 2) | exact (rfl : _ = 3) | exact (rfl : _ = 4) | exact (rfl : _ = 5) | exact (rfl : _ = 6))) (by repeat constructor) rfl ?_) | (refine al_v (ov_index rfl rfl (by omega) (by omega)) rfl ?_) | fail) | (first | (refine thn_n ?_) | (refine k_awp ?_; first | (refine awp_seq (awp_region ?_)) | (refine awp_seq ?_) | (refine awp_region ?_) | (refine k_cond ?_; first | (refine awp_cond_t' rfl (by with_reducible rfl) ?_) | (refine awp_cond_f' rfl (by with_reducible rfl) ?_) | (refine awp_cond_p rfl (fun hc => ?_) (fun hc => ?_) <;> (try (exfalso; omega))) | fail) | (refine awp_block ?_) | (refine awp_ret ?_) | (refine awp_skip ?_) | (refine awp_exit ?_) | fail) | (refine thn_ret ?_) | (refine lq_exit ?_) | (refine thn_exit ?_) | (refine inb_n ?_) | (refine inb_here ?_) | fail))
          all_goals first
            | (refine ret1 (by first | exact .inr rfl | exact .inl rfl) rfl rfl ?_
               exact ⟨rfl, rfl⟩)
            | (exfalso; omega)
    · refine acalls_of Tryd.func8 rfl rfl rfl (.cons (.cons .nil)) ?_
      repeat' (first | (first | (refine k_call ?_; refine al_call rfl rfl rfl rfl hA' ?_; rintro _ rfl) | (refine k_call ?_; refine al_call rfl rfl rfl rfl hT ?_; rintro _ rfl) | (refine k_call ?_; refine al_call rfl rfl rfl rfl hB' ?_; rintro _ rfl) | (refine k_call ?_; refine al_call rfl rfl rfl rfl (s_awake hG) ?_; rintro _ rfl)) | (refine k_al ?_; first | (refine al_v (ov_move rfl) rfl ?_) | (refine k_g ?_; first | (refine al_gy' rfl rfl (by with_reducible rfl) ?_) | (refine al_gnt rfl rfl (by with_reducible rfl) rfl ?_) | (refine al_gnf rfl rfl (by with_reducible rfl) rfl ?_) | (refine al_gsp rfl rfl (fun hc => ?_) (fun hc => ?_) <;> (try (exfalso; omega))) | fail) | (refine k_load ?_; first | (refine al_v (ov_load_agg rfl rfl rfl) rfl ?_) | fail) | (refine k_bin ?_; first | (refine al_v (ov_cmp rfl rfl rfl) rfl ?_) | (refine al_v (ov_add rfl rfl (by (first | exact w64 (by omega) (by omega) | exact w8 (by omega) (by omega) | rfl))) rfl ?_) | (refine al_v (ov_sub rfl rfl (by (first | exact w64 (by omega) (by omega) | exact w8 (by omega) (by omega) | rfl))) rfl ?_) | (refine al_v (ov_rem rfl rfl (by decide) rfl) rfl ?_) | (refine al_v (ov_sne rfl rfl) rfl ?_) | fail) | (refine k_pick ?_; first | (refine al_v (ov_pick_t' rfl (by with_reducible rfl) rfl) rfl ?_) | (refine al_v (ov_pick_f' rfl (by with_reducible rfl) rfl) rfl ?_) | fail) | (refine al_v (ov_assign rfl) rfl ?_) | (refine k_call ?_; first | (refine al_v (ov_len_str rfl) rfl ?_) | (refine al_v (ov_len_os rfl rfl rfl) rfl ?_) | fail) | (refine al_v (ov_extract rfl rfl) rfl ?_) | (refine al_nil ?_) | (refine al_box rfl rfl rfl (by (first | exact (rfl : _ = 0) | exact (rfl : _ = 1) | exact (rfl : _ = 2) | exact (rfl : _ = 3) | exact (rfl : _ = 4) | exact (rfl : _ = 5) | exact (rfl : _ = 6))) (by repeat constructor) rfl ?_) | (refine al_alloc rfl rfl rfl (by (first | exact (rfl : _ = 0) | exact (rfl : _ = 1) | exact (rfl : _ = 2) | exact (rfl : _ = 3) | exact (rfl : _ = 4) | exact (rfl : _ = 5) | exact (rfl : _ = 6))) (by repeat constructor) rfl ?_) | (refine al_store rfl rfl rfl rfl rfl (by repeat constructor) (by repeat constructor) ?_) | (refine al_buildSlice (by rfl) (by rfl) (by rfl) (by rfl) (by decide) (by decide) (by rfl) (by rfl) (by repeat constructor) (by rfl) (by repeat constructor) (by rfl) (by (first | exact (rfl : _ = 0) | exact (rfl : _ = 1) | exact (rfl : _ = 2) | exact (rfl : _ = 3) | exact (rfl : _ = 4) | exact (rfl : _ = 5) | exact (rfl : _ = 6))) (by repeat constructor) rfl ?_) | (refine al_v (ov_index rfl rfl (by omega) (by omega)) rfl ?_) | fail) | (first | (refine thn_n ?_) | (refine k_awp ?_; first | (refine awp_seq (awp_region ?_)) | (refine awp_seq ?_) | (refine awp_region ?_) | (refine k_cond ?_; first | (refine awp_cond_t' rfl (by with_reducible rfl) ?_) | (refine awp_cond_f' rfl (by with_reducible rfl) ?_) | (refine awp_cond_p rfl (fun hc => ?_) (fun hc => ?_) <;> (try (exfalso; omega))) | fail) | (refine awp_block ?_) | (refine awp_ret ?_) | (refine awp_skip ?_) | (refine awp_exit ?_) | fail) | (refine thn_ret ?_) | (refine lq_exit ?_) | (refine thn_exit ?_) | (refine inb_n ?_) | (refine inb_here ?_) | fail))
      all_goals first
        | (refine ret1 (by first | exact .inr rfl | exact .inl rfl) rfl rfl ?_
           exact ⟨rfl, rfl⟩)
        | exact absurd rfl ‹_›
        | exact absurd ‹¬_ ≠ _› (fun k => k hb)
  · have hA' := pcalls_mono hA (R' := fun rv => rv = .tup [.str [], .int .i64 70]) fun rv k => by unfold prnR at k; rw [if_neg hp, if_neg hp] at k; exact k
    have hB' := pcalls_mono hB (R' := fun rv => rv = .tup [.str [], .int .i64 70]) fun rv k => by unfold prnR at k; rw [if_neg hp, if_neg hp] at k; exact k
    refine acalls_of Tryd.func8 rfl rfl rfl (.cons (.cons .nil)) ?_
    repeat' (first | (first | (refine k_call ?_; refine al_call rfl rfl rfl rfl hA' ?_; rintro _ rfl) | (refine k_call ?_; refine al_call rfl rfl rfl rfl hT ?_; rintro _ rfl) | (refine k_call ?_; refine al_call rfl rfl rfl rfl hB' ?_; rintro _ rfl) | (refine k_call ?_; refine al_call rfl rfl rfl rfl (s_awake hG) ?_; rintro _ rfl)) | (refine k_al ?_; first | (refine al_v (ov_move rfl) rfl ?_) | (refine k_g ?_; first | (refine al_gy' rfl rfl (by with_reducible rfl) ?_) | (refine al_gnt rfl rfl (by with_reducible rfl) rfl ?_) | (refine al_gnf rfl rfl (by with_reducible rfl) rfl ?_) | (refine al_gsp rfl rfl (fun hc => ?_) (fun hc => ?_) <;> (try (exfalso; omega))) | fail) | (refine k_load ?_; first | (refine al_v (ov_load_agg rfl rfl rfl) rfl ?_) | fail) | (refine k_bin ?_; first | (refine al_v (ov_cmp rfl rfl rfl) rfl ?_) | (refine al_v (ov_add rfl rfl (by (first | exact w64 (by omega) (by omega) | exact w8 (by omega) (by omega) | rfl))) rfl ?_) | (refine al_v (ov_sub rfl rfl (by (first | exact w64 (by omega) (by omega) | exact w8 (by omega) (by omega) | rfl))) rfl ?_) | (refine al_v (ov_rem rfl rfl (by decide) rfl) rfl ?_) | (refine al_v (ov_sne rfl rfl) rfl ?_) | fail) | (refine k_pick ?_; first | (refine al_v (ov_pick_t' rfl (by with_reducible rfl) rfl) rfl ?_) | (refine al_v (ov_pick_f' rfl (by with_reducible rfl) rfl) rfl ?_) | fail) | (refine al_v (ov_assign rfl) rfl ?_) | (refine k_call ?_; first | (refine al_v (ov_len_str rfl) rfl ?_) | (refine al_v (ov_len_os rfl rfl rfl) rfl ?_) | fail) | (refine al_v (ov_extract rfl rfl) rfl ?_) | (refine al_nil ?_) | (refine al_box rfl rfl rfl (by (first | exact (rfl : _ = 0) | exact (rfl : _ = 1) | exact (rfl : _ = 2) | exact (rfl : _ = 3) | exact (rfl : _ = 4) | exact (rfl : _ = 5) | exact (rfl : _ = 6))) (by repeat constructor) rfl ?_) | (refine al_alloc rfl rfl rfl (by (first | exact (rfl : _ = 0) | exact (rfl : _ = 1) | exact (rfl : _ = 2) | exact (rfl : _ = 3) | exact (rfl : _ = 4) | exact (rfl : _ = 5) | exact (rfl : _ = 6))) (by repeat constructor) rfl ?_) | (refine al_store rfl rfl rfl rfl rfl (by repeat constructor) (by repeat constructor) ?_) | (refine al_buildSlice (by rfl) (by rfl) (by rfl) (by rfl) (by decide) (by decide) (by rfl) (by rfl) (by repeat constructor) (by rfl) (by repeat constructor) (by rfl) (by (first | exact (rfl : _ = 0) | exact (rfl : _ = 1) | exact (rfl : _ = 2) | exact (rfl : _ = 3) | exact (rfl : _ = 4) | exact (rfl : _ = 5) | exact (rfl : _ = 6))) (by repeat constructor) rfl ?_) | (refine al_v (ov_index rfl rfl (by omega) (by omega)) rfl ?_) | fail) | (first | (refine thn_n ?_) | (refine k_awp ?_; first | (refine awp_seq (awp_region ?_)) | (refine awp_seq ?_) | (refine awp_region ?_) | (refine k_cond ?_; first | (refine awp_cond_t' rfl (by with_reducible rfl) ?_) | (refine awp_cond_f' rfl (by with_reducible rfl) ?_) | (refine awp_cond_p rfl (fun hc => ?_) (fun hc => ?_) <;> (try (exfalso; omega))) | fail) | (refine awp_block ?_) | (refine awp_ret ?_) | (refine awp_skip ?_) | (refine awp_exit ?_) | fail) | (refine thn_ret ?_) | (refine lq_exit ?_) | (refine thn_exit ?_) | (refine inb_n ?_) | (refine inb_here ?_) | fail))
    all_goals first
      | (refine ret1 (by first | exact .inr rfl | exact .inl rfl) rfl rfl ?_
         exact ⟨rfl, rfl⟩)
      | exact absurd rfl ‹_›
end
end Go.Proofs.YtffcgpkbibijpaaDoor.L

namespace Go.Proofs.YtffcgpkbibijpaaDoor.L
open Go Go.RowKit Go.ChangeShapes Go.WideShapes
set_option linter.unusedVariables false
set_option linter.unusedSimpArgs false

mutual
/-- How many values and letters. -/
def avB : AV → Nat
  | .str s => s.length + 1
  | .rs xs => rowsB xs + 1
  | .agg cs => cellsB cs + 1
  | _ => 1
def cellsB : List AV → Nat
  | [] => 0
  | x :: r => avB x + cellsB r
def rowsB : List (List AV) → Nat
  | [] => 0
  | c :: r => cellsB c + rowsB r
end
theorem cellsB_append (a b : List AV) : cellsB (a ++ b) = cellsB a + cellsB b := by
  induction a with
  | nil => simp [cellsB]
  | cons x a ih => simp only [List.cons_append, cellsB, ih]; omega
theorem rowsB_append (a b : List (List AV)) : rowsB (a ++ b) = rowsB a + rowsB b := by
  induction a with
  | nil => simp [rowsB]
  | cons x a ih => simp only [List.cons_append, rowsB, ih]; omega
theorem bulk_one {H : Type} (d : DataW H) : 1 ≤ Rows.uptoBulk d := by
  cases d with
  | lit l => cases l <;> simp [Rows.uptoBulk]
  | _ => simp [Rows.uptoBulk]
theorem bulkAll_append {H : Type} (l r : List (DataW H)) : Rows.uptoBulkAll (l ++ r) = Rows.uptoBulkAll l + Rows.uptoBulkAll r := by
  induction l with
  | nil => simp [Rows.uptoBulkAll]
  | cons x l ih => simp only [List.cons_append, Rows.uptoBulkAll, ih]; omega
def sumN (β : Nat → Nat) : Nat → Nat
  | 0 => 0
  | n + 1 => sumN β n + β n
theorem sumN_take {H : Type} (l : List (DataW H)) : ∀ n, n ≤ l.length → sumN (fun i => Rows.uptoBulk (l.getD i .nil)) n = Rows.uptoBulkAll (l.take n) := by
  intro n
  induction n with
  | zero => intro _; rfl
  | succ n ih =>
    intro h
    have hn : n < l.length := by omega
    rw [List.take_add_one, List.getElem?_eq_getElem hn, bulkAll_append, sumN, ih (by omega), List.getD_eq_getElem?_getD, List.getElem?_eq_getElem hn]
    simp [Rows.uptoBulkAll]

section
variable {H : Type} {enc : TypeId × Value → H} {P : Program} {w : World} {sp : Nat → Bool} {held : Bool}

theorem rows_ofB {ks : List KT} (R : Nat → List Value) (β : Nat → Nat) : ∀ n, (∀ i, i < n → ∃ avs, OpL w (Rd w) ks (R i) avs ∧ cellsB avs ≤ β i) → ∃ xs : List (List AV), xs.length = n ∧ rowsB xs ≤ sumN β n ∧ ∀ (i : Nat) row, xs[i]? = some row → OpL w (Rd w) ks (R i) row := by
  intro n
  induction n with
  | zero => intro _; exact ⟨[], rfl, Nat.le_refl _, fun i row h => by simp at h⟩
  | succ n ih =>
    intro h
    obtain ⟨xs, h1, hb, h2⟩ := ih fun i hi => h i (by omega)
    obtain ⟨avs, ha, hab⟩ := h n (by omega)
    refine ⟨xs ++ [avs], by simp [h1], by rw [rowsB_append]; simp only [rowsB, sumN]; omega, fun i row hi => ?_⟩
    rw [List.getElem?_append] at hi
    split at hi
    · exact h2 i row hi
    · rename_i hn
      have : i = n := by
        by_cases e : i - xs.length = 0
        · omega
        · rw [List.getElem?_eq_none (by simp; omega)] at hi; cases hi
      subst this
      rw [h1, Nat.sub_self] at hi
      simp at hi
      subst hi
      exact ha

theorem open_cellsB : ∀ (n : Nat) (t : TypeId) (ks : List KT) (fuel : Nat) (cs : List Value) (x : DataW H × List MemPlace), ktOf P n t = some ks → DataW.trod enc P w 0 sp held fuel t cs = some x → (∀ m ∈ x.1.weights P t, m ≤ reachBytes) → ∃ avs, OpL w (Rd w) ks cs avs ∧ cellsB avs ≤ Rows.uptoBulk x.1 := by
  intro n
  induction n with
  | zero => intro t ks fuel cs x h; cases h
  | succ n ih =>
    intro t ks fuel cs x hk h hw
    unfold ktOf at hk
    split at hk
    · rename_i hu
      injection hk with hk; subst hk
      obtain ⟨b, rfl, _⟩ := DataW.trod_bool hu h
      exact ⟨_, .cons (.bool b) (.bool b) .nil, bulk_one _⟩
    · rename_i k hu
      injection hk with hk; subst hk
      obtain ⟨m, rfl, _, hwf⟩ := DataW.trod_int hu h
      exact ⟨_, .cons (.int _ m hwf) (.int _ m) .nil, bulk_one _⟩
    · rename_i hu
      injection hk with hk; subst hk
      obtain ⟨s, rfl, rfl, _⟩ := DataW.trod_string hu h
      obtain ⟨⟨s⟩⟩ := s
      exact ⟨_, .cons (.str s (by have := hw s.length (by simp [DataW.weights]); simpa [reachBytes] using this)) (by simpa using VP.str (w := w) (I := Rd w) s) .nil, by simp [cellsB, avB, Rows.uptoBulk]⟩
    · rename_i e hu
      split at hk
      · rename_i es he
        split at hk
        · rename_i hc0
          have hc := hc0.1
          injection hk with hk; subst hk
          rcases DataW.trod_slice hu h with ⟨rfl, _⟩ | ⟨a, len, cap, elems, rest, m, _, rfl, hx0, _, hl, hm, hlen, hel, _⟩
          · exact ⟨_, .cons (.sl _ [] (by simp) (by simp) .nil) (.rs0 none 0) .nil, by simpa [cellsB, avB, rowsB] using bulk_one _⟩
          · by_cases h0 : len = 0
            · subst h0
              exact ⟨_, .cons (.sl _ [] (by simp) (by simp) .nil) (.rs0 (some a) cap) .nil, by simpa [cellsB, avB, rowsB] using bulk_one _⟩
            · have row : ∀ i, i < len → ∃ R : List Value, w.cells? 0 (a.add (i * P.cellsOf e)) (P.cellsOf e) = some R ∧ ∃ avs, OpL w (Rd w) es R avs ∧ cellsB avs ≤ Rows.uptoBulk ((elems.map (·.1)).getD i .nil) := by
                intro i hi
                have := hel i hi
                rw [List.getElem?_eq_getElem (by omega)] at this
                obtain ⟨R, h1, h2⟩ := Option.bind_eq_some_iff.1 this
                have hgd : (elems.map (·.1)).getD i .nil = (elems[i]'(by omega)).1 := by
                  rw [List.getD_eq_getElem?_getD, List.getElem?_map, List.getElem?_eq_getElem (by omega)]
                  rfl
                rw [hgd]
                refine ⟨R, h1, ih _ _ _ _ _ he h2 fun q hq => hw q ?_⟩
                rw [hx0]
                simp only [DataW.weights, hu, List.mem_cons, List.mem_append]
                exact .inr (.inl (weightsAll_mem (List.mem_map.2 ⟨_, List.getElem_mem _, rfl⟩) q hq))
              have hex : ∀ i, ∃ R : List Value, i < len → w.cells? 0 (a.add (i * P.cellsOf e)) (P.cellsOf e) = some R ∧ ∃ avs, OpL w (Rd w) es R avs ∧ cellsB avs ≤ Rows.uptoBulk ((elems.map (·.1)).getD i .nil) := by
                intro i
                by_cases hi : i < len
                · obtain ⟨R, hR⟩ := row i hi
                  exact ⟨R, fun _ => hR⟩
                · exact ⟨[], fun h => absurd h hi⟩
              obtain ⟨R, hR⟩ := Classical.axiomOfChoice hex
              obtain ⟨xs, hx1, hxb, hx2⟩ := rows_ofB R (fun i => Rows.uptoBulk ((elems.map (·.1)).getD i .nil)) len fun i hi => (hR i hi).2
              have hbulk : rowsB xs + 1 ≤ Rows.uptoBulk x.1 := by
                rw [sumN_take _ _ (by rw [List.length_map]; omega), List.take_of_length_le (by rw [List.length_map]; omega)] at hxb
                rw [hx0]
                simp only [Rows.uptoBulk]
                omega
              have cell : ∀ i j, i < len → j < es.length → w.cell? (a.add (i * es.length + j)) = (R i)[j]? := by
                intro i j hi hj
                have h1 := (World.cells?_some (hR i hi).1).2.2 j (by omega)
                rw [← h1, hc.1]
                congr 1
                unfold Addr.add
                by_cases e1 : i * es.length = 0
                · rw [if_pos e1, e1, Nat.zero_add]
                · rw [if_neg e1, if_neg (by omega)]
                  by_cases e2 : j = 0
                  · subst e2; simp
                  · rw [if_neg e2]; simp [Nat.add_assoc]
              have hRl : ∀ i, i < len → (R i).length = es.length := fun i hi => by rw [(World.cells?_some (hR i hi).1).2.1, hc.1]
              have hsp : a.spot = none := by
                have h1 := cell 0 0 (by omega) hc.2
                rw [List.getElem?_eq_getElem (by rw [hRl 0 (by omega)]; exact hc.2)] at h1
                simp only [Nat.zero_mul, Nat.zero_add, Addr.add, if_true] at h1
                obtain ⟨b, o, s⟩ := a
                exact cell_spot h1
              obtain ⟨b, off, s⟩ := a
              simp only at hsp
              subst hsp
              have add : ∀ k, (⟨b, off, none⟩ : Addr).add k = ⟨b, off + k, none⟩ := fun k => add_none b off k
              have us : ∀ j, j < len * es.length → w.cell? ⟨b, off + j, none⟩ = (R (j / es.length))[j % es.length]? := by
                intro j hj
                have h1 : j / es.length < len := Nat.div_lt_of_lt_mul (by rw [Nat.mul_comm]; exact hj)
                have h2 : j % es.length < es.length := Nat.mod_lt _ hc.2
                rw [← cell _ _ h1 h2, add, Nat.mul_comm, Nat.div_add_mod]
              have us' : ∀ j, j < len * es.length → w.cell? ⟨b, off + j, none⟩ = some ((R (j / es.length)).getD (j % es.length) (.bool false)) := by
                intro j hj
                have h1 : j / es.length < len := Nat.div_lt_of_lt_mul (by rw [Nat.mul_comm]; exact hj)
                have h2 : j % es.length < es.length := Nat.mod_lt _ hc.2
                rw [us j hj, List.getElem?_eq_getElem (by rw [hRl _ h1]; exact h2), List.getD_eq_getElem?_getD, List.getElem?_eq_getElem (by rw [hRl _ h1]; exact h2)]
                rfl
              have hrow : ∀ (i : Nat) row, xs[i]? = some row → i < len := fun i row hi => by
                have := (List.getElem?_eq_some_iff.1 hi).1
                omega
              have hbig : xs.length ≤ 140737488351232 := by
                have := hw ((elems.length + rest.length) * P.bytesOf e) (by rw [hx0]; simp [DataW.weights, hu])
                have h2 : (elems.length + rest.length) * 1 ≤ (elems.length + rest.length) * P.bytesOf e := Nat.mul_le_mul_left _ (Nat.le_trans (ktW_pos hc.2) hc0.2)
                simp only [reachBytes] at this
                omega
              have hbig2 : xs.length * ktW es ≤ 140737488351232 := by
                have := hw ((elems.length + rest.length) * P.bytesOf e) (by rw [hx0]; simp [DataW.weights, hu])
                have h2 : xs.length * ktW es ≤ (elems.length + rest.length) * P.bytesOf e := Nat.mul_le_mul (by omega) hc0.2
                simp only [reachBytes] at this
                omega
              refine ⟨_, .cons (.sl _ xs hbig hbig2 (OKR.of fun row hr => ?_)) ?_ .nil, by simpa [cellsB, avB] using hbulk⟩
              · obtain ⟨i, hi⟩ := List.mem_iff_getElem?.1 hr
                exact (hx2 i row hi).ok
              · have := VP.rs (w := w) (I := Rd w) xs es.length b off cap (fun j => (R (j / es.length)).getD (j % es.length) (.bool false)) hc.2 (by omega) hm
                  (fun i row hi => by have h1 := (hx2 i row hi).len; omega)
                  (fun j hj => ⟨us' j (by rw [← hx1]; exact hj), _, us' j (by rw [← hx1]; exact hj)⟩)
                  (fun i j row y hi hj => by
                    have h1 := hx2 i row hi
                    have h2 := hrow i row hi
                    have h3 : j < row.length := (List.getElem?_eq_some_iff.1 hj).1
                    have h4 : j < es.length := by have := h1.len; omega
                    have e1 : (i * es.length + j) / es.length = i := by rw [Nat.mul_comm, Nat.mul_add_div hc.2, Nat.div_eq_of_lt h4, Nat.add_zero]
                    have e2 : (i * es.length + j) % es.length = j := by rw [Nat.mul_comm, Nat.mul_add_mod, Nat.mod_eq_of_lt h4]
                    simp only [e1, e2]
                    refine h1.get j y _ hj ?_
                    rw [List.getD_eq_getElem?_getD, List.getElem?_eq_getElem (by rw [hRl i h2]; exact h4)]
                    rfl)
                rw [hx1] at this
                exact this
        · cases hk
      · cases hk
    · rename_i fs hu
      split at hk
      · rename_i es he
        split at hk
        · rename_i hc
          injection hk with hk; subst hk
          obtain ⟨xs, m, _, hx0, hcl, hxl, hxs⟩ := DataW.trod_struct hu h
          have key : ∀ (l : List (Field × (DataW H × List MemPlace))) (off : Nat) (ks : List KT), (∀ f ∈ l, DataW.trod enc P w 0 sp held m f.1.type ((cs.drop f.1.offset).take (P.cellsOf f.1.type)) = some f.2 ∧ ∀ q ∈ f.2.1.weights P f.1.type, q ≤ reachBytes) → ktF (ktOf P n) P (l.map (·.1)) off = some ks → ∃ avs, OpL w (Rd w) ks ((cs.drop off).take ks.length) avs ∧ cellsB avs ≤ Rows.uptoBulkAll (l.map (·.2.1)) := by
            intro l
            induction l with
            | nil => intro off ks _ hk; injection hk with hk; subst hk; exact ⟨[], by simpa using OpL.nil, Nat.le_refl _⟩
            | cons f l ihl =>
              intro off ks hf hk
              rw [List.map_cons] at hk
              unfold ktF at hk
              split at hk
              · rename_i k1 hk1
                split at hk
                · rename_i hcc
                  split at hk
                  · rename_i k2 hk2
                    injection hk with hk; subst hk
                    obtain ⟨hy, hyw⟩ := hf f (by simp)
                    obtain ⟨a1, h1, hb1⟩ := ih _ _ _ _ _ hk1 hy hyw
                    obtain ⟨a2, h2, hb2⟩ := ihl _ _ (fun g hg => hf g (by simp [hg])) hk2
                    refine ⟨a1 ++ a2, ?_, by rw [cellsB_append, List.map_cons]; simp only [Rows.uptoBulkAll]; omega⟩
                    rw [List.length_append, List.take_add, List.drop_drop]
                    rw [hcc.1, hcc.2] at h1
                    exact h1.append h2
                  · cases hk
                · cases hk
              · cases hk
          have hzl : (fs.toList.zip xs).map (·.1) = fs.toList := List.map_fst_zip (by have := Array.length_toList (xs := fs); omega)
          have hzr : (fs.toList.zip xs).map (·.2.1) = xs.map (·.1) := by
            have : (fs.toList.zip xs).map (·.2) = xs := List.map_snd_zip (by have := Array.length_toList (xs := fs); omega)
            have h2 : (fs.toList.zip xs).map (·.2.1) = ((fs.toList.zip xs).map (·.2)).map (·.1) := by rw [List.map_map]; rfl
            rw [h2, this]
          obtain ⟨avs, ha, hab⟩ := key (fs.toList.zip xs) 0 es (fun f hf => by
            obtain ⟨i, hi⟩ := List.mem_iff_getElem?.1 hf
            rw [List.getElem?_zip_eq_some] at hi
            have hi' : fs[i]? = some f.1 := by simpa using hi.1
            refine ⟨(hxs i f.1 hi').trans hi.2, fun q hq => hw q ?_⟩
            rw [hx0]
            simp only [DataW.weights, hu]
            exact DataW.weights_mem_each (j := i) (t := f.1.type) (by simp [hi']) (by rw [List.getElem?_map, hi.2]; rfl) q hq) (by rw [hzl]; exact he)
          refine ⟨avs, ?_, ?_⟩
          · rw [List.drop_zero, List.take_of_length_le (by omega)] at ha
            exact ha
          · rw [hzr] at hab
            rw [hx0]
            simp only [Rows.uptoBulk]
            omega
        · cases hk
      · cases hk
    · cases hk

theorem open_argB {r : Reach} {b n : Nat} {t : TypeId} {v : Value} {d : DataW H} {p : List MemPlace} {a : AK} (hk : akOf P n t = some a) (hval : Value.okWide P w r b t v) (h : DataW.Trod enc P w 0 sp held t v d p) (hw : ∀ m ∈ d.weights P t, m ≤ reachBytes) : ∃ x, (∀ aks2 xs, OKA aks2 xs → OKA (a :: aks2) (x :: xs)) ∧ VR w (Rd w) nu0 x v ∧ avB x ≤ Rows.uptoBulk d + 1 := by
  obtain ⟨fuel, h⟩ := h
  unfold akOf at hk
  split at hk
  · rename_i fs hu
    split at hk
    · rename_i ks hks
      injection hk with hk; subst hk
      obtain ⟨xs, hx, hxb⟩ := open_cellsB _ _ _ _ _ _ hks h hw
      obtain ⟨cs, rfl, _⟩ := okWide_struct hu hval
      have hx' : OpL w (Rd w) ks cs.toList xs := hx
      exact ⟨.agg xs, fun aks2 ys hr => .agg hx'.ok hr, by simpa using VR.agg (w := w) (I := Rd w) (ν := nu0) xs cs.toList hx'.len.1 fun j x v h1 h2 => .pure (hx'.get j x v h1 h2), by simp only [avB]; have : cellsB xs ≤ Rows.uptoBulk d := hxb; omega⟩
    · cases hk
  · cases hk
  · rename_i h1 h2
    split at hk
    · rename_i k hks
      injection hk with hk; subst hk
      obtain ⟨xs, hx, hxb⟩ := open_cellsB _ _ _ _ _ _ hks h hw
      rw [cells_one hval h1 h2 hks] at hx
      cases hx with
      | cons ho hv hr =>
        cases hr
        exact ⟨_, fun aks2 ys hr => .one ho hr, .pure hv, by simp only [cellsB] at hxb; have : _ ≤ Rows.uptoBulk d := hxb; omega⟩
    · cases hk

theorem open_argsB {r : Reach} {b n : Nat} : ∀ {ts : List TypeId} {aks : List AK} {vs : List Value} {ds : List (DataW H)} {p : List MemPlace}, aksOf P n ts = some aks → (∀ (j : Nat) t v, ts[j]? = some t → vs[j]? = some v → Value.okWide P w r b t v) → DataW.TrodAll enc P w 0 sp held ts vs ds p → (∀ m ∈ DataW.weightsEach P ts ds, m ≤ reachBytes) →
    ∃ xs, OKA aks xs ∧ xs.length = vs.length ∧ ds.length = ts.length ∧ (∀ (j : Nat) x v, xs[j]? = some x → vs[j]? = some v → VR w (Rd w) nu0 x v) ∧ cellsB xs ≤ Rows.uptoBulkAll ds + ts.length := by
  intro ts
  induction ts with
  | nil =>
    intro aks vs ds p hk _ h hw
    injection hk with hk; subst hk
    obtain ⟨rfl, rfl, rfl⟩ := trodAll_nil h
    exact ⟨[], .nil, rfl, rfl, fun j x v h => by simp at h, Nat.le_refl _⟩
  | cons t ts ih =>
    intro aks vs ds p hk hval h hw
    unfold aksOf at hk
    split at hk
    · rename_i a ha
      split at hk
      · rename_i aks2 has
        injection hk with hk; subst hk
        obtain ⟨v, vs, d, ds, p, q, rfl, rfl, rfl, h1, h2⟩ := trodAll_cons h
        obtain ⟨x, hx, hv, hb⟩ := open_argB ha (hval 0 t v rfl rfl) h1 (fun m hm => hw m (by simp [DataW.weightsEach, hm]))
        obtain ⟨xs, g1, g2, g4, g3, g5⟩ := ih has (fun j t v h1 h2 => hval (j + 1) t v (by simpa using h1) (by simpa using h2)) h2 (fun m hm => hw m (by simp [DataW.weightsEach, hm]))
        refine ⟨x :: xs, hx _ _ g1, by simp [g2], by simp [g4], fun j y u hy hu => ?_, ?_⟩
        · cases j with
          | zero => simp at hy hu; subst hy; subst hu; exact hv
          | succ j => exact g3 j y u (by simpa using hy) (by simpa using hu)
        · simp only [cellsB, Rows.uptoBulkAll, List.length_cons]; omega
      · cases hk
    · cases hk

theorem law_callsB {f n : Nat} {fn : Func} {s : ChangeSpec} {W : World} {base : Nat} {args : Array Value} {ds gs : List (DataW H)} {before : List MemPlace} {tb : TypeId} {fresh handsOn : Bool} {aks : List AK}
    (hl : laidOutB P = true) (hts : (fn.params.toList.all fun t => P.readableRec t && decide (t < P.types.size)) = true) (hres : fn.resultTypes = #[tb]) (hb : P.underlying tb = some .bool) (hvars : s.vars = []) (hk : aksOf P n fn.params.toList = some aks)
    (hfn : ∀ ds : List (DataW H), ds.length = fn.params.toList.length → s.fn H ds = { results := [.lit (.bool true)], args := ds })
    (spec : ∀ xs, OKA aks xs → cellsB xs ≤ 1048576 + fn.params.toList.length → PCalls ⟨P, W, W.heap.size, 0⟩ f xs fun rv => rv = .bool true)
    (hval : ∀ (j : Nat) t v, fn.params[j]? = some t → args[j]? = some v → Value.okWide P W .any base t v)
    (hW : DataW.Whole enc P fn.params.toList s.vars false W args.toList ds gs before) (hsz : (DataW.weightsEach P (fn.params.toList ++ s.plain.varTypes P) (ds ++ gs)).all (· ≤ reachBytes) = true) (hup : Rows.uptoSmall H (ds ++ gs) = true) :
    Calls P f args W fun e W' => ∃ v, e = .returned v ∧ s.post enc P fn false fresh handsOn false W args v W' := by
  have hW' := hW
  obtain ⟨p, q, hA, hV, _, _⟩ := hW
  rw [hvars] at hV
  obtain ⟨rfl, rfl⟩ := trodVars_none hV
  have hvt : s.plain.varTypes P = [] := by simp [ChangeSpec.plain, DataSpec.varTypes, hvars]
  rw [hvt, List.append_nil, List.append_nil] at hsz
  rw [List.append_nil] at hup
  have hup' : Rows.uptoBulkAll ds ≤ 1048576 := of_decide_eq_true hup
  have hsz' : ∀ m ∈ DataW.weightsEach P fn.params.toList ds, m ≤ reachBytes := fun m hm => by simpa using List.all_eq_true.1 hsz m hm
  obtain ⟨xs, g1, g2, g4, g3, g5⟩ := open_argsB hk (fun j t v h1 h2 => hval j t v (by simpa using h1) (by simpa using h2)) hA hsz'
  exact calls_row hl (fun t ht => by simpa using List.all_eq_true.1 hts t ht) hres hb hvars hW' (hfn ds g4) ⟨g2, g3⟩ (spec xs g1 (by omega))
end
end Go.Proofs.YtffcgpkbibijpaaDoor.L

namespace Go.Proofs.YtffcgpkbibijpaaDoor.L
open Go Go.RowKit Go.Proofs Go.ChangeShapes Go.WideShapes Go.ChangeAt
set_option linter.unusedVariables false
set_option maxRecDepth 100000
attribute [local irreducible] AL QL AWp Thn InB RetQ ACalls LoopQ
theorem rowOwn : ownKnob Tryd.prog.godebug = none := by kernel_rfl
theorem rowLaid : laidOutB Tryd.prog = true := by kernel_rfl
theorem glob_of {W : World} (h : W.ShapedOpen Tryd.prog) : Glob W W.heap.size := by
  obtain ⟨m, hm⟩ := cell_of_shapedOpen_int (P := Tryd.prog) (g := 0) (t := 3) (zero := #[.int .i64 0]) (k := .i64) h (of_decide_eq_true (by kernel_rfl)) (by kernel_rfl) (by kernel_rfl) (by kernel_rfl) (by kernel_rfl) (by kernel_rfl)
  refine ⟨?_, m, hm⟩
  by_cases h0 : 0 < W.heap.size
  · exact h0
  · exfalso
    have : W.heap[0]? = none := by rw [Array.getElem?_eq_none_iff]; omega
    simp [World.cell?, this] at hm
theorem okl_pair {xs : List AV} (h : OKL [.str, .str] xs) : ∃ p : List UInt8 × List UInt8, xs = prAV p := by
  cases h with
  | cons h1 h2 => cases h2 with
    | cons h2 h3 => cases h3; cases h1 with
      | str a _ => cases h2 with
        | str b _ => exact ⟨(a, b), rfl⟩
theorem okr_pairs : ∀ {rows : List (List AV)}, OKR [.str, .str] rows → ∃ fs : Fs, rows = fs.map prAV := by
  intro rows
  induction rows with
  | nil => intro _; exact ⟨[], rfl⟩
  | cons r rows ih =>
    intro h
    cases h with
    | cons h1 h2 =>
      obtain ⟨p, rfl⟩ := okl_pair h1
      obtain ⟨fs, rfl⟩ := ih h2
      exact ⟨p :: fs, rfl⟩
theorem okl_head {xs : List AV} (h : OKL [.str, .str, .int .i64, .sl [.str, .str]] xs) : ∃ h : Hd, AV.agg xs = hdAV h.m h.t h.v h.fs ∧ h.fs.length * 16 ≤ 140737488351232 := by
  cases h with
  | cons h1 h => cases h with
    | cons h2 h => cases h with
      | cons h3 h => cases h with
        | cons h4 h =>
          cases h
          cases h1 with
          | str m _ => cases h2 with
            | str t _ => cases h3 with
              | int _ v _ => cases h4 with
                | sl _ rows hl hb hr =>
                  obtain ⟨fs, rfl⟩ := okr_pairs hr
                  refine ⟨⟨m, t, v, fs⟩, rfl, ?_⟩
                  have e : ktW [.str, .str] = 32 := rfl
                  rw [e, List.length_map] at hb
                  show fs.length * 16 ≤ _
                  omega
theorem rowsB_pairs (fs : Fs) : (linesOf (fs.map fLine)).length ≤ 2 * rowsB (fs.map prAV) := by
  induction fs with
  | nil => simp [linesOf]
  | cons p fs ih =>
    rw [List.map_cons, List.map_cons, linesOf_cons]
    simp only [rowsB, prAV, cellsB, avB, List.length_append, List.length_cons, fLine]
    omega
theorem small_of {h : Hd} {r : List AV} (hf : h.fs.length * 16 ≤ 140737488351232) (hb : cellsB (hdAV h.m h.t h.v h.fs :: r) ≤ 1048580) : Small h := by
  refine ⟨?_, hf⟩
  have := rowsB_pairs h.fs
  simp only [cellsB, avB, hdAV] at hb
  omega
end Go.Proofs.YtffcgpkbibijpaaDoor.L
