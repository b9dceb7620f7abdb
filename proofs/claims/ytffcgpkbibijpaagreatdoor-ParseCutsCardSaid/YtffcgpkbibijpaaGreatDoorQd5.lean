/- Part 5 of the texts behind the theorem of this claim: Layer 7 (head), plain: what is printed is read as it was;Layer 7 (head): Print, the document's;The logic, part 29: data that a row hands in, and how much it holds: for the rows' second form;Layer 7 (head): what rows hand in;Layer 7 (head): strings.Split, strconv.Atoi;slices.Contains, slices.ContainsFunc;Layer 7 (head): which body a head asks for;Layer 7 (head): whether a connection ends behind a request;Layer 7 (head): whether a connection ends behind a request: the document's;The logic, part 30: the greater and the smaller of two integers;The logic, part 31: a scope in which the run jumps back to labels;Layer 8 (parse): what a chunked body is, as a plain function on the bytes;a digit, a CR LF;Layer 8 (parse): the chunks of a body, as the program reads them -/
import Derived.Test.YtffcgpkbibijpaaGreatDoorQd4
import Derived.Test.YtffcgpkbibijpaaGreatDoorQd2
import Derived.Test.YtffcgpkbibijpaaGreatDoorRows
import Derived.WalkKit
import Derived.ProofKit
import Derived.OpenShut
import Derived.SizedLaws
import Derived.HandedShaped
import Derived.Shelf.Vars
import Derived.LaidMore
import Derived.Lay
import Derived.Stop.Joined
import Derived.Deep.DeepHandedRow
import Derived.Lib.LaidTab
import Derived.Lib.SplitLaws
import Derived.Lib.AtoiErrMem
import Derived.Laws.Small
import Derived.ScopeJumps
set_option linter.unusedVariables false
set_option linter.unusedSimpArgs false
namespace Go.Proofs.YtffcgpkbibijpaaGreatDoor.L
open Go Go.RowKit Go.Proofs
set_option linter.unusedVariables false
set_option linter.unusedSimpArgs false
set_option maxRecDepth 100000

theorem dw_fix {α : Type} {p : α → Bool} {l : List α} (h : ∀ c, l.head? = some c → p c = false) : l.dropWhile p = l := by
  cases l with
  | nil => rfl
  | cons c t => rw [List.dropWhile_cons, h c rfl]; rfl
theorem dw_head {α : Type} {p : α → Bool} : ∀ {l : List α} {c : α}, (l.dropWhile p).head? = some c → p c = false := by
  intro l
  induction l with
  | nil => intro c h; cases h
  | cons a t ih =>
    intro c h
    rw [List.dropWhile_cons] at h
    cases ha : p a with
    | true => rw [ha, if_pos rfl] at h; exact ih h
    | false => rw [ha, if_neg (by decide)] at h; injection h with h; rw [← h]; exact ha
theorem dw_all {α : Type} {p : α → Bool} : ∀ {l : List α}, (∀ b ∈ l, p b = true) → l.dropWhile p = [] := by
  intro l
  induction l with
  | nil => intro _; rfl
  | cons a t ih => intro h; rw [List.dropWhile_cons, h a (by simp), if_pos rfl]; exact ih fun b hb => h b (by simp [hb])
theorem trim_two {l cs : List UInt8} (h : Lib.trimS l cs = l) : (∀ c, l.head? = some c → cs.contains c = false) ∧ (∀ c, l.reverse.head? = some c → cs.contains c = false) := by
  unfold Lib.trimS Lib.trimLeftS Lib.trimRightS at h
  have h1 : (l.reverse.dropWhile (cs.contains ·)).length ≤ l.reverse.length := (List.dropWhile_suffix _).length_le
  have h2 : ((l.reverse.dropWhile (cs.contains ·)).reverse.dropWhile (cs.contains ·)).length ≤ (l.reverse.dropWhile (cs.contains ·)).reverse.length := (List.dropWhile_suffix _).length_le
  rw [h] at h2
  rw [List.length_reverse] at h1 h2
  have h3 : l.reverse.dropWhile (cs.contains ·) = l.reverse := (List.dropWhile_suffix _).eq_of_length (by rw [List.length_reverse]; omega)
  rw [h3, List.reverse_reverse] at h
  constructor
  · intro c hc
    rw [← h] at hc
    exact dw_head hc
  · intro c hc
    rw [← h3] at hc
    exact dw_head hc
theorem trim_fix {l cs : List UInt8} (h1 : ∀ c, l.head? = some c → cs.contains c = false) (h2 : ∀ c, l.reverse.head? = some c → cs.contains c = false) : Lib.trimS l cs = l := by
  unfold Lib.trimS Lib.trimLeftS Lib.trimRightS
  rw [dw_fix h2, List.reverse_reverse, dw_fix h1]
theorem trim_front {bl v cs : List UInt8} (hb : ∀ b ∈ bl, cs.contains b = true) (hv : Lib.trimS v cs = v) : Lib.trimS (bl ++ v) cs = v := by
  obtain ⟨h1, h2⟩ := trim_two hv
  by_cases hne : v = []
  · subst hne
    unfold Lib.trimS Lib.trimLeftS Lib.trimRightS
    have : (bl ++ []).reverse.dropWhile (cs.contains ·) = [] := by
      rw [List.append_nil]
      exact dw_all fun b hbm => hb b (List.mem_reverse.1 hbm)
    rw [this]
    rfl
  · have e : Lib.trimRightS (bl ++ v) cs = bl ++ v := by
      unfold Lib.trimRightS
      rw [dw_fix, List.reverse_reverse]
      intro c hc
      rw [List.reverse_append, List.head?_append] at hc
      cases hr : v.reverse.head? with
      | none => rw [List.head?_eq_none_iff, List.reverse_eq_nil_iff] at hr; exact absurd hr hne
      | some d => rw [hr] at hc; injection hc with hc; subst hc; exact h2 d hr
    unfold Lib.trimS
    rw [e]
    unfold Lib.trimLeftS
    rw [List.dropWhile_append_of_pos (fun b hbm => hb b hbm), dw_fix h1]

theorem tok_58 : pToken 58 = false := by decide +kernel
theorem tok_13 : pToken 13 = false := by decide +kernel
theorem tok_10 : pToken 10 = false := by decide +kernel
theorem all_not {f : UInt8 → Bool} {l : List UInt8} {c : UInt8} (h : l.all f = true) (hc : f c = false) : c ∉ l := fun hm => by
  have := List.all_eq_true.1 h c hm
  rw [hc] at this
  cases this
/-- A field as it is read. -/
structure FldOk (p : List UInt8 × List UInt8) : Prop where
  ne : p.1 ≠ []
  tok : p.1.all pToken = true
  low : smallS p.1 = p.1
  loose : p.2.all pLoose = true
  trim : Lib.trimS p.2 [32, 9] = p.2
theorem line_of {p : List UInt8 × List UInt8} {n bl : List UInt8} (hp : FldOk p) (hn : smallS n = p.1) (ht : n.all pToken = true) (hb : ∀ b ∈ bl, b = 32 ∨ b = 9) (hlen : (n ++ 58 :: (bl ++ p.2)).length ≤ 1024) :
    FLine (n ++ 58 :: (bl ++ p.2)) ∧ fieldOf (n ++ 58 :: (bl ++ p.2)) = p := by
  have hc : Lib.cut (n ++ 58 :: (bl ++ p.2)) [58] = (n, bl ++ p.2, true) := cut_of rfl (all_not ht tok_58)
  have hbl : ∀ b ∈ bl, ([32, 9] : List UInt8).contains b = true := fun b hm => by rcases hb b hm with rfl | rfl <;> rfl
  have htr := trim_front hbl hp.trim
  have hne : n ≠ [] := fun e => hp.ne (by rw [← hn, e]; rfl)
  refine ⟨⟨?_, by simp, hlen, ?_⟩, ?_⟩
  · have k : ∀ c : UInt8, c = 13 ∨ c = 10 → c ∉ n ++ 58 :: (bl ++ p.2) := by
      intro c hcc hm
      rcases List.mem_append.1 hm with hm | hm
      · rcases hcc with rfl | rfl
        · exact all_not ht tok_13 hm
        · exact all_not ht tok_10 hm
      rcases List.mem_cons.1 hm with hm | hm
      · subst hm; rcases hcc with h | h <;> cases h
      rcases List.mem_append.1 hm with hm | hm
      · rcases hb c hm with rfl | rfl <;> rcases hcc with h | h <;> cases h
      · rcases hcc with rfl | rfl
        · exact all_not hp.loose (by decide) hm
        · exact all_not hp.loose (by decide) hm
    intro h
    rcases h with h | h
    · exact k 13 (.inl rfl) h
    · exact k 10 (.inr rfl) h
  · unfold fieldOk fN fV
    rw [hc]
    dsimp only
    rw [htr]
    exact ⟨rfl, hne, ht, hp.loose⟩
  · unfold fieldOf fN fV
    rw [hc]
    dsimp only
    rw [htr, hn]
theorem textOf_length (ls : List (List UInt8)) : (textOf ls).length = (linesOf ls).length + 2 := by simp [textOf]
theorem back_ok {h : Hd} (hp : printOk h) : headParse (printS h) = (h, 0, 0) := by
  obtain ⟨_, _, h1, h2⟩ := hp
  have e : headParse (printS h) = (h, 0, (headParse (printS h)).2.2) := by
    conv => rhs; rw [← h1]
    conv => rhs; lhs; rw [← h2]
  obtain ⟨_, _, _, _, _, _, _, _, _, h7⟩ := headParse_inv e
  rw [e, h7]
end Go.Proofs.YtffcgpkbibijpaaGreatDoor.L

namespace Go.Proofs.YtffcgpkbibijpaaGreatDoor.L
open Go Go.RowKit Go.Proofs
set_option linter.unusedVariables false
set_option linter.unusedSimpArgs false
set_option maxRecDepth 100000
attribute [local irreducible] AL QL AWp Thn InB RetQ ACalls LoopQ HL HO HW HQ NoG

theorem parse_v {s : List UInt8} {x : Hd} {a : Int} (h : headParse s = (x, 0, a)) : (x.v = 0 ∨ x.v = 1) ∧ x.fs.length ≤ 32 := by
  obtain ⟨l, ls, _, _, h2, _, h4, h5, _, _⟩ := headParse_inv h
  subst h5
  exact ⟨req_minor h2.ok, by simpa [hdOf] using h4⟩
theorem linesOf_snoc (ls : List (List UInt8)) (l : List UInt8) : linesOf (ls ++ [l]) = linesOf ls ++ (l ++ [13, 10]) := by simp [linesOf]
theorem fLines_next {fs : Fs} {k : Nat} {p : List UInt8 × List UInt8} (h : fs[k]? = some p) : linesOf ((fs.take (k + 1)).map fLine) = linesOf ((fs.take k).map fLine) ++ (((p.1 ++ [58, 32]) ++ p.2) ++ [13, 10]) := by
  rw [List.take_add_one, h, List.map_append]
  show linesOf (_ ++ [fLine p]) = _
  rw [linesOf_snoc]
  simp [fLine]
theorem rLine_eq (h : Hd) : rLine h ++ [13, 10] = ((((h.m ++ [32]) ++ h.t) ++ [32, 72, 84, 84, 80, 47, 49, 46]) ++ digS h.v) ++ [13, 10] := by simp [rLine]
theorem printS_eq (h : Hd) : printS h = ((rLine h ++ [13, 10]) ++ linesOf (h.fs.map fLine)) ++ [13, 10] := by
  unfold printS textOf
  rw [linesOf_cons]
  simp
theorem digS_len (v : Int) : (digS v).length = 1 := by unfold digS; split; rfl; split <;> rfl
theorem rLine_len (h : Hd) : (rLine h ++ [13, 10]).length = h.m.length + h.t.length + 12 := by
  rw [rLine_eq]
  simp only [List.length_append, List.length_cons, List.length_nil, digS_len]
  omega
section
variable {w0 : World} {base : Nat}
abbrev prnR (h : Hd) (rv : AV) : Prop := rv = .tup [.str (if printOk h then printS h else []), .int .i64 (if printOk h then 0 else 70)]
theorem prnR_not {h : Hd} (hn : ¬ printOk h) : prnR h (.tup [.str [], .int .i64 70]) := by unfold prnR; rw [if_neg hn, if_neg hn]
theorem prnR_yes {h : Hd} {s : List UInt8} (hn : printOk h) (hs : s = printS h) : prnR h (.tup [.str s, .int .i64 0]) := by unfold prnR; rw [if_pos hn, if_pos hn, hs]
/-- A head that is not too long for memory. -/
structure Small (h : Hd) : Prop where
  z : h.m.length + h.t.length + (linesOf (h.fs.map fLine)).length ≤ 35184372088832
  f : h.fs.length * 16 ≤ 140737488351232
end
end Go.Proofs.YtffcgpkbibijpaaGreatDoor.L

namespace Go.Proofs.YtffcgpkbibijpaaGreatDoor.L
open Go Go.RowKit Go.ChangeShapes Go.WideShapes
set_option linter.unusedVariables false
set_option linter.unusedSimpArgs false

mutual
/-- How many values and letters. -/
def avB : AV → Nat
  | .str s => s.length + 1
  | .rs xs => rowsB xs + 1
  | .agg cs => cellsB cs + 1
  | _ => 1
def cellsB : List AV → Nat
  | [] => 0
  | x :: r => avB x + cellsB r
def rowsB : List (List AV) → Nat
  | [] => 0
  | c :: r => cellsB c + rowsB r
end
def sumN (β : Nat → Nat) : Nat → Nat
  | 0 => 0
  | n + 1 => sumN β n + β n
section
variable {H : Type} {enc : TypeId × Value → H} {P : Program} {w : World} {sp : Nat → Bool} {held : Bool}

end
end Go.Proofs.YtffcgpkbibijpaaGreatDoor.L

namespace Go.Proofs.YtffcgpkbibijpaaGreatDoor.L
open Go Go.RowKit Go.Proofs Go.ChangeShapes Go.WideShapes Go.ChangeAt
set_option linter.unusedVariables false
set_option maxRecDepth 100000
attribute [local irreducible] AL QL AWp Thn InB RetQ ACalls LoopQ
theorem rowOwn : ownKnob Tryz.prog.godebug = none := by kernel_rfl
theorem rowLaid : laidOutB Tryz.prog = true := by kernel_rfl
theorem glob_of {W : World} (h : W.ShapedOpen Tryz.prog) : Glob W W.heap.size := by
  obtain ⟨m, hm⟩ := cell_of_shapedOpen_int (P := Tryz.prog) (g := 0) (t := 3) (zero := #[.int .i64 0]) (k := .i64) h (of_decide_eq_true (by kernel_rfl)) (by kernel_rfl) (by kernel_rfl) (by kernel_rfl) (by kernel_rfl) (by kernel_rfl)
  refine ⟨?_, m, hm⟩
  by_cases h0 : 0 < W.heap.size
  · exact h0
  · exfalso
    have : W.heap[0]? = none := by rw [Array.getElem?_eq_none_iff]; omega
    simp [World.cell?, this] at hm
end Go.Proofs.YtffcgpkbibijpaaGreatDoor.L

namespace Go.Proofs.YtffcgpkbibijpaaGreatDoor.L
open Go Go.RowKit Go.Proofs
set_option linter.unusedVariables false
set_option linter.unusedSimpArgs false
set_option maxRecDepth 100000
attribute [local irreducible] AL QL AWp Thn InB RetQ ACalls LoopQ HL HO HW HQ NoG

theorem splitK_one (c : UInt8) : ∀ (n : Nat) (s : List UInt8), s.length = n → Lib.splitK [c] 0 (Lib.count s [c]) s = splitB c s := by
  intro n
  induction n using Nat.strongRecOn with
  | _ n ih =>
    intro s hn
    rcases Lib.index_spec s [c] with ⟨h1, h2⟩ | ⟨i, h1, h2, h3, h4⟩
    · rw [Lib.count_miss h1]
      have hno : c ∉ s := by
        intro hm
        obtain ⟨j, hj, hjc⟩ := mem_bAt hm
        have := h2 j (by omega)
        have ho : Lib.occAt s [c] j = true := by
          unfold Lib.occAt
          rw [List.isPrefixOf_iff_prefix]
          refine ⟨s.drop (j + 1), ?_⟩
          have := List.getElem?_eq_some_iff.1 hjc
          rw [List.drop_eq_getElem_cons hj, this.2]
          rfl
        rw [ho] at this
        cases this
      rw [splitB_no hno]
      rfl
    · have hroom : i < s.length := by
        have := Lib.occAt_room h3
        simp at this
        omega
      have hc := Lib.occAt_head (t := []) rfl h3
      have hno : c ∉ s.take i := by
        intro hm
        obtain ⟨j, hj, hjc⟩ := mem_bAt hm
        rw [List.length_take] at hj
        have hji : j < i := by omega
        rw [List.getElem?_take, if_pos hji] at hjc
        have := h4 j hji
        have ho : Lib.occAt s [c] j = true := by
          unfold Lib.occAt
          rw [List.isPrefixOf_iff_prefix]
          refine ⟨s.drop (j + 1), ?_⟩
          have h6 := List.getElem?_eq_some_iff.1 hjc
          rw [List.drop_eq_getElem_cons (show j < s.length by omega), h6.2]
          rfl
        rw [ho] at this
        cases this
      rw [Lib.count_hit (by simp) h1, Nat.add_comm, Lib.splitK]
      have hne : (Lib.index s [c] == -1) = false := by rw [beq_eq_false_iff_ne, h1]; omega
      rw [hne, h1]
      have hs : s = s.take i ++ c :: s.drop (i + 1) := by
        have h6 := List.getElem?_eq_some_iff.1 hc
        conv => lhs; rw [← List.take_append_drop i s, List.drop_eq_getElem_cons hroom, h6.2]
      have hd := ih (s.drop (i + 1)).length (by rw [List.length_drop]; omega) (s.drop (i + 1)) rfl
      have hsp : splitB c s = s.take i :: splitB c (s.drop (i + 1)) := by
        conv => lhs; rw [hs]
        exact splitB_at hno
      rw [hsp, ← hd]
      simp
def decN (l : List UInt8) : Int := l.foldl (fun n b => 10 * n + ((b.toNat : Int) - 48)) 0
theorem decFrom_fold : ∀ (l : List UInt8) (acc : Nat), l.all pDigit = true → Lib.decFrom acc l = some (l.foldl (fun n b => 10 * n + ((b.toNat : Int) - 48)) (acc : Int)).toNat ∧ 0 ≤ l.foldl (fun n b => 10 * n + ((b.toNat : Int) - 48)) (acc : Int) := by
  intro l
  induction l with
  | nil => intro acc _; exact ⟨rfl, by simp⟩
  | cons b r ih =>
    intro acc h
    rw [List.all_cons, Bool.and_eq_true] at h
    have hb := h.1
    unfold pDigit at hb
    simp only [Bool.and_eq_true, decide_eq_true_eq] at hb
    have e : 10 * (acc : Int) + ((b.toNat : Int) - 48) = ((acc * 10 + (b.toNat - 48) : Nat) : Int) := by omega
    obtain ⟨h1, h2⟩ := ih (acc * 10 + (b.toNat - 48)) h.2
    rw [List.foldl_cons, e]
    refine ⟨?_, h2⟩
    rw [Lib.decFrom]
    have hd : Lib.digitVal b = some (b.toNat - 48) := by unfold Lib.digitVal; rw [if_pos hb]
    rw [hd]
    exact h1
theorem decN_nonneg {l : List UInt8} (h : l.all pDigit = true) : 0 ≤ decN l := (decFrom_fold l 0 h).2
theorem atoi_dec {l : List UInt8} (h : l.all pDigit = true) (hne : l ≠ []) : Lib.atoi l = some (decN l) := by
  cases l with
  | nil => exact absurd rfl hne
  | cons b r =>
    have hb := h
    rw [List.all_cons, Bool.and_eq_true] at hb
    have hb := hb.1
    unfold pDigit at hb
    simp only [Bool.and_eq_true, decide_eq_true_eq] at hb
    have e1 : (b == 45) = false := by rw [beq_eq_false_iff_ne]; intro e; subst e; simp at hb
    have e2 : (b == 43) = false := by rw [beq_eq_false_iff_ne]; intro e; subst e; simp at hb
    obtain ⟨h1, h2⟩ := decFrom_fold (b :: r) 0 h
    rw [Lib.atoi, e1, e2]
    simp only [Bool.false_eq_true, if_false]
    unfold Lib.decNat
    simp only [List.isEmpty_cons, Bool.false_eq_true, if_false]
    rw [h1, Option.map_some]
    exact congrArg some (Int.toNat_of_nonneg h2)
theorem fold_lt : ∀ (l : List UInt8) (acc : Int), l.all pDigit = true → 0 ≤ acc → l.foldl (fun n b => 10 * n + ((b.toNat : Int) - 48)) acc < (acc + 1) * 10 ^ l.length := by
  intro l
  induction l with
  | nil => intro acc _ _; simp; omega
  | cons b r ih =>
    intro acc h h0
    rw [List.all_cons, Bool.and_eq_true] at h
    have hb := h.1
    unfold pDigit at hb
    simp only [Bool.and_eq_true, decide_eq_true_eq] at hb
    rw [List.foldl_cons]
    refine Int.lt_of_lt_of_le (ih _ h.2 (by omega)) ?_
    rw [List.length_cons, Int.pow_succ, Int.mul_comm _ (10 : Int), ← Int.mul_assoc]
    refine Int.mul_le_mul_of_nonneg_right (by omega) (Int.pow_nonneg (by omega))
theorem decN_lt {l : List UInt8} (h : l.all pDigit = true) (hl : l.length ≤ 9) : decN l < 1000000000 := by
  have := fold_lt l 0 h (by omega)
  have h2 : (10 : Int) ^ l.length ≤ 10 ^ 9 := by
    have := Nat.pow_le_pow_right (n := 10) (by omega) hl
    exact_mod_cast this
  unfold decN
  omega
section
variable {w0 : World} {base : Nat}
theorem s_split {s : List UInt8} (hG : Glob w0 base) (hs : s.length < 4294967281) : PCalls (EE w0 base) 43 [.str s, .str [44]] fun rv => rv = .rs (strAV (splitB 44 s)) := by
  refine pcalls_real fun I ν w vs hh hl hv => ?_
  match vs, hl with
  | [v1, v2], _ =>
  have e1 := (hv 0 _ v1 rfl rfl).str_inv
  have e2 := (hv 1 _ v2 rfl rfl).str_inv
  subst e1; subst e2
  obtain ⟨m, hm⟩ := glob_at hG hh
  obtain ⟨ps, hps⟩ : ∃ ps, ps = Lib.splitB ⟨#[44]⟩ 0 (Lib.countB ⟨s.toArray⟩ ⟨#[44]⟩) ⟨s.toArray⟩ := ⟨_, rfl⟩
  have hpl : ps.length = Lib.countB ⟨s.toArray⟩ ⟨#[44]⟩ + 1 := by rw [hps]; exact Lib.splitB_all _ (by decide) 0 _ _ rfl
  have hpm : ps.map (fun p => p.data.toList) = splitB 44 s := by
    rw [hps, Lib.splitB_data]
    exact splitK_one 44 s.length s rfl
  refine (Tryz.strings_Split ⟨s.toArray⟩ ⟨#[44]⟩ m w hs hm (by decide)).mono fun e w' ⟨he, hw⟩ => ⟨_, _, rfl, rfl, he, ?_, ?_⟩
  · subst hw; exact (Below.refl _ _).alloc (Nat.le_refl _) _
  · rw [← hps] at hw
    have hlen : (strAV (splitB 44 s)).length = Lib.countB ⟨s.toArray⟩ ⟨#[44]⟩ + 1 := by rw [← hpl, ← hpm]; simp [strAV]
    have hcell : ∀ j, j < ps.length → w'.cell? ⟨w.heap.size, 0 + j, none⟩ = some (((ps.map Value.string)[j]?).getD (.bool false)) := by
      intro j hj
      rw [hw]
      have hb : (w.alloc (.cells (ps.map Value.string).toArray 9)).heap[w.heap.size]? = some (.cells (ps.map Value.string).toArray 9) := halloc_new _ _
      unfold World.cell?
      rw [hb]
      simp [hj]
    rw [← hlen]
    refine .pure (.rs (strAV (splitB 44 s)) 1 w.heap.size 0 _ (fun j => ((ps.map Value.string)[j]?).getD (.bool false)) (by omega) (Nat.le_refl _) ?_ ?_ ?_ ?_)
    · rw [hlen, ← hpl]
      have := Lib.splitB_length_le ⟨#[44]⟩ 0 (Lib.countB ⟨s.toArray⟩ ⟨#[44]⟩) ⟨s.toArray⟩
      have hc : Lib.countB ⟨s.toArray⟩ ⟨#[44]⟩ ≤ s.length + 1 := Lib.count_le _ _
      simp only [maxLen]
      omega
    · intro i row hi
      unfold strAV at hi
      rw [List.getElem?_map] at hi
      obtain ⟨x, _, rfl⟩ := Option.map_eq_some_iff.1 hi
      rfl
    · intro j hj
      have h1 := hcell j (by omega)
      exact ⟨h1, .inr ⟨Nat.le_refl _, _, h1⟩⟩
    · intro i j row x hi hj
      unfold strAV at hi
      rw [← hpm, List.map_map, List.getElem?_map] at hi
      obtain ⟨p, hp, rfl⟩ := Option.map_eq_some_iff.1 hi
      cases j with
      | succ j => simp at hj
      | zero =>
        simp at hj
        subst hj
        have : (ps.map Value.string)[i * 1 + 0]? = some (.string p) := by
          rw [List.getElem?_map, Nat.mul_one, Nat.add_zero, hp]
          rfl
        rw [this]
        simpa using VP.str (w := w') (I := immNew w w' I) p.data.toList
theorem s_atoi {l : List UInt8} (h : l.all pDigit = true) (hne : l ≠ []) (hl : l.length ≤ 9) : PCalls (EE w0 base) 40 [.str l] fun rv => rv = .tup [.int .i64 (decN l), .nilif] := by
  refine pcalls_plain rfl fun I ν w vs hh hl' hv => ?_
  match vs, hl' with
  | [v1], _ =>
  have e1 := (hv 0 _ v1 rfl rfl).str_inv
  subst e1
  refine ⟨_, fun w I => .tup _ [_, _] rfl (fun j x v h1 h2 => ?_), (Tryz.strconv_Atoi ⟨l.toArray⟩ (decN l) (by simp [size_mk]; omega) (by simpa using atoi_dec h hne) w).mono fun e w' ⟨he, t, hw⟩ => ⟨he, by subst hw; exact Lib.bytesWorld_below _ _ _⟩⟩
  match j, h1, h2 with
  | 0, h1, h2 => simp at h1 h2; subst h1; subst h2; exact .pure (.int _ _)
  | 1, h1, h2 => simp at h1 h2; subst h1; subst h2; exact .pure .nilif
  | j + 2, h1, h2 => simp at h1
end
end Go.Proofs.YtffcgpkbibijpaaGreatDoor.L

namespace Go.Proofs.YtffcgpkbibijpaaGreatDoor.L
open Go Go.RowKit Go.Proofs
set_option linter.unusedVariables false
set_option linter.unusedSimpArgs false
set_option maxRecDepth 100000
attribute [local irreducible] AL QL AWp Thn InB RetQ ACalls LoopQ HL HO HW HQ NoG

def cleS : List UInt8 := [99, 111, 110, 116, 101, 110, 116, 45, 108, 101, 110, 103, 116, 104]
def teS : List UInt8 := [116, 114, 97, 110, 115, 102, 101, 114, 45, 101, 110, 99, 111, 100, 105, 110, 103]
def chS : List UInt8 := [99, 104, 117, 110, 107, 101, 100]
def bodyL (v : Int) : List (List UInt8) → List (List UInt8) → Int × Int × Int
  | [], [] => (0, 0, 0)
  | _ :: _, _ :: _ => (0, 0, 400)
  | [], c :: C => if C ≠ [] ∨ smallS c ≠ chS ∨ v ≠ 1 then (0, 0, 400) else (2, 0, 0)
  | l :: L, [] => if l.length < 1 ∨ 9 < l.length ∨ l.all pDigit = false ∨ ((l :: L).all fun x => decide (x = l)) = false then (0, 0, 400) else if 16384 < decN l then (0, 0, 413) else (1, decN l, 0)
def bodyS (h : Hd) : Int × Int × Int := bodyL h.v (valsOf h.fs cleS) (valsOf h.fs teS)
abbrev bodR (h : Hd) (rv : AV) : Prop := rv = .tup [.int .i64 (bodyS h).1, .int .i64 (bodyS h).2.1, .int .i64 (bodyS h).2.2]
/-- A head of no great texts. -/
structure Tiny (h : Hd) : Prop where
  f : h.fs.length ≤ 1048580
  v : ∀ p ∈ h.fs, p.2.length ≤ 1048580
theorem vals_tiny {h : Hd} (ht : Tiny h) {name x : List UInt8} (hx : x ∈ valsOf h.fs name) : x.length ≤ 1048580 := by
  unfold valsOf at hx
  obtain ⟨p, hp, rfl⟩ := List.mem_map.1 hx
  exact ht.v p ((List.mem_filter.1 hp).1)
theorem strAV_row' {a : List (List UInt8)} {i : Nat} {p : List UInt8} (h : a[i]? = some p) : (strAV a)[((i : Nat) : Int).toNat]? = some [.str p] := by
  have : ((i : Nat) : Int).toNat = i := rfl
  rw [this]
  unfold strAV
  rw [List.getElem?_map, h]
  rfl
theorem strAV_len (a : List (List UInt8)) : (strAV a).length = a.length := List.length_map _
section
variable {w0 : World} {base : Nat}
theorem a_diff {x l : List UInt8} : ACalls (EE w0 base) 39 [.str x, .op 0 0] [.box [.str l]] fun rv os => rv = .bool (decide (x ≠ l)) ∧ os = [.box [.str l]] := by
  refine acalls_of Tryz.func39 rfl rfl rfl (.cons (.cons .nil)) ?_
  repeat' (first|(refine k_al ?_;first|(refine al_v (ov_move rfl) rfl ?_)|(refine k_load ?_;first|(refine al_v (ov_load rfl rfl) rfl ?_))|(refine k_bin ?_;first|(refine al_v (ov_sne rfl rfl) rfl ?_))|(refine al_v (ov_assign rfl) rfl ?_)|(refine al_nil ?_))|(first|(refine thn_n ?_)|(refine k_awp ?_;first|(refine awp_seq (awp_region ?_))|(refine awp_seq ?_)|(refine awp_region ?_)|(refine awp_ret ?_))))
  refine ret1 (by first | exact .inr rfl | exact .inl rfl) rfl rfl ?_
  exact ⟨rfl, rfl⟩
set_option maxHeartbeats 2000000 in
theorem a_indexFunc {xs : List (List UInt8)} {l : List UInt8} (hx : xs.length ≤ 140737488351232) : ACalls (EE w0 base) 63 [.rs (strAV xs), .fn 39 [.op 0 0]] [.box [.str l]]
    fun rv os => (∃ k, rv = .int .i64 k ∧ (0 ≤ k ↔ (xs.all fun x => decide (x = l)) = false)) ∧ os = [.box [.str l]] := by
  refine acalls_of Tryz.func63 rfl rfl rfl (.cons (.cons .nil)) ?_
  have hxl := strAV_len xs
  repeat' (first|(refine k_al ?_;first|(refine al_v (ov_move rfl) rfl ?_)|(refine k_load ?_;first|(refine al_v (ov_load rfl rfl) rfl ?_))|(refine k_bin ?_;first|(refine al_v (ov_cmp rfl rfl rfl) rfl ?_)|(refine al_v (ov_add rfl rfl (by (first|exact w64 (by omega) (by omega)|rfl))) rfl ?_))|(refine al_v (ov_assign rfl) rfl ?_)|(refine k_call ?_;first|(refine al_v (ov_len_rs rfl) rfl ?_))|(refine al_nil ?_))|(first|(refine thn_n ?_)|(refine k_awp ?_;first|(refine awp_seq (awp_region ?_))|(refine awp_seq ?_)|(refine awp_region ?_)|(refine k_cond ?_;first|(refine awp_cond_p rfl (fun hc => ?_) (fun hc => ?_) <;> (try (exfalso;omega))))|(refine awp_block ?_)|(refine awp_ret ?_)|(refine awp_skip ?_)|(refine awp_exit ?_))|(refine thn_ret ?_)|(refine lq_exit ?_)|(refine lq_ret ?_)|(refine thn_exit ?_)|(refine inb_n ?_)|(refine inb_ret ?_)|(refine inb_here ?_)))
  refine awp_loopq (fun k : Nat => ⟨[(0, .rs (strAV xs)), (1, .fn 39 [.op 0 0]), (7, .int .i64 ((strAV xs).length : Int)), (8, .int .i64 k)], [.box [.str l]]⟩) (fun k => k ≤ xs.length ∧ (xs.take k).all (fun x => decide (x = l)) = true) (fun k => xs.length - k) 0 (.of (.same (by repeat constructor))) ⟨Nat.zero_le _, rfl⟩ ?_
  rintro i ⟨hi, hall⟩
  try dsimp only
  by_cases hlt : i < xs.length
  · obtain ⟨p, hp⟩ : ∃ p, xs[i]? = some p := ⟨_, List.getElem?_eq_getElem hlt⟩
    have hrow := strAV_row' hp
    repeat' (first|(first|(refine al_v (ov_indexAddr rfl rfl (by omega) hrow rfl) rfl ?_)|(refine k_call ?_;refine al_acall [0] rfl rfl (a_diff (x := p) (l := l)) (by repeat constructor) (by repeat constructor) rfl rfl ?_;rintro _ _ ⟨rfl, rfl⟩;refine ⟨_, _, by repeat constructor, by repeat constructor, ?_⟩))|(refine k_al ?_;first|(refine al_v (ov_move rfl) rfl ?_)|(refine k_load ?_;first|(refine al_v (ov_load rfl rfl) rfl ?_))|(refine k_bin ?_;first|(refine al_v (ov_cmp rfl rfl rfl) rfl ?_)|(refine al_v (ov_add rfl rfl (by (first|exact w64 (by omega) (by omega)|rfl))) rfl ?_))|(refine al_v (ov_assign rfl) rfl ?_)|(refine k_call ?_;first|(refine al_v (ov_len_rs rfl) rfl ?_))|(refine al_nil ?_))|(first|(refine thn_n ?_)|(refine k_awp ?_;first|(refine awp_seq (awp_region ?_))|(refine awp_seq ?_)|(refine awp_region ?_)|(refine k_cond ?_;first|(refine awp_cond_p rfl (fun hc => ?_) (fun hc => ?_) <;> (try (exfalso;omega))))|(refine awp_block ?_)|(refine awp_ret ?_)|(refine awp_skip ?_)|(refine awp_exit ?_))|(refine thn_ret ?_)|(refine lq_exit ?_)|(refine lq_ret ?_)|(refine thn_exit ?_)|(refine inb_n ?_)|(refine inb_ret ?_)|(refine inb_here ?_)))
    · refine ret1 (by first | exact .inr rfl | exact .inl rfl) rfl rfl ?_
      refine ⟨⟨_, rfl, fun _ => ?_, fun _ => by omega⟩, rfl⟩
      cases hc : xs.all fun x => decide (x = l) with
      | false => rfl
      | true =>
        have := List.all_eq_true.1 hc p (List.mem_of_getElem? hp)
        exact absurd (of_decide_eq_true this) ‹p ≠ l›
    · have hpl : p = l := Classical.not_not.1 ‹_›
      first | refine lq_back (i + 1) (.of (.same (by repeat constructor))) ?_ ?_ | fail
      · refine ⟨by omega, ?_⟩
        rw [List.take_add_one, hp, List.all_append, hall]
        simp [hpl]
      · omega
  · repeat' (first|(refine k_al ?_;first|(refine al_v (ov_move rfl) rfl ?_)|(refine k_load ?_;first|(refine al_v (ov_load rfl rfl) rfl ?_))|(refine k_bin ?_;first|(refine al_v (ov_cmp rfl rfl rfl) rfl ?_)|(refine al_v (ov_add rfl rfl (by (first|exact w64 (by omega) (by omega)|rfl))) rfl ?_))|(refine al_v (ov_assign rfl) rfl ?_)|(refine k_call ?_;first|(refine al_v (ov_len_rs rfl) rfl ?_))|(refine al_nil ?_))|(first|(refine thn_n ?_)|(refine k_awp ?_;first|(refine awp_seq (awp_region ?_))|(refine awp_seq ?_)|(refine awp_region ?_)|(refine k_cond ?_;first|(refine awp_cond_p rfl (fun hc => ?_) (fun hc => ?_) <;> (try (exfalso;omega))))|(refine awp_block ?_)|(refine awp_ret ?_)|(refine awp_skip ?_)|(refine awp_exit ?_))|(refine thn_ret ?_)|(refine lq_exit ?_)|(refine lq_ret ?_)|(refine thn_exit ?_)|(refine inb_n ?_)|(refine inb_ret ?_)|(refine inb_here ?_)))
    rw [List.take_of_length_le (by omega)] at hall
    refine ret1 (by first | exact .inr rfl | exact .inl rfl) rfl rfl ?_
    refine ⟨⟨_, rfl, fun k => absurd k (by decide), fun k => ?_⟩, rfl⟩
    rw [hall] at k
    cases k
theorem a_containsFunc {xs : List (List UInt8)} {l : List UInt8} (hx : xs.length ≤ 140737488351232) : ACalls (EE w0 base) 38 [.rs (strAV xs), .fn 39 [.op 0 0]] [.box [.str l]]
    fun rv os => rv = .bool (!(xs.all fun x => decide (x = l))) ∧ os = [.box [.str l]] := by
  refine acalls_of Tryz.func38 rfl rfl rfl (.cons (.cons .nil)) ?_
  repeat' (first|((refine k_call ?_;refine al_acall [0] rfl rfl (a_indexFunc (xs := xs) (l := l) hx) (by repeat constructor) (by repeat constructor) rfl rfl ?_;rintro _ _ ⟨⟨k, rfl, hk⟩, rfl⟩;refine ⟨_, _, by repeat constructor, by repeat constructor, ?_⟩))|(refine k_al ?_;first|(refine al_v (ov_move rfl) rfl ?_)|(refine k_bin ?_;first|(refine al_v (ov_cmp rfl rfl rfl) rfl ?_))|(refine al_v (ov_assign rfl) rfl ?_)|(refine al_nil ?_))|(first|(refine thn_n ?_)|(refine k_awp ?_;first|(refine awp_seq (awp_region ?_))|(refine awp_seq ?_)|(refine awp_region ?_)|(refine awp_ret ?_))))
  refine ret1 (by first | exact .inr rfl | exact .inl rfl) rfl rfl ?_
  refine ⟨congrArg AV.bool ?_, rfl⟩
  rw [Bool.eq_iff_iff, decide_eq_true_eq, Bool.not_eq_true']
  exact hk
set_option maxHeartbeats 4000000 in
theorem s_body {h : Hd} (ht : Tiny h) : PCalls (EE w0 base) 12 [hdAV h.m h.t h.v h.fs] (bodR h) := by
  have hf := ht.f
  have hV1 := s_values (w0 := w0) (base := base) (m := h.m) (t := h.t) (v := h.v) (fs := h.fs) (name := cleS) (by decide) (by omega)
  have hV2 := s_values (w0 := w0) (base := base) (m := h.m) (t := h.t) (v := h.v) (fs := h.fs) (name := teS) (by decide) (by omega)
  have hl1 := valsOf_len h.fs cleS
  have hm1 : ∀ x ∈ valsOf h.fs cleS, x.length ≤ 1048580 := fun x hx => vals_tiny ht hx
  have hm2 : ∀ x ∈ valsOf h.fs teS, x.length ≤ 1048580 := fun x hx => vals_tiny ht hx
  refine acalls_of Tryz.func12 rfl rfl rfl (.cons .nil) ?_
  unfold bodR bodyS
  revert hV1 hV2 hl1 hm1 hm2
  generalize valsOf h.fs cleS = L
  generalize valsOf h.fs teS = C
  intro hV1 hV2 hl1 hm1 hm2
  cases L with
  | nil =>
    cases C with
    | nil =>
      repeat' (first|(first|(refine awp_held (id := 1) [] [⟨0, true, [], bl 6 4⟩, ⟨2, true, [], bl 6 3⟩, ⟨1, false, [], []⟩, ⟨3, false, [], []⟩, ⟨4, true, [], bl 6 15⟩, ⟨5, true, [], bl 6 31⟩] (by kernel_rfl) (by kernel_rfl) rfl (by kernel_rfl) ?_)|(refine k_call ?_;refine al_call rfl rfl rfl rfl hV1 ?_;rintro _ rfl)|(refine k_call ?_;refine al_call rfl rfl rfl rfl hV2 ?_;rintro _ rfl)|(refine k_call ?_;refine al_v (ov_len_k 0 rfl rfl) rfl ?_))|(refine k_al ?_;first|(refine al_v (ov_move rfl) rfl ?_)|(refine k_g ?_;first|(refine al_gy' rfl rfl (by with_reducible rfl) ?_)|(refine al_gnt rfl rfl (by with_reducible rfl) rfl ?_)|(refine al_gnf rfl rfl (by with_reducible rfl) rfl ?_)|(refine al_gsp rfl rfl (fun hc => ?_) (fun hc => ?_) <;> (try (exfalso;omega))))|(refine al_v (ov_fieldAddr rfl rfl) rfl ?_)|(refine k_load ?_;first|(refine al_v (ov_load rfl rfl) rfl ?_)|(refine al_v (ov_load_agg rfl rfl rfl) rfl ?_))|(refine k_bin ?_;first|(refine al_v (ov_cmp rfl rfl rfl) rfl ?_)|(refine al_v (ov_sne rfl rfl) rfl ?_))|(refine k_pick ?_;first|(refine al_v (ov_pick_t' rfl (by with_reducible rfl) rfl) rfl ?_)|(refine al_v (ov_pick_f' rfl (by with_reducible rfl) rfl) rfl ?_))|(refine al_v (ov_assign rfl) rfl ?_)|(refine k_call ?_;first|(refine al_v (ov_len_str rfl) rfl ?_))|(refine al_v (ov_extract rfl rfl) rfl ?_)|(refine al_nil ?_)|(refine al_box rfl rfl rfl (by first|exact ln0|exact ln1) (by repeat constructor) rfl ?_)|(refine al_alloc rfl rfl rfl (by first|exact ln0|exact ln1) (by repeat constructor) rfl ?_)|(refine al_store rfl rfl rfl rfl rfl (by repeat constructor) (by repeat constructor) ?_)|(refine al_v (ov_not_t rfl (by with_reducible rfl)) rfl ?_)|(refine al_v (ov_not_f rfl (by with_reducible rfl)) rfl ?_))|(first|(refine thn_n ?_)|(refine k_awp ?_;first|(refine awp_seq (awp_region ?_))|(refine awp_seq ?_)|(refine awp_region ?_)|(refine k_cond ?_;first|(refine awp_cond_t' rfl (by with_reducible rfl) ?_)|(refine awp_cond_f' rfl (by with_reducible rfl) ?_)|(refine awp_cond_p rfl (fun hc => ?_) (fun hc => ?_) <;> (try (exfalso;omega)))|(refine awp_cond_b rfl (fun hc => ?_) (fun hc => ?_) <;> (try (exact absurd hc (by decide)))))|(refine awp_block ?_)|(refine awp_ret ?_)|(refine awp_skip ?_))|(refine thn_ret ?_)|(refine inb_n ?_)|(refine inb_ret ?_))|(first|(refine k_hw ?_;first|(refine hw_s rfl ?_)|(refine hw_v (ov_move rfl) rfl ?_)|(refine hw_v (ov_assign rfl) rfl ?_)|(refine hw_v (ov_fieldAddr rfl rfl) rfl ?_)|(refine hw_v (ov_load rfl rfl) rfl ?_)|(refine hw_v (ov_load_agg rfl rfl rfl) rfl ?_)|(refine hw_v (ov_cmp rfl rfl rfl) rfl ?_)|(refine hw_v (ov_pick_t' rfl (by with_reducible rfl) rfl) rfl ?_)|(refine hw_v (ov_pick_f' rfl (by with_reducible rfl) rfl) rfl ?_)|(refine hw_v (ov_len_str rfl) rfl ?_)|(refine hw_v (ov_sne rfl rfl) rfl ?_)|(refine hw_v (ov_extract rfl rfl) rfl ?_)|(refine hw_v (ov_not_t rfl (by with_reducible rfl)) rfl ?_)|(refine hw_v (ov_not_f rfl (by with_reducible rfl)) rfl ?_))|(refine hl_op rfl ?_)|(refine k_ho ?_;first|(refine ho_n ?_))|(refine hl_nil ?_)|(refine hq_back ?_)))
      refine ret3 (by first | exact .inr rfl | exact .inl rfl) rfl rfl rfl rfl ?_
      exact ⟨rfl, rfl⟩
    | cons c C =>
      have hcl : (strAV (c :: C)).length = C.length + 1 := by simp [strAV]
      have hS := s_small (w0 := w0) (base := base) (s := c) (by have := hm2 c (by simp); omega)
      have hC : C ≠ [] ↔ 0 < C.length := List.length_pos_iff.symm
      repeat' (first|(first|(refine awp_held (id := 1) [] [⟨0, true, [], bl 6 4⟩, ⟨2, true, [], bl 6 3⟩, ⟨1, false, [], []⟩, ⟨3, false, [], []⟩, ⟨4, true, [], bl 6 15⟩, ⟨5, true, [], bl 6 31⟩] (by kernel_rfl) (by kernel_rfl) rfl (by kernel_rfl) ?_)|(refine k_call ?_;refine al_call rfl rfl rfl rfl hV1 ?_;rintro _ rfl)|(refine k_call ?_;refine al_call rfl rfl rfl rfl hV2 ?_;rintro _ rfl)|(refine k_call ?_;refine al_v (ov_len_k 0 rfl rfl) rfl ?_)|(refine k_call ?_;refine al_v (ov_len_k (C.length + 1) rfl hcl) rfl ?_)|(refine al_v (ov_indexAddr rfl rfl (by decide) rfl rfl) rfl ?_)|(refine k_call ?_;refine al_call rfl rfl rfl rfl hS ?_;rintro _ rfl))|(refine k_al ?_;first|(refine al_v (ov_move rfl) rfl ?_)|(refine k_g ?_;first|(refine al_gy' rfl rfl (by with_reducible rfl) ?_)|(refine al_gnt rfl rfl (by with_reducible rfl) rfl ?_)|(refine al_gnf rfl rfl (by with_reducible rfl) rfl ?_)|(refine al_gsp rfl rfl (fun hc => ?_) (fun hc => ?_) <;> (try (exfalso;omega))))|(refine al_v (ov_fieldAddr rfl rfl) rfl ?_)|(refine k_load ?_;first|(refine al_v (ov_load rfl rfl) rfl ?_)|(refine al_v (ov_load_agg rfl rfl rfl) rfl ?_))|(refine k_bin ?_;first|(refine al_v (ov_cmp rfl rfl rfl) rfl ?_)|(refine al_v (ov_sne rfl rfl) rfl ?_))|(refine k_pick ?_;first|(refine al_v (ov_pick_t' rfl (by with_reducible rfl) rfl) rfl ?_)|(refine al_v (ov_pick_f' rfl (by with_reducible rfl) rfl) rfl ?_))|(refine al_v (ov_assign rfl) rfl ?_)|(refine k_call ?_;first|(refine al_v (ov_len_str rfl) rfl ?_))|(refine al_v (ov_extract rfl rfl) rfl ?_)|(refine al_nil ?_)|(refine al_box rfl rfl rfl (by first|exact ln0|exact ln1) (by repeat constructor) rfl ?_)|(refine al_alloc rfl rfl rfl (by first|exact ln0|exact ln1) (by repeat constructor) rfl ?_)|(refine al_store rfl rfl rfl rfl rfl (by repeat constructor) (by repeat constructor) ?_)|(refine al_v (ov_not_t rfl (by with_reducible rfl)) rfl ?_)|(refine al_v (ov_not_f rfl (by with_reducible rfl)) rfl ?_))|(first|(refine thn_n ?_)|(refine k_awp ?_;first|(refine awp_seq (awp_region ?_))|(refine awp_seq ?_)|(refine awp_region ?_)|(refine k_cond ?_;first|(refine awp_cond_t' rfl (by with_reducible rfl) ?_)|(refine awp_cond_f' rfl (by with_reducible rfl) ?_)|(refine awp_cond_p rfl (fun hc => ?_) (fun hc => ?_) <;> (try (exfalso;omega)))|(refine awp_cond_b rfl (fun hc => ?_) (fun hc => ?_) <;> (try (exact absurd hc (by decide)))))|(refine awp_block ?_)|(refine awp_ret ?_)|(refine awp_skip ?_))|(refine thn_ret ?_)|(refine inb_n ?_)|(refine inb_ret ?_))|(first|(refine k_hw ?_;first|(refine hw_s rfl ?_)|(refine hw_v (ov_move rfl) rfl ?_)|(refine hw_v (ov_assign rfl) rfl ?_)|(refine hw_v (ov_fieldAddr rfl rfl) rfl ?_)|(refine hw_v (ov_load rfl rfl) rfl ?_)|(refine hw_v (ov_load_agg rfl rfl rfl) rfl ?_)|(refine hw_v (ov_cmp rfl rfl rfl) rfl ?_)|(refine hw_v (ov_pick_t' rfl (by with_reducible rfl) rfl) rfl ?_)|(refine hw_v (ov_pick_f' rfl (by with_reducible rfl) rfl) rfl ?_)|(refine hw_v (ov_len_str rfl) rfl ?_)|(refine hw_v (ov_sne rfl rfl) rfl ?_)|(refine hw_v (ov_extract rfl rfl) rfl ?_)|(refine hw_v (ov_not_t rfl (by with_reducible rfl)) rfl ?_)|(refine hw_v (ov_not_f rfl (by with_reducible rfl)) rfl ?_))|(refine hl_op rfl ?_)|(refine k_ho ?_;first|(refine ho_n ?_))|(refine hl_nil ?_)|(refine hq_back ?_)))
      all_goals first
        | (exfalso; omega)
        | (refine ret3 (by first | exact .inr rfl | exact .inl rfl) rfl rfl rfl rfl ?_
           rw [bodyL, if_pos (by first | exact .inl (hC.2 (by omega)) | exact .inr (.inl ‹_›) | exact .inr (.inr ‹_›))]
           exact ⟨rfl, rfl⟩)
        | (refine ret3 (by first | exact .inr rfl | exact .inl rfl) rfl rfl rfl rfl ?_
           rw [bodyL, if_neg (by rintro (k | k | k) <;> first | (have := hC.1 k; omega) | exact ‹¬ _› k)]
           exact ⟨rfl, rfl⟩)
  | cons l L =>
    have hll : (strAV (l :: L)).length = L.length + 1 := by simp [strAV]
    cases C with
    | cons c C =>
      have hcl : (strAV (c :: C)).length = C.length + 1 := by simp [strAV]
      repeat' (first|(first|(refine awp_held (id := 1) [] [⟨0, true, [], bl 6 4⟩, ⟨2, true, [], bl 6 3⟩, ⟨1, false, [], []⟩, ⟨3, false, [], []⟩, ⟨4, true, [], bl 6 15⟩, ⟨5, true, [], bl 6 31⟩] (by kernel_rfl) (by kernel_rfl) rfl (by kernel_rfl) ?_)|(refine k_call ?_;refine al_call rfl rfl rfl rfl hV1 ?_;rintro _ rfl)|(refine k_call ?_;refine al_call rfl rfl rfl rfl hV2 ?_;rintro _ rfl)|(refine k_call ?_;refine al_v (ov_len_k (L.length + 1) rfl hll) rfl ?_)|(refine k_call ?_;refine al_v (ov_len_k (C.length + 1) rfl hcl) rfl ?_))|(refine k_al ?_;first|(refine al_v (ov_move rfl) rfl ?_)|(refine k_g ?_;first|(refine al_gy' rfl rfl (by with_reducible rfl) ?_)|(refine al_gnt rfl rfl (by with_reducible rfl) rfl ?_)|(refine al_gnf rfl rfl (by with_reducible rfl) rfl ?_)|(refine al_gsp rfl rfl (fun hc => ?_) (fun hc => ?_) <;> (try (exfalso;omega))))|(refine al_v (ov_fieldAddr rfl rfl) rfl ?_)|(refine k_load ?_;first|(refine al_v (ov_load rfl rfl) rfl ?_)|(refine al_v (ov_load_agg rfl rfl rfl) rfl ?_))|(refine k_bin ?_;first|(refine al_v (ov_cmp rfl rfl rfl) rfl ?_)|(refine al_v (ov_sne rfl rfl) rfl ?_))|(refine k_pick ?_;first|(refine al_v (ov_pick_t' rfl (by with_reducible rfl) rfl) rfl ?_)|(refine al_v (ov_pick_f' rfl (by with_reducible rfl) rfl) rfl ?_))|(refine al_v (ov_assign rfl) rfl ?_)|(refine k_call ?_;first|(refine al_v (ov_len_str rfl) rfl ?_))|(refine al_v (ov_extract rfl rfl) rfl ?_)|(refine al_nil ?_)|(refine al_box rfl rfl rfl (by first|exact ln0|exact ln1) (by repeat constructor) rfl ?_)|(refine al_alloc rfl rfl rfl (by first|exact ln0|exact ln1) (by repeat constructor) rfl ?_)|(refine al_store rfl rfl rfl rfl rfl (by repeat constructor) (by repeat constructor) ?_)|(refine al_v (ov_not_t rfl (by with_reducible rfl)) rfl ?_)|(refine al_v (ov_not_f rfl (by with_reducible rfl)) rfl ?_))|(first|(refine thn_n ?_)|(refine k_awp ?_;first|(refine awp_seq (awp_region ?_))|(refine awp_seq ?_)|(refine awp_region ?_)|(refine k_cond ?_;first|(refine awp_cond_t' rfl (by with_reducible rfl) ?_)|(refine awp_cond_f' rfl (by with_reducible rfl) ?_)|(refine awp_cond_p rfl (fun hc => ?_) (fun hc => ?_) <;> (try (exfalso;omega)))|(refine awp_cond_b rfl (fun hc => ?_) (fun hc => ?_) <;> (try (exact absurd hc (by decide)))))|(refine awp_block ?_)|(refine awp_ret ?_)|(refine awp_skip ?_))|(refine thn_ret ?_)|(refine inb_n ?_)|(refine inb_ret ?_))|(first|(refine k_hw ?_;first|(refine hw_s rfl ?_)|(refine hw_v (ov_move rfl) rfl ?_)|(refine hw_v (ov_assign rfl) rfl ?_)|(refine hw_v (ov_fieldAddr rfl rfl) rfl ?_)|(refine hw_v (ov_load rfl rfl) rfl ?_)|(refine hw_v (ov_load_agg rfl rfl rfl) rfl ?_)|(refine hw_v (ov_cmp rfl rfl rfl) rfl ?_)|(refine hw_v (ov_pick_t' rfl (by with_reducible rfl) rfl) rfl ?_)|(refine hw_v (ov_pick_f' rfl (by with_reducible rfl) rfl) rfl ?_)|(refine hw_v (ov_len_str rfl) rfl ?_)|(refine hw_v (ov_sne rfl rfl) rfl ?_)|(refine hw_v (ov_extract rfl rfl) rfl ?_)|(refine hw_v (ov_not_t rfl (by with_reducible rfl)) rfl ?_)|(refine hw_v (ov_not_f rfl (by with_reducible rfl)) rfl ?_))|(refine hl_op rfl ?_)|(refine k_ho ?_;first|(refine ho_n ?_))|(refine hl_nil ?_)|(refine hq_back ?_)))
      all_goals first
        | (exfalso; omega)
        | (refine ret3 (by first | exact .inr rfl | exact .inl rfl) rfl rfl rfl rfl ?_
           exact ⟨rfl, rfl⟩)
    | nil =>
      by_cases h9 : 1 ≤ l.length ∧ l.length ≤ 9
      · have hA := s_all (w0 := w0) (base := base) (s := l) (g := 37) (p := pDigit) (by omega) (fun b => s_digit)
        obtain ⟨al, hal⟩ : ∃ al, al = l.all pDigit := ⟨_, rfl⟩
        obtain ⟨eq, heq⟩ : ∃ eq, eq = (l :: L).all fun x => decide (x = l) := ⟨_, rfl⟩
        have hCF := a_containsFunc (w0 := w0) (base := base) (xs := l :: L) (l := l) (by simp only [List.length_cons] at hl1 ⊢; omega)
        rw [← hal] at hA
        rw [← heq] at hCF
        cases al with
        | true =>
          have hAt := s_atoi (w0 := w0) (base := base) (l := l) hal.symm (by intro e; subst e; simp at h9) h9.2
          cases eq with
          | true =>
            repeat' (first|(first|(refine awp_held (id := 1) [] [⟨0, true, [], bl 6 4⟩, ⟨2, true, [], bl 6 3⟩, ⟨1, false, [], []⟩, ⟨3, false, [], []⟩, ⟨4, true, [], bl 6 15⟩, ⟨5, true, [], bl 6 31⟩] (by kernel_rfl) (by kernel_rfl) rfl (by kernel_rfl) ?_)|(refine k_call ?_;refine al_call rfl rfl rfl rfl hV1 ?_;rintro _ rfl)|(refine k_call ?_;refine al_call rfl rfl rfl rfl hV2 ?_;rintro _ rfl)|(refine k_call ?_;refine al_v (ov_len_k (L.length + 1) rfl hll) rfl ?_)|(refine k_call ?_;refine al_v (ov_len_k 0 rfl rfl) rfl ?_)|(refine al_v (ov_indexAddr rfl rfl (by decide) rfl rfl) rfl ?_)|(refine k_call ?_;refine al_call rfl rfl rfl rfl hA ?_;rintro _ rfl)|(refine al_v (ov_makeFunc rfl) rfl ?_)|(refine k_call ?_;refine al_acall [1] rfl rfl hCF (by repeat constructor) (by repeat constructor) rfl rfl ?_;rintro _ _ ⟨rfl, rfl⟩;refine ⟨_, _, by repeat constructor, by repeat constructor, ?_⟩)|(refine k_call ?_;refine al_call rfl rfl rfl rfl hAt ?_;rintro _ rfl))|(refine k_al ?_;first|(refine al_v (ov_move rfl) rfl ?_)|(refine k_g ?_;first|(refine al_gy' rfl rfl (by with_reducible rfl) ?_)|(refine al_gnt rfl rfl (by with_reducible rfl) rfl ?_)|(refine al_gnf rfl rfl (by with_reducible rfl) rfl ?_)|(refine al_gsp rfl rfl (fun hc => ?_) (fun hc => ?_) <;> (try (exfalso;omega))))|(refine al_v (ov_fieldAddr rfl rfl) rfl ?_)|(refine k_load ?_;first|(refine al_v (ov_load rfl rfl) rfl ?_)|(refine al_v (ov_load_agg rfl rfl rfl) rfl ?_))|(refine k_bin ?_;first|(refine al_v (ov_cmp rfl rfl rfl) rfl ?_)|(refine al_v (ov_sne rfl rfl) rfl ?_))|(refine k_pick ?_;first|(refine al_v (ov_pick_t' rfl (by with_reducible rfl) rfl) rfl ?_)|(refine al_v (ov_pick_f' rfl (by with_reducible rfl) rfl) rfl ?_))|(refine al_v (ov_assign rfl) rfl ?_)|(refine k_call ?_;first|(refine al_v (ov_len_str rfl) rfl ?_))|(refine al_v (ov_extract rfl rfl) rfl ?_)|(refine al_nil ?_)|(refine al_box rfl rfl rfl (by first|exact ln0|exact ln1) (by repeat constructor) rfl ?_)|(refine al_alloc rfl rfl rfl (by first|exact ln0|exact ln1) (by repeat constructor) rfl ?_)|(refine al_store rfl rfl rfl rfl rfl (by repeat constructor) (by repeat constructor) ?_)|(refine al_v (ov_not_t rfl (by with_reducible rfl)) rfl ?_)|(refine al_v (ov_not_f rfl (by with_reducible rfl)) rfl ?_))|(first|(refine thn_n ?_)|(refine k_awp ?_;first|(refine awp_seq (awp_region ?_))|(refine awp_seq ?_)|(refine awp_region ?_)|(refine k_cond ?_;first|(refine awp_cond_t' rfl (by with_reducible rfl) ?_)|(refine awp_cond_f' rfl (by with_reducible rfl) ?_)|(refine awp_cond_p rfl (fun hc => ?_) (fun hc => ?_) <;> (try (exfalso;omega)))|(refine awp_cond_b rfl (fun hc => ?_) (fun hc => ?_) <;> (try (exact absurd hc (by decide)))))|(refine awp_block ?_)|(refine awp_ret ?_)|(refine awp_skip ?_))|(refine thn_ret ?_)|(refine inb_n ?_)|(refine inb_ret ?_))|(first|(refine k_hw ?_;first|(refine hw_s rfl ?_)|(refine hw_v (ov_move rfl) rfl ?_)|(refine hw_v (ov_assign rfl) rfl ?_)|(refine hw_v (ov_fieldAddr rfl rfl) rfl ?_)|(refine hw_v (ov_load rfl rfl) rfl ?_)|(refine hw_v (ov_load_agg rfl rfl rfl) rfl ?_)|(refine hw_v (ov_cmp rfl rfl rfl) rfl ?_)|(refine hw_v (ov_pick_t' rfl (by with_reducible rfl) rfl) rfl ?_)|(refine hw_v (ov_pick_f' rfl (by with_reducible rfl) rfl) rfl ?_)|(refine hw_v (ov_len_str rfl) rfl ?_)|(refine hw_v (ov_sne rfl rfl) rfl ?_)|(refine hw_v (ov_extract rfl rfl) rfl ?_)|(refine hw_v (ov_not_t rfl (by with_reducible rfl)) rfl ?_)|(refine hw_v (ov_not_f rfl (by with_reducible rfl)) rfl ?_))|(refine hl_op rfl ?_)|(refine k_ho ?_;first|(refine ho_n ?_))|(refine hl_nil ?_)|(refine hq_back ?_)))
            all_goals first
              | (exfalso; omega)
              | (refine ret3 (by first | exact .inr rfl | exact .inl rfl) rfl rfl rfl rfl ?_
                 rw [bodyL, if_neg (by rintro (k | k | k | k) <;> first | omega | (rw [← hal] at k; cases k) | (rw [← heq] at k; cases k)), if_pos (by omega)]
                 exact ⟨rfl, rfl⟩)
              | (refine ret3 (by first | exact .inr rfl | exact .inl rfl) rfl rfl rfl rfl ?_
                 rw [bodyL, if_neg (by rintro (k | k | k | k) <;> first | omega | (rw [← hal] at k; cases k) | (rw [← heq] at k; cases k)), if_neg (by omega)]
                 exact ⟨rfl, rfl⟩)
          | false =>
            repeat' (first|(first|(refine awp_held (id := 1) [] [⟨0, true, [], bl 6 4⟩, ⟨2, true, [], bl 6 3⟩, ⟨1, false, [], []⟩, ⟨3, false, [], []⟩, ⟨4, true, [], bl 6 15⟩, ⟨5, true, [], bl 6 31⟩] (by kernel_rfl) (by kernel_rfl) rfl (by kernel_rfl) ?_)|(refine k_call ?_;refine al_call rfl rfl rfl rfl hV1 ?_;rintro _ rfl)|(refine k_call ?_;refine al_call rfl rfl rfl rfl hV2 ?_;rintro _ rfl)|(refine k_call ?_;refine al_v (ov_len_k (L.length + 1) rfl hll) rfl ?_)|(refine k_call ?_;refine al_v (ov_len_k 0 rfl rfl) rfl ?_)|(refine al_v (ov_indexAddr rfl rfl (by decide) rfl rfl) rfl ?_)|(refine k_call ?_;refine al_call rfl rfl rfl rfl hA ?_;rintro _ rfl)|(refine al_v (ov_makeFunc rfl) rfl ?_)|(refine k_call ?_;refine al_acall [1] rfl rfl hCF (by repeat constructor) (by repeat constructor) rfl rfl ?_;rintro _ _ ⟨rfl, rfl⟩;refine ⟨_, _, by repeat constructor, by repeat constructor, ?_⟩))|(refine k_al ?_;first|(refine al_v (ov_move rfl) rfl ?_)|(refine k_g ?_;first|(refine al_gy' rfl rfl (by with_reducible rfl) ?_)|(refine al_gnt rfl rfl (by with_reducible rfl) rfl ?_)|(refine al_gnf rfl rfl (by with_reducible rfl) rfl ?_)|(refine al_gsp rfl rfl (fun hc => ?_) (fun hc => ?_) <;> (try (exfalso;omega))))|(refine al_v (ov_fieldAddr rfl rfl) rfl ?_)|(refine k_load ?_;first|(refine al_v (ov_load rfl rfl) rfl ?_)|(refine al_v (ov_load_agg rfl rfl rfl) rfl ?_))|(refine k_bin ?_;first|(refine al_v (ov_cmp rfl rfl rfl) rfl ?_)|(refine al_v (ov_sne rfl rfl) rfl ?_))|(refine k_pick ?_;first|(refine al_v (ov_pick_t' rfl (by with_reducible rfl) rfl) rfl ?_)|(refine al_v (ov_pick_f' rfl (by with_reducible rfl) rfl) rfl ?_))|(refine al_v (ov_assign rfl) rfl ?_)|(refine k_call ?_;first|(refine al_v (ov_len_str rfl) rfl ?_))|(refine al_v (ov_extract rfl rfl) rfl ?_)|(refine al_nil ?_)|(refine al_box rfl rfl rfl (by first|exact ln0|exact ln1) (by repeat constructor) rfl ?_)|(refine al_alloc rfl rfl rfl (by first|exact ln0|exact ln1) (by repeat constructor) rfl ?_)|(refine al_store rfl rfl rfl rfl rfl (by repeat constructor) (by repeat constructor) ?_)|(refine al_v (ov_not_t rfl (by with_reducible rfl)) rfl ?_)|(refine al_v (ov_not_f rfl (by with_reducible rfl)) rfl ?_))|(first|(refine thn_n ?_)|(refine k_awp ?_;first|(refine awp_seq (awp_region ?_))|(refine awp_seq ?_)|(refine awp_region ?_)|(refine k_cond ?_;first|(refine awp_cond_t' rfl (by with_reducible rfl) ?_)|(refine awp_cond_f' rfl (by with_reducible rfl) ?_)|(refine awp_cond_p rfl (fun hc => ?_) (fun hc => ?_) <;> (try (exfalso;omega)))|(refine awp_cond_b rfl (fun hc => ?_) (fun hc => ?_) <;> (try (exact absurd hc (by decide)))))|(refine awp_block ?_)|(refine awp_ret ?_)|(refine awp_skip ?_))|(refine thn_ret ?_)|(refine inb_n ?_)|(refine inb_ret ?_))|(first|(refine k_hw ?_;first|(refine hw_s rfl ?_)|(refine hw_v (ov_move rfl) rfl ?_)|(refine hw_v (ov_assign rfl) rfl ?_)|(refine hw_v (ov_fieldAddr rfl rfl) rfl ?_)|(refine hw_v (ov_load rfl rfl) rfl ?_)|(refine hw_v (ov_load_agg rfl rfl rfl) rfl ?_)|(refine hw_v (ov_cmp rfl rfl rfl) rfl ?_)|(refine hw_v (ov_pick_t' rfl (by with_reducible rfl) rfl) rfl ?_)|(refine hw_v (ov_pick_f' rfl (by with_reducible rfl) rfl) rfl ?_)|(refine hw_v (ov_len_str rfl) rfl ?_)|(refine hw_v (ov_sne rfl rfl) rfl ?_)|(refine hw_v (ov_extract rfl rfl) rfl ?_)|(refine hw_v (ov_not_t rfl (by with_reducible rfl)) rfl ?_)|(refine hw_v (ov_not_f rfl (by with_reducible rfl)) rfl ?_))|(refine hl_op rfl ?_)|(refine k_ho ?_;first|(refine ho_n ?_))|(refine hl_nil ?_)|(refine hq_back ?_)))
            all_goals first
              | (exfalso; omega)
              | (refine ret3 (by first | exact .inr rfl | exact .inl rfl) rfl rfl rfl rfl ?_
                 rw [bodyL, if_pos (.inr (.inr (.inr heq.symm)))]
                 exact ⟨rfl, rfl⟩)
        | false =>
          repeat' (first|(first|(refine awp_held (id := 1) [] [⟨0, true, [], bl 6 4⟩, ⟨2, true, [], bl 6 3⟩, ⟨1, false, [], []⟩, ⟨3, false, [], []⟩, ⟨4, true, [], bl 6 15⟩, ⟨5, true, [], bl 6 31⟩] (by kernel_rfl) (by kernel_rfl) rfl (by kernel_rfl) ?_)|(refine k_call ?_;refine al_call rfl rfl rfl rfl hV1 ?_;rintro _ rfl)|(refine k_call ?_;refine al_call rfl rfl rfl rfl hV2 ?_;rintro _ rfl)|(refine k_call ?_;refine al_v (ov_len_k (L.length + 1) rfl hll) rfl ?_)|(refine k_call ?_;refine al_v (ov_len_k 0 rfl rfl) rfl ?_)|(refine al_v (ov_indexAddr rfl rfl (by decide) rfl rfl) rfl ?_)|(refine k_call ?_;refine al_call rfl rfl rfl rfl hA ?_;rintro _ rfl))|(refine k_al ?_;first|(refine al_v (ov_move rfl) rfl ?_)|(refine k_g ?_;first|(refine al_gy' rfl rfl (by with_reducible rfl) ?_)|(refine al_gnt rfl rfl (by with_reducible rfl) rfl ?_)|(refine al_gnf rfl rfl (by with_reducible rfl) rfl ?_)|(refine al_gsp rfl rfl (fun hc => ?_) (fun hc => ?_) <;> (try (exfalso;omega))))|(refine al_v (ov_fieldAddr rfl rfl) rfl ?_)|(refine k_load ?_;first|(refine al_v (ov_load rfl rfl) rfl ?_)|(refine al_v (ov_load_agg rfl rfl rfl) rfl ?_))|(refine k_bin ?_;first|(refine al_v (ov_cmp rfl rfl rfl) rfl ?_)|(refine al_v (ov_sne rfl rfl) rfl ?_))|(refine k_pick ?_;first|(refine al_v (ov_pick_t' rfl (by with_reducible rfl) rfl) rfl ?_)|(refine al_v (ov_pick_f' rfl (by with_reducible rfl) rfl) rfl ?_))|(refine al_v (ov_assign rfl) rfl ?_)|(refine k_call ?_;first|(refine al_v (ov_len_str rfl) rfl ?_))|(refine al_v (ov_extract rfl rfl) rfl ?_)|(refine al_nil ?_)|(refine al_box rfl rfl rfl (by first|exact ln0|exact ln1) (by repeat constructor) rfl ?_)|(refine al_alloc rfl rfl rfl (by first|exact ln0|exact ln1) (by repeat constructor) rfl ?_)|(refine al_store rfl rfl rfl rfl rfl (by repeat constructor) (by repeat constructor) ?_)|(refine al_v (ov_not_t rfl (by with_reducible rfl)) rfl ?_)|(refine al_v (ov_not_f rfl (by with_reducible rfl)) rfl ?_))|(first|(refine thn_n ?_)|(refine k_awp ?_;first|(refine awp_seq (awp_region ?_))|(refine awp_seq ?_)|(refine awp_region ?_)|(refine k_cond ?_;first|(refine awp_cond_t' rfl (by with_reducible rfl) ?_)|(refine awp_cond_f' rfl (by with_reducible rfl) ?_)|(refine awp_cond_p rfl (fun hc => ?_) (fun hc => ?_) <;> (try (exfalso;omega)))|(refine awp_cond_b rfl (fun hc => ?_) (fun hc => ?_) <;> (try (exact absurd hc (by decide)))))|(refine awp_block ?_)|(refine awp_ret ?_)|(refine awp_skip ?_))|(refine thn_ret ?_)|(refine inb_n ?_)|(refine inb_ret ?_))|(first|(refine k_hw ?_;first|(refine hw_s rfl ?_)|(refine hw_v (ov_move rfl) rfl ?_)|(refine hw_v (ov_assign rfl) rfl ?_)|(refine hw_v (ov_fieldAddr rfl rfl) rfl ?_)|(refine hw_v (ov_load rfl rfl) rfl ?_)|(refine hw_v (ov_load_agg rfl rfl rfl) rfl ?_)|(refine hw_v (ov_cmp rfl rfl rfl) rfl ?_)|(refine hw_v (ov_pick_t' rfl (by with_reducible rfl) rfl) rfl ?_)|(refine hw_v (ov_pick_f' rfl (by with_reducible rfl) rfl) rfl ?_)|(refine hw_v (ov_len_str rfl) rfl ?_)|(refine hw_v (ov_sne rfl rfl) rfl ?_)|(refine hw_v (ov_extract rfl rfl) rfl ?_)|(refine hw_v (ov_not_t rfl (by with_reducible rfl)) rfl ?_)|(refine hw_v (ov_not_f rfl (by with_reducible rfl)) rfl ?_))|(refine hl_op rfl ?_)|(refine k_ho ?_;first|(refine ho_n ?_))|(refine hl_nil ?_)|(refine hq_back ?_)))
          all_goals first
            | (exfalso; omega)
            | (refine ret3 (by first | exact .inr rfl | exact .inl rfl) rfl rfl rfl rfl ?_
               rw [bodyL, if_pos (.inr (.inr (.inl hal.symm)))]
               exact ⟨rfl, rfl⟩)
      · repeat' (first|(first|(refine awp_held (id := 1) [] [⟨0, true, [], bl 6 4⟩, ⟨2, true, [], bl 6 3⟩, ⟨1, false, [], []⟩, ⟨3, false, [], []⟩, ⟨4, true, [], bl 6 15⟩, ⟨5, true, [], bl 6 31⟩] (by kernel_rfl) (by kernel_rfl) rfl (by kernel_rfl) ?_)|(refine k_call ?_;refine al_call rfl rfl rfl rfl hV1 ?_;rintro _ rfl)|(refine k_call ?_;refine al_call rfl rfl rfl rfl hV2 ?_;rintro _ rfl)|(refine k_call ?_;refine al_v (ov_len_k (L.length + 1) rfl hll) rfl ?_)|(refine k_call ?_;refine al_v (ov_len_k 0 rfl rfl) rfl ?_)|(refine al_v (ov_indexAddr rfl rfl (by decide) rfl rfl) rfl ?_))|(refine k_al ?_;first|(refine al_v (ov_move rfl) rfl ?_)|(refine k_g ?_;first|(refine al_gy' rfl rfl (by with_reducible rfl) ?_)|(refine al_gnt rfl rfl (by with_reducible rfl) rfl ?_)|(refine al_gnf rfl rfl (by with_reducible rfl) rfl ?_)|(refine al_gsp rfl rfl (fun hc => ?_) (fun hc => ?_) <;> (try (exfalso;omega))))|(refine al_v (ov_fieldAddr rfl rfl) rfl ?_)|(refine k_load ?_;first|(refine al_v (ov_load rfl rfl) rfl ?_)|(refine al_v (ov_load_agg rfl rfl rfl) rfl ?_))|(refine k_bin ?_;first|(refine al_v (ov_cmp rfl rfl rfl) rfl ?_)|(refine al_v (ov_sne rfl rfl) rfl ?_))|(refine k_pick ?_;first|(refine al_v (ov_pick_t' rfl (by with_reducible rfl) rfl) rfl ?_)|(refine al_v (ov_pick_f' rfl (by with_reducible rfl) rfl) rfl ?_))|(refine al_v (ov_assign rfl) rfl ?_)|(refine k_call ?_;first|(refine al_v (ov_len_str rfl) rfl ?_))|(refine al_v (ov_extract rfl rfl) rfl ?_)|(refine al_nil ?_)|(refine al_box rfl rfl rfl (by first|exact ln0|exact ln1) (by repeat constructor) rfl ?_)|(refine al_alloc rfl rfl rfl (by first|exact ln0|exact ln1) (by repeat constructor) rfl ?_)|(refine al_store rfl rfl rfl rfl rfl (by repeat constructor) (by repeat constructor) ?_)|(refine al_v (ov_not_t rfl (by with_reducible rfl)) rfl ?_)|(refine al_v (ov_not_f rfl (by with_reducible rfl)) rfl ?_))|(first|(refine thn_n ?_)|(refine k_awp ?_;first|(refine awp_seq (awp_region ?_))|(refine awp_seq ?_)|(refine awp_region ?_)|(refine k_cond ?_;first|(refine awp_cond_t' rfl (by with_reducible rfl) ?_)|(refine awp_cond_f' rfl (by with_reducible rfl) ?_)|(refine awp_cond_p rfl (fun hc => ?_) (fun hc => ?_) <;> (try (exfalso;omega)))|(refine awp_cond_b rfl (fun hc => ?_) (fun hc => ?_) <;> (try (exact absurd hc (by decide)))))|(refine awp_block ?_)|(refine awp_ret ?_)|(refine awp_skip ?_))|(refine thn_ret ?_)|(refine inb_n ?_)|(refine inb_ret ?_))|(first|(refine k_hw ?_;first|(refine hw_s rfl ?_)|(refine hw_v (ov_move rfl) rfl ?_)|(refine hw_v (ov_assign rfl) rfl ?_)|(refine hw_v (ov_fieldAddr rfl rfl) rfl ?_)|(refine hw_v (ov_load rfl rfl) rfl ?_)|(refine hw_v (ov_load_agg rfl rfl rfl) rfl ?_)|(refine hw_v (ov_cmp rfl rfl rfl) rfl ?_)|(refine hw_v (ov_pick_t' rfl (by with_reducible rfl) rfl) rfl ?_)|(refine hw_v (ov_pick_f' rfl (by with_reducible rfl) rfl) rfl ?_)|(refine hw_v (ov_len_str rfl) rfl ?_)|(refine hw_v (ov_sne rfl rfl) rfl ?_)|(refine hw_v (ov_extract rfl rfl) rfl ?_)|(refine hw_v (ov_not_t rfl (by with_reducible rfl)) rfl ?_)|(refine hw_v (ov_not_f rfl (by with_reducible rfl)) rfl ?_))|(refine hl_op rfl ?_)|(refine k_ho ?_;first|(refine ho_n ?_))|(refine hl_nil ?_)|(refine hq_back ?_)))
        all_goals first
          | (exfalso; omega)
          | (refine ret3 (by first | exact .inr rfl | exact .inl rfl) rfl rfl rfl rfl ?_
             rw [bodyL, if_pos (by omega)]
             exact ⟨rfl, rfl⟩)
set_option maxHeartbeats 8000000 in
theorem s_bodyR {h : Hd} (ht : Tiny h) : PCalls (EE w0 base) 13 [hdAV h.m h.t h.v h.fs] (bodR h) := by
  have hf := ht.f
  have hV1 := s_valuesR (w0 := w0) (base := base) (m := h.m) (t := h.t) (v := h.v) (fs := h.fs) (name := cleS) (by decide) (by omega)
  have hV2 := s_valuesR (w0 := w0) (base := base) (m := h.m) (t := h.t) (v := h.v) (fs := h.fs) (name := teS) (by decide) (by omega)
  have hl1 := valsOf_len h.fs cleS
  have hm1 : ∀ x ∈ valsOf h.fs cleS, x.length ≤ 1048580 := fun x hx => vals_tiny ht hx
  have hm2 : ∀ x ∈ valsOf h.fs teS, x.length ≤ 1048580 := fun x hx => vals_tiny ht hx
  refine acalls_of Tryz.func13 rfl rfl rfl (.cons .nil) ?_
  unfold bodR bodyS
  revert hV1 hV2 hl1 hm1 hm2
  generalize valsOf h.fs cleS = L
  generalize valsOf h.fs teS = C
  intro hV1 hV2 hl1 hm1 hm2
  cases L with
  | nil =>
    cases C with
    | nil =>
      repeat' (first|(first|(refine awp_held (id := 1) [] [⟨0, true, [], bl 6 4⟩, ⟨2, true, [], bl 6 3⟩, ⟨1, false, [], []⟩, ⟨3, false, [], []⟩, ⟨4, true, [], bl 6 15⟩, ⟨5, true, [], bl 6 31⟩] (by kernel_rfl) (by kernel_rfl) rfl (by kernel_rfl) ?_)|(refine k_call ?_;refine al_call rfl rfl rfl rfl hV1 ?_;rintro _ rfl)|(refine k_call ?_;refine al_call rfl rfl rfl rfl hV2 ?_;rintro _ rfl)|(refine k_call ?_;refine al_v (ov_len_k 0 rfl rfl) rfl ?_))|(refine k_al ?_;first|(refine al_v (ov_move rfl) rfl ?_)|(refine k_g ?_;first|(refine al_gy' rfl rfl (by with_reducible rfl) ?_)|(refine al_gnt rfl rfl (by with_reducible rfl) rfl ?_)|(refine al_gnf rfl rfl (by with_reducible rfl) rfl ?_)|(refine al_gsp rfl rfl (fun hc => ?_) (fun hc => ?_) <;> (try (exfalso;omega))))|(refine al_v (ov_fieldAddr rfl rfl) rfl ?_)|(refine k_load ?_;first|(refine al_v (ov_load rfl rfl) rfl ?_)|(refine al_v (ov_load_agg rfl rfl rfl) rfl ?_))|(refine k_bin ?_;first|(refine al_v (ov_cmp rfl rfl rfl) rfl ?_)|(refine al_v (ov_add rfl rfl (by (first|exact w64 (by omega) (by omega)|exact w8 (by omega) (by omega)|rfl))) rfl ?_)|(refine al_v (ov_sub rfl rfl (by (first|exact w64 (by omega) (by omega)|exact w8 (by omega) (by omega)|rfl))) rfl ?_)|(refine al_v (ov_mul rfl rfl (by (first|exact w64 (by omega) (by omega)|exact w8 (by omega) (by omega)|rfl))) rfl ?_)|(refine al_v (ov_seq rfl rfl) rfl ?_)|(refine al_v (ov_sne rfl rfl) rfl ?_))|(refine k_pick ?_;first|(refine al_v (ov_pick_t' rfl (by with_reducible rfl) rfl) rfl ?_)|(refine al_v (ov_pick_f' rfl (by with_reducible rfl) rfl) rfl ?_))|(refine al_v (ov_assign rfl) rfl ?_)|(refine k_call ?_;first|(refine al_v (ov_len_str rfl) rfl ?_))|(refine al_nil ?_)|(refine al_box rfl rfl rfl (by first|exact ln0) (by repeat constructor) rfl ?_)|(refine al_v (ov_index rfl rfl (by omega) (by omega)) rfl ?_))|(first|(refine thn_n ?_)|(refine k_awp ?_;first|(refine awp_seq (awp_region ?_))|(refine awp_seq ?_)|(refine awp_region ?_)|(refine k_cond ?_;first|(refine awp_cond_t' rfl (by with_reducible rfl) ?_)|(refine awp_cond_f' rfl (by with_reducible rfl) ?_)|(refine awp_cond_p rfl (fun hc => ?_) (fun hc => ?_) <;> (try (exfalso;omega))))|(refine awp_block ?_)|(refine awp_ret ?_)|(refine awp_skip ?_)|(refine awp_exit ?_))|(refine thn_ret ?_)|(refine lq_exit ?_)|(refine lq_ret ?_)|(refine thn_exit ?_)|(refine inb_n ?_)|(refine inb_ret ?_)|(refine inb_here ?_))|(first|(refine k_hw ?_;first|(refine hw_s rfl ?_)|(refine hw_v (ov_move rfl) rfl ?_)|(refine hw_v (ov_assign rfl) rfl ?_)|(refine hw_v (ov_fieldAddr rfl rfl) rfl ?_)|(refine hw_v (ov_load rfl rfl) rfl ?_)|(refine hw_v (ov_load_agg rfl rfl rfl) rfl ?_)|(refine hw_v (ov_cmp rfl rfl rfl) rfl ?_)|(refine hw_v (ov_pick_t' rfl (by with_reducible rfl) rfl) rfl ?_)|(refine hw_v (ov_pick_f' rfl (by with_reducible rfl) rfl) rfl ?_)|(refine hw_v (ov_len_str rfl) rfl ?_)|(refine hw_v (ov_seq rfl rfl) rfl ?_)|(refine hw_v (ov_sne rfl rfl) rfl ?_)|(refine hw_v (ov_index rfl rfl (by omega) (by omega)) rfl ?_)|(refine hw_v (ov_add rfl rfl (by (first|exact w64 (by omega) (by omega)|exact w8 (by omega) (by omega)|rfl))) rfl ?_)|(refine hw_v (ov_sub rfl rfl (by (first|exact w64 (by omega) (by omega)|exact w8 (by omega) (by omega)|rfl))) rfl ?_))|(refine hl_op rfl ?_)|(refine k_ho ?_;first|(refine ho_n ?_))|(refine hl_nil ?_)|(refine hq_back ?_)))
      refine ret3 (by first | exact .inr rfl | exact .inl rfl) rfl rfl rfl rfl ?_
      exact ⟨rfl, rfl⟩
    | cons c C =>
      have hcl : (strAV (c :: C)).length = C.length + 1 := by simp [strAV]
      have hS := s_smallR (w0 := w0) (base := base) (s := c) (by have := hm2 c (by simp); omega)
      have hC : C ≠ [] ↔ 0 < C.length := List.length_pos_iff.symm
      repeat' (first|(first|(refine awp_held (id := 1) [] [⟨0, true, [], bl 6 4⟩, ⟨2, true, [], bl 6 3⟩, ⟨1, false, [], []⟩, ⟨3, false, [], []⟩, ⟨4, true, [], bl 6 15⟩, ⟨5, true, [], bl 6 31⟩] (by kernel_rfl) (by kernel_rfl) rfl (by kernel_rfl) ?_)|(refine k_call ?_;refine al_call rfl rfl rfl rfl hV1 ?_;rintro _ rfl)|(refine k_call ?_;refine al_call rfl rfl rfl rfl hV2 ?_;rintro _ rfl)|(refine k_call ?_;refine al_v (ov_len_k 0 rfl rfl) rfl ?_)|(refine k_call ?_;refine al_v (ov_len_k (C.length + 1) rfl hcl) rfl ?_)|(refine al_v (ov_indexAddr rfl rfl (by decide) rfl rfl) rfl ?_)|(refine k_call ?_;refine al_call rfl rfl rfl rfl hS ?_;rintro _ rfl))|(refine k_al ?_;first|(refine al_v (ov_move rfl) rfl ?_)|(refine k_g ?_;first|(refine al_gy' rfl rfl (by with_reducible rfl) ?_)|(refine al_gnt rfl rfl (by with_reducible rfl) rfl ?_)|(refine al_gnf rfl rfl (by with_reducible rfl) rfl ?_)|(refine al_gsp rfl rfl (fun hc => ?_) (fun hc => ?_) <;> (try (exfalso;omega))))|(refine al_v (ov_fieldAddr rfl rfl) rfl ?_)|(refine k_load ?_;first|(refine al_v (ov_load rfl rfl) rfl ?_)|(refine al_v (ov_load_agg rfl rfl rfl) rfl ?_))|(refine k_bin ?_;first|(refine al_v (ov_cmp rfl rfl rfl) rfl ?_)|(refine al_v (ov_add rfl rfl (by (first|exact w64 (by omega) (by omega)|exact w8 (by omega) (by omega)|rfl))) rfl ?_)|(refine al_v (ov_sub rfl rfl (by (first|exact w64 (by omega) (by omega)|exact w8 (by omega) (by omega)|rfl))) rfl ?_)|(refine al_v (ov_mul rfl rfl (by (first|exact w64 (by omega) (by omega)|exact w8 (by omega) (by omega)|rfl))) rfl ?_)|(refine al_v (ov_seq rfl rfl) rfl ?_)|(refine al_v (ov_sne rfl rfl) rfl ?_))|(refine k_pick ?_;first|(refine al_v (ov_pick_t' rfl (by with_reducible rfl) rfl) rfl ?_)|(refine al_v (ov_pick_f' rfl (by with_reducible rfl) rfl) rfl ?_))|(refine al_v (ov_assign rfl) rfl ?_)|(refine k_call ?_;first|(refine al_v (ov_len_str rfl) rfl ?_))|(refine al_nil ?_)|(refine al_box rfl rfl rfl (by first|exact ln0) (by repeat constructor) rfl ?_)|(refine al_v (ov_index rfl rfl (by omega) (by omega)) rfl ?_))|(first|(refine thn_n ?_)|(refine k_awp ?_;first|(refine awp_seq (awp_region ?_))|(refine awp_seq ?_)|(refine awp_region ?_)|(refine k_cond ?_;first|(refine awp_cond_t' rfl (by with_reducible rfl) ?_)|(refine awp_cond_f' rfl (by with_reducible rfl) ?_)|(refine awp_cond_p rfl (fun hc => ?_) (fun hc => ?_) <;> (try (exfalso;omega))))|(refine awp_block ?_)|(refine awp_ret ?_)|(refine awp_skip ?_)|(refine awp_exit ?_))|(refine thn_ret ?_)|(refine lq_exit ?_)|(refine lq_ret ?_)|(refine thn_exit ?_)|(refine inb_n ?_)|(refine inb_ret ?_)|(refine inb_here ?_))|(first|(refine k_hw ?_;first|(refine hw_s rfl ?_)|(refine hw_v (ov_move rfl) rfl ?_)|(refine hw_v (ov_assign rfl) rfl ?_)|(refine hw_v (ov_fieldAddr rfl rfl) rfl ?_)|(refine hw_v (ov_load rfl rfl) rfl ?_)|(refine hw_v (ov_load_agg rfl rfl rfl) rfl ?_)|(refine hw_v (ov_cmp rfl rfl rfl) rfl ?_)|(refine hw_v (ov_pick_t' rfl (by with_reducible rfl) rfl) rfl ?_)|(refine hw_v (ov_pick_f' rfl (by with_reducible rfl) rfl) rfl ?_)|(refine hw_v (ov_len_str rfl) rfl ?_)|(refine hw_v (ov_seq rfl rfl) rfl ?_)|(refine hw_v (ov_sne rfl rfl) rfl ?_)|(refine hw_v (ov_index rfl rfl (by omega) (by omega)) rfl ?_)|(refine hw_v (ov_add rfl rfl (by (first|exact w64 (by omega) (by omega)|exact w8 (by omega) (by omega)|rfl))) rfl ?_)|(refine hw_v (ov_sub rfl rfl (by (first|exact w64 (by omega) (by omega)|exact w8 (by omega) (by omega)|rfl))) rfl ?_))|(refine hl_op rfl ?_)|(refine k_ho ?_;first|(refine ho_n ?_))|(refine hl_nil ?_)|(refine hq_back ?_)))
      all_goals first
        | (exfalso; omega)
        | (refine ret3 (by first | exact .inr rfl | exact .inl rfl) rfl rfl rfl rfl ?_
           rw [bodyL, if_pos (by first | exact .inl (hC.2 (by omega)) | exact .inr (.inl ‹_›) | exact .inr (.inr ‹_›))]
           exact ⟨rfl, rfl⟩)
        | (refine ret3 (by first | exact .inr rfl | exact .inl rfl) rfl rfl rfl rfl ?_
           rw [bodyL, if_neg (by rintro (k | k | k) <;> first | (have := hC.1 k; omega) | exact ‹¬ _› k)]
           exact ⟨rfl, rfl⟩)
  | cons l L =>
    have hll : (strAV (l :: L)).length = L.length + 1 := by simp [strAV]
    simp only [List.length_cons] at hl1
    cases C with
    | cons c C =>
      have hcl : (strAV (c :: C)).length = C.length + 1 := by simp [strAV]
      repeat' (first|(first|(refine awp_held (id := 1) [] [⟨0, true, [], bl 6 4⟩, ⟨2, true, [], bl 6 3⟩, ⟨1, false, [], []⟩, ⟨3, false, [], []⟩, ⟨4, true, [], bl 6 15⟩, ⟨5, true, [], bl 6 31⟩] (by kernel_rfl) (by kernel_rfl) rfl (by kernel_rfl) ?_)|(refine k_call ?_;refine al_call rfl rfl rfl rfl hV1 ?_;rintro _ rfl)|(refine k_call ?_;refine al_call rfl rfl rfl rfl hV2 ?_;rintro _ rfl)|(refine k_call ?_;refine al_v (ov_len_k (L.length + 1) rfl hll) rfl ?_)|(refine k_call ?_;refine al_v (ov_len_k (C.length + 1) rfl hcl) rfl ?_))|(refine k_al ?_;first|(refine al_v (ov_move rfl) rfl ?_)|(refine k_g ?_;first|(refine al_gy' rfl rfl (by with_reducible rfl) ?_)|(refine al_gnt rfl rfl (by with_reducible rfl) rfl ?_)|(refine al_gnf rfl rfl (by with_reducible rfl) rfl ?_)|(refine al_gsp rfl rfl (fun hc => ?_) (fun hc => ?_) <;> (try (exfalso;omega))))|(refine al_v (ov_fieldAddr rfl rfl) rfl ?_)|(refine k_load ?_;first|(refine al_v (ov_load rfl rfl) rfl ?_)|(refine al_v (ov_load_agg rfl rfl rfl) rfl ?_))|(refine k_bin ?_;first|(refine al_v (ov_cmp rfl rfl rfl) rfl ?_)|(refine al_v (ov_add rfl rfl (by (first|exact w64 (by omega) (by omega)|exact w8 (by omega) (by omega)|rfl))) rfl ?_)|(refine al_v (ov_sub rfl rfl (by (first|exact w64 (by omega) (by omega)|exact w8 (by omega) (by omega)|rfl))) rfl ?_)|(refine al_v (ov_mul rfl rfl (by (first|exact w64 (by omega) (by omega)|exact w8 (by omega) (by omega)|rfl))) rfl ?_)|(refine al_v (ov_seq rfl rfl) rfl ?_)|(refine al_v (ov_sne rfl rfl) rfl ?_))|(refine k_pick ?_;first|(refine al_v (ov_pick_t' rfl (by with_reducible rfl) rfl) rfl ?_)|(refine al_v (ov_pick_f' rfl (by with_reducible rfl) rfl) rfl ?_))|(refine al_v (ov_assign rfl) rfl ?_)|(refine k_call ?_;first|(refine al_v (ov_len_str rfl) rfl ?_))|(refine al_nil ?_)|(refine al_box rfl rfl rfl (by first|exact ln0) (by repeat constructor) rfl ?_)|(refine al_v (ov_index rfl rfl (by omega) (by omega)) rfl ?_))|(first|(refine thn_n ?_)|(refine k_awp ?_;first|(refine awp_seq (awp_region ?_))|(refine awp_seq ?_)|(refine awp_region ?_)|(refine k_cond ?_;first|(refine awp_cond_t' rfl (by with_reducible rfl) ?_)|(refine awp_cond_f' rfl (by with_reducible rfl) ?_)|(refine awp_cond_p rfl (fun hc => ?_) (fun hc => ?_) <;> (try (exfalso;omega))))|(refine awp_block ?_)|(refine awp_ret ?_)|(refine awp_skip ?_)|(refine awp_exit ?_))|(refine thn_ret ?_)|(refine lq_exit ?_)|(refine lq_ret ?_)|(refine thn_exit ?_)|(refine inb_n ?_)|(refine inb_ret ?_)|(refine inb_here ?_))|(first|(refine k_hw ?_;first|(refine hw_s rfl ?_)|(refine hw_v (ov_move rfl) rfl ?_)|(refine hw_v (ov_assign rfl) rfl ?_)|(refine hw_v (ov_fieldAddr rfl rfl) rfl ?_)|(refine hw_v (ov_load rfl rfl) rfl ?_)|(refine hw_v (ov_load_agg rfl rfl rfl) rfl ?_)|(refine hw_v (ov_cmp rfl rfl rfl) rfl ?_)|(refine hw_v (ov_pick_t' rfl (by with_reducible rfl) rfl) rfl ?_)|(refine hw_v (ov_pick_f' rfl (by with_reducible rfl) rfl) rfl ?_)|(refine hw_v (ov_len_str rfl) rfl ?_)|(refine hw_v (ov_seq rfl rfl) rfl ?_)|(refine hw_v (ov_sne rfl rfl) rfl ?_)|(refine hw_v (ov_index rfl rfl (by omega) (by omega)) rfl ?_)|(refine hw_v (ov_add rfl rfl (by (first|exact w64 (by omega) (by omega)|exact w8 (by omega) (by omega)|rfl))) rfl ?_)|(refine hw_v (ov_sub rfl rfl (by (first|exact w64 (by omega) (by omega)|exact w8 (by omega) (by omega)|rfl))) rfl ?_))|(refine hl_op rfl ?_)|(refine k_ho ?_;first|(refine ho_n ?_))|(refine hl_nil ?_)|(refine hq_back ?_)))
      all_goals first
        | (exfalso; omega)
        | (refine ret3 (by first | exact .inr rfl | exact .inl rfl) rfl rfl rfl rfl ?_
           exact ⟨rfl, rfl⟩)
    | nil =>
      have hlb := hm1 l (by simp)
      repeat' (first|(first|(refine awp_held (id := 1) [] [⟨0, true, [], bl 6 4⟩, ⟨2, true, [], bl 6 3⟩, ⟨1, false, [], []⟩, ⟨3, false, [], []⟩, ⟨4, true, [], bl 6 15⟩, ⟨5, true, [], bl 6 31⟩] (by kernel_rfl) (by kernel_rfl) rfl (by kernel_rfl) ?_)|(refine k_call ?_;refine al_call rfl rfl rfl rfl hV1 ?_;rintro _ rfl)|(refine k_call ?_;refine al_call rfl rfl rfl rfl hV2 ?_;rintro _ rfl)|(refine k_call ?_;refine al_v (ov_len_k (L.length + 1) rfl hll) rfl ?_)|(refine k_call ?_;refine al_v (ov_len_k 0 rfl rfl) rfl ?_))|(refine k_al ?_;first|(refine al_v (ov_move rfl) rfl ?_)|(refine k_g ?_;first|(refine al_gy' rfl rfl (by with_reducible rfl) ?_)|(refine al_gnt rfl rfl (by with_reducible rfl) rfl ?_)|(refine al_gnf rfl rfl (by with_reducible rfl) rfl ?_)|(refine al_gsp rfl rfl (fun hc => ?_) (fun hc => ?_) <;> (try (exfalso;omega))))|(refine al_v (ov_fieldAddr rfl rfl) rfl ?_)|(refine k_load ?_;first|(refine al_v (ov_load rfl rfl) rfl ?_)|(refine al_v (ov_load_agg rfl rfl rfl) rfl ?_))|(refine k_bin ?_;first|(refine al_v (ov_cmp rfl rfl rfl) rfl ?_)|(refine al_v (ov_add rfl rfl (by (first|exact w64 (by omega) (by omega)|exact w8 (by omega) (by omega)|rfl))) rfl ?_)|(refine al_v (ov_sub rfl rfl (by (first|exact w64 (by omega) (by omega)|exact w8 (by omega) (by omega)|rfl))) rfl ?_)|(refine al_v (ov_mul rfl rfl (by (first|exact w64 (by omega) (by omega)|exact w8 (by omega) (by omega)|rfl))) rfl ?_)|(refine al_v (ov_seq rfl rfl) rfl ?_)|(refine al_v (ov_sne rfl rfl) rfl ?_))|(refine k_pick ?_;first|(refine al_v (ov_pick_t' rfl (by with_reducible rfl) rfl) rfl ?_)|(refine al_v (ov_pick_f' rfl (by with_reducible rfl) rfl) rfl ?_))|(refine al_v (ov_assign rfl) rfl ?_)|(refine k_call ?_;first|(refine al_v (ov_len_str rfl) rfl ?_))|(refine al_nil ?_)|(refine al_box rfl rfl rfl (by first|exact ln0) (by repeat constructor) rfl ?_)|(refine al_v (ov_index rfl rfl (by omega) (by omega)) rfl ?_))|(first|(refine thn_n ?_)|(refine k_awp ?_;first|(refine awp_seq (awp_region ?_))|(refine awp_seq ?_)|(refine awp_region ?_)|(refine k_cond ?_;first|(refine awp_cond_t' rfl (by with_reducible rfl) ?_)|(refine awp_cond_f' rfl (by with_reducible rfl) ?_)|(refine awp_cond_p rfl (fun hc => ?_) (fun hc => ?_) <;> (try (exfalso;omega))))|(refine awp_block ?_)|(refine awp_ret ?_)|(refine awp_skip ?_)|(refine awp_exit ?_))|(refine thn_ret ?_)|(refine lq_exit ?_)|(refine lq_ret ?_)|(refine thn_exit ?_)|(refine inb_n ?_)|(refine inb_ret ?_)|(refine inb_here ?_))|(first|(refine k_hw ?_;first|(refine hw_s rfl ?_)|(refine hw_v (ov_move rfl) rfl ?_)|(refine hw_v (ov_assign rfl) rfl ?_)|(refine hw_v (ov_fieldAddr rfl rfl) rfl ?_)|(refine hw_v (ov_load rfl rfl) rfl ?_)|(refine hw_v (ov_load_agg rfl rfl rfl) rfl ?_)|(refine hw_v (ov_cmp rfl rfl rfl) rfl ?_)|(refine hw_v (ov_pick_t' rfl (by with_reducible rfl) rfl) rfl ?_)|(refine hw_v (ov_pick_f' rfl (by with_reducible rfl) rfl) rfl ?_)|(refine hw_v (ov_len_str rfl) rfl ?_)|(refine hw_v (ov_seq rfl rfl) rfl ?_)|(refine hw_v (ov_sne rfl rfl) rfl ?_)|(refine hw_v (ov_index rfl rfl (by omega) (by omega)) rfl ?_)|(refine hw_v (ov_add rfl rfl (by (first|exact w64 (by omega) (by omega)|exact w8 (by omega) (by omega)|rfl))) rfl ?_)|(refine hw_v (ov_sub rfl rfl (by (first|exact w64 (by omega) (by omega)|exact w8 (by omega) (by omega)|rfl))) rfl ?_))|(refine hl_op rfl ?_)|(refine k_ho ?_;first|(refine ho_n ?_))|(refine hl_nil ?_)|(refine hq_back ?_)))
      all_goals (try (exfalso; omega))
      refine awp_loopq (fun p : Nat × Int => ⟨[(1, .op 0 0), (5, .rs (strAV (l :: L))), (7, .int .i64 p.2), (8, .int .i64 p.1)], [.box [.str h.m, .str h.t, .int .i64 h.v, .rs (h.fs.map prAV)]]⟩)
        (fun p => p.1 ≤ l.length ∧ p.1 ≤ 9 ∧ (l.take p.1).all pDigit = true ∧ p.2 = decN (l.take p.1)) (fun p => l.length - p.1) (0, 0) (.of (.same (by repeat constructor))) ⟨Nat.zero_le _, Nat.zero_le _, rfl, rfl⟩ ?_
      rintro ⟨i, n⟩ ⟨hi, hi9, hall, hn⟩
      dsimp only at hi hi9 hall hn ⊢
      have hn1 := decN_nonneg hall
      have hn2 := decN_lt hall (by rw [List.length_take]; omega)
      have hby := byteAt_eq l (i : Int)
      have hub := (bAt l (i : Int)).toNat_lt
      have hdig : pDigit (bAt l (i : Int)) = true ↔ 48 ≤ byteAt l (i : Int) ∧ byteAt l (i : Int) ≤ 57 := by
        rw [hby]; unfold pDigit; simp; omega
      by_cases hlt : i < l.length
      · have htk : l.take (i + 1) = l.take i ++ [bAt l (i : Int)] := by rw [List.take_add_one, get_bAt hlt]; rfl
        repeat' (first|(first|(refine al_v (ov_indexAddr rfl rfl (by decide) rfl rfl) rfl ?_)|(refine al_v (ov_conv_int rfl rfl) rfl ?_))|(refine k_al ?_;first|(refine al_v (ov_move rfl) rfl ?_)|(refine k_g ?_;first|(refine al_gy' rfl rfl (by with_reducible rfl) ?_)|(refine al_gnt rfl rfl (by with_reducible rfl) rfl ?_)|(refine al_gnf rfl rfl (by with_reducible rfl) rfl ?_)|(refine al_gsp rfl rfl (fun hc => ?_) (fun hc => ?_) <;> (try (exfalso;omega))))|(refine al_v (ov_fieldAddr rfl rfl) rfl ?_)|(refine k_load ?_;first|(refine al_v (ov_load rfl rfl) rfl ?_)|(refine al_v (ov_load_agg rfl rfl rfl) rfl ?_))|(refine k_bin ?_;first|(refine al_v (ov_cmp rfl rfl rfl) rfl ?_)|(refine al_v (ov_add rfl rfl (by (first|exact w64 (by omega) (by omega)|exact w8 (by omega) (by omega)|rfl))) rfl ?_)|(refine al_v (ov_sub rfl rfl (by (first|exact w64 (by omega) (by omega)|exact w8 (by omega) (by omega)|rfl))) rfl ?_)|(refine al_v (ov_mul rfl rfl (by (first|exact w64 (by omega) (by omega)|exact w8 (by omega) (by omega)|rfl))) rfl ?_)|(refine al_v (ov_seq rfl rfl) rfl ?_)|(refine al_v (ov_sne rfl rfl) rfl ?_))|(refine k_pick ?_;first|(refine al_v (ov_pick_t' rfl (by with_reducible rfl) rfl) rfl ?_)|(refine al_v (ov_pick_f' rfl (by with_reducible rfl) rfl) rfl ?_))|(refine al_v (ov_assign rfl) rfl ?_)|(refine k_call ?_;first|(refine al_v (ov_len_str rfl) rfl ?_))|(refine al_nil ?_)|(refine al_box rfl rfl rfl (by first|exact ln0) (by repeat constructor) rfl ?_)|(refine al_v (ov_index rfl rfl (by omega) (by omega)) rfl ?_))|(first|(refine thn_n ?_)|(refine k_awp ?_;first|(refine awp_seq (awp_region ?_))|(refine awp_seq ?_)|(refine awp_region ?_)|(refine k_cond ?_;first|(refine awp_cond_t' rfl (by with_reducible rfl) ?_)|(refine awp_cond_f' rfl (by with_reducible rfl) ?_)|(refine awp_cond_p rfl (fun hc => ?_) (fun hc => ?_) <;> (try (exfalso;omega))))|(refine awp_block ?_)|(refine awp_ret ?_)|(refine awp_skip ?_)|(refine awp_exit ?_))|(refine thn_ret ?_)|(refine lq_exit ?_)|(refine lq_ret ?_)|(refine thn_exit ?_)|(refine inb_n ?_)|(refine inb_ret ?_)|(refine inb_here ?_)))
        all_goals first
          | (exfalso; omega)
          | (refine ret3 (by first | exact .inr rfl | exact .inl rfl) rfl rfl rfl rfl ?_
             rw [bodyL, if_pos (by
               by_cases h9 : 9 < l.length
               · exact .inr (.inl h9)
               · refine .inr (.inr (.inl ?_))
                 exact all_bAt_not (j := i) hlt (by cases hd : pDigit (bAt l (i : Int)) with
                   | false => rfl
                   | true => have := hdig.1 hd; omega))]
             exact ⟨rfl, rfl⟩)
          | skip
        first | refine lq_back (i + 1, _) (.of (.same (by repeat constructor))) ?_ ?_ | fail
        · refine ⟨by dsimp only; omega, by dsimp only; omega, ?_, ?_⟩
          · dsimp only
            rw [htk, List.all_append, hall]
            rw [List.all_cons, List.all_nil, hdig.2 (by omega)]; rfl
          · dsimp only
            rw [htk]
            unfold decN at hn ⊢
            rw [List.foldl_append, ← hn]
            simp only [List.foldl_cons, List.foldl_nil]
            have hn3 : 0 ≤ n ∧ n < 1000000000 := by rw [hn]; exact ⟨hn1, hn2⟩
            have e1 : IntKind.i64.wrap (byteAt l (i : Int) - 48) = byteAt l (i : Int) - 48 := w64 (by omega) (by omega)
            rw [e1, hby]
            exact w64 (by omega) (by omega)
        · dsimp only; omega
      · have hil : i = l.length := by omega
        rw [hil, List.take_length] at hall hn
        repeat' (first|(first|(refine al_v (ov_indexAddr rfl rfl (by decide) rfl rfl) rfl ?_))|(refine k_al ?_;first|(refine al_v (ov_move rfl) rfl ?_)|(refine k_g ?_;first|(refine al_gy' rfl rfl (by with_reducible rfl) ?_)|(refine al_gnt rfl rfl (by with_reducible rfl) rfl ?_)|(refine al_gnf rfl rfl (by with_reducible rfl) rfl ?_)|(refine al_gsp rfl rfl (fun hc => ?_) (fun hc => ?_) <;> (try (exfalso;omega))))|(refine al_v (ov_fieldAddr rfl rfl) rfl ?_)|(refine k_load ?_;first|(refine al_v (ov_load rfl rfl) rfl ?_)|(refine al_v (ov_load_agg rfl rfl rfl) rfl ?_))|(refine k_bin ?_;first|(refine al_v (ov_cmp rfl rfl rfl) rfl ?_)|(refine al_v (ov_add rfl rfl (by (first|exact w64 (by omega) (by omega)|exact w8 (by omega) (by omega)|rfl))) rfl ?_)|(refine al_v (ov_sub rfl rfl (by (first|exact w64 (by omega) (by omega)|exact w8 (by omega) (by omega)|rfl))) rfl ?_)|(refine al_v (ov_mul rfl rfl (by (first|exact w64 (by omega) (by omega)|exact w8 (by omega) (by omega)|rfl))) rfl ?_)|(refine al_v (ov_seq rfl rfl) rfl ?_)|(refine al_v (ov_sne rfl rfl) rfl ?_))|(refine k_pick ?_;first|(refine al_v (ov_pick_t' rfl (by with_reducible rfl) rfl) rfl ?_)|(refine al_v (ov_pick_f' rfl (by with_reducible rfl) rfl) rfl ?_))|(refine al_v (ov_assign rfl) rfl ?_)|(refine k_call ?_;first|(refine al_v (ov_len_str rfl) rfl ?_))|(refine al_nil ?_)|(refine al_box rfl rfl rfl (by first|exact ln0) (by repeat constructor) rfl ?_)|(refine al_v (ov_index rfl rfl (by omega) (by omega)) rfl ?_))|(first|(refine thn_n ?_)|(refine k_awp ?_;first|(refine awp_seq (awp_region ?_))|(refine awp_seq ?_)|(refine awp_region ?_)|(refine k_cond ?_;first|(refine awp_cond_t' rfl (by with_reducible rfl) ?_)|(refine awp_cond_f' rfl (by with_reducible rfl) ?_)|(refine awp_cond_p rfl (fun hc => ?_) (fun hc => ?_) <;> (try (exfalso;omega))))|(refine awp_block ?_)|(refine awp_ret ?_)|(refine awp_skip ?_)|(refine awp_exit ?_))|(refine thn_ret ?_)|(refine lq_exit ?_)|(refine lq_ret ?_)|(refine thn_exit ?_)|(refine inb_n ?_)|(refine inb_ret ?_)|(refine inb_here ?_)))
        refine awp_loopq (fun k : Nat => ⟨[(1, .op 0 0), (5, .rs (strAV (l :: L))), (7, .int .i64 n), (9, .int .i64 k)], [.box [.str h.m, .str h.t, .int .i64 h.v, .rs (h.fs.map prAV)]]⟩) (fun k => k ≤ L.length + 1 ∧ ((l :: L).take k).all (fun x => decide (x = l)) = true ∧ (0 < k → l ≠ [])) (fun k => L.length + 1 - k) 0 (.of (.same (by repeat constructor))) ⟨Nat.zero_le _, rfl, fun h => absurd h (by decide)⟩ ?_
        rintro k ⟨hk, hal, hne⟩
        try dsimp only
        by_cases hkt : k < L.length + 1
        · obtain ⟨x, hx⟩ : ∃ x, (l :: L)[k]? = some x := ⟨_, List.getElem?_eq_getElem (by simp; omega)⟩
          have hrow := strAV_row' hx
          repeat' (first|(first|(refine ql_v (ov_indexAddr rfl rfl (by omega) hrow rfl) rfl ?_)|(refine ql_v (ov_indexAddr rfl rfl (by decide) rfl rfl) rfl ?_)|(refine k_call ?_;refine al_v (ov_len_k (L.length + 1) rfl hll) rfl ?_))|(refine k_al ?_;first|(refine al_v (ov_move rfl) rfl ?_)|(refine k_g ?_;first|(refine al_gy' rfl rfl (by with_reducible rfl) ?_)|(refine al_gnt rfl rfl (by with_reducible rfl) rfl ?_)|(refine al_gnf rfl rfl (by with_reducible rfl) rfl ?_)|(refine al_gsp rfl rfl (fun hc => ?_) (fun hc => ?_) <;> (try (exfalso;omega))))|(refine al_v (ov_fieldAddr rfl rfl) rfl ?_)|(refine k_load ?_;first|(refine al_v (ov_load rfl rfl) rfl ?_)|(refine al_v (ov_load_agg rfl rfl rfl) rfl ?_))|(refine k_bin ?_;first|(refine al_v (ov_cmp rfl rfl rfl) rfl ?_)|(refine al_v (ov_add rfl rfl (by (first|exact w64 (by omega) (by omega)|exact w8 (by omega) (by omega)|rfl))) rfl ?_)|(refine al_v (ov_sub rfl rfl (by (first|exact w64 (by omega) (by omega)|exact w8 (by omega) (by omega)|rfl))) rfl ?_)|(refine al_v (ov_mul rfl rfl (by (first|exact w64 (by omega) (by omega)|exact w8 (by omega) (by omega)|rfl))) rfl ?_)|(refine al_v (ov_seq rfl rfl) rfl ?_)|(refine al_v (ov_sne rfl rfl) rfl ?_))|(refine k_pick ?_;first|(refine al_v (ov_pick_t' rfl (by with_reducible rfl) rfl) rfl ?_)|(refine al_v (ov_pick_f' rfl (by with_reducible rfl) rfl) rfl ?_))|(refine al_v (ov_assign rfl) rfl ?_)|(refine k_call ?_;first|(refine al_v (ov_len_str rfl) rfl ?_))|(refine al_nil ?_)|(refine al_box rfl rfl rfl (by first|exact ln0) (by repeat constructor) rfl ?_)|(refine al_v (ov_index rfl rfl (by omega) (by omega)) rfl ?_))|(first|(refine thn_n ?_)|(refine k_awp ?_;first|(refine awp_seq (awp_region ?_))|(refine awp_seq ?_)|(refine awp_region ?_)|(refine k_cond ?_;first|(refine awp_cond_t' rfl (by with_reducible rfl) ?_)|(refine awp_cond_f' rfl (by with_reducible rfl) ?_)|(refine awp_cond_p rfl (fun hc => ?_) (fun hc => ?_) <;> (try (exfalso;omega))))|(refine awp_block ?_)|(refine awp_ret ?_)|(refine awp_skip ?_)|(refine awp_exit ?_))|(refine thn_ret ?_)|(refine lq_exit ?_)|(refine lq_ret ?_)|(refine thn_exit ?_)|(refine inb_n ?_)|(refine inb_ret ?_)|(refine inb_here ?_))|(refine awp_draw (by kernel_rfl) (by kernel_rfl) ?_)|(first|(refine ql_v (ov_move rfl) rfl ?_)|(refine ql_v (ov_assign rfl) rfl ?_)|(refine ql_v (ov_fieldAddr rfl rfl) rfl ?_)|(refine ql_v (ov_load rfl rfl) rfl ?_)|(refine ql_v (ov_load_agg rfl rfl rfl) rfl ?_)|(refine ql_gy rfl rfl (by with_reducible rfl) ?_)|(refine ql_gnf rfl rfl (by with_reducible rfl) rfl ?_)|(refine ql_v (ov_cmp rfl rfl rfl) rfl ?_)|(refine ql_v (ov_pick_t' rfl (by with_reducible rfl) rfl) rfl ?_)|(refine ql_v (ov_pick_f' rfl (by with_reducible rfl) rfl) rfl ?_)|(refine ql_v (ov_len_str rfl) rfl ?_)|(refine ql_v (ov_seq rfl rfl) rfl ?_)|(refine ql_v (ov_sne rfl rfl) rfl ?_)|(refine ql_v (ov_index rfl rfl (by omega) (by omega)) rfl ?_)|(refine ql_v (ov_add rfl rfl (by (first|exact w64 (by omega) (by omega)|exact w8 (by omega) (by omega)|rfl))) rfl ?_)|(refine ql_v (ov_sub rfl rfl (by (first|exact w64 (by omega) (by omega)|exact w8 (by omega) (by omega)|rfl))) rfl ?_)|(refine ql_gsp rfl rfl (fun hc => ?_) (fun hc => ?_) <;> (try (exfalso;omega)))|(refine ql_nil ?_)))
          all_goals first
            | (exfalso; omega)
            | (have hxl : x ≠ l := by assumption
               refine ret3 (by first | exact .inr rfl | exact .inl rfl) rfl rfl rfl rfl ?_
               rw [bodyL, if_pos (by
                 refine .inr (.inr (.inr ?_))
                 cases hc : (l :: L).all fun x => decide (x = l) with
                 | false => rfl
                 | true =>
                   have := List.all_eq_true.1 hc x (List.mem_of_getElem? hx)
                   exact absurd (of_decide_eq_true this) hxl)]
               exact ⟨rfl, rfl⟩)
            | (refine ret3 (by first | exact .inr rfl | exact .inl rfl) rfl rfl rfl rfl ?_
               rw [bodyL, if_pos (by
                 have he : l = [] := ‹l = _›
                 exact .inl (by rw [he]; decide))]
               exact ⟨rfl, rfl⟩)
            | (first | refine lq_back (k + 1) (.of (.same (by repeat constructor))) ?_ ?_ | fail
               · refine ⟨by omega, ?_, fun _ => ‹¬l = _›⟩
                 rw [List.take_add_one, hx, List.all_append, hal]
                 simp [Classical.not_not.1 ‹¬x ≠ l›]
               · omega)
        · rw [List.take_of_length_le (by simp; omega)] at hal
          have hln := List.length_pos_iff.2 (hne (by omega))
          repeat' (first|((refine k_call ?_;refine al_v (ov_len_k (L.length + 1) rfl hll) rfl ?_))|(refine k_al ?_;first|(refine al_v (ov_move rfl) rfl ?_)|(refine k_g ?_;first|(refine al_gy' rfl rfl (by with_reducible rfl) ?_)|(refine al_gnt rfl rfl (by with_reducible rfl) rfl ?_)|(refine al_gnf rfl rfl (by with_reducible rfl) rfl ?_)|(refine al_gsp rfl rfl (fun hc => ?_) (fun hc => ?_) <;> (try (exfalso;omega))))|(refine al_v (ov_fieldAddr rfl rfl) rfl ?_)|(refine k_load ?_;first|(refine al_v (ov_load rfl rfl) rfl ?_)|(refine al_v (ov_load_agg rfl rfl rfl) rfl ?_))|(refine k_bin ?_;first|(refine al_v (ov_cmp rfl rfl rfl) rfl ?_)|(refine al_v (ov_add rfl rfl (by (first|exact w64 (by omega) (by omega)|exact w8 (by omega) (by omega)|rfl))) rfl ?_)|(refine al_v (ov_sub rfl rfl (by (first|exact w64 (by omega) (by omega)|exact w8 (by omega) (by omega)|rfl))) rfl ?_)|(refine al_v (ov_mul rfl rfl (by (first|exact w64 (by omega) (by omega)|exact w8 (by omega) (by omega)|rfl))) rfl ?_)|(refine al_v (ov_seq rfl rfl) rfl ?_)|(refine al_v (ov_sne rfl rfl) rfl ?_))|(refine k_pick ?_;first|(refine al_v (ov_pick_t' rfl (by with_reducible rfl) rfl) rfl ?_)|(refine al_v (ov_pick_f' rfl (by with_reducible rfl) rfl) rfl ?_))|(refine al_v (ov_assign rfl) rfl ?_)|(refine k_call ?_;first|(refine al_v (ov_len_str rfl) rfl ?_))|(refine al_nil ?_)|(refine al_box rfl rfl rfl (by first|exact ln0) (by repeat constructor) rfl ?_)|(refine al_v (ov_index rfl rfl (by omega) (by omega)) rfl ?_))|(first|(refine thn_n ?_)|(refine k_awp ?_;first|(refine awp_seq (awp_region ?_))|(refine awp_seq ?_)|(refine awp_region ?_)|(refine k_cond ?_;first|(refine awp_cond_t' rfl (by with_reducible rfl) ?_)|(refine awp_cond_f' rfl (by with_reducible rfl) ?_)|(refine awp_cond_p rfl (fun hc => ?_) (fun hc => ?_) <;> (try (exfalso;omega))))|(refine awp_block ?_)|(refine awp_ret ?_)|(refine awp_skip ?_)|(refine awp_exit ?_))|(refine thn_ret ?_)|(refine lq_exit ?_)|(refine lq_ret ?_)|(refine thn_exit ?_)|(refine inb_n ?_)|(refine inb_ret ?_)|(refine inb_here ?_)))
          all_goals first
            | (exfalso; omega)
            | (refine ret3 (by first | exact .inr rfl | exact .inl rfl) rfl rfl rfl rfl ?_
               rw [bodyL, if_neg (by rintro (k | k | k | k) <;> first | omega | (rw [hall] at k; cases k) | (rw [hal] at k; cases k)), if_pos (by omega)]
               exact ⟨rfl, rfl⟩)
            | (refine ret3 (by first | exact .inr rfl | exact .inl rfl) rfl rfl rfl rfl ?_
               rw [bodyL, if_neg (by rintro (k | k | k | k) <;> first | omega | (rw [hall] at k; cases k) | (rw [hal] at k; cases k)), if_neg (by omega), ← hn]
               exact ⟨rfl, rfl⟩)
end
end Go.Proofs.YtffcgpkbibijpaaGreatDoor.L

namespace Go.Proofs.YtffcgpkbibijpaaGreatDoor.L
open Go Go.RowKit Go.Proofs
set_option linter.unusedVariables false
set_option linter.unusedSimpArgs false
set_option maxRecDepth 100000
attribute [local irreducible] AL QL AWp Thn InB RetQ ACalls LoopQ HL HO HW HQ NoG

def cnS : List UInt8 := [99, 111, 110, 110, 101, 99, 116, 105, 111, 110]
def coS : List UInt8 := [99, 108, 111, 115, 101]
def kaS : List UInt8 := [107, 101, 101, 112, 45, 97, 108, 105, 118, 101]
def wOf (w : List UInt8) : List UInt8 := smallS (Lib.trimS w [32, 9])
def wordsOf (vs : List (List UInt8)) : List (List UInt8) := vs.flatMap fun v => (splitB 44 v).map wOf
def closesS (h : Hd) : Bool := decide (coS ∈ wordsOf (valsOf h.fs cnS)) || (decide (h.v = 0) && !decide (kaS ∈ wordsOf (valsOf h.fs cnS)))
theorem splitB_len (c : UInt8) : ∀ l : List UInt8, (splitB c l).length ≤ l.length + 1 := by
  intro l
  induction l with
  | nil => exact Nat.le_refl _
  | cons b r ih =>
    rw [splitB]
    split
    · simp only [List.length_cons]; omega
    · simp only [List.length_cons, List.length_tail]; omega
theorem splitB_mem (c : UInt8) : ∀ (l p : List UInt8), p ∈ splitB c l → p.length ≤ l.length := by
  intro l
  induction l with
  | nil => intro p h; simp [splitB] at h; subst h; exact Nat.le_refl _
  | cons b r ih =>
    intro p h
    rw [splitB] at h
    split at h
    · rcases List.mem_cons.1 h with rfl | h
      · simp
      · have := ih p h; simp only [List.length_cons]; omega
    · rcases List.mem_cons.1 h with rfl | h
      · have hh : (splitB c r).headD [] ∈ splitB c r := by
          cases hs : splitB c r with
          | nil => exact absurd hs (splitB_ne c r)
          | cons a t => simp
        have := ih _ hh
        simp only [List.length_cons]; omega
      · have := ih p (List.mem_of_mem_tail h); simp only [List.length_cons]; omega
theorem wordsOf_len {vs : List (List UInt8)} {B : Nat} : (∀ v ∈ vs, v.length ≤ B) → (wordsOf vs).length ≤ vs.length * (B + 1) := by
  induction vs with
  | nil => intro _; simp [wordsOf]
  | cons v vs ih =>
    intro h
    have h1 := ih fun x hx => h x (by simp [hx])
    have h2 := splitB_len 44 v
    have h3 := h v (by simp)
    have : wordsOf (v :: vs) = (splitB 44 v).map wOf ++ wordsOf vs := rfl
    rw [this, List.length_append, List.length_map, List.length_cons, Nat.succ_mul]
    omega
theorem wordsOf_next {vs : List (List UInt8)} {i : Nat} {v : List UInt8} (h : vs[i]? = some v) : wordsOf (vs.take (i + 1)) = wordsOf (vs.take i) ++ (splitB 44 v).map wOf := by
  unfold wordsOf
  rw [List.take_add_one, h, List.flatMap_append]
  simp
theorem wordsOf_take_le (vs : List (List UInt8)) (i : Nat) : (wordsOf (vs.take i)).length ≤ (wordsOf vs).length := by
  have : wordsOf vs = wordsOf (vs.take i) ++ wordsOf (vs.drop i) := by
    unfold wordsOf
    rw [← List.flatMap_append, List.take_append_drop]
  rw [this, List.length_append]
  omega
section
variable {w0 : World} {base : Nat}
set_option maxHeartbeats 2000000 in
theorem s_indexS {xs : List (List UInt8)} {v : List UInt8} (hx : xs.length ≤ 140737488351232) : PCalls (EE w0 base) 74 [.rs (strAV xs), .str v] fun rv => ∃ k, rv = .int .i64 k ∧ (0 ≤ k ↔ v ∈ xs) := by
  refine acalls_of Tryz.func74 rfl rfl rfl (.cons (.cons .nil)) ?_
  have hxl := strAV_len xs
  repeat' (first|(refine k_al ?_;first|(refine al_v (ov_move rfl) rfl ?_)|(refine k_load ?_;first|(refine al_v (ov_load rfl rfl) rfl ?_))|(refine k_bin ?_;first|(refine al_v (ov_cmp rfl rfl rfl) rfl ?_)|(refine al_v (ov_add rfl rfl (by (first|exact w64 (by omega) (by omega)|rfl))) rfl ?_)|(refine al_v (ov_seq rfl rfl) rfl ?_))|(refine al_v (ov_assign rfl) rfl ?_)|(refine k_call ?_;first|(refine al_v (ov_len_rs rfl) rfl ?_))|(refine al_nil ?_))|(first|(refine thn_n ?_)|(refine k_awp ?_;first|(refine awp_seq (awp_region ?_))|(refine awp_seq ?_)|(refine awp_region ?_)|(refine k_cond ?_;first|(refine awp_cond_p rfl (fun hc => ?_) (fun hc => ?_) <;> (try (exfalso;omega))))|(refine awp_block ?_)|(refine awp_ret ?_)|(refine awp_skip ?_)|(refine awp_exit ?_))|(refine thn_ret ?_)|(refine lq_exit ?_)|(refine lq_ret ?_)|(refine thn_exit ?_)|(refine inb_n ?_)|(refine inb_ret ?_)|(refine inb_here ?_)))
  refine awp_loopq (fun k : Nat => ⟨[(0, .rs (strAV xs)), (1, .str v), (7, .int .i64 ((strAV xs).length : Int)), (8, .int .i64 k)], []⟩) (fun k => k ≤ xs.length ∧ v ∉ xs.take k) (fun k => xs.length - k) 0 (.of (.same (by repeat constructor))) ⟨Nat.zero_le _, by simp⟩ ?_
  rintro i ⟨hi, hno⟩
  try dsimp only
  by_cases hlt : i < xs.length
  · obtain ⟨p, hp⟩ : ∃ p, xs[i]? = some p := ⟨_, List.getElem?_eq_getElem hlt⟩
    have hrow := strAV_row' hp
    repeat' (first|((refine al_v (ov_indexAddr rfl rfl (by omega) hrow rfl) rfl ?_))|(refine k_al ?_;first|(refine al_v (ov_move rfl) rfl ?_)|(refine k_load ?_;first|(refine al_v (ov_load rfl rfl) rfl ?_))|(refine k_bin ?_;first|(refine al_v (ov_cmp rfl rfl rfl) rfl ?_)|(refine al_v (ov_add rfl rfl (by (first|exact w64 (by omega) (by omega)|rfl))) rfl ?_)|(refine al_v (ov_seq rfl rfl) rfl ?_))|(refine al_v (ov_assign rfl) rfl ?_)|(refine k_call ?_;first|(refine al_v (ov_len_rs rfl) rfl ?_))|(refine al_nil ?_))|(first|(refine thn_n ?_)|(refine k_awp ?_;first|(refine awp_seq (awp_region ?_))|(refine awp_seq ?_)|(refine awp_region ?_)|(refine k_cond ?_;first|(refine awp_cond_p rfl (fun hc => ?_) (fun hc => ?_) <;> (try (exfalso;omega))))|(refine awp_block ?_)|(refine awp_ret ?_)|(refine awp_skip ?_)|(refine awp_exit ?_))|(refine thn_ret ?_)|(refine lq_exit ?_)|(refine lq_ret ?_)|(refine thn_exit ?_)|(refine inb_n ?_)|(refine inb_ret ?_)|(refine inb_here ?_)))
    · refine ret1 (by first | exact .inr rfl | exact .inl rfl) rfl rfl ?_
      refine ⟨⟨_, rfl, fun _ => ?_, fun _ => by omega⟩, rfl⟩
      rw [show v = p from ‹_›]
      exact List.mem_of_getElem? hp
    · first | refine lq_back (i + 1) (.of (.same (by repeat constructor))) ?_ ?_ | fail
      · refine ⟨by omega, ?_⟩
        rw [List.take_add_one, hp, List.mem_append]
        rintro (k | k)
        · exact hno k
        · exact (‹¬v = p›) (by simpa using k)
      · omega
  · repeat' (first|(refine k_al ?_;first|(refine al_v (ov_move rfl) rfl ?_)|(refine k_load ?_;first|(refine al_v (ov_load rfl rfl) rfl ?_))|(refine k_bin ?_;first|(refine al_v (ov_cmp rfl rfl rfl) rfl ?_)|(refine al_v (ov_add rfl rfl (by (first|exact w64 (by omega) (by omega)|rfl))) rfl ?_)|(refine al_v (ov_seq rfl rfl) rfl ?_))|(refine al_v (ov_assign rfl) rfl ?_)|(refine k_call ?_;first|(refine al_v (ov_len_rs rfl) rfl ?_))|(refine al_nil ?_))|(first|(refine thn_n ?_)|(refine k_awp ?_;first|(refine awp_seq (awp_region ?_))|(refine awp_seq ?_)|(refine awp_region ?_)|(refine k_cond ?_;first|(refine awp_cond_p rfl (fun hc => ?_) (fun hc => ?_) <;> (try (exfalso;omega))))|(refine awp_block ?_)|(refine awp_ret ?_)|(refine awp_skip ?_)|(refine awp_exit ?_))|(refine thn_ret ?_)|(refine lq_exit ?_)|(refine lq_ret ?_)|(refine thn_exit ?_)|(refine inb_n ?_)|(refine inb_ret ?_)|(refine inb_here ?_)))
    rw [List.take_of_length_le (by omega)] at hno
    refine ret1 (by first | exact .inr rfl | exact .inl rfl) rfl rfl ?_
    exact ⟨⟨_, rfl, fun k => absurd k (by decide), fun k => absurd k hno⟩, rfl⟩
theorem s_contains {xs : List (List UInt8)} {v : List UInt8} (hx : xs.length ≤ 140737488351232) : PCalls (EE w0 base) 45 [.rs (strAV xs), .str v] fun rv => rv = .bool (decide (v ∈ xs)) := by
  have hI := s_indexS (w0 := w0) (base := base) (v := v) hx
  refine acalls_of Tryz.func45 rfl rfl rfl (.cons (.cons .nil)) ?_
  repeat' (first|((refine k_call ?_;refine al_call rfl rfl rfl rfl hI ?_;rintro _ ⟨k, rfl, hk⟩))|(refine k_al ?_;first|(refine al_v (ov_move rfl) rfl ?_)|(refine k_bin ?_;first|(refine al_v (ov_cmp rfl rfl rfl) rfl ?_))|(refine al_v (ov_assign rfl) rfl ?_)|(refine al_nil ?_))|(first|(refine thn_n ?_)|(refine k_awp ?_;first|(refine awp_seq (awp_region ?_))|(refine awp_seq ?_)|(refine awp_region ?_)|(refine awp_ret ?_))))
  refine ret1 (by first | exact .inr rfl | exact .inl rfl) rfl rfl ?_
  refine ⟨congrArg AV.bool ?_, rfl⟩
  rw [Bool.eq_iff_iff, decide_eq_true_eq, decide_eq_true_eq]
  exact hk
set_option maxHeartbeats 4000000 in
theorem s_closes {h : Hd} (hG : Glob w0 base) (ht : Tiny h) : PCalls (EE w0 base) 14 [hdAV h.m h.t h.v h.fs] fun rv => rv = .bool (closesS h) := by
  have hf := ht.f
  have hV1 := s_values (w0 := w0) (base := base) (m := h.m) (t := h.t) (v := h.v) (fs := h.fs) (name := cnS) (by decide) (by omega)
  have hl1 := valsOf_len h.fs cnS
  have hm1 : ∀ x ∈ valsOf h.fs cnS, x.length ≤ 1048580 := fun x hx => vals_tiny ht hx
  have hwl := wordsOf_len hm1
  have hwl2 : (valsOf h.fs cnS).length * (1048580 + 1) ≤ 1048580 * 1048581 := Nat.mul_le_mul (by omega) (Nat.le_refl _)
  refine acalls_of Tryz.func14 rfl rfl rfl (.cons .nil) ?_
  unfold closesS
  revert hV1 hl1 hm1 hwl hwl2
  generalize valsOf h.fs cnS = V
  intro hV1 hl1 hm1 hwl hwl2
  have hVl := strAV_len V
  obtain ⟨W, hW⟩ : ∃ W, W = wordsOf V := ⟨_, rfl⟩
  repeat' (first|((refine k_call ?_;refine al_call rfl rfl rfl rfl hV1 ?_;rintro _ rfl))|(refine k_al ?_;first|(refine al_v (ov_move rfl) rfl ?_)|(refine k_g ?_;first|(refine al_gy' rfl rfl (by with_reducible rfl) ?_)|(refine al_gnt rfl rfl (by with_reducible rfl) rfl ?_)|(refine al_gnf rfl rfl (by with_reducible rfl) rfl ?_)|(refine al_gu rfl rfl rfl ?_)|(refine al_gsp rfl rfl (fun hc => ?_) (fun hc => ?_) <;> (try (exfalso;omega))))|(refine al_v (ov_fieldAddr rfl rfl) rfl ?_)|(refine k_load ?_;first|(refine al_v (ov_load rfl rfl) rfl ?_)|(refine al_v (ov_load_agg rfl rfl rfl) rfl ?_))|(refine k_bin ?_;first|(refine al_v (ov_cmp rfl rfl rfl) rfl ?_)|(refine al_v (ov_add rfl rfl (by (first|exact w64 (by omega) (by omega)|rfl))) rfl ?_))|(refine k_pick ?_;first|(refine al_v (ov_pick_t' rfl (by with_reducible rfl) rfl) rfl ?_)|(refine al_v (ov_pick_f' rfl (by with_reducible rfl) rfl) rfl ?_))|(refine al_v (ov_assign rfl) rfl ?_)|(refine k_call ?_;first|(refine al_v (ov_len_rs rfl) rfl ?_))|(refine al_nil ?_)|(refine al_box rfl rfl rfl (by first|exact ln0|exact ln2) (by repeat constructor) rfl ?_)|(refine al_buildSlice (by rfl) (by rfl) (by rfl) (by rfl) (by decide) (by decide) (by rfl) (by rfl) (by repeat constructor) (by rfl) (by repeat constructor) (by rfl) (by first|exact ln0|exact ln2) (by repeat constructor) rfl ?_)|(refine al_v (ov_not_t rfl (by with_reducible rfl)) rfl ?_)|(refine al_v (ov_not_f rfl (by with_reducible rfl)) rfl ?_))|(first|(refine thn_n ?_)|(refine k_awp ?_;first|(refine awp_seq (awp_region ?_))|(refine awp_seq ?_)|(refine awp_region ?_)|(refine k_cond ?_;first|(refine awp_cond_p rfl (fun hc => ?_) (fun hc => ?_) <;> (try (exfalso;omega))))|(refine awp_block ?_)|(refine awp_ret ?_)|(refine awp_skip ?_)|(refine awp_exit ?_))|(refine lq_exit ?_)|(refine thn_exit ?_)|(refine inb_n ?_)|(refine inb_here ?_)))
  refine awp_adopt 3 9 1 rfl (by decide) rfl (by repeat constructor) ?_
  refine awp_loopq (fun p : Nat × Nat × List (List AV) => ⟨[(1, .op 0 0), (3, .os 1 p.2.1), (9, .rs (strAV V)), (10, .int .i64 ((strAV V).length : Int)), (11, .int .i64 p.1)], [.box [.str h.m, .str h.t, .int .i64 h.v, .rs (h.fs.map prAV)], .row 9 1 p.2.1 0 p.2.2]⟩)
    (fun p => p.1 ≤ V.length ∧ p.2.2 = strAV (wordsOf (V.take p.1))) (fun p => V.length - p.1) (0, 0, []) (.of (.same (by repeat constructor))) ⟨Nat.zero_le _, rfl⟩ ?_
  rintro ⟨i, ver, xs⟩ ⟨hi, hx⟩
  dsimp only at hi hx ⊢
  have hxl : xs.length ≤ W.length := by rw [hx, strAV_len, hW]; exact wordsOf_take_le V i
  rw [← hW] at hwl
  by_cases hlt : i < V.length
  · obtain ⟨v, hv⟩ : ∃ v, V[i]? = some v := ⟨_, List.getElem?_eq_getElem hlt⟩
    have hrow := strAV_row' hv
    have hvl := hm1 v (List.mem_of_getElem? hv)
    have hS := s_split (w0 := w0) (base := base) (s := v) hG (by omega)
    have hnx := wordsOf_next hv
    have hmem := splitB_mem 44 v
    have hPl := splitB_len 44 v
    have hnl : xs.length + (splitB 44 v).length ≤ W.length := by
      have := wordsOf_take_le V (i + 1)
      rw [hnx, List.length_append, List.length_map, ← hW] at this
      rw [hx, strAV_len]
      exact this
    revert hS hnx hmem hPl hnl
    generalize splitB 44 v = P
    intro hS hnx hmem hPl hnl
    have hPs := strAV_len P
    repeat' (first|(first|(refine al_v (ov_indexAddr rfl rfl (by omega) hrow rfl) rfl ?_)|(refine k_call ?_;refine al_call rfl rfl rfl rfl hS ?_;rintro _ rfl))|(refine k_al ?_;first|(refine al_v (ov_move rfl) rfl ?_)|(refine k_g ?_;first|(refine al_gy' rfl rfl (by with_reducible rfl) ?_)|(refine al_gnt rfl rfl (by with_reducible rfl) rfl ?_)|(refine al_gnf rfl rfl (by with_reducible rfl) rfl ?_)|(refine al_gu rfl rfl rfl ?_)|(refine al_gsp rfl rfl (fun hc => ?_) (fun hc => ?_) <;> (try (exfalso;omega))))|(refine al_v (ov_fieldAddr rfl rfl) rfl ?_)|(refine k_load ?_;first|(refine al_v (ov_load rfl rfl) rfl ?_)|(refine al_v (ov_load_agg rfl rfl rfl) rfl ?_))|(refine k_bin ?_;first|(refine al_v (ov_cmp rfl rfl rfl) rfl ?_)|(refine al_v (ov_add rfl rfl (by (first|exact w64 (by omega) (by omega)|rfl))) rfl ?_))|(refine k_pick ?_;first|(refine al_v (ov_pick_t' rfl (by with_reducible rfl) rfl) rfl ?_)|(refine al_v (ov_pick_f' rfl (by with_reducible rfl) rfl) rfl ?_))|(refine al_v (ov_assign rfl) rfl ?_)|(refine k_call ?_;first|(refine al_v (ov_len_rs rfl) rfl ?_))|(refine al_nil ?_)|(refine al_box rfl rfl rfl (by first|exact ln0|exact ln2) (by repeat constructor) rfl ?_)|(refine al_buildSlice (by rfl) (by rfl) (by rfl) (by rfl) (by decide) (by decide) (by rfl) (by rfl) (by repeat constructor) (by rfl) (by repeat constructor) (by rfl) (by first|exact ln0|exact ln2) (by repeat constructor) rfl ?_)|(refine al_v (ov_not_t rfl (by with_reducible rfl)) rfl ?_)|(refine al_v (ov_not_f rfl (by with_reducible rfl)) rfl ?_))|(first|(refine thn_n ?_)|(refine k_awp ?_;first|(refine awp_seq (awp_region ?_))|(refine awp_seq ?_)|(refine awp_region ?_)|(refine k_cond ?_;first|(refine awp_cond_p rfl (fun hc => ?_) (fun hc => ?_) <;> (try (exfalso;omega))))|(refine awp_block ?_)|(refine awp_ret ?_)|(refine awp_skip ?_)|(refine awp_exit ?_))|(refine lq_exit ?_)|(refine thn_exit ?_)|(refine inb_n ?_)|(refine inb_here ?_)))
    refine awp_loopq (fun p : Nat × Nat × List (List AV) => ⟨[(1, .op 0 0), (3, .os 1 p.2.1), (9, .rs (strAV V)), (10, .int .i64 ((strAV V).length : Int)), (11, .int .i64 i), (16, .rs (strAV P)), (17, .int .i64 ((strAV P).length : Int)), (18, .int .i64 p.1)], [.box [.str h.m, .str h.t, .int .i64 h.v, .rs (h.fs.map prAV)], .row 9 1 p.2.1 0 p.2.2]⟩)
      (fun p => p.1 ≤ P.length ∧ p.2.2 = strAV (wordsOf (V.take i) ++ (P.take p.1).map wOf)) (fun p => P.length - p.1) (0, ver, xs) (.of (.same (by repeat constructor))) ⟨Nat.zero_le _, by rw [hx]; simp⟩ ?_
    rintro ⟨k, ver', ys⟩ ⟨hk, hy⟩
    dsimp only at hk hy ⊢
    have hyl : ys.length ≤ W.length := by
      rw [hy, strAV_len, List.length_append, List.length_map, List.length_take]
      rw [hx, strAV_len] at hnl
      omega
    by_cases hkt : k < P.length
    · obtain ⟨q, hq⟩ : ∃ q, P[k]? = some q := ⟨_, List.getElem?_eq_getElem hkt⟩
      have hrow2 := strAV_row' hq
      have hql := hmem q (List.mem_of_getElem? hq)
      have hT := s_trim (w0 := w0) (base := base) (s := q) (by omega)
      have htl := trim_len q
      have hM := s_small (w0 := w0) (base := base) (s := Lib.trimS q [32, 9]) (by omega)
      repeat' (first|(first|(refine al_v (ov_indexAddr rfl rfl (by omega) hrow2 rfl) rfl ?_)|(refine k_call ?_;refine al_call rfl rfl rfl rfl hT ?_;rintro _ rfl)|(refine k_call ?_;refine al_call rfl rfl rfl rfl hM ?_;rintro _ rfl)|(refine k_call ?_;refine al_append rfl rfl (by repeat constructor) (src_os rfl rfl) rfl (by decide) (by simp only [List.length_cons, List.length_nil];omega) rfl ?_))|(refine k_al ?_;first|(refine al_v (ov_move rfl) rfl ?_)|(refine k_g ?_;first|(refine al_gy' rfl rfl (by with_reducible rfl) ?_)|(refine al_gnt rfl rfl (by with_reducible rfl) rfl ?_)|(refine al_gnf rfl rfl (by with_reducible rfl) rfl ?_)|(refine al_gu rfl rfl rfl ?_)|(refine al_gsp rfl rfl (fun hc => ?_) (fun hc => ?_) <;> (try (exfalso;omega))))|(refine al_v (ov_fieldAddr rfl rfl) rfl ?_)|(refine k_load ?_;first|(refine al_v (ov_load rfl rfl) rfl ?_)|(refine al_v (ov_load_agg rfl rfl rfl) rfl ?_))|(refine k_bin ?_;first|(refine al_v (ov_cmp rfl rfl rfl) rfl ?_)|(refine al_v (ov_add rfl rfl (by (first|exact w64 (by omega) (by omega)|rfl))) rfl ?_))|(refine k_pick ?_;first|(refine al_v (ov_pick_t' rfl (by with_reducible rfl) rfl) rfl ?_)|(refine al_v (ov_pick_f' rfl (by with_reducible rfl) rfl) rfl ?_))|(refine al_v (ov_assign rfl) rfl ?_)|(refine k_call ?_;first|(refine al_v (ov_len_rs rfl) rfl ?_))|(refine al_nil ?_)|(refine al_box rfl rfl rfl (by first|exact ln0|exact ln2) (by repeat constructor) rfl ?_)|(refine al_buildSlice (by rfl) (by rfl) (by rfl) (by rfl) (by decide) (by decide) (by rfl) (by rfl) (by repeat constructor) (by rfl) (by repeat constructor) (by rfl) (by first|exact ln0|exact ln2) (by repeat constructor) rfl ?_)|(refine al_v (ov_not_t rfl (by with_reducible rfl)) rfl ?_)|(refine al_v (ov_not_f rfl (by with_reducible rfl)) rfl ?_))|(first|(refine thn_n ?_)|(refine k_awp ?_;first|(refine awp_seq (awp_region ?_))|(refine awp_seq ?_)|(refine awp_region ?_)|(refine k_cond ?_;first|(refine awp_cond_p rfl (fun hc => ?_) (fun hc => ?_) <;> (try (exfalso;omega))))|(refine awp_block ?_)|(refine awp_ret ?_)|(refine awp_skip ?_)|(refine awp_exit ?_))|(refine lq_exit ?_)|(refine thn_exit ?_)|(refine inb_n ?_)|(refine inb_here ?_)))
      first|refine lq_back (k + 1, ver' + 1, _) (.of (.same (by repeat constructor))) ?_ ?_|refine lq_back (k + 1, ver' + 1, _) (.of (wk_drop [_] rfl (by repeat constructor) rfl (by repeat constructor) rfl)) ?_ ?_|refine lq_back (k + 1, ver' + 1, _) (.of (wk_drop [_, _] rfl (by repeat constructor) rfl (by repeat constructor) rfl)) ?_ ?_|refine lq_back (k + 1, ver' + 1, _) (.of (wk_drop [_, _, _] rfl (by repeat constructor) rfl (by repeat constructor) rfl)) ?_ ?_
      · refine ⟨by dsimp only; omega, ?_⟩
        dsimp only
        rw [hy, List.take_add_one, hq]
        simp [strAV, wOf]
      · dsimp only; omega
    · repeat' (first|(refine k_al ?_;first|(refine al_v (ov_move rfl) rfl ?_)|(refine k_g ?_;first|(refine al_gy' rfl rfl (by with_reducible rfl) ?_)|(refine al_gnt rfl rfl (by with_reducible rfl) rfl ?_)|(refine al_gnf rfl rfl (by with_reducible rfl) rfl ?_)|(refine al_gu rfl rfl rfl ?_)|(refine al_gsp rfl rfl (fun hc => ?_) (fun hc => ?_) <;> (try (exfalso;omega))))|(refine al_v (ov_fieldAddr rfl rfl) rfl ?_)|(refine k_load ?_;first|(refine al_v (ov_load rfl rfl) rfl ?_)|(refine al_v (ov_load_agg rfl rfl rfl) rfl ?_))|(refine k_bin ?_;first|(refine al_v (ov_cmp rfl rfl rfl) rfl ?_)|(refine al_v (ov_add rfl rfl (by (first|exact w64 (by omega) (by omega)|rfl))) rfl ?_))|(refine k_pick ?_;first|(refine al_v (ov_pick_t' rfl (by with_reducible rfl) rfl) rfl ?_)|(refine al_v (ov_pick_f' rfl (by with_reducible rfl) rfl) rfl ?_))|(refine al_v (ov_assign rfl) rfl ?_)|(refine k_call ?_;first|(refine al_v (ov_len_rs rfl) rfl ?_))|(refine al_nil ?_)|(refine al_box rfl rfl rfl (by first|exact ln0|exact ln2) (by repeat constructor) rfl ?_)|(refine al_buildSlice (by rfl) (by rfl) (by rfl) (by rfl) (by decide) (by decide) (by rfl) (by rfl) (by repeat constructor) (by rfl) (by repeat constructor) (by rfl) (by first|exact ln0|exact ln2) (by repeat constructor) rfl ?_)|(refine al_v (ov_not_t rfl (by with_reducible rfl)) rfl ?_)|(refine al_v (ov_not_f rfl (by with_reducible rfl)) rfl ?_))|(first|(refine thn_n ?_)|(refine k_awp ?_;first|(refine awp_seq (awp_region ?_))|(refine awp_seq ?_)|(refine awp_region ?_)|(refine k_cond ?_;first|(refine awp_cond_p rfl (fun hc => ?_) (fun hc => ?_) <;> (try (exfalso;omega))))|(refine awp_block ?_)|(refine awp_ret ?_)|(refine awp_skip ?_)|(refine awp_exit ?_))|(refine lq_exit ?_)|(refine thn_exit ?_)|(refine inb_n ?_)|(refine inb_here ?_)))
      first|refine lq_back (i + 1, ver', ys) (.of (.same (by repeat constructor))) ?_ ?_|refine lq_back (i + 1, ver', ys) (.of (wk_drop [_] rfl (by repeat constructor) rfl (by repeat constructor) rfl)) ?_ ?_|refine lq_back (i + 1, ver', ys) (.of (wk_drop [_, _] rfl (by repeat constructor) rfl (by repeat constructor) rfl)) ?_ ?_|refine lq_back (i + 1, ver', ys) (.of (wk_drop [_, _, _] rfl (by repeat constructor) rfl (by repeat constructor) rfl)) ?_ ?_
      · refine ⟨by dsimp only; omega, ?_⟩
        dsimp only
        rw [hy, hnx, List.take_of_length_le (l := P) (by omega)]
      · dsimp only; omega
  · rw [List.take_of_length_le (by omega), ← hW] at hx
    subst hx
    have hC1 := s_contains (w0 := w0) (base := base) (xs := W) (v := coS) (by omega)
    have hC2 := s_contains (w0 := w0) (base := base) (xs := W) (v := kaS) (by omega)
    rw [← hW]
    obtain ⟨c1, hc1⟩ : ∃ c1, c1 = decide (coS ∈ W) := ⟨_, rfl⟩
    obtain ⟨c2, hc2⟩ : ∃ c2, c2 = decide (kaS ∈ W) := ⟨_, rfl⟩
    rw [← hc1] at hC1 ⊢
    rw [← hc2] at hC2 ⊢
    refine awp_wkn (.freeze 3 rfl (by repeat constructor)) ?_
    cases c1
    all_goals
      cases c2
    all_goals
      repeat' (first|(first|(refine k_call ?_;refine al_call rfl rfl rfl rfl hC1 ?_;rintro _ rfl)|(refine k_call ?_;refine al_call rfl rfl rfl rfl hC2 ?_;rintro _ rfl))|(refine k_al ?_;first|(refine al_v (ov_move rfl) rfl ?_)|(refine k_g ?_;first|(refine al_gy' rfl rfl (by with_reducible rfl) ?_)|(refine al_gnt rfl rfl (by with_reducible rfl) rfl ?_)|(refine al_gnf rfl rfl (by with_reducible rfl) rfl ?_)|(refine al_gu rfl rfl rfl ?_)|(refine al_gsp rfl rfl (fun hc => ?_) (fun hc => ?_) <;> (try (exfalso;omega))))|(refine al_v (ov_fieldAddr rfl rfl) rfl ?_)|(refine k_load ?_;first|(refine al_v (ov_load rfl rfl) rfl ?_)|(refine al_v (ov_load_agg rfl rfl rfl) rfl ?_))|(refine k_bin ?_;first|(refine al_v (ov_cmp rfl rfl rfl) rfl ?_)|(refine al_v (ov_add rfl rfl (by (first|exact w64 (by omega) (by omega)|rfl))) rfl ?_))|(refine k_pick ?_;first|(refine al_v (ov_pick_t' rfl (by with_reducible rfl) rfl) rfl ?_)|(refine al_v (ov_pick_f' rfl (by with_reducible rfl) rfl) rfl ?_))|(refine al_v (ov_assign rfl) rfl ?_)|(refine k_call ?_;first|(refine al_v (ov_len_rs rfl) rfl ?_))|(refine al_nil ?_)|(refine al_box rfl rfl rfl (by first|exact ln0|exact ln2) (by repeat constructor) rfl ?_)|(refine al_buildSlice (by rfl) (by rfl) (by rfl) (by rfl) (by decide) (by decide) (by rfl) (by rfl) (by repeat constructor) (by rfl) (by repeat constructor) (by rfl) (by first|exact ln0|exact ln2) (by repeat constructor) rfl ?_)|(refine al_v (ov_not_t rfl (by with_reducible rfl)) rfl ?_)|(refine al_v (ov_not_f rfl (by with_reducible rfl)) rfl ?_))|(first|(refine thn_n ?_)|(refine k_awp ?_;first|(refine awp_seq (awp_region ?_))|(refine awp_seq ?_)|(refine awp_region ?_)|(refine k_cond ?_;first|(refine awp_cond_p rfl (fun hc => ?_) (fun hc => ?_) <;> (try (exfalso;omega))))|(refine awp_block ?_)|(refine awp_ret ?_)|(refine awp_skip ?_)|(refine awp_exit ?_))|(refine lq_exit ?_)|(refine thn_exit ?_)|(refine inb_n ?_)|(refine inb_here ?_)))
    all_goals
      refine ret1 (by first | exact .inr rfl | exact .inl rfl) rfl rfl ?_
      refine ⟨congrArg AV.bool ?_, rfl⟩
      simp [*]
end
end Go.Proofs.YtffcgpkbibijpaaGreatDoor.L

namespace Go.Proofs.YtffcgpkbibijpaaGreatDoor.L
open Go Go.RowKit Go.Proofs
set_option linter.unusedVariables false
set_option linter.unusedSimpArgs false
set_option maxRecDepth 100000
attribute [local irreducible] AL QL AWp Thn InB RetQ ACalls LoopQ HL HO HW HQ NoG

theorem split_piece {v : List UInt8} {a k : Nat} (hak : a ≤ k) (hk : k < v.length) (hc : byteAt v (k : Int) = 44) (hno : ∀ j, a ≤ j → j < k → v[j]? ≠ some 44) : splitB 44 (v.drop a) = (v.take k).drop a :: splitB 44 (v.drop (k + 1)) := by
  rw [piece_at hak (eq_get (c := 44) hk hc)]
  exact splitB_at (notin_piece hno)
theorem split_last {v : List UInt8} {a : Nat} (hno : ∀ j, a ≤ j → j < v.length → v[j]? ≠ some 44) : splitB 44 (v.drop a) = [(v.take v.length).drop a] := by
  conv => lhs; rw [piece_end (s := v) (a := a)]
  exact splitB_no (notin_piece hno)
theorem words_in {V : List (List UInt8)} {i : Nat} {v p : List UInt8} (hv : V[i]? = some v) (hp : p ∈ splitB 44 v) : wOf p ∈ wordsOf V := by
  unfold wordsOf
  exact List.mem_flatMap.2 ⟨v, List.mem_of_getElem? hv, List.mem_map_of_mem hp⟩
/-- Where the search for words stands. -/
structure CInv (pre : List (List UInt8)) (v : List UInt8) (a k : Nat) (keep : Bool) (done : List (List UInt8)) : Prop where
  kle : k ≤ v.length + 1
  ale : a ≤ k
  co : coS ∉ done.map wOf
  ka : keep = decide (kaS ∈ pre ++ done.map wOf)
  rest : k ≤ v.length → splitB 44 v = done ++ splitB 44 (v.drop a) ∧ ∀ j, a ≤ j → j < k → v[j]? ≠ some 44
  all : k = v.length + 1 → splitB 44 v = done
theorem CInv.skip {pre : List (List UInt8)} {v : List UInt8} {a k : Nat} {keep : Bool} {done : List (List UInt8)} (h : CInv pre v a k keep done) (hk : k < v.length) (hc : byteAt v (k : Int) ≠ 44) : CInv pre v a (k + 1) keep done := by
  obtain ⟨h1, h2⟩ := h.rest (by omega)
  exact ⟨by omega, by have := h.ale; omega, h.co, h.ka, fun _ => ⟨h1, next_no (c := 44) hk h2 hc⟩, fun e => by omega⟩
theorem CInv.piece {pre : List (List UInt8)} {v : List UInt8} {a k : Nat} {keep : Bool} {done : List (List UInt8)} (h : CInv pre v a k keep done) (hk : k ≤ v.length) (hc : k < v.length → byteAt v (k : Int) = 44) :
    (v.take k).drop a ∈ splitB 44 v ∧ (wOf ((v.take k).drop a) ≠ coS → CInv pre v (k + 1) (k + 1) (keep || decide (wOf ((v.take k).drop a) = kaS)) (done ++ [(v.take k).drop a])) := by
  obtain ⟨h1, h2⟩ := h.rest hk
  have hs : splitB 44 (v.drop a) = (v.take k).drop a :: (if k < v.length then splitB 44 (v.drop (k + 1)) else []) := by
    by_cases hlt : k < v.length
    · rw [if_pos hlt]; exact split_piece h.ale hlt (hc hlt) h2
    · rw [if_neg hlt]
      have : k = v.length := by omega
      subst this
      exact split_last h2
  constructor
  · rw [h1, hs]; simp
  · intro hne
    refine ⟨by omega, Nat.le_refl _, ?_, ?_, ?_, ?_⟩
    · rw [List.map_append, List.mem_append]
      rintro (hk1 | hk1)
      · exact h.co hk1
      · have k2 : coS = wOf ((v.take k).drop a) := by simpa using hk1
        exact hne k2.symm
    · rw [h.ka, Bool.eq_iff_iff]
      simp only [Bool.or_eq_true, decide_eq_true_eq, List.map_append, List.mem_append, List.map_cons, List.map_nil, List.mem_singleton]
      constructor
      · rintro ((k | k) | k)
        · exact .inl k
        · exact .inr (.inl k)
        · exact .inr (.inr k.symm)
      · rintro (k | k | k)
        · exact .inl (.inl k)
        · exact .inl (.inr k)
        · exact .inr k.symm
    · intro hk2
      rw [if_pos (by omega)] at hs
      refine ⟨?_, fun j h3 h4 => by omega⟩
      rw [h1, hs]; simp
    · intro hk2
      rw [if_neg (by omega)] at hs
      rw [h1, hs]
section
variable {w0 : World} {base : Nat}
set_option maxHeartbeats 8000000 in
theorem s_closesR {h : Hd} (ht : Tiny h) : PCalls (EE w0 base) 15 [hdAV h.m h.t h.v h.fs] fun rv => rv = .bool (closesS h) := by
  have hf := ht.f
  have hV1 := s_valuesR (w0 := w0) (base := base) (m := h.m) (t := h.t) (v := h.v) (fs := h.fs) (name := cnS) (by decide) (by omega)
  have hl1 := valsOf_len h.fs cnS
  have hm1 : ∀ x ∈ valsOf h.fs cnS, x.length ≤ 1048580 := fun x hx => vals_tiny ht hx
  refine acalls_of Tryz.func15 rfl rfl rfl (.cons .nil) ?_
  unfold closesS
  revert hV1 hl1 hm1
  generalize valsOf h.fs cnS = V
  intro hV1 hl1 hm1
  have hVl := strAV_len V
  repeat' (first|((refine k_call ?_;refine al_call rfl rfl rfl rfl hV1 ?_;rintro _ rfl))|(refine k_al ?_;first|(refine al_v (ov_move rfl) rfl ?_)|(refine k_g ?_;first|(refine al_gy' rfl rfl (by with_reducible rfl) ?_)|(refine al_gnt rfl rfl (by with_reducible rfl) rfl ?_)|(refine al_gnf rfl rfl (by with_reducible rfl) rfl ?_)|(refine al_gsp rfl rfl (fun hc => ?_) (fun hc => ?_) <;> (try (exfalso;omega))))|(refine al_v (ov_fieldAddr rfl rfl) rfl ?_)|(refine k_load ?_;first|(refine al_v (ov_load rfl rfl) rfl ?_)|(refine al_v (ov_load_agg rfl rfl rfl) rfl ?_))|(refine k_bin ?_;first|(refine al_v (ov_cmp rfl rfl rfl) rfl ?_)|(refine al_v (ov_add rfl rfl (by (first|exact w64 (by omega) (by omega)|rfl))) rfl ?_)|(refine al_v (ov_seq rfl rfl) rfl ?_))|(refine k_pick ?_;first|(refine al_v (ov_pick_t' rfl (by with_reducible rfl) rfl) rfl ?_)|(refine al_v (ov_pick_f' rfl (by with_reducible rfl) rfl) rfl ?_))|(refine al_v (ov_assign rfl) rfl ?_)|(refine k_call ?_;first|(refine al_v (ov_len_rs rfl) rfl ?_)|(refine al_v (ov_len_str rfl) rfl ?_))|(refine al_nil ?_)|(refine al_box rfl rfl rfl (by first|exact ln0) (by repeat constructor) rfl ?_)|(refine al_v (ov_not_p rfl) rfl ?_)|(refine al_v (ov_index rfl rfl (by omega) (by omega)) rfl ?_))|(first|(refine thn_n ?_)|(refine k_awp ?_;first|(refine awp_seq (awp_region ?_))|(refine awp_seq ?_)|(refine awp_region ?_)|(refine k_cond ?_;first|(refine awp_cond_f' rfl (by with_reducible rfl) ?_)|(refine awp_cond_p rfl (fun hc => ?_) (fun hc => ?_) <;> (try (exfalso;omega))))|(refine awp_block ?_)|(refine awp_ret ?_)|(refine awp_skip ?_)|(refine awp_exit ?_))|(refine thn_ret ?_)|(refine lq_exit ?_)|(refine lq_ret ?_)|(refine thn_exit ?_)|(refine inb_n ?_)|(refine inb_ret ?_)|(refine inb_here ?_)))
  refine awp_loopq (fun p : Nat × Bool => ⟨[(1, .op 0 0), (3, .bool p.2), (4, .rs (strAV V)), (5, .int .i64 p.1)], [.box [.str h.m, .str h.t, .int .i64 h.v, .rs (h.fs.map prAV)]]⟩)
    (fun p => p.1 ≤ V.length ∧ coS ∉ wordsOf (V.take p.1) ∧ p.2 = decide (kaS ∈ wordsOf (V.take p.1))) (fun p => V.length - p.1) (0, false) (.of (.same (by repeat constructor))) ⟨Nat.zero_le _, by simp [wordsOf], by simp [wordsOf]⟩ ?_
  rintro ⟨i, keep⟩ ⟨hi, hco, hka⟩
  dsimp only at hi hco hka ⊢
  by_cases hlt : i < V.length
  · obtain ⟨v, hv⟩ : ∃ v, V[i]? = some v := ⟨_, List.getElem?_eq_getElem hlt⟩
    have hrow := strAV_row' hv
    have hvl := hm1 v (List.mem_of_getElem? hv)
    have hnx := wordsOf_next hv
    obtain ⟨pre, hpre⟩ : ∃ pre, pre = wordsOf (V.take i) := ⟨_, rfl⟩
    rw [← hpre] at hco hka hnx
    repeat' (first|(refine k_al ?_;first|(refine al_v (ov_move rfl) rfl ?_)|(refine k_g ?_;first|(refine al_gy' rfl rfl (by with_reducible rfl) ?_)|(refine al_gnt rfl rfl (by with_reducible rfl) rfl ?_)|(refine al_gnf rfl rfl (by with_reducible rfl) rfl ?_)|(refine al_gsp rfl rfl (fun hc => ?_) (fun hc => ?_) <;> (try (exfalso;omega))))|(refine al_v (ov_fieldAddr rfl rfl) rfl ?_)|(refine k_load ?_;first|(refine al_v (ov_load rfl rfl) rfl ?_)|(refine al_v (ov_load_agg rfl rfl rfl) rfl ?_))|(refine k_bin ?_;first|(refine al_v (ov_cmp rfl rfl rfl) rfl ?_)|(refine al_v (ov_add rfl rfl (by (first|exact w64 (by omega) (by omega)|rfl))) rfl ?_)|(refine al_v (ov_seq rfl rfl) rfl ?_))|(refine k_pick ?_;first|(refine al_v (ov_pick_t' rfl (by with_reducible rfl) rfl) rfl ?_)|(refine al_v (ov_pick_f' rfl (by with_reducible rfl) rfl) rfl ?_))|(refine al_v (ov_assign rfl) rfl ?_)|(refine k_call ?_;first|(refine al_v (ov_len_rs rfl) rfl ?_)|(refine al_v (ov_len_str rfl) rfl ?_))|(refine al_nil ?_)|(refine al_box rfl rfl rfl (by first|exact ln0) (by repeat constructor) rfl ?_)|(refine al_v (ov_not_p rfl) rfl ?_)|(refine al_v (ov_index rfl rfl (by omega) (by omega)) rfl ?_))|(first|(refine thn_n ?_)|(refine k_awp ?_;first|(refine awp_seq (awp_region ?_))|(refine awp_seq ?_)|(refine awp_region ?_)|(refine k_cond ?_;first|(refine awp_cond_f' rfl (by with_reducible rfl) ?_)|(refine awp_cond_p rfl (fun hc => ?_) (fun hc => ?_) <;> (try (exfalso;omega))))|(refine awp_block ?_)|(refine awp_ret ?_)|(refine awp_skip ?_)|(refine awp_exit ?_))|(refine thn_ret ?_)|(refine lq_exit ?_)|(refine lq_ret ?_)|(refine thn_exit ?_)|(refine inb_n ?_)|(refine inb_ret ?_)|(refine inb_here ?_)))
    refine awp_loopq (fun p : Nat × Nat × Bool × List (List UInt8) => ⟨[(1, .op 0 0), (3, .bool p.2.2.1), (4, .rs (strAV V)), (5, .int .i64 i), (6, .int .i64 p.1), (7, .int .i64 p.2.1)], [.box [.str h.m, .str h.t, .int .i64 h.v, .rs (h.fs.map prAV)]]⟩)
      (fun p => CInv pre v p.1 p.2.1 p.2.2.1 p.2.2.2) (fun p => v.length + 1 - p.2.1) (0, 0, keep, []) (.of (.same (by repeat constructor))) ⟨Nat.zero_le _, Nat.le_refl _, by simp, by simpa using hka, fun _ => ⟨rfl, fun j h1 h2 => by dsimp only at h2; omega⟩, fun e => by dsimp only at e; omega⟩ ?_
    rintro ⟨a, k, kp, done⟩ hI
    dsimp only at hI ⊢
    have h1 := hI.kle
    have h2 := hI.ale
    by_cases hkl : k ≤ v.length
    · obtain ⟨pc, hpc⟩ : ∃ pc, pc = (v.take k).drop a := ⟨_, rfl⟩
      have hpl : pc.length ≤ v.length := by rw [hpc, List.length_drop, List.length_take]; omega
      have hT := s_trimR (w0 := w0) (base := base) (s := (v.take k).drop a) (by rw [← hpc]; omega)
      have htl := trim_len ((v.take k).drop a)
      have hM := s_smallR (w0 := w0) (base := base) (s := Lib.trimS ((v.take k).drop a) [32, 9]) (by rw [← hpc] at htl ⊢; omega)
      have hP := fun hc => hI.piece hkl hc
      by_cases hb : k < v.length ∧ byteAt v (k : Int) ≠ 44
      · have hsk := hI.skip hb.1 hb.2
        repeat' (first|((refine al_v (ov_indexAddr rfl rfl (by omega) hrow rfl) rfl ?_))|(refine k_al ?_;first|(refine al_v (ov_move rfl) rfl ?_)|(refine k_g ?_;first|(refine al_gy' rfl rfl (by with_reducible rfl) ?_)|(refine al_gnt rfl rfl (by with_reducible rfl) rfl ?_)|(refine al_gnf rfl rfl (by with_reducible rfl) rfl ?_)|(refine al_gsp rfl rfl (fun hc => ?_) (fun hc => ?_) <;> (try (exfalso;omega))))|(refine al_v (ov_fieldAddr rfl rfl) rfl ?_)|(refine k_load ?_;first|(refine al_v (ov_load rfl rfl) rfl ?_)|(refine al_v (ov_load_agg rfl rfl rfl) rfl ?_))|(refine k_bin ?_;first|(refine al_v (ov_cmp rfl rfl rfl) rfl ?_)|(refine al_v (ov_add rfl rfl (by (first|exact w64 (by omega) (by omega)|rfl))) rfl ?_)|(refine al_v (ov_seq rfl rfl) rfl ?_))|(refine k_pick ?_;first|(refine al_v (ov_pick_t' rfl (by with_reducible rfl) rfl) rfl ?_)|(refine al_v (ov_pick_f' rfl (by with_reducible rfl) rfl) rfl ?_))|(refine al_v (ov_assign rfl) rfl ?_)|(refine k_call ?_;first|(refine al_v (ov_len_rs rfl) rfl ?_)|(refine al_v (ov_len_str rfl) rfl ?_))|(refine al_nil ?_)|(refine al_box rfl rfl rfl (by first|exact ln0) (by repeat constructor) rfl ?_)|(refine al_v (ov_not_p rfl) rfl ?_)|(refine al_v (ov_index rfl rfl (by omega) (by omega)) rfl ?_))|(first|(refine thn_n ?_)|(refine k_awp ?_;first|(refine awp_seq (awp_region ?_))|(refine awp_seq ?_)|(refine awp_region ?_)|(refine k_cond ?_;first|(refine awp_cond_f' rfl (by with_reducible rfl) ?_)|(refine awp_cond_p rfl (fun hc => ?_) (fun hc => ?_) <;> (try (exfalso;omega))))|(refine awp_block ?_)|(refine awp_ret ?_)|(refine awp_skip ?_)|(refine awp_exit ?_))|(refine thn_ret ?_)|(refine lq_exit ?_)|(refine lq_ret ?_)|(refine thn_exit ?_)|(refine inb_n ?_)|(refine inb_ret ?_)|(refine inb_here ?_)))
        all_goals first
          | (exfalso; omega)
          | skip
        first | refine lq_back (a, k + 1, kp, done) (.of (.same (by repeat constructor))) ?_ ?_ | fail
        · exact hsk
        · dsimp only; omega
      · have hP := hP fun hk => Classical.byContradiction fun e => hb ⟨hk, e⟩
        obtain ⟨w, hw⟩ : ∃ w, w = wOf ((v.take k).drop a) := ⟨_, rfl⟩
        have hM' : PCalls (EE w0 base) 42 [.str (Lib.trimS ((v.take k).drop a) [32, 9])] fun rv => rv = .str w := by rw [hw]; exact hM
        rw [← hw] at hP
        cases kp
        all_goals
          repeat' (first|(first|(refine al_v (ov_indexAddr rfl rfl (by omega) hrow rfl) rfl ?_)|(refine al_v (ov_slice rfl rfl rfl (by omega) (by omega) (by omega)) rfl ?_)|(refine k_call ?_;refine al_call rfl rfl rfl rfl hT ?_;rintro _ rfl)|(refine k_call ?_;refine al_call rfl rfl rfl rfl hM' ?_;rintro _ rfl))|(refine k_al ?_;first|(refine al_v (ov_move rfl) rfl ?_)|(refine k_g ?_;first|(refine al_gy' rfl rfl (by with_reducible rfl) ?_)|(refine al_gnt rfl rfl (by with_reducible rfl) rfl ?_)|(refine al_gnf rfl rfl (by with_reducible rfl) rfl ?_)|(refine al_gsp rfl rfl (fun hc => ?_) (fun hc => ?_) <;> (try (exfalso;omega))))|(refine al_v (ov_fieldAddr rfl rfl) rfl ?_)|(refine k_load ?_;first|(refine al_v (ov_load rfl rfl) rfl ?_)|(refine al_v (ov_load_agg rfl rfl rfl) rfl ?_))|(refine k_bin ?_;first|(refine al_v (ov_cmp rfl rfl rfl) rfl ?_)|(refine al_v (ov_add rfl rfl (by (first|exact w64 (by omega) (by omega)|rfl))) rfl ?_)|(refine al_v (ov_seq rfl rfl) rfl ?_))|(refine k_pick ?_;first|(refine al_v (ov_pick_t' rfl (by with_reducible rfl) rfl) rfl ?_)|(refine al_v (ov_pick_f' rfl (by with_reducible rfl) rfl) rfl ?_))|(refine al_v (ov_assign rfl) rfl ?_)|(refine k_call ?_;first|(refine al_v (ov_len_rs rfl) rfl ?_)|(refine al_v (ov_len_str rfl) rfl ?_))|(refine al_nil ?_)|(refine al_box rfl rfl rfl (by first|exact ln0) (by repeat constructor) rfl ?_)|(refine al_v (ov_not_p rfl) rfl ?_)|(refine al_v (ov_index rfl rfl (by omega) (by omega)) rfl ?_))|(first|(refine thn_n ?_)|(refine k_awp ?_;first|(refine awp_seq (awp_region ?_))|(refine awp_seq ?_)|(refine awp_region ?_)|(refine k_cond ?_;first|(refine awp_cond_f' rfl (by with_reducible rfl) ?_)|(refine awp_cond_p rfl (fun hc => ?_) (fun hc => ?_) <;> (try (exfalso;omega))))|(refine awp_block ?_)|(refine awp_ret ?_)|(refine awp_skip ?_)|(refine awp_exit ?_))|(refine thn_ret ?_)|(refine lq_exit ?_)|(refine lq_ret ?_)|(refine thn_exit ?_)|(refine inb_n ?_)|(refine inb_ret ?_)|(refine inb_here ?_)))
        all_goals first
          | (exfalso; omega)
          | (refine ret1 (by first | exact .inr rfl | exact .inl rfl) rfl rfl ?_
             refine ⟨congrArg AV.bool ?_, rfl⟩
             have hin := words_in hv hP.1
             rw [← hw, show w = coS from ‹_›] at hin
             simp [hin])
          | (first | refine lq_back (k + 1, k + 1, _, done ++ [(v.take k).drop a]) (.of (.same (by repeat constructor))) ?_ ?_ | fail
             · have := hP.2 ‹_›
               dsimp only
               first
                 | exact this
                 | (rw [Bool.false_or] at this; exact this)
                 | (rw [Bool.true_or] at this; exact this)
             · dsimp only; omega)
    · have hd := hI.all (by omega)
      repeat' (first|((refine al_v (ov_indexAddr rfl rfl (by omega) hrow rfl) rfl ?_))|(refine k_al ?_;first|(refine al_v (ov_move rfl) rfl ?_)|(refine k_g ?_;first|(refine al_gy' rfl rfl (by with_reducible rfl) ?_)|(refine al_gnt rfl rfl (by with_reducible rfl) rfl ?_)|(refine al_gnf rfl rfl (by with_reducible rfl) rfl ?_)|(refine al_gsp rfl rfl (fun hc => ?_) (fun hc => ?_) <;> (try (exfalso;omega))))|(refine al_v (ov_fieldAddr rfl rfl) rfl ?_)|(refine k_load ?_;first|(refine al_v (ov_load rfl rfl) rfl ?_)|(refine al_v (ov_load_agg rfl rfl rfl) rfl ?_))|(refine k_bin ?_;first|(refine al_v (ov_cmp rfl rfl rfl) rfl ?_)|(refine al_v (ov_add rfl rfl (by (first|exact w64 (by omega) (by omega)|rfl))) rfl ?_)|(refine al_v (ov_seq rfl rfl) rfl ?_))|(refine k_pick ?_;first|(refine al_v (ov_pick_t' rfl (by with_reducible rfl) rfl) rfl ?_)|(refine al_v (ov_pick_f' rfl (by with_reducible rfl) rfl) rfl ?_))|(refine al_v (ov_assign rfl) rfl ?_)|(refine k_call ?_;first|(refine al_v (ov_len_rs rfl) rfl ?_)|(refine al_v (ov_len_str rfl) rfl ?_))|(refine al_nil ?_)|(refine al_box rfl rfl rfl (by first|exact ln0) (by repeat constructor) rfl ?_)|(refine al_v (ov_not_p rfl) rfl ?_)|(refine al_v (ov_index rfl rfl (by omega) (by omega)) rfl ?_))|(first|(refine thn_n ?_)|(refine k_awp ?_;first|(refine awp_seq (awp_region ?_))|(refine awp_seq ?_)|(refine awp_region ?_)|(refine k_cond ?_;first|(refine awp_cond_f' rfl (by with_reducible rfl) ?_)|(refine awp_cond_p rfl (fun hc => ?_) (fun hc => ?_) <;> (try (exfalso;omega))))|(refine awp_block ?_)|(refine awp_ret ?_)|(refine awp_skip ?_)|(refine awp_exit ?_))|(refine thn_ret ?_)|(refine lq_exit ?_)|(refine lq_ret ?_)|(refine thn_exit ?_)|(refine inb_n ?_)|(refine inb_ret ?_)|(refine inb_here ?_)))
      first | refine lq_back (i + 1, kp) (.of (.same (by repeat constructor))) ?_ ?_ | fail
      · refine ⟨by dsimp only; omega, ?_, ?_⟩
        · dsimp only
          rw [hnx, hd, List.mem_append]
          rintro (k | k)
          · exact hco k
          · exact hI.co k
        · dsimp only
          rw [hnx, hd]
          exact hI.ka
      · dsimp only; omega
  · rw [List.take_of_length_le (by omega)] at hco hka
    subst hka
    repeat' (first|(refine k_al ?_;first|(refine al_v (ov_move rfl) rfl ?_)|(refine k_g ?_;first|(refine al_gy' rfl rfl (by with_reducible rfl) ?_)|(refine al_gnt rfl rfl (by with_reducible rfl) rfl ?_)|(refine al_gnf rfl rfl (by with_reducible rfl) rfl ?_)|(refine al_gsp rfl rfl (fun hc => ?_) (fun hc => ?_) <;> (try (exfalso;omega))))|(refine al_v (ov_fieldAddr rfl rfl) rfl ?_)|(refine k_load ?_;first|(refine al_v (ov_load rfl rfl) rfl ?_)|(refine al_v (ov_load_agg rfl rfl rfl) rfl ?_))|(refine k_bin ?_;first|(refine al_v (ov_cmp rfl rfl rfl) rfl ?_)|(refine al_v (ov_add rfl rfl (by (first|exact w64 (by omega) (by omega)|rfl))) rfl ?_)|(refine al_v (ov_seq rfl rfl) rfl ?_))|(refine k_pick ?_;first|(refine al_v (ov_pick_t' rfl (by with_reducible rfl) rfl) rfl ?_)|(refine al_v (ov_pick_f' rfl (by with_reducible rfl) rfl) rfl ?_))|(refine al_v (ov_assign rfl) rfl ?_)|(refine k_call ?_;first|(refine al_v (ov_len_rs rfl) rfl ?_)|(refine al_v (ov_len_str rfl) rfl ?_))|(refine al_nil ?_)|(refine al_box rfl rfl rfl (by first|exact ln0) (by repeat constructor) rfl ?_)|(refine al_v (ov_not_p rfl) rfl ?_)|(refine al_v (ov_index rfl rfl (by omega) (by omega)) rfl ?_))|(first|(refine thn_n ?_)|(refine k_awp ?_;first|(refine awp_seq (awp_region ?_))|(refine awp_seq ?_)|(refine awp_region ?_)|(refine k_cond ?_;first|(refine awp_cond_f' rfl (by with_reducible rfl) ?_)|(refine awp_cond_p rfl (fun hc => ?_) (fun hc => ?_) <;> (try (exfalso;omega))))|(refine awp_block ?_)|(refine awp_ret ?_)|(refine awp_skip ?_)|(refine awp_exit ?_))|(refine thn_ret ?_)|(refine lq_exit ?_)|(refine lq_ret ?_)|(refine thn_exit ?_)|(refine inb_n ?_)|(refine inb_ret ?_)|(refine inb_here ?_)))
    all_goals
      refine ret1 (by first | exact .inr rfl | exact .inl rfl) rfl rfl ?_
      refine ⟨congrArg AV.bool ?_, rfl⟩
      simp [*]
end
end Go.Proofs.YtffcgpkbibijpaaGreatDoor.L

namespace Go.Proofs.YtffcgpkbibijpaaGreatDoor.L
open Go Go.RowKit
set_option linter.unusedVariables false
section
variable {E : Env} {sl : Slots} {H : List AO}
theorem ov_min {x y : Operand} {k k' : IntKind} {m n c : Int} {ts : Array TypeId} (hx : ev sl x = some (.int k m)) (hy : ev sl y = some (.int k' n)) (hc : min m n = c) : OV E sl H (.call { callee := .builtin .min, args := #[x, y], argTypes := ts }) (.int k c) := by
  intro I ν a w hh hs
  have e1 := (ev_ok hs hx).int_inv
  have e2 := (ev_ok hs hy).int_inv
  refine ⟨_, .pure (.int k _), fun o w' ho hb => ?_⟩
  have e3 : (if n < m then n else m) = c := by rw [← hc]; split <;> omega
  simp [execOp, ho, e1, e2, resolve, invoke, builtin, run_min_int2, e3]
end
end Go.Proofs.YtffcgpkbibijpaaGreatDoor.L

namespace Go.Proofs.YtffcgpkbibijpaaGreatDoor.L
open Go Go.RowKit
set_option linter.unusedVariables false
set_option linter.unusedSimpArgs false

/-- The code behind a label. -/
def lblC (c : Code) (l : Nat) : Code := match findLabel c l with
  | some (.seq _ b) => b
  | _ => .skip
/-- As Q; at a jump: what holds at the label. -/
def JmpQ (E : Env) (N : Nat) {α : Type} (inv : α → St) (lab : α → Nat) (ok : α → Prop) (m : α → Nat) (b : Nat) (Q : Exit → St → Prop) : Exit → St → Prop
  | .goto l, σ => ∃ y, lab y = l ∧ ok y ∧ m y < b ∧ Wkn E N σ (inv y)
  | e, σ => Q e σ
def jmpW {ι : Type} (J : ι → Act → World → Prop) (lab : ι → Nat) (μ : ι → Nat) (B : Nat) (Q : Exit → Act → World → Prop) : Exit → Act → World → Prop
  | .goto l, a, w => ∃ x, lab x = l ∧ μ x < B ∧ J x a w
  | e, a, w => Q e a w
theorem wp_scope_labels {P : Program} {a : Act} {w : World} {Q : Exit → Act → World → Prop} {c : Code} {ι : Type} (J : ι → Act → World → Prop) (lab : ι → Nat) (rest : ι → Code) (μ : ι → Nat) (B : Nat)
    (hf : ∀ x a w, J x a w → findLabel c (lab x) = some (rest x)) (first : c.wp P (jmpW J lab μ B Q) a w)
    (pass : ∀ x a w, J x a w → (rest x).wp P (jmpW J lab μ (μ x) Q) a w) : (Code.scope c).wp P Q a w := by
  intro b k cs
  have hg : ∀ x a w, J x a w → gotoIn (lab x) (.inScope c :: k) = some (.code (rest x) :: .inScope c :: k) := fun x a w h => by simp [gotoIn, hf x a w h]
  have key : ∀ n x a w, μ x = n → J x a w → ∃ e a' w', Q e a' w' ∧ Arrives P (lone (b.at a (.code (rest x) :: .inScope c :: k)) cs w) b k cs e a' w' := by
    intro n
    induction n using Nat.strongRecOn with
    | _ n ih =>
      intro x a w hn hJ
      obtain ⟨e, a₁, w₁, hq, harr⟩ := pass x a w hJ b (.inScope c :: k) cs
      cases e with
      | normal => exact ⟨.normal, a₁, w₁, hq, Steps.trans harr (.one step_inScope)⟩
      | exit id => exact ⟨.exit id, a₁, w₁, hq, fun k' hk => harr k' (by simp [exitTo, hk])⟩
      | goto l' =>
        obtain ⟨y, rfl, hlt, hJ'⟩ := hq
        obtain ⟨e₂, a₂, w₂, hq₂, harr₂⟩ := ih _ (by omega) y a₁ w₁ rfl hJ'
        exact ⟨e₂, a₂, w₂, hq₂, .of_steps (harr _ (hg y _ _ hJ')) harr₂⟩
      | ret => exact ⟨_, a₁, w₁, hq, harr⟩
      | panic ch => exact ⟨_, a₁, w₁, hq, harr⟩
      | outgrown => exact ⟨_, a₁, w₁, hq, harr⟩
  obtain ⟨e, a₁, w₁, hq, harr⟩ := first b (.inScope c :: k) cs
  cases e with
  | normal => exact ⟨.normal, a₁, w₁, hq, .head step_scope (Steps.trans harr (.one step_inScope))⟩
  | exit id => exact ⟨.exit id, a₁, w₁, hq, fun k' hk => .head step_scope (harr k' (by simp [exitTo, hk]))⟩
  | goto l' =>
    obtain ⟨y, rfl, hlt, hJ'⟩ := hq
    obtain ⟨e₂, a₂, w₂, hq₂, harr₂⟩ := key _ y a₁ w₁ rfl hJ'
    exact ⟨e₂, a₂, w₂, hq₂, .of_steps (.head step_scope (harr _ (hg y _ _ hJ'))) harr₂⟩
  | ret => exact ⟨_, a₁, w₁, hq, .of_steps (.one step_scope) harr⟩
  | panic ch => exact ⟨_, a₁, w₁, hq, .of_steps (.one step_scope) harr⟩
  | outgrown => exact ⟨_, a₁, w₁, hq, .of_steps (.one step_scope) harr⟩
section
variable {E : Env} {N : Nat} {Q : Exit → St → Prop} {α : Type} {inv : α → St} {lab : α → Nat} {ok : α → Prop} {m : α → Nat} {b : Nat} {σ : St}
theorem jmp_lift {I : Imm} {ν : Nu} {w : World} {I1 : Imm} {ν1 : Nu} {o1 : List AO} {w1 : World} (hf1 : FR E.k w I ν σ.objs w1 I1 ν1 o1) {e : Exit} {a' : Act} {w' : World} (hk : Lift E N w1 I1 ν1 o1 (JmpQ E N inv lab ok m b Q) e a' w') :
    jmpW (fun x a' w' => ok x ∧ ∃ I' ν', SR E N I' ν' (inv x) a' w' ∧ FR E.k w I ν σ.objs w' I' ν' (inv x).objs) lab m b (Lift E N w I ν σ.objs Q) e a' w' := by
  obtain ⟨σ', I', ν', hq, hs', hf⟩ := hk
  cases e with
  | normal => exact ⟨σ', I', ν', hq, hs', hf1.trans hf⟩
  | exit id => exact ⟨σ', I', ν', hq, hs', hf1.trans hf⟩
  | goto l =>
    obtain ⟨y, hl, hy, hm, hw⟩ := hq
    obtain ⟨I2, ν2, k1, k2⟩ := hw I' ν' a' w' hs'
    exact ⟨y, hl, hm, hy, I2, ν2, k1, (hf1.trans hf).trans k2⟩
  | ret => exact ⟨σ', I', ν', hq, hs', hf1.trans hf⟩
  | panic ch => exact ⟨σ', I', ν', hq, hs', hf1.trans hf⟩
  | outgrown => exact ⟨σ', I', ν', hq, hs', hf1.trans hf⟩
theorem awp_jumps {c : Code} (inv : α → St) (lab : α → Nat) (ok : α → Prop) (m : α → Nat) (B : Nat) (hb : ∀ x, ok x → findLabel c (lab x) = some (.seq .skip (lblC c (lab x))))
    (pass : ∀ x, ok x → AWp E N (lblC c (lab x)) (JmpQ E N inv lab ok m (m x) Q) (inv x)) (first : AWp E N c (JmpQ E N inv lab ok m B Q) σ) : AWp E N (.scope c) Q σ := by
  intro I ν a w hs
  refine wp_scope_labels (fun x a' w' => ok x ∧ ∃ I' ν', SR E N I' ν' (inv x) a' w' ∧ FR E.k w I ν σ.objs w' I' ν' (inv x).objs) lab (fun x => .seq .skip (lblC c (lab x))) m B (fun x a w h => hb x h.1) ?_ ?_
  · exact Code.wp_mono (fun e a' w' hk => jmp_lift (FR.refl _ _ _ _) hk) (first I ν a w hs)
  · rintro x a1 w1 ⟨hx, I1, ν1, hs1, hf1⟩
    have h := awp_seq (Q := JmpQ E N inv lab ok m (m x) Q) (x := .skip) (y := lblC c (lab x)) (σ := inv x) (awp_skip (thn_n (pass x hx)))
    exact Code.wp_mono (fun e a' w' hk => jmp_lift hf1 hk) (h I1 ν1 a1 w1 hs1)
/-- As awp_jumps; at a label, what the labels behind it are known to bring. -/
theorem awp_jumps' {c : Code} (inv : α → St) (lab : α → Nat) (ok : α → Prop) (m : α → Nat) (B L : Nat) (hb : ∀ x, ok x → findLabel c (lab x) = some (.seq .skip (lblC c (lab x)))) (hL : ∀ x, ok x → lab x ≤ L)
    (pass : ∀ x, ok x → (∀ y, ok y → lab x < lab y → AWp E N (lblC c (lab y)) (JmpQ E N inv lab ok m (m y) Q) (inv y)) → AWp E N (lblC c (lab x)) (JmpQ E N inv lab ok m (m x) Q) (inv x))
    (first : (∀ y, ok y → AWp E N (lblC c (lab y)) (JmpQ E N inv lab ok m (m y) Q) (inv y)) → AWp E N c (JmpQ E N inv lab ok m B Q) σ) : AWp E N (.scope c) Q σ := by
  have key : ∀ n x, L - lab x ≤ n → ok x → AWp E N (lblC c (lab x)) (JmpQ E N inv lab ok m (m x) Q) (inv x) := by
    intro n
    induction n with
    | zero => intro x hn hx; exact pass x hx fun y hy hlt => absurd (hL y hy) (by omega)
    | succ n ih => intro x hn hx; exact pass x hx fun y hy hlt => ih y (by omega) hy
  exact awp_jumps inv lab ok m B hb (fun x hx => key _ x (Nat.le_refl _) hx) (first fun y hy => key _ y (Nat.le_refl _) hy)
/-- The run comes to a label without a jump. -/
theorem awp_fall {c : Code} (x : α) (pass : AWp E N (lblC c (lab x)) (JmpQ E N inv lab ok m (m x) Q) (inv x)) (hm : m x ≤ b) (hw : Wkn E N σ (inv x)) : AWp E N (lblC c (lab x)) (JmpQ E N inv lab ok m b Q) σ := by
  refine awp_wkn hw (awp_mono pass fun e s h => ?_)
  cases e with
  | goto l => obtain ⟨y, h1, h2, h3, h4⟩ := h; exact ⟨y, h1, h2, by omega, h4⟩
  | _ => exact h
theorem jq_goto (y : α) {l : Nat} (hl : lab y = l) (hw : Wkn E N σ (inv y)) (hk : ok y) (hm : m y < b) : JmpQ E N inv lab ok m b Q (.goto l) σ := ⟨y, hl, hk, hm, hw⟩
theorem jq_n (h : Q .normal σ) : JmpQ E N inv lab ok m b Q .normal σ := h
theorem jq_ret (h : Q .ret σ) : JmpQ E N inv lab ok m b Q .ret σ := h
end
/-- Where a part of the code comes to its end normally: at one of the states J. -/
def MidQ (E : Env) (N : Nat) {ι : Type} (J : ι → St) (ok : ι → Prop) (Q : Exit → St → Prop) : Exit → St → Prop
  | .normal, σ => ∃ j, ok j ∧ Wkn E N σ (J j)
  | e, σ => Q e σ
section
variable {E : Env} {N : Nat} {Q : Exit → St → Prop} {ι : Type} {σ : St} {J : ι → St} {ok : ι → Prop}
/-- What follows is walked once, however the first part ends. -/
theorem awp_mid {x y : Code} (J : ι → St) (ok : ι → Prop) (tail : ∀ j, ok j → AWp E N y Q (J j)) (head : AWp E N x (MidQ E N J ok Q) σ) : AWp E N (.seq x y) Q σ := by
  refine awp_seq (awp_mono head fun e s h => ?_)
  cases e with
  | normal => obtain ⟨j, hj, hw⟩ := h; exact thn_n (awp_wkn hw (tail j hj))
  | _ => exact h
theorem awp_mid_scope {r c d : Code} {o : Operand} {y : Code} (J : ι → St) (ok : ι → Prop) (tail : ∀ j, ok j → AWp E N y Q (J j)) (head : True → AWp E N (.seq r (.cond o (.scope c) d)) (MidQ E N J ok Q) σ) : AWp E N (.seq (.seq r (.cond o (.scope c) d)) y) Q σ := awp_mid J ok tail (head trivial)
theorem mid_n (j : ι) (hj : ok j) (hw : Wkn E N σ (J j)) : MidQ E N J ok Q .normal σ := ⟨j, hj, hw⟩
theorem mid_ret (h : Q .ret σ) : MidQ E N J ok Q .ret σ := h
end
section
variable {E : Env} {sl : Slots} {H : List AO}
theorem ov_pne_nn {t t' e : Nat} {n b : Nat} {z : Value} [ti : TI E.P t (.pointer e) n b z] {x y : Operand} (hx : ev sl x = some .nilp) (hy : ev sl y = some .nilp) : OV E sl H (.binOp .neq t x y t') (.bool false) := by
  intro I ν a w hh hs
  have e1 := (ev_ok hs hx).nilp_inv
  have e2 := (ev_ok hs hy).nilp_inv
  refine ⟨_, .pure (.bool false), fun o w' ho _ => ?_⟩
  have h : ∀ d : Nat, (Op.equalIn (d + 1) t (.pointer none) (.pointer none)).run E.P w' = .ok true w' := fun d => by simp [Op.equalIn, run_underlying ti.u]
  simp [execOp, ho, e1, e2, eqGuard, binOp, Op.equal, Op.maxDepth, h 9999]
theorem ov_pne_pn {t t' e : Nat} {n b : Nat} {z : Value} [ti : TI E.P t (.pointer e) n b z] {x y : Operand} {pv : AV} (hx : ev sl x = some pv) (hp : isPtr pv = true) (hy : ev sl y = some .nilp) : OV E sl H (.binOp .neq t x y t') (.bool true) := by
  intro I ν a w hh hs
  obtain ⟨p, e1⟩ := (ev_ok hs hx).ptr hp
  have e2 := (ev_ok hs hy).nilp_inv
  refine ⟨_, .pure (.bool true), fun o w' ho _ => ?_⟩
  have h : ∀ d : Nat, (Op.equalIn (d + 1) t (.pointer (some p)) (.pointer none)).run E.P w' = .ok false w' := fun d => by simp [Op.equalIn, run_underlying ti.u]
  simp [execOp, ho, e1, e2, eqGuard, binOp, Op.equal, Op.maxDepth, h 9999]
end
end Go.Proofs.YtffcgpkbibijpaaGreatDoor.L

namespace Go.Proofs.YtffcgpkbibijpaaGreatDoor.L
open Go Go.RowKit Go.Proofs
set_option linter.unusedVariables false
set_option linter.unusedSimpArgs false
set_option maxRecDepth 100000
attribute [local irreducible] AL QL AWp Thn InB RetQ ACalls LoopQ HL HO HW HQ NoG JmpQ MidQ

/-- What a line of a size tells: it goes on, it is wrong, or it told a number and ends at a place. -/
inductive RS where
  | more
  | wrong
  | got (n k : Nat)
def endL (n k : Nat) : List UInt8 → RS
  | [] => .more
  | [c] => if c = 13 then .more else .wrong
  | c :: d :: _ => if c = 13 ∧ d = 10 then .got n (k + 2) else .wrong
def textB (c : UInt8) : Bool := decide (32 ≤ c.toNat ∧ c.toNat ≤ 126) || decide (c = 9)
def restL (n line k : Nat) : List UInt8 → RS
  | [] => .more
  | c :: r => if textB c = true then (if line + 1024 ≤ k then .wrong else restL n line (k + 1) r) else endL n k (c :: r)
def sizeL (line d n k : Nat) : List UInt8 → RS
  | [] => .more
  | c :: r => if 0 ≤ hexI c then (if d = 8 then .wrong else sizeL line (d + 1) (16 * n + (hexI c).toNat) (k + 1) r)
    else if d = 0 then .wrong else if c = 59 then restL n line (k + 1) r else endL n k (c :: r)
/-- What chunks tell: they go on, they are wrong by a status, or their bytes end at a place. -/
inductive CR where
  | more
  | bad (st : Int)
  | got (body : List UInt8) (k : Nat)
def afterL (s acc : List UInt8) (go : List UInt8 → Nat → CR) : RS → CR
  | .more => .more
  | .wrong => .bad 400
  | .got n k => if 16384 < acc.length + n then .bad 413 else if s.length < k + n then .more else match endL 0 (k + n) (s.drop (k + n)) with
    | .more => .more
    | .wrong => .bad 400
    | .got _ e => if n = 0 then .got (acc ++ (s.take (k + n)).drop k) e else go (acc ++ (s.take (k + n)).drop k) e
def chunksF : Nat → List UInt8 → List UInt8 → Nat → CR
  | 0, _, _, _ => .more
  | f + 1, s, acc, at' => afterL s acc (chunksF f s) (sizeL at' 0 0 at' (s.drop at'))
def chunksS (s : List UInt8) (at' : Nat) : CR := chunksF (s.length + 1) s [] at'
def nlI (l : List UInt8) : Int := match endL 0 0 l with
  | .got _ _ => 0
  | .more => 1
  | .wrong => 2
theorem endL_got {n k m e : Nat} {l : List UInt8} (h : endL n k l = .got m e) : m = n ∧ e = k + 2 ∧ 2 ≤ l.length := by
  match l, h with
  | [c], h =>
    rw [endL] at h
    split at h <;> cases h
  | c :: d :: r, h =>
    rw [endL] at h
    split at h
    · cases h
      exact ⟨rfl, rfl, by simp⟩
    · cases h
theorem endL_kind (n k : Nat) (l : List UInt8) : endL n k l = match nlI l with
    | 0 => .got n (k + 2)
    | 1 => .more
    | _ => .wrong := by
  unfold nlI
  match l with
  | [] => rfl
  | [c] =>
    rw [endL, endL]
    split <;> rfl
  | c :: d :: r =>
    rw [endL, endL]
    split <;> rfl
theorem nlI_cases (l : List UInt8) : nlI l = 0 ∨ nlI l = 1 ∨ nlI l = 2 := by
  unfold nlI
  split <;> simp
theorem endL_0 {n k : Nat} {l : List UInt8} (h : nlI l = 0) : endL n k l = .got n (k + 2) := by rw [endL_kind, h]; rfl
theorem endL_1 {n k : Nat} {l : List UInt8} (h : nlI l = 1) : endL n k l = .more := by rw [endL_kind, h]; rfl
theorem endL_2 {n k : Nat} {l : List UInt8} (h : nlI l = 2) : endL n k l = .wrong := by rw [endL_kind, h]; rfl
theorem nl_len {l : List UInt8} (h : nlI l = 0) : 2 ≤ l.length := (endL_got (endL_0 (n := 0) (k := 0) h)).2.2
theorem nl_pre (l : List UInt8) : nlI l = if Lib.hasPrefix l [13, 10] = true then 0 else if Lib.hasPrefix [13, 10] l = true then 1 else 2 := by
  unfold nlI Lib.hasPrefix
  match l with
  | [] => rfl
  | [c] =>
    rw [endL]
    by_cases h : c = 13
    · subst h; rfl
    · simp [h, List.isPrefixOf]
  | c :: d :: r =>
    rw [endL]
    by_cases h : c = 13
    · subst h
      by_cases h' : d = 10
      · subst h'; simp [List.isPrefixOf]
      · have h'' : ¬ 10 = d := fun k => h' k.symm
        simp [h', h'', List.isPrefixOf]
    · have h'' : ¬ 13 = c := fun k => h k.symm
      simp [h, h'', List.isPrefixOf]
theorem or_add {n : Nat} {d : Int} (hn : n < 268435456) (h0 : 0 ≤ d) (h1 : d < 16) : bits .or .i64 (IntKind.i64.wrap ((n : Int) * 2 ^ (min (4 : Int).toNat IntKind.i64.bits))) d = ((16 * n + d.toNat : Nat) : Int) := by
  obtain ⟨m, rfl⟩ : ∃ m : Nat, d = m := ⟨d.toNat, by omega⟩
  have e1 : IntKind.i64.wrap ((n : Int) * 2 ^ (min (4 : Int).toNat IntKind.i64.bits)) = ((n <<< 4 : Nat) : Int) := by
    have : (min (4 : Int).toNat IntKind.i64.bits) = 4 := by decide
    rw [this, Nat.shiftLeft_eq, w64 (by omega) (by omega)]
    omega
  have e2 : n <<< 4 ||| m = 16 * n + m := by
    rw [← Nat.shiftLeft_add_eq_or_of_lt (by omega), Nat.shiftLeft_eq]
    omega
  rw [e1, Int.toNat_natCast, ← e2]
  unfold bits
  have e3 : (BitVec.ofInt IntKind.i64.bits ((n <<< 4 : Nat) : Int) ||| BitVec.ofInt IntKind.i64.bits (m : Int)).toNat = n <<< 4 ||| m := by
    have hb : IntKind.i64.bits = 64 := rfl
    rw [BitVec.toNat_or, BitVec.ofInt_natCast, BitVec.ofInt_natCast, BitVec.toNat_ofNat, BitVec.toNat_ofNat, hb, Nat.mod_eq_of_lt (by rw [Nat.shiftLeft_eq]; omega), Nat.mod_eq_of_lt (by omega)]
  dsimp only
  rw [e3, e2]
  exact w64 (by omega) (by omega)
theorem hexI_lt (c : UInt8) : hexI c < 16 := by
  rw [hexI_R]
  have := c.toNat_lt
  (repeat' split) <;> omega
section
variable {w0 : World} {base : Nat}
theorem s_hexP {b : UInt8} : PCalls (EE w0 base) 54 [bI b] fun rv => rv = .int .i64 (hexI b) := by
  refine acalls_of Tryz.func54 rfl rfl rfl (.cons .nil) ?_
  have hb := b.toNat_lt
  repeat' (first|(first|(refine al_v (ov_conv_int rfl (by (first|exact w64 (by omega) (by omega)|exact w8 (by omega) (by omega)|rfl))) rfl ?_))|(refine k_al ?_;first|(refine al_v (ov_move rfl) rfl ?_)|(refine k_g ?_;first|(refine al_gy' rfl rfl (by with_reducible rfl) ?_)|(refine al_gnt rfl rfl (by with_reducible rfl) rfl ?_)|(refine al_gsp rfl rfl (fun hc => ?_) (fun hc => ?_) <;> (try (exfalso;omega))))|(refine k_bin ?_;first|(refine al_v (ov_cmp rfl rfl rfl) rfl ?_)|(refine al_v (ov_add rfl rfl (by (first|exact w64 (by omega) (by omega)|exact w8 (by omega) (by omega)|rfl))) rfl ?_)|(refine al_v (ov_sub rfl rfl (by (first|exact w64 (by omega) (by omega)|exact w8 (by omega) (by omega)|rfl))) rfl ?_))|(refine k_pick ?_;first|(refine al_v (ov_pick_t' rfl (by with_reducible rfl) rfl) rfl ?_)|(refine al_v (ov_pick_f' rfl (by with_reducible rfl) rfl) rfl ?_))|(refine al_v (ov_assign rfl) rfl ?_)|(refine al_nil ?_))|(first|(refine thn_n ?_)|(refine k_awp ?_;first|(refine awp_seq (awp_region ?_))|(refine awp_seq ?_)|(refine awp_region ?_)|(refine k_cond ?_;first|(refine awp_cond_f' rfl (by with_reducible rfl) ?_)|(refine awp_cond_p rfl (fun hc => ?_) (fun hc => ?_) <;> (try (exfalso;omega))))|(refine awp_block ?_)|(refine awp_ret ?_)|(refine awp_skip ?_))|(refine thn_ret ?_)|(refine inb_n ?_)|(refine inb_ret ?_)))
  all_goals
    refine ret1 (by first | exact .inr rfl | exact .inl rfl) rfl rfl ?_
    refine ⟨congrArg (AV.int .i64) ?_, rfl⟩
    rw [hexI_R]
    (repeat' split) <;> omega
theorem s_newline {s : List UInt8} {at' : Int} (h0 : 0 ≤ at') (h : at' ≤ s.length) : PCalls (EE w0 base) 55 [.str s, .int .i64 at'] fun rv => rv = .int .i64 (nlI (s.drop at'.toNat)) := by
  refine acalls_of Tryz.func55 rfl rfl rfl (.cons (.cons .nil)) ?_
  rw [nl_pre]
  obtain ⟨l, hl⟩ : ∃ l, l = s.drop at'.toNat := ⟨_, rfl⟩
  rw [← hl]
  have hA := s_hasPrefix (w0 := w0) (base := base) (s := l) (p := [13, 10])
  have hB := s_hasPrefix (w0 := w0) (base := base) (s := [13, 10]) (p := l)
  cases hx : Lib.hasPrefix l [13, 10]
  all_goals
    cases hy : Lib.hasPrefix [13, 10] l
  all_goals
    rw [hx] at hA
    rw [hy] at hB
    repeat' (first|(first|(refine al_v (ov_slice_lo_eq (j := at'.toNat) hl.symm rfl rfl (by omega) (by omega) (by omega)) rfl ?_)|(refine k_call ?_;refine al_call rfl rfl rfl rfl hA ?_;rintro _ rfl)|(refine k_call ?_;refine al_call rfl rfl rfl rfl hB ?_;rintro _ rfl))|(refine k_al ?_;first|(refine al_v (ov_move rfl) rfl ?_)|(refine al_v (ov_assign rfl) rfl ?_)|(refine al_nil ?_))|(first|(refine thn_n ?_)|(refine k_awp ?_;first|(refine awp_seq (awp_region ?_))|(refine awp_seq ?_)|(refine awp_region ?_)|(refine k_cond ?_;first|(refine awp_cond_t' rfl (by with_reducible rfl) ?_)|(refine awp_cond_f' rfl (by with_reducible rfl) ?_))|(refine awp_block ?_)|(refine awp_ret ?_)|(refine awp_skip ?_))|(refine thn_ret ?_)|(refine inb_n ?_)|(refine inb_ret ?_)))
    refine ret1 (by first | exact .inr rfl | exact .inl rfl) rfl rfl ?_
    exact ⟨rfl, rfl⟩
theorem a_blen {p : AV} (hp : p = .nilp ∨ p = .op 0 0) {bs : List UInt8} {ver : Nat} : ACalls (EE w0 base) 56 [.op 0 0] [bldBox p ver, .row 5 1 ver 0 (bytesAV bs)]
    fun rv os => rv = .int .i64 (bs.length : Int) ∧ os = [bldBox p ver, .row 5 1 ver 0 (bytesAV bs)] := by
  refine acalls_of Tryz.func56 rfl rfl rfl (.cons .nil) ?_
  have hbl : (bytesAV bs).length = bs.length := List.length_map _
  rcases hp with rfl | rfl
  all_goals
    repeat' (first|(first|(refine al_v (ov_nilCheck (n := 0) rfl rfl) rfl ?_))|(refine k_al ?_;first|(refine al_v (ov_move rfl) rfl ?_)|(refine al_v (ov_fieldAddr rfl rfl) rfl ?_)|(refine k_load ?_;first|(refine al_v (ov_load rfl rfl) rfl ?_))|(refine al_v (ov_assign rfl) rfl ?_)|(refine k_call ?_;first|(refine al_v (ov_len_os rfl rfl rfl) rfl ?_))|(refine al_nil ?_))|(first|(refine thn_n ?_)|(refine k_awp ?_;first|(refine awp_seq (awp_region ?_))|(refine awp_seq ?_)|(refine awp_region ?_)|(refine awp_ret ?_))))
    refine ret1 (by first | exact .inr rfl | exact .inl rfl) rfl rfl ?_
    exact ⟨by rw [hbl], rfl⟩
end
end Go.Proofs.YtffcgpkbibijpaaGreatDoor.L

namespace Go.Proofs.YtffcgpkbibijpaaGreatDoor.L
open Go Go.RowKit Go.Proofs
set_option linter.unusedVariables false
set_option linter.unusedSimpArgs false
set_option maxRecDepth 100000
attribute [local irreducible] AL QL AWp Thn InB RetQ ACalls LoopQ HL HO HW HQ NoG JmpQ MidQ

theorem size_step {line d n i : Nat} {s : List UInt8} (hi : i < s.length) (hd : 0 ≤ hexI (bAt s (i : Int))) : sizeL line d n i (s.drop i) = if d = 8 then .wrong else sizeL line (d + 1) (16 * n + (hexI (bAt s (i : Int))).toNat) (i + 1) (s.drop (i + 1)) := by
  rw [drop_bAt hi, sizeL, if_pos hd]
theorem size_none {line n i : Nat} {s : List UInt8} (hi : i < s.length) (hd : ¬ 0 ≤ hexI (bAt s (i : Int))) : sizeL line 0 n i (s.drop i) = .wrong := by
  rw [drop_bAt hi, sizeL, if_neg hd, if_pos rfl]
theorem size_semi {line d n i : Nat} {s : List UInt8} (hi : i < s.length) (hd : ¬ 0 ≤ hexI (bAt s (i : Int))) (h0 : d ≠ 0) (hc : byteAt s (i : Int) = 59) : sizeL line d n i (s.drop i) = restL n line (i + 1) (s.drop (i + 1)) := by
  rw [drop_bAt hi, sizeL, if_neg hd, if_neg h0, if_pos (show bAt s (i : Int) = 59 from u8_of_int 59 (by decide) (by rw [byteAt_eq] at hc; exact hc))]
theorem size_plain {line d n i : Nat} {s : List UInt8} (hi : i < s.length) (hd : ¬ 0 ≤ hexI (bAt s (i : Int))) (h0 : d ≠ 0) (hc : ¬ byteAt s (i : Int) = 59) : sizeL line d n i (s.drop i) = endL n i (s.drop i) := by
  have := drop_bAt hi
  rw [this, sizeL, if_neg hd, if_neg h0, if_neg (by intro k; apply hc; rw [byteAt_eq, k]; rfl)]
theorem size_end {line d n i : Nat} {s : List UInt8} (hi : s.length ≤ i) : sizeL line d n i (s.drop i) = .more := by
  rw [List.drop_eq_nil_of_le hi, sizeL]
theorem rest_end {n line i : Nat} {s : List UInt8} (hi : s.length ≤ i) : restL n line i (s.drop i) = .more := by
  rw [List.drop_eq_nil_of_le hi, restL]
theorem textB_int {s : List UInt8} {i : Int} : textB (bAt s i) = true ↔ (32 ≤ byteAt s i ∧ byteAt s i ≤ 126) ∨ byteAt s i = 9 := by
  rw [byteAt_eq]
  unfold textB
  rw [Bool.or_eq_true, decide_eq_true_eq, decide_eq_true_eq]
  have : bAt s i = 9 ↔ ((bAt s i).toNat : Int) = 9 := ⟨fun h => by rw [h]; rfl, fun h => u8_of_int 9 (by decide) h⟩
  rw [this]
  omega
theorem rest_text {n line i : Nat} {s : List UInt8} (hi : i < s.length) (h : textB (bAt s (i : Int)) = true) : restL n line i (s.drop i) = if line + 1024 ≤ i then .wrong else restL n line (i + 1) (s.drop (i + 1)) := by
  rw [drop_bAt hi, restL, if_pos h]
theorem rest_stop {n line i : Nat} {s : List UInt8} (hi : i < s.length) (h : ¬ textB (bAt s (i : Int)) = true) : restL n line i (s.drop i) = endL n i (s.drop i) := by
  have := drop_bAt hi
  rw [this, restL, if_neg h]
/-- Where the reading of chunks stands. -/
structure CS where
  lab : Nat
  at' : Nat
  n : Nat
  d : Nat
  line : Nat
  acc : List UInt8
  p : AV
  ver : Nat
structure COk (s : List UInt8) (T : CR) (x : CS) : Prop where
  le : x.at' ≤ s.length
  hp : x.p = .nilp ∨ x.p = .op 0 0
  acc : x.acc.length ≤ 16384
  at1 : x.lab = 0 ∨ x.lab = 1
  zero : x.lab = 0 → ∃ f, s.length < f + x.at' ∧ T = chunksF f s x.acc x.at'
  one : x.lab = 1 → ∃ f, s.length ≤ f + x.line ∧ x.line ≤ x.at' ∧ x.d ≤ 8 ∧ x.n < 16 ^ x.d ∧ T = afterL s x.acc (chunksF f s) (sizeL x.line x.d x.n x.at' (s.drop x.at'))
abbrev cSt (s : List UInt8) (x : CS) : St := ⟨[(0, .str s), (1, .int .i64 x.at'), (8, .op 0 0), (9, .int .i64 x.n), (10, .int .i64 x.d), (11, .int .i64 x.line)], [bldBox x.p x.ver, .row 5 1 x.ver 0 (bytesAV x.acc)]⟩
abbrev CrR (T : CR) (rv : AV) : Prop := rv = match T with
  | .more => .tup [.str [], .int .i64 0, .bool true, .int .i64 0]
  | .bad st => .tup [.str [], .int .i64 0, .bool false, .int .i64 st]
  | .got b k => .tup [.str b, .int .i64 k, .bool false, .int .i64 0]
abbrev rSt (s acc : List UInt8) (p : AV) (n d line ver : Nat) (j : Nat) : St := ⟨[(0, .str s), (1, .int .i64 j), (8, .op 0 0), (9, .int .i64 n), (10, .int .i64 d), (11, .int .i64 line)], [bldBox p ver, .row 5 1 ver 0 (bytesAV acc)]⟩
def rLab (_ : Nat) : Nat := 2
def rM2 (s : List UInt8) (j : Nat) : Nat := s.length - j
def ROk (s acc : List UInt8) (T : CR) (f i n line : Nat) (j : Nat) : Prop := i + 1 ≤ j ∧ j ≤ s.length ∧ T = afterL s acc (chunksF f s) (restL n line j (s.drop j))
theorem pow16 {d : Nat} (h : d ≤ 8) : 16 ^ d ≤ 4294967296 := Nat.pow_le_pow_right (by decide) h
theorem pow16_7 {d : Nat} (h : d ≤ 7) : 16 ^ d ≤ 268435456 := Nat.pow_le_pow_right (by decide) h
section
variable {w0 : World} {base : Nat}
set_option maxHeartbeats 8000000 in
theorem s_chunks {s : List UInt8} {at' : Nat} (h : at' ≤ s.length) (hs : s.length ≤ 1099511627776) : PCalls (EE w0 base) 28 [.str s, .int .i64 at'] (CrR (chunksS s at')) := by
  refine acalls_of Tryz.func28 rfl rfl rfl (.cons (.cons .nil)) ?_
  obtain ⟨T, hT⟩ : ∃ T, T = chunksS s at' := ⟨_, rfl⟩
  rw [← hT]
  repeat' (first|((refine awp_jumps' (cSt s) CS.lab (COk s T) (fun x => 2 * (s.length - x.at') + (if x.lab = 0 then 1 else 0)) (2 * s.length + 2) 1 ?_ ?_ ?_ ?_))|(refine k_al ?_;first|(refine al_v (ov_move rfl) rfl ?_)|(refine k_g ?_;first|(refine al_gy' rfl rfl (by with_reducible rfl) ?_)|(refine al_gnt rfl rfl (by with_reducible rfl) rfl ?_)|(refine al_gnf rfl rfl (by with_reducible rfl) rfl ?_)|(refine al_gsp rfl rfl (fun hc => ?_) (fun hc => ?_) <;> (try (exfalso;omega))))|(refine k_bin ?_;first|(refine al_v (ov_cmp rfl rfl rfl) rfl ?_)|(refine al_v (ov_add rfl rfl (by (first|exact w64 (by omega) (by omega)|rfl))) rfl ?_)|(refine al_v (ov_sub rfl rfl (by (first|exact w64 (by omega) (by omega)|rfl))) rfl ?_))|(refine k_pick ?_;first|(refine al_v (ov_pick_t' rfl (by with_reducible rfl) rfl) rfl ?_)|(refine al_v (ov_pick_f' rfl (by with_reducible rfl) rfl) rfl ?_))|(refine al_v (ov_assign rfl) rfl ?_)|(refine k_call ?_;first|(refine al_v (ov_len_str rfl) rfl ?_))|(refine al_nil ?_)|(refine al_v (ov_index rfl rfl (by omega) (by omega)) rfl ?_))|(first|(refine thn_n ?_)|(refine k_awp ?_;first|(refine awp_seq (awp_region ?_))|(refine awp_seq ?_)|(refine awp_region ?_)|(refine k_cond ?_;first|(refine awp_cond_t' rfl (by with_reducible rfl) ?_)|(refine awp_cond_p rfl (fun hc => ?_) (fun hc => ?_) <;> (try (exfalso;omega))))|(refine awp_block ?_)|(refine awp_ret ?_)|(refine awp_skip ?_)|(refine awp_label ?_)|(refine awp_goto ?_))|(refine thn_ret ?_)|(refine inb_n ?_)|(refine inb_ret ?_)|(refine thn_goto ?_)|(refine jq_n ?_)|(refine jq_ret ?_)|(refine mid_ret ?_)))
  · rintro ⟨lab, i, n, d, line, acc, p, ver⟩ hx
    rcases hx.at1 with h | h <;> dsimp only at h <;> subst h <;> rfl
  · intro x hx
    rcases hx.at1 with h | h <;> omega
  · rintro ⟨lab, i, n, d, line, acc, p, ver⟩ hx hf
    rcases hx.at1 with h | h <;> dsimp only at h <;> subst h
    · obtain ⟨f, hf1, hT1⟩ := hx.zero rfl
      have hle := hx.le
      have hp := hx.hp
      have hacc := hx.acc
      dsimp only at hf1 hT1 hle hp hacc
      obtain ⟨f, rfl⟩ : ∃ g, f = g + 1 := ⟨f - 1, by omega⟩
      repeat' (first|((refine awp_fall (CS.mk 1 i 0 0 i acc p ver) (hf _ ?_ ?_) ?_ ?_))|(refine k_al ?_;first|(refine al_v (ov_move rfl) rfl ?_)|(refine k_g ?_;first|(refine al_gy' rfl rfl (by with_reducible rfl) ?_)|(refine al_gnt rfl rfl (by with_reducible rfl) rfl ?_)|(refine al_gnf rfl rfl (by with_reducible rfl) rfl ?_)|(refine al_gsp rfl rfl (fun hc => ?_) (fun hc => ?_) <;> (try (exfalso;omega))))|(refine k_bin ?_;first|(refine al_v (ov_cmp rfl rfl rfl) rfl ?_)|(refine al_v (ov_add rfl rfl (by (first|exact w64 (by omega) (by omega)|rfl))) rfl ?_)|(refine al_v (ov_sub rfl rfl (by (first|exact w64 (by omega) (by omega)|rfl))) rfl ?_))|(refine k_pick ?_;first|(refine al_v (ov_pick_t' rfl (by with_reducible rfl) rfl) rfl ?_)|(refine al_v (ov_pick_f' rfl (by with_reducible rfl) rfl) rfl ?_))|(refine al_v (ov_assign rfl) rfl ?_)|(refine k_call ?_;first|(refine al_v (ov_len_str rfl) rfl ?_))|(refine al_nil ?_)|(refine al_v (ov_index rfl rfl (by omega) (by omega)) rfl ?_))|(first|(refine thn_n ?_)|(refine k_awp ?_;first|(refine awp_seq (awp_region ?_))|(refine awp_seq ?_)|(refine awp_region ?_)|(refine k_cond ?_;first|(refine awp_cond_t' rfl (by with_reducible rfl) ?_)|(refine awp_cond_p rfl (fun hc => ?_) (fun hc => ?_) <;> (try (exfalso;omega))))|(refine awp_block ?_)|(refine awp_ret ?_)|(refine awp_skip ?_)|(refine awp_label ?_)|(refine awp_goto ?_))|(refine thn_ret ?_)|(refine inb_n ?_)|(refine inb_ret ?_)|(refine thn_goto ?_)|(refine jq_n ?_)|(refine jq_ret ?_)|(refine mid_ret ?_)))
      · refine ⟨hle, hp, hacc, .inr rfl, fun k => absurd k Nat.one_ne_zero, fun _ => ⟨f, by dsimp only; omega, Nat.le_refl _, Nat.zero_le _, Nat.zero_lt_one, hT1⟩⟩
      · exact Nat.zero_lt_one
      · simp
      · exact .of (.same (by repeat constructor))
    · clear hf
      obtain ⟨f, hf1, hln, hd8, hn, hT1⟩ := hx.one rfl
      have hle := hx.le
      have hp := hx.hp
      have hacc := hx.acc
      dsimp only at hf1 hln hd8 hn hT1 hle hp hacc
      have hpw := pow16 hd8
      dsimp only [cSt]
      obtain ⟨c, hc⟩ : ∃ c, c = s.getD ((i : Nat) : Int).toNat 0 := ⟨_, rfl⟩
      by_cases hend : i < s.length
      · have hx16 := hexI_lt (s.getD ((i : Nat) : Int).toNat 0)
        by_cases hdig : 0 ≤ hexI (s.getD ((i : Nat) : Int).toNat 0)
        · have hst := size_step (line := line) (d := d) (n := n) hend hdig
          by_cases hd : d = 8
          · rw [if_pos hd] at hst
            repeat' (first|((refine k_call ?_;refine al_call rfl rfl rfl rfl s_hexP ?_;rintro _ rfl))|(refine k_al ?_;first|(refine al_v (ov_move rfl) rfl ?_)|(refine k_g ?_;first|(refine al_gy' rfl rfl (by with_reducible rfl) ?_)|(refine al_gnt rfl rfl (by with_reducible rfl) rfl ?_)|(refine al_gnf rfl rfl (by with_reducible rfl) rfl ?_)|(refine al_gsp rfl rfl (fun hc => ?_) (fun hc => ?_) <;> (try (exfalso;omega))))|(refine k_bin ?_;first|(refine al_v (ov_cmp rfl rfl rfl) rfl ?_)|(refine al_v (ov_add rfl rfl (by (first|exact w64 (by omega) (by omega)|rfl))) rfl ?_)|(refine al_v (ov_sub rfl rfl (by (first|exact w64 (by omega) (by omega)|rfl))) rfl ?_))|(refine k_pick ?_;first|(refine al_v (ov_pick_t' rfl (by with_reducible rfl) rfl) rfl ?_)|(refine al_v (ov_pick_f' rfl (by with_reducible rfl) rfl) rfl ?_))|(refine al_v (ov_assign rfl) rfl ?_)|(refine k_call ?_;first|(refine al_v (ov_len_str rfl) rfl ?_))|(refine al_nil ?_)|(refine al_v (ov_index rfl rfl (by omega) (by omega)) rfl ?_))|(first|(refine thn_n ?_)|(refine k_awp ?_;first|(refine awp_seq (awp_region ?_))|(refine awp_seq ?_)|(refine awp_region ?_)|(refine k_cond ?_;first|(refine awp_cond_t' rfl (by with_reducible rfl) ?_)|(refine awp_cond_p rfl (fun hc => ?_) (fun hc => ?_) <;> (try (exfalso;omega))))|(refine awp_block ?_)|(refine awp_ret ?_)|(refine awp_skip ?_)|(refine awp_label ?_)|(refine awp_goto ?_))|(refine thn_ret ?_)|(refine inb_n ?_)|(refine inb_ret ?_)|(refine thn_goto ?_)|(refine jq_n ?_)|(refine jq_ret ?_)|(refine mid_ret ?_)))
            refine ret4 (by first | exact .inr rfl | exact .inl rfl) rfl rfl rfl rfl rfl ?_
            exact ⟨by rw [hT1, hst]; rfl, rfl⟩
          · rw [if_neg hd] at hst
            have hp7 := pow16_7 (d := d) (by omega)
            repeat' (first|(first|(refine k_call ?_;refine al_call rfl rfl rfl rfl s_hexP ?_;rintro _ rfl)|(refine al_v (ov_shl rfl rfl (by decide) rfl) rfl ?_)|(refine al_v (ov_bits rfl rfl (.inr (.inl rfl)) (or_add (by omega) hdig hx16)) rfl ?_))|(refine k_al ?_;first|(refine al_v (ov_move rfl) rfl ?_)|(refine k_g ?_;first|(refine al_gy' rfl rfl (by with_reducible rfl) ?_)|(refine al_gnt rfl rfl (by with_reducible rfl) rfl ?_)|(refine al_gnf rfl rfl (by with_reducible rfl) rfl ?_)|(refine al_gsp rfl rfl (fun hc => ?_) (fun hc => ?_) <;> (try (exfalso;omega))))|(refine k_bin ?_;first|(refine al_v (ov_cmp rfl rfl rfl) rfl ?_)|(refine al_v (ov_add rfl rfl (by (first|exact w64 (by omega) (by omega)|rfl))) rfl ?_)|(refine al_v (ov_sub rfl rfl (by (first|exact w64 (by omega) (by omega)|rfl))) rfl ?_))|(refine k_pick ?_;first|(refine al_v (ov_pick_t' rfl (by with_reducible rfl) rfl) rfl ?_)|(refine al_v (ov_pick_f' rfl (by with_reducible rfl) rfl) rfl ?_))|(refine al_v (ov_assign rfl) rfl ?_)|(refine k_call ?_;first|(refine al_v (ov_len_str rfl) rfl ?_))|(refine al_nil ?_)|(refine al_v (ov_index rfl rfl (by omega) (by omega)) rfl ?_))|(first|(refine thn_n ?_)|(refine k_awp ?_;first|(refine awp_seq (awp_region ?_))|(refine awp_seq ?_)|(refine awp_region ?_)|(refine k_cond ?_;first|(refine awp_cond_t' rfl (by with_reducible rfl) ?_)|(refine awp_cond_p rfl (fun hc => ?_) (fun hc => ?_) <;> (try (exfalso;omega))))|(refine awp_block ?_)|(refine awp_ret ?_)|(refine awp_skip ?_)|(refine awp_label ?_)|(refine awp_goto ?_))|(refine thn_ret ?_)|(refine inb_n ?_)|(refine inb_ret ?_)|(refine thn_goto ?_)|(refine jq_n ?_)|(refine jq_ret ?_)|(refine mid_ret ?_)))
            refine jq_goto (CS.mk 1 (i + 1) (16 * n + (hexI (s.getD ((i : Nat) : Int).toNat 0)).toNat) (d + 1) line acc p ver) rfl (.of (.same (by repeat constructor))) ?_ ?_
            · refine ⟨by dsimp only; omega, hp, hacc, .inr rfl, fun k => absurd k Nat.one_ne_zero, fun _ => ⟨f, hf1, by dsimp only; omega, by dsimp only; omega, ?_, by dsimp only; rw [hT1, hst]⟩⟩
              dsimp only
              rw [Nat.pow_succ]
              omega
            · dsimp only
              simp only [Nat.one_ne_zero, if_false]
              omega
        · by_cases hd : d = 0
          · subst hd
            have hst := size_none (line := line) (n := n) hend hdig
            repeat' (first|((refine k_call ?_;refine al_call rfl rfl rfl rfl s_hexP ?_;rintro _ rfl))|(refine k_al ?_;first|(refine al_v (ov_move rfl) rfl ?_)|(refine k_g ?_;first|(refine al_gy' rfl rfl (by with_reducible rfl) ?_)|(refine al_gnt rfl rfl (by with_reducible rfl) rfl ?_)|(refine al_gnf rfl rfl (by with_reducible rfl) rfl ?_)|(refine al_gsp rfl rfl (fun hc => ?_) (fun hc => ?_) <;> (try (exfalso;omega))))|(refine k_bin ?_;first|(refine al_v (ov_cmp rfl rfl rfl) rfl ?_)|(refine al_v (ov_add rfl rfl (by (first|exact w64 (by omega) (by omega)|rfl))) rfl ?_)|(refine al_v (ov_sub rfl rfl (by (first|exact w64 (by omega) (by omega)|rfl))) rfl ?_))|(refine k_pick ?_;first|(refine al_v (ov_pick_t' rfl (by with_reducible rfl) rfl) rfl ?_)|(refine al_v (ov_pick_f' rfl (by with_reducible rfl) rfl) rfl ?_))|(refine al_v (ov_assign rfl) rfl ?_)|(refine k_call ?_;first|(refine al_v (ov_len_str rfl) rfl ?_))|(refine al_nil ?_)|(refine al_v (ov_index rfl rfl (by omega) (by omega)) rfl ?_))|(first|(refine thn_n ?_)|(refine k_awp ?_;first|(refine awp_seq (awp_region ?_))|(refine awp_seq ?_)|(refine awp_region ?_)|(refine k_cond ?_;first|(refine awp_cond_t' rfl (by with_reducible rfl) ?_)|(refine awp_cond_p rfl (fun hc => ?_) (fun hc => ?_) <;> (try (exfalso;omega))))|(refine awp_block ?_)|(refine awp_ret ?_)|(refine awp_skip ?_)|(refine awp_label ?_)|(refine awp_goto ?_))|(refine thn_ret ?_)|(refine inb_n ?_)|(refine inb_ret ?_)|(refine thn_goto ?_)|(refine jq_n ?_)|(refine jq_ret ?_)|(refine mid_ret ?_)))
            refine ret4 (by first | exact .inr rfl | exact .inl rfl) rfl rfl rfl rfl rfl ?_
            exact ⟨by rw [hT1, hst]; rfl, rfl⟩
          · repeat' (first|(first|(refine awp_mid_scope (fun j : Nat => ⟨[(0, .str s), (1, .int .i64 j), (8, .op 0 0), (9, .int .i64 n), (10, .int .i64 d), (11, .int .i64 line)], [bldBox p ver, .row 5 1 ver 0 (bytesAV acc)]⟩) (fun j => i ≤ j ∧ j ≤ s.length ∧ T = afterL s acc (chunksF f s) (endL n j (s.drop j))) ?_ ?_)|(refine k_call ?_;refine al_call rfl rfl rfl rfl s_hexP ?_;rintro _ rfl))|(refine k_al ?_;first|(refine al_v (ov_move rfl) rfl ?_)|(refine k_g ?_;first|(refine al_gy' rfl rfl (by with_reducible rfl) ?_)|(refine al_gnt rfl rfl (by with_reducible rfl) rfl ?_)|(refine al_gnf rfl rfl (by with_reducible rfl) rfl ?_)|(refine al_gsp rfl rfl (fun hc => ?_) (fun hc => ?_) <;> (try (exfalso;omega))))|(refine k_bin ?_;first|(refine al_v (ov_cmp rfl rfl rfl) rfl ?_)|(refine al_v (ov_add rfl rfl (by (first|exact w64 (by omega) (by omega)|rfl))) rfl ?_)|(refine al_v (ov_sub rfl rfl (by (first|exact w64 (by omega) (by omega)|rfl))) rfl ?_))|(refine k_pick ?_;first|(refine al_v (ov_pick_t' rfl (by with_reducible rfl) rfl) rfl ?_)|(refine al_v (ov_pick_f' rfl (by with_reducible rfl) rfl) rfl ?_))|(refine al_v (ov_assign rfl) rfl ?_)|(refine k_call ?_;first|(refine al_v (ov_len_str rfl) rfl ?_))|(refine al_nil ?_)|(refine al_v (ov_index rfl rfl (by omega) (by omega)) rfl ?_))|(first|(refine thn_n ?_)|(refine k_awp ?_;first|(refine awp_seq (awp_region ?_))|(refine awp_seq ?_)|(refine awp_region ?_)|(refine k_cond ?_;first|(refine awp_cond_t' rfl (by with_reducible rfl) ?_)|(refine awp_cond_p rfl (fun hc => ?_) (fun hc => ?_) <;> (try (exfalso;omega))))|(refine awp_block ?_)|(refine awp_ret ?_)|(refine awp_skip ?_)|(refine awp_label ?_)|(refine awp_goto ?_))|(refine thn_ret ?_)|(refine inb_n ?_)|(refine inb_ret ?_)|(refine thn_goto ?_)|(refine jq_n ?_)|(refine jq_ret ?_)|(refine mid_ret ?_)))
            · rintro j ⟨hij, hjl, hTj⟩
              have hq := hp
              have hN1 := s_newline (w0 := w0) (base := base) (s := s) (at' := (j : Int)) (by omega) (by omega)
              rw [Int.toNat_natCast] at hN1
              rcases nlI_cases (s.drop j) with hk | hk | hk
              · rw [hk] at hN1
                rw [endL_0 hk, afterL] at hTj
                have hk2 := nl_len hk
                rw [List.length_drop] at hk2
                have hN2 := s_newline (w0 := w0) (base := base) (s := s) (at' := ((j + 2 + n : Nat) : Int))
                by_cases hbig : 16384 < acc.length + n
                · rw [if_pos hbig] at hTj
                  rcases hp with rfl | rfl
                  all_goals
                    repeat' (first|(first|(refine k_call ?_;refine al_call rfl rfl rfl rfl hN1 ?_;rintro _ rfl)|(refine k_call ?_;refine al_acall [0, 1] rfl rfl (a_blen hq (bs := acc) (ver := ver)) (by repeat constructor) (by repeat constructor) rfl rfl ?_;rintro _ _ ⟨rfl, rfl⟩;refine ⟨_, _, by repeat constructor, by repeat constructor, ?_⟩))|(refine k_al ?_;first|(refine al_v (ov_move rfl) rfl ?_)|(refine k_g ?_;first|(refine al_gy' rfl rfl (by with_reducible rfl) ?_)|(refine al_gnt rfl rfl (by with_reducible rfl) rfl ?_)|(refine al_gnf rfl rfl (by with_reducible rfl) rfl ?_)|(refine al_gsp rfl rfl (fun hc => ?_) (fun hc => ?_) <;> (try (exfalso;omega))))|(refine k_bin ?_;first|(refine al_v (ov_cmp rfl rfl rfl) rfl ?_)|(refine al_v (ov_add rfl rfl (by (first|exact w64 (by omega) (by omega)|rfl))) rfl ?_)|(refine al_v (ov_sub rfl rfl (by (first|exact w64 (by omega) (by omega)|rfl))) rfl ?_))|(refine k_pick ?_;first|(refine al_v (ov_pick_t' rfl (by with_reducible rfl) rfl) rfl ?_)|(refine al_v (ov_pick_f' rfl (by with_reducible rfl) rfl) rfl ?_))|(refine al_v (ov_assign rfl) rfl ?_)|(refine k_call ?_;first|(refine al_v (ov_len_str rfl) rfl ?_))|(refine al_nil ?_)|(refine al_v (ov_index rfl rfl (by omega) (by omega)) rfl ?_))|(first|(refine thn_n ?_)|(refine k_awp ?_;first|(refine awp_seq (awp_region ?_))|(refine awp_seq ?_)|(refine awp_region ?_)|(refine k_cond ?_;first|(refine awp_cond_t' rfl (by with_reducible rfl) ?_)|(refine awp_cond_p rfl (fun hc => ?_) (fun hc => ?_) <;> (try (exfalso;omega))))|(refine awp_block ?_)|(refine awp_ret ?_)|(refine awp_skip ?_)|(refine awp_label ?_)|(refine awp_goto ?_))|(refine thn_ret ?_)|(refine inb_n ?_)|(refine inb_ret ?_)|(refine thn_goto ?_)|(refine jq_n ?_)|(refine jq_ret ?_)|(refine mid_ret ?_)))
                    refine ret4 (by first | exact .inr rfl | exact .inl rfl) rfl rfl rfl rfl rfl ?_
                    exact ⟨by rw [hTj], rfl⟩
                · rw [if_neg hbig] at hTj
                  by_cases hlong : s.length < j + 2 + n
                  · rw [if_pos hlong] at hTj
                    rcases hp with rfl | rfl
                    all_goals
                      repeat' (first|(first|(refine k_call ?_;refine al_call rfl rfl rfl rfl hN1 ?_;rintro _ rfl)|(refine k_call ?_;refine al_acall [0, 1] rfl rfl (a_blen hq (bs := acc) (ver := ver)) (by repeat constructor) (by repeat constructor) rfl rfl ?_;rintro _ _ ⟨rfl, rfl⟩;refine ⟨_, _, by repeat constructor, by repeat constructor, ?_⟩))|(refine k_al ?_;first|(refine al_v (ov_move rfl) rfl ?_)|(refine k_g ?_;first|(refine al_gy' rfl rfl (by with_reducible rfl) ?_)|(refine al_gnt rfl rfl (by with_reducible rfl) rfl ?_)|(refine al_gnf rfl rfl (by with_reducible rfl) rfl ?_)|(refine al_gsp rfl rfl (fun hc => ?_) (fun hc => ?_) <;> (try (exfalso;omega))))|(refine k_bin ?_;first|(refine al_v (ov_cmp rfl rfl rfl) rfl ?_)|(refine al_v (ov_add rfl rfl (by (first|exact w64 (by omega) (by omega)|rfl))) rfl ?_)|(refine al_v (ov_sub rfl rfl (by (first|exact w64 (by omega) (by omega)|rfl))) rfl ?_))|(refine k_pick ?_;first|(refine al_v (ov_pick_t' rfl (by with_reducible rfl) rfl) rfl ?_)|(refine al_v (ov_pick_f' rfl (by with_reducible rfl) rfl) rfl ?_))|(refine al_v (ov_assign rfl) rfl ?_)|(refine k_call ?_;first|(refine al_v (ov_len_str rfl) rfl ?_))|(refine al_nil ?_)|(refine al_v (ov_index rfl rfl (by omega) (by omega)) rfl ?_))|(first|(refine thn_n ?_)|(refine k_awp ?_;first|(refine awp_seq (awp_region ?_))|(refine awp_seq ?_)|(refine awp_region ?_)|(refine k_cond ?_;first|(refine awp_cond_t' rfl (by with_reducible rfl) ?_)|(refine awp_cond_p rfl (fun hc => ?_) (fun hc => ?_) <;> (try (exfalso;omega))))|(refine awp_block ?_)|(refine awp_ret ?_)|(refine awp_skip ?_)|(refine awp_label ?_)|(refine awp_goto ?_))|(refine thn_ret ?_)|(refine inb_n ?_)|(refine inb_ret ?_)|(refine thn_goto ?_)|(refine jq_n ?_)|(refine jq_ret ?_)|(refine mid_ret ?_)))
                      refine ret4 (by first | exact .inr rfl | exact .inl rfl) rfl rfl rfl rfl rfl ?_
                      exact ⟨by rw [hTj], rfl⟩
                  · rw [if_neg hlong] at hTj
                    have hN2 := hN2 (by omega) (by omega)
                    rw [Int.toNat_natCast] at hN2
                    rcases nlI_cases (s.drop (j + 2 + n)) with hk3 | hk3 | hk3
                    · rw [hk3] at hN2
                      rw [endL_0 hk3] at hTj; dsimp only at hTj
                      have hk4 := nl_len hk3
                      rw [List.length_drop] at hk4
                      have hal : (acc ++ (s.take (j + 2 + n)).drop (j + 2)).length = acc.length + n := by simp; omega
                      by_cases hn0 : n = 0
                      · rw [if_pos hn0] at hTj
                        rcases hp with rfl | rfl
                        all_goals
                          repeat' (first|(first|(refine k_call ?_;refine al_call rfl rfl rfl rfl hN1 ?_;rintro _ rfl)|(refine k_call ?_;refine al_acall [0, 1] rfl rfl (a_blen hq (bs := acc) (ver := ver)) (by repeat constructor) (by repeat constructor) rfl rfl ?_;rintro _ _ ⟨rfl, rfl⟩;refine ⟨_, _, by repeat constructor, by repeat constructor, ?_⟩)|(refine al_v (ov_slice_eq (i := j + 2) (j := j + 2 + n) rfl rfl rfl rfl (by omega) (by omega) (by omega) (by omega)) rfl ?_)|(refine k_call ?_;refine al_acall [0, 1] rfl rfl (a_writeString hq (bs := acc) (s := (s.take (j + 2 + n)).drop (j + 2)) (ver := ver) (by simp;omega)) (by repeat constructor) (by repeat constructor) rfl rfl ?_;rintro _ _ ⟨rfl, rfl⟩;refine ⟨_, _, by repeat constructor, by repeat constructor, ?_⟩)|(refine k_call ?_;refine al_call rfl rfl rfl rfl hN2 ?_;rintro _ rfl)|(refine k_call ?_;refine al_acall [0, 1] rfl rfl (a_string (.inr rfl) (l := acc ++ (s.take (j + 2 + n)).drop (j + 2)) (ver := ver + 1) (.inl rfl) (by simp;omega)) (by repeat constructor) (by repeat constructor) rfl rfl ?_;rintro _ _ ⟨rfl, o', rfl, rfl|⟨wr, rfl⟩⟩ <;> refine ⟨_, _, by repeat constructor, by repeat constructor, ?_⟩))|(refine k_al ?_;first|(refine al_v (ov_move rfl) rfl ?_)|(refine k_g ?_;first|(refine al_gy' rfl rfl (by with_reducible rfl) ?_)|(refine al_gnt rfl rfl (by with_reducible rfl) rfl ?_)|(refine al_gnf rfl rfl (by with_reducible rfl) rfl ?_)|(refine al_gsp rfl rfl (fun hc => ?_) (fun hc => ?_) <;> (try (exfalso;omega))))|(refine k_bin ?_;first|(refine al_v (ov_cmp rfl rfl rfl) rfl ?_)|(refine al_v (ov_add rfl rfl (by (first|exact w64 (by omega) (by omega)|rfl))) rfl ?_)|(refine al_v (ov_sub rfl rfl (by (first|exact w64 (by omega) (by omega)|rfl))) rfl ?_))|(refine k_pick ?_;first|(refine al_v (ov_pick_t' rfl (by with_reducible rfl) rfl) rfl ?_)|(refine al_v (ov_pick_f' rfl (by with_reducible rfl) rfl) rfl ?_))|(refine al_v (ov_assign rfl) rfl ?_)|(refine k_call ?_;first|(refine al_v (ov_len_str rfl) rfl ?_))|(refine al_nil ?_)|(refine al_v (ov_index rfl rfl (by omega) (by omega)) rfl ?_))|(first|(refine thn_n ?_)|(refine k_awp ?_;first|(refine awp_seq (awp_region ?_))|(refine awp_seq ?_)|(refine awp_region ?_)|(refine k_cond ?_;first|(refine awp_cond_t' rfl (by with_reducible rfl) ?_)|(refine awp_cond_p rfl (fun hc => ?_) (fun hc => ?_) <;> (try (exfalso;omega))))|(refine awp_block ?_)|(refine awp_ret ?_)|(refine awp_skip ?_)|(refine awp_label ?_)|(refine awp_goto ?_))|(refine thn_ret ?_)|(refine inb_n ?_)|(refine inb_ret ?_)|(refine thn_goto ?_)|(refine jq_n ?_)|(refine jq_ret ?_)|(refine mid_ret ?_)))
                          all_goals
                            refine ret4 (by first | exact .inr rfl | exact .inl rfl) rfl rfl rfl rfl rfl ?_
                            exact ⟨by rw [hTj]; rfl, rfl⟩
                      · rw [if_neg hn0] at hTj
                        rcases hp with rfl | rfl
                        all_goals
                          repeat' (first|(first|(refine k_call ?_;refine al_call rfl rfl rfl rfl hN1 ?_;rintro _ rfl)|(refine k_call ?_;refine al_acall [0, 1] rfl rfl (a_blen hq (bs := acc) (ver := ver)) (by repeat constructor) (by repeat constructor) rfl rfl ?_;rintro _ _ ⟨rfl, rfl⟩;refine ⟨_, _, by repeat constructor, by repeat constructor, ?_⟩)|(refine al_v (ov_slice_eq (i := j + 2) (j := j + 2 + n) rfl rfl rfl rfl (by omega) (by omega) (by omega) (by omega)) rfl ?_)|(refine k_call ?_;refine al_acall [0, 1] rfl rfl (a_writeString hq (bs := acc) (s := (s.take (j + 2 + n)).drop (j + 2)) (ver := ver) (by simp;omega)) (by repeat constructor) (by repeat constructor) rfl rfl ?_;rintro _ _ ⟨rfl, rfl⟩;refine ⟨_, _, by repeat constructor, by repeat constructor, ?_⟩)|(refine k_call ?_;refine al_call rfl rfl rfl rfl hN2 ?_;rintro _ rfl))|(refine k_al ?_;first|(refine al_v (ov_move rfl) rfl ?_)|(refine k_g ?_;first|(refine al_gy' rfl rfl (by with_reducible rfl) ?_)|(refine al_gnt rfl rfl (by with_reducible rfl) rfl ?_)|(refine al_gnf rfl rfl (by with_reducible rfl) rfl ?_)|(refine al_gsp rfl rfl (fun hc => ?_) (fun hc => ?_) <;> (try (exfalso;omega))))|(refine k_bin ?_;first|(refine al_v (ov_cmp rfl rfl rfl) rfl ?_)|(refine al_v (ov_add rfl rfl (by (first|exact w64 (by omega) (by omega)|rfl))) rfl ?_)|(refine al_v (ov_sub rfl rfl (by (first|exact w64 (by omega) (by omega)|rfl))) rfl ?_))|(refine k_pick ?_;first|(refine al_v (ov_pick_t' rfl (by with_reducible rfl) rfl) rfl ?_)|(refine al_v (ov_pick_f' rfl (by with_reducible rfl) rfl) rfl ?_))|(refine al_v (ov_assign rfl) rfl ?_)|(refine k_call ?_;first|(refine al_v (ov_len_str rfl) rfl ?_))|(refine al_nil ?_)|(refine al_v (ov_index rfl rfl (by omega) (by omega)) rfl ?_))|(first|(refine thn_n ?_)|(refine k_awp ?_;first|(refine awp_seq (awp_region ?_))|(refine awp_seq ?_)|(refine awp_region ?_)|(refine k_cond ?_;first|(refine awp_cond_t' rfl (by with_reducible rfl) ?_)|(refine awp_cond_p rfl (fun hc => ?_) (fun hc => ?_) <;> (try (exfalso;omega))))|(refine awp_block ?_)|(refine awp_ret ?_)|(refine awp_skip ?_)|(refine awp_label ?_)|(refine awp_goto ?_))|(refine thn_ret ?_)|(refine inb_n ?_)|(refine inb_ret ?_)|(refine thn_goto ?_)|(refine jq_n ?_)|(refine jq_ret ?_)|(refine mid_ret ?_)))
                          refine jq_goto (CS.mk 0 (j + 2 + n + 2) n d line (acc ++ (s.take (j + 2 + n)).drop (j + 2)) (.op 0 0) (ver + 1)) rfl (.of (.same (by repeat constructor))) ?_ ?_
                          · exact ⟨by dsimp only; omega, .inr rfl, by dsimp only; omega, .inl rfl, fun _ => ⟨f, by dsimp only; omega, hTj⟩, fun k => absurd k Nat.zero_ne_one⟩
                          · dsimp only
                            simp only [Nat.one_ne_zero, if_false, if_true]
                            omega
                    · rw [hk3] at hN2
                      rw [endL_1 hk3] at hTj; dsimp only at hTj
                      rcases hp with rfl | rfl
                      all_goals
                        repeat' (first|(first|(refine k_call ?_;refine al_call rfl rfl rfl rfl hN1 ?_;rintro _ rfl)|(refine k_call ?_;refine al_acall [0, 1] rfl rfl (a_blen hq (bs := acc) (ver := ver)) (by repeat constructor) (by repeat constructor) rfl rfl ?_;rintro _ _ ⟨rfl, rfl⟩;refine ⟨_, _, by repeat constructor, by repeat constructor, ?_⟩)|(refine al_v (ov_slice_eq (i := j + 2) (j := j + 2 + n) rfl rfl rfl rfl (by omega) (by omega) (by omega) (by omega)) rfl ?_)|(refine k_call ?_;refine al_acall [0, 1] rfl rfl (a_writeString hq (bs := acc) (s := (s.take (j + 2 + n)).drop (j + 2)) (ver := ver) (by simp;omega)) (by repeat constructor) (by repeat constructor) rfl rfl ?_;rintro _ _ ⟨rfl, rfl⟩;refine ⟨_, _, by repeat constructor, by repeat constructor, ?_⟩)|(refine k_call ?_;refine al_call rfl rfl rfl rfl hN2 ?_;rintro _ rfl))|(refine k_al ?_;first|(refine al_v (ov_move rfl) rfl ?_)|(refine k_g ?_;first|(refine al_gy' rfl rfl (by with_reducible rfl) ?_)|(refine al_gnt rfl rfl (by with_reducible rfl) rfl ?_)|(refine al_gnf rfl rfl (by with_reducible rfl) rfl ?_)|(refine al_gsp rfl rfl (fun hc => ?_) (fun hc => ?_) <;> (try (exfalso;omega))))|(refine k_bin ?_;first|(refine al_v (ov_cmp rfl rfl rfl) rfl ?_)|(refine al_v (ov_add rfl rfl (by (first|exact w64 (by omega) (by omega)|rfl))) rfl ?_)|(refine al_v (ov_sub rfl rfl (by (first|exact w64 (by omega) (by omega)|rfl))) rfl ?_))|(refine k_pick ?_;first|(refine al_v (ov_pick_t' rfl (by with_reducible rfl) rfl) rfl ?_)|(refine al_v (ov_pick_f' rfl (by with_reducible rfl) rfl) rfl ?_))|(refine al_v (ov_assign rfl) rfl ?_)|(refine k_call ?_;first|(refine al_v (ov_len_str rfl) rfl ?_))|(refine al_nil ?_)|(refine al_v (ov_index rfl rfl (by omega) (by omega)) rfl ?_))|(first|(refine thn_n ?_)|(refine k_awp ?_;first|(refine awp_seq (awp_region ?_))|(refine awp_seq ?_)|(refine awp_region ?_)|(refine k_cond ?_;first|(refine awp_cond_t' rfl (by with_reducible rfl) ?_)|(refine awp_cond_p rfl (fun hc => ?_) (fun hc => ?_) <;> (try (exfalso;omega))))|(refine awp_block ?_)|(refine awp_ret ?_)|(refine awp_skip ?_)|(refine awp_label ?_)|(refine awp_goto ?_))|(refine thn_ret ?_)|(refine inb_n ?_)|(refine inb_ret ?_)|(refine thn_goto ?_)|(refine jq_n ?_)|(refine jq_ret ?_)|(refine mid_ret ?_)))
                        refine ret4 (by first | exact .inr rfl | exact .inl rfl) rfl rfl rfl rfl rfl ?_
                        exact ⟨by rw [hTj], rfl⟩
                    · rw [hk3] at hN2
                      rw [endL_2 hk3] at hTj; dsimp only at hTj
                      rcases hp with rfl | rfl
                      all_goals
                        repeat' (first|(first|(refine k_call ?_;refine al_call rfl rfl rfl rfl hN1 ?_;rintro _ rfl)|(refine k_call ?_;refine al_acall [0, 1] rfl rfl (a_blen hq (bs := acc) (ver := ver)) (by repeat constructor) (by repeat constructor) rfl rfl ?_;rintro _ _ ⟨rfl, rfl⟩;refine ⟨_, _, by repeat constructor, by repeat constructor, ?_⟩)|(refine al_v (ov_slice_eq (i := j + 2) (j := j + 2 + n) rfl rfl rfl rfl (by omega) (by omega) (by omega) (by omega)) rfl ?_)|(refine k_call ?_;refine al_acall [0, 1] rfl rfl (a_writeString hq (bs := acc) (s := (s.take (j + 2 + n)).drop (j + 2)) (ver := ver) (by simp;omega)) (by repeat constructor) (by repeat constructor) rfl rfl ?_;rintro _ _ ⟨rfl, rfl⟩;refine ⟨_, _, by repeat constructor, by repeat constructor, ?_⟩)|(refine k_call ?_;refine al_call rfl rfl rfl rfl hN2 ?_;rintro _ rfl))|(refine k_al ?_;first|(refine al_v (ov_move rfl) rfl ?_)|(refine k_g ?_;first|(refine al_gy' rfl rfl (by with_reducible rfl) ?_)|(refine al_gnt rfl rfl (by with_reducible rfl) rfl ?_)|(refine al_gnf rfl rfl (by with_reducible rfl) rfl ?_)|(refine al_gsp rfl rfl (fun hc => ?_) (fun hc => ?_) <;> (try (exfalso;omega))))|(refine k_bin ?_;first|(refine al_v (ov_cmp rfl rfl rfl) rfl ?_)|(refine al_v (ov_add rfl rfl (by (first|exact w64 (by omega) (by omega)|rfl))) rfl ?_)|(refine al_v (ov_sub rfl rfl (by (first|exact w64 (by omega) (by omega)|rfl))) rfl ?_))|(refine k_pick ?_;first|(refine al_v (ov_pick_t' rfl (by with_reducible rfl) rfl) rfl ?_)|(refine al_v (ov_pick_f' rfl (by with_reducible rfl) rfl) rfl ?_))|(refine al_v (ov_assign rfl) rfl ?_)|(refine k_call ?_;first|(refine al_v (ov_len_str rfl) rfl ?_))|(refine al_nil ?_)|(refine al_v (ov_index rfl rfl (by omega) (by omega)) rfl ?_))|(first|(refine thn_n ?_)|(refine k_awp ?_;first|(refine awp_seq (awp_region ?_))|(refine awp_seq ?_)|(refine awp_region ?_)|(refine k_cond ?_;first|(refine awp_cond_t' rfl (by with_reducible rfl) ?_)|(refine awp_cond_p rfl (fun hc => ?_) (fun hc => ?_) <;> (try (exfalso;omega))))|(refine awp_block ?_)|(refine awp_ret ?_)|(refine awp_skip ?_)|(refine awp_label ?_)|(refine awp_goto ?_))|(refine thn_ret ?_)|(refine inb_n ?_)|(refine inb_ret ?_)|(refine thn_goto ?_)|(refine jq_n ?_)|(refine jq_ret ?_)|(refine mid_ret ?_)))
                        refine ret4 (by first | exact .inr rfl | exact .inl rfl) rfl rfl rfl rfl rfl ?_
                        exact ⟨by rw [hTj], rfl⟩
              · rw [hk] at hN1
                rw [endL_1 hk, afterL] at hTj
                repeat' (first|((refine k_call ?_;refine al_call rfl rfl rfl rfl hN1 ?_;rintro _ rfl))|(refine k_al ?_;first|(refine al_v (ov_move rfl) rfl ?_)|(refine k_g ?_;first|(refine al_gy' rfl rfl (by with_reducible rfl) ?_)|(refine al_gnt rfl rfl (by with_reducible rfl) rfl ?_)|(refine al_gnf rfl rfl (by with_reducible rfl) rfl ?_)|(refine al_gsp rfl rfl (fun hc => ?_) (fun hc => ?_) <;> (try (exfalso;omega))))|(refine k_bin ?_;first|(refine al_v (ov_cmp rfl rfl rfl) rfl ?_)|(refine al_v (ov_add rfl rfl (by (first|exact w64 (by omega) (by omega)|rfl))) rfl ?_)|(refine al_v (ov_sub rfl rfl (by (first|exact w64 (by omega) (by omega)|rfl))) rfl ?_))|(refine k_pick ?_;first|(refine al_v (ov_pick_t' rfl (by with_reducible rfl) rfl) rfl ?_)|(refine al_v (ov_pick_f' rfl (by with_reducible rfl) rfl) rfl ?_))|(refine al_v (ov_assign rfl) rfl ?_)|(refine k_call ?_;first|(refine al_v (ov_len_str rfl) rfl ?_))|(refine al_nil ?_)|(refine al_v (ov_index rfl rfl (by omega) (by omega)) rfl ?_))|(first|(refine thn_n ?_)|(refine k_awp ?_;first|(refine awp_seq (awp_region ?_))|(refine awp_seq ?_)|(refine awp_region ?_)|(refine k_cond ?_;first|(refine awp_cond_t' rfl (by with_reducible rfl) ?_)|(refine awp_cond_p rfl (fun hc => ?_) (fun hc => ?_) <;> (try (exfalso;omega))))|(refine awp_block ?_)|(refine awp_ret ?_)|(refine awp_skip ?_)|(refine awp_label ?_)|(refine awp_goto ?_))|(refine thn_ret ?_)|(refine inb_n ?_)|(refine inb_ret ?_)|(refine thn_goto ?_)|(refine jq_n ?_)|(refine jq_ret ?_)|(refine mid_ret ?_)))
                refine ret4 (by first | exact .inr rfl | exact .inl rfl) rfl rfl rfl rfl rfl ?_
                exact ⟨by rw [hTj], rfl⟩
              · rw [hk] at hN1
                rw [endL_2 hk, afterL] at hTj
                repeat' (first|((refine k_call ?_;refine al_call rfl rfl rfl rfl hN1 ?_;rintro _ rfl))|(refine k_al ?_;first|(refine al_v (ov_move rfl) rfl ?_)|(refine k_g ?_;first|(refine al_gy' rfl rfl (by with_reducible rfl) ?_)|(refine al_gnt rfl rfl (by with_reducible rfl) rfl ?_)|(refine al_gnf rfl rfl (by with_reducible rfl) rfl ?_)|(refine al_gsp rfl rfl (fun hc => ?_) (fun hc => ?_) <;> (try (exfalso;omega))))|(refine k_bin ?_;first|(refine al_v (ov_cmp rfl rfl rfl) rfl ?_)|(refine al_v (ov_add rfl rfl (by (first|exact w64 (by omega) (by omega)|rfl))) rfl ?_)|(refine al_v (ov_sub rfl rfl (by (first|exact w64 (by omega) (by omega)|rfl))) rfl ?_))|(refine k_pick ?_;first|(refine al_v (ov_pick_t' rfl (by with_reducible rfl) rfl) rfl ?_)|(refine al_v (ov_pick_f' rfl (by with_reducible rfl) rfl) rfl ?_))|(refine al_v (ov_assign rfl) rfl ?_)|(refine k_call ?_;first|(refine al_v (ov_len_str rfl) rfl ?_))|(refine al_nil ?_)|(refine al_v (ov_index rfl rfl (by omega) (by omega)) rfl ?_))|(first|(refine thn_n ?_)|(refine k_awp ?_;first|(refine awp_seq (awp_region ?_))|(refine awp_seq ?_)|(refine awp_region ?_)|(refine k_cond ?_;first|(refine awp_cond_t' rfl (by with_reducible rfl) ?_)|(refine awp_cond_p rfl (fun hc => ?_) (fun hc => ?_) <;> (try (exfalso;omega))))|(refine awp_block ?_)|(refine awp_ret ?_)|(refine awp_skip ?_)|(refine awp_label ?_)|(refine awp_goto ?_))|(refine thn_ret ?_)|(refine inb_n ?_)|(refine inb_ret ?_)|(refine thn_goto ?_)|(refine jq_n ?_)|(refine jq_ret ?_)|(refine mid_ret ?_)))
                refine ret4 (by first | exact .inr rfl | exact .inl rfl) rfl rfl rfl rfl rfl ?_
                exact ⟨by rw [hTj], rfl⟩
            · intro _
              by_cases hsemi : byteAt s (i : Int) = 59
              · have hst := size_semi (line := line) (n := n) hend hdig hd hsemi
                rw [hst] at hT1
                repeat' (first|((refine awp_jumps' (rSt s acc p n d line ver) rLab (ROk s acc T f i n line) (rM2 s) (s.length + 1) 2 ?_ ?_ ?_ ?_))|(refine k_al ?_;first|(refine al_v (ov_move rfl) rfl ?_)|(refine k_g ?_;first|(refine al_gy' rfl rfl (by with_reducible rfl) ?_)|(refine al_gnt rfl rfl (by with_reducible rfl) rfl ?_)|(refine al_gnf rfl rfl (by with_reducible rfl) rfl ?_)|(refine al_gsp rfl rfl (fun hc => ?_) (fun hc => ?_) <;> (try (exfalso;omega))))|(refine k_bin ?_;first|(refine al_v (ov_cmp rfl rfl rfl) rfl ?_)|(refine al_v (ov_add rfl rfl (by (first|exact w64 (by omega) (by omega)|rfl))) rfl ?_)|(refine al_v (ov_sub rfl rfl (by (first|exact w64 (by omega) (by omega)|rfl))) rfl ?_))|(refine k_pick ?_;first|(refine al_v (ov_pick_t' rfl (by with_reducible rfl) rfl) rfl ?_)|(refine al_v (ov_pick_f' rfl (by with_reducible rfl) rfl) rfl ?_))|(refine al_v (ov_assign rfl) rfl ?_)|(refine k_call ?_;first|(refine al_v (ov_len_str rfl) rfl ?_))|(refine al_nil ?_)|(refine al_v (ov_index rfl rfl (by omega) (by omega)) rfl ?_))|(first|(refine thn_n ?_)|(refine k_awp ?_;first|(refine awp_seq (awp_region ?_))|(refine awp_seq ?_)|(refine awp_region ?_)|(refine k_cond ?_;first|(refine awp_cond_t' rfl (by with_reducible rfl) ?_)|(refine awp_cond_p rfl (fun hc => ?_) (fun hc => ?_) <;> (try (exfalso;omega))))|(refine awp_block ?_)|(refine awp_ret ?_)|(refine awp_skip ?_)|(refine awp_label ?_)|(refine awp_goto ?_))|(refine thn_ret ?_)|(refine inb_n ?_)|(refine inb_ret ?_)|(refine thn_goto ?_)|(refine jq_n ?_)|(refine jq_ret ?_)|(refine mid_ret ?_)))
                · intro _ _; rfl
                · intro _ _; exact Nat.le_refl _
                · rintro j ⟨hij, hjl, hTj⟩ _
                  dsimp only [rSt]
                  show AWp _ _ (lblC _ 2) _ _
                  by_cases hje : j < s.length
                  · have htb := textB_int (s := s) (i := (j : Int))
                    by_cases htx : textB (bAt s (j : Int)) = true
                    · have hre := rest_text (n := n) (line := line) hje htx
                      rw [hre] at hTj
                      have htx2 := htb.1 htx
                      by_cases hbig : line + 1024 ≤ j
                      · rw [if_pos hbig] at hTj
                        repeat' (first|(refine k_al ?_;first|(refine al_v (ov_move rfl) rfl ?_)|(refine k_g ?_;first|(refine al_gy' rfl rfl (by with_reducible rfl) ?_)|(refine al_gnt rfl rfl (by with_reducible rfl) rfl ?_)|(refine al_gnf rfl rfl (by with_reducible rfl) rfl ?_)|(refine al_gsp rfl rfl (fun hc => ?_) (fun hc => ?_) <;> (try (exfalso;omega))))|(refine k_bin ?_;first|(refine al_v (ov_cmp rfl rfl rfl) rfl ?_)|(refine al_v (ov_add rfl rfl (by (first|exact w64 (by omega) (by omega)|rfl))) rfl ?_)|(refine al_v (ov_sub rfl rfl (by (first|exact w64 (by omega) (by omega)|rfl))) rfl ?_))|(refine k_pick ?_;first|(refine al_v (ov_pick_t' rfl (by with_reducible rfl) rfl) rfl ?_)|(refine al_v (ov_pick_f' rfl (by with_reducible rfl) rfl) rfl ?_))|(refine al_v (ov_assign rfl) rfl ?_)|(refine k_call ?_;first|(refine al_v (ov_len_str rfl) rfl ?_))|(refine al_nil ?_)|(refine al_v (ov_index rfl rfl (by omega) (by omega)) rfl ?_))|(first|(refine thn_n ?_)|(refine k_awp ?_;first|(refine awp_seq (awp_region ?_))|(refine awp_seq ?_)|(refine awp_region ?_)|(refine k_cond ?_;first|(refine awp_cond_t' rfl (by with_reducible rfl) ?_)|(refine awp_cond_p rfl (fun hc => ?_) (fun hc => ?_) <;> (try (exfalso;omega))))|(refine awp_block ?_)|(refine awp_ret ?_)|(refine awp_skip ?_)|(refine awp_label ?_)|(refine awp_goto ?_))|(refine thn_ret ?_)|(refine inb_n ?_)|(refine inb_ret ?_)|(refine thn_goto ?_)|(refine jq_n ?_)|(refine jq_ret ?_)|(refine mid_ret ?_)))
                        all_goals
                          refine ret4 (by first | exact .inr rfl | exact .inl rfl) rfl rfl rfl rfl rfl ?_
                          exact ⟨by rw [hTj]; rfl, rfl⟩
                      · rw [if_neg hbig] at hTj
                        repeat' (first|(refine k_al ?_;first|(refine al_v (ov_move rfl) rfl ?_)|(refine k_g ?_;first|(refine al_gy' rfl rfl (by with_reducible rfl) ?_)|(refine al_gnt rfl rfl (by with_reducible rfl) rfl ?_)|(refine al_gnf rfl rfl (by with_reducible rfl) rfl ?_)|(refine al_gsp rfl rfl (fun hc => ?_) (fun hc => ?_) <;> (try (exfalso;omega))))|(refine k_bin ?_;first|(refine al_v (ov_cmp rfl rfl rfl) rfl ?_)|(refine al_v (ov_add rfl rfl (by (first|exact w64 (by omega) (by omega)|rfl))) rfl ?_)|(refine al_v (ov_sub rfl rfl (by (first|exact w64 (by omega) (by omega)|rfl))) rfl ?_))|(refine k_pick ?_;first|(refine al_v (ov_pick_t' rfl (by with_reducible rfl) rfl) rfl ?_)|(refine al_v (ov_pick_f' rfl (by with_reducible rfl) rfl) rfl ?_))|(refine al_v (ov_assign rfl) rfl ?_)|(refine k_call ?_;first|(refine al_v (ov_len_str rfl) rfl ?_))|(refine al_nil ?_)|(refine al_v (ov_index rfl rfl (by omega) (by omega)) rfl ?_))|(first|(refine thn_n ?_)|(refine k_awp ?_;first|(refine awp_seq (awp_region ?_))|(refine awp_seq ?_)|(refine awp_region ?_)|(refine k_cond ?_;first|(refine awp_cond_t' rfl (by with_reducible rfl) ?_)|(refine awp_cond_p rfl (fun hc => ?_) (fun hc => ?_) <;> (try (exfalso;omega))))|(refine awp_block ?_)|(refine awp_ret ?_)|(refine awp_skip ?_)|(refine awp_label ?_)|(refine awp_goto ?_))|(refine thn_ret ?_)|(refine inb_n ?_)|(refine inb_ret ?_)|(refine thn_goto ?_)|(refine jq_n ?_)|(refine jq_ret ?_)|(refine mid_ret ?_)))
                        all_goals
                          refine jq_goto (j + 1) rfl (.of (.same (by repeat constructor))) ⟨by omega, by omega, hTj⟩ (by unfold rM2; omega)
                    · have hre := rest_stop (n := n) (line := line) hje htx
                      rw [hre] at hTj
                      have htx2 : ¬ ((32 ≤ byteAt s (j : Int) ∧ byteAt s (j : Int) ≤ 126) ∨ byteAt s (j : Int) = 9) := fun k => htx (htb.2 k)
                      repeat' (first|(refine k_al ?_;first|(refine al_v (ov_move rfl) rfl ?_)|(refine k_g ?_;first|(refine al_gy' rfl rfl (by with_reducible rfl) ?_)|(refine al_gnt rfl rfl (by with_reducible rfl) rfl ?_)|(refine al_gnf rfl rfl (by with_reducible rfl) rfl ?_)|(refine al_gsp rfl rfl (fun hc => ?_) (fun hc => ?_) <;> (try (exfalso;omega))))|(refine k_bin ?_;first|(refine al_v (ov_cmp rfl rfl rfl) rfl ?_)|(refine al_v (ov_add rfl rfl (by (first|exact w64 (by omega) (by omega)|rfl))) rfl ?_)|(refine al_v (ov_sub rfl rfl (by (first|exact w64 (by omega) (by omega)|rfl))) rfl ?_))|(refine k_pick ?_;first|(refine al_v (ov_pick_t' rfl (by with_reducible rfl) rfl) rfl ?_)|(refine al_v (ov_pick_f' rfl (by with_reducible rfl) rfl) rfl ?_))|(refine al_v (ov_assign rfl) rfl ?_)|(refine k_call ?_;first|(refine al_v (ov_len_str rfl) rfl ?_))|(refine al_nil ?_)|(refine al_v (ov_index rfl rfl (by omega) (by omega)) rfl ?_))|(first|(refine thn_n ?_)|(refine k_awp ?_;first|(refine awp_seq (awp_region ?_))|(refine awp_seq ?_)|(refine awp_region ?_)|(refine k_cond ?_;first|(refine awp_cond_t' rfl (by with_reducible rfl) ?_)|(refine awp_cond_p rfl (fun hc => ?_) (fun hc => ?_) <;> (try (exfalso;omega))))|(refine awp_block ?_)|(refine awp_ret ?_)|(refine awp_skip ?_)|(refine awp_label ?_)|(refine awp_goto ?_))|(refine thn_ret ?_)|(refine inb_n ?_)|(refine inb_ret ?_)|(refine thn_goto ?_)|(refine jq_n ?_)|(refine jq_ret ?_)|(refine mid_ret ?_)))
                      all_goals
                        exact mid_n j ⟨by omega, hjl, hTj⟩ (.of (.same (by repeat constructor)))
                  · have hre := rest_end (n := n) (line := line) (s := s) (i := j) (by omega)
                    rw [hre] at hTj
                    repeat' (first|(refine k_al ?_;first|(refine al_v (ov_move rfl) rfl ?_)|(refine k_g ?_;first|(refine al_gy' rfl rfl (by with_reducible rfl) ?_)|(refine al_gnt rfl rfl (by with_reducible rfl) rfl ?_)|(refine al_gnf rfl rfl (by with_reducible rfl) rfl ?_)|(refine al_gsp rfl rfl (fun hc => ?_) (fun hc => ?_) <;> (try (exfalso;omega))))|(refine k_bin ?_;first|(refine al_v (ov_cmp rfl rfl rfl) rfl ?_)|(refine al_v (ov_add rfl rfl (by (first|exact w64 (by omega) (by omega)|rfl))) rfl ?_)|(refine al_v (ov_sub rfl rfl (by (first|exact w64 (by omega) (by omega)|rfl))) rfl ?_))|(refine k_pick ?_;first|(refine al_v (ov_pick_t' rfl (by with_reducible rfl) rfl) rfl ?_)|(refine al_v (ov_pick_f' rfl (by with_reducible rfl) rfl) rfl ?_))|(refine al_v (ov_assign rfl) rfl ?_)|(refine k_call ?_;first|(refine al_v (ov_len_str rfl) rfl ?_))|(refine al_nil ?_)|(refine al_v (ov_index rfl rfl (by omega) (by omega)) rfl ?_))|(first|(refine thn_n ?_)|(refine k_awp ?_;first|(refine awp_seq (awp_region ?_))|(refine awp_seq ?_)|(refine awp_region ?_)|(refine k_cond ?_;first|(refine awp_cond_t' rfl (by with_reducible rfl) ?_)|(refine awp_cond_p rfl (fun hc => ?_) (fun hc => ?_) <;> (try (exfalso;omega))))|(refine awp_block ?_)|(refine awp_ret ?_)|(refine awp_skip ?_)|(refine awp_label ?_)|(refine awp_goto ?_))|(refine thn_ret ?_)|(refine inb_n ?_)|(refine inb_ret ?_)|(refine thn_goto ?_)|(refine jq_n ?_)|(refine jq_ret ?_)|(refine mid_ret ?_)))
                    refine ret4 (by first | exact .inr rfl | exact .inl rfl) rfl rfl rfl rfl rfl ?_
                    exact ⟨by rw [hTj]; rfl, rfl⟩
                · intro hf
                  have hf1 := hf (Nat.succ i) ⟨Nat.le_refl _, by omega, hT1⟩
                  clear hf
                  repeat' (first|((refine awp_fall (Nat.succ i) hf1 ?_ ?_))|(refine k_al ?_;first|(refine al_v (ov_move rfl) rfl ?_)|(refine k_g ?_;first|(refine al_gy' rfl rfl (by with_reducible rfl) ?_)|(refine al_gnt rfl rfl (by with_reducible rfl) rfl ?_)|(refine al_gnf rfl rfl (by with_reducible rfl) rfl ?_)|(refine al_gsp rfl rfl (fun hc => ?_) (fun hc => ?_) <;> (try (exfalso;omega))))|(refine k_bin ?_;first|(refine al_v (ov_cmp rfl rfl rfl) rfl ?_)|(refine al_v (ov_add rfl rfl (by (first|exact w64 (by omega) (by omega)|rfl))) rfl ?_)|(refine al_v (ov_sub rfl rfl (by (first|exact w64 (by omega) (by omega)|rfl))) rfl ?_))|(refine k_pick ?_;first|(refine al_v (ov_pick_t' rfl (by with_reducible rfl) rfl) rfl ?_)|(refine al_v (ov_pick_f' rfl (by with_reducible rfl) rfl) rfl ?_))|(refine al_v (ov_assign rfl) rfl ?_)|(refine k_call ?_;first|(refine al_v (ov_len_str rfl) rfl ?_))|(refine al_nil ?_)|(refine al_v (ov_index rfl rfl (by omega) (by omega)) rfl ?_))|(first|(refine thn_n ?_)|(refine k_awp ?_;first|(refine awp_seq (awp_region ?_))|(refine awp_seq ?_)|(refine awp_region ?_)|(refine k_cond ?_;first|(refine awp_cond_t' rfl (by with_reducible rfl) ?_)|(refine awp_cond_p rfl (fun hc => ?_) (fun hc => ?_) <;> (try (exfalso;omega))))|(refine awp_block ?_)|(refine awp_ret ?_)|(refine awp_skip ?_)|(refine awp_label ?_)|(refine awp_goto ?_))|(refine thn_ret ?_)|(refine inb_n ?_)|(refine inb_ret ?_)|(refine thn_goto ?_)|(refine jq_n ?_)|(refine jq_ret ?_)|(refine mid_ret ?_)))
                  · unfold rM2; omega
                  · exact .of (.same (by repeat constructor))
              · have hst := size_plain (line := line) (n := n) hend hdig hd hsemi
                rw [hst] at hT1
                repeat' (first|(refine k_al ?_;first|(refine al_v (ov_move rfl) rfl ?_)|(refine k_g ?_;first|(refine al_gy' rfl rfl (by with_reducible rfl) ?_)|(refine al_gnt rfl rfl (by with_reducible rfl) rfl ?_)|(refine al_gnf rfl rfl (by with_reducible rfl) rfl ?_)|(refine al_gsp rfl rfl (fun hc => ?_) (fun hc => ?_) <;> (try (exfalso;omega))))|(refine k_bin ?_;first|(refine al_v (ov_cmp rfl rfl rfl) rfl ?_)|(refine al_v (ov_add rfl rfl (by (first|exact w64 (by omega) (by omega)|rfl))) rfl ?_)|(refine al_v (ov_sub rfl rfl (by (first|exact w64 (by omega) (by omega)|rfl))) rfl ?_))|(refine k_pick ?_;first|(refine al_v (ov_pick_t' rfl (by with_reducible rfl) rfl) rfl ?_)|(refine al_v (ov_pick_f' rfl (by with_reducible rfl) rfl) rfl ?_))|(refine al_v (ov_assign rfl) rfl ?_)|(refine k_call ?_;first|(refine al_v (ov_len_str rfl) rfl ?_))|(refine al_nil ?_)|(refine al_v (ov_index rfl rfl (by omega) (by omega)) rfl ?_))|(first|(refine thn_n ?_)|(refine k_awp ?_;first|(refine awp_seq (awp_region ?_))|(refine awp_seq ?_)|(refine awp_region ?_)|(refine k_cond ?_;first|(refine awp_cond_t' rfl (by with_reducible rfl) ?_)|(refine awp_cond_p rfl (fun hc => ?_) (fun hc => ?_) <;> (try (exfalso;omega))))|(refine awp_block ?_)|(refine awp_ret ?_)|(refine awp_skip ?_)|(refine awp_label ?_)|(refine awp_goto ?_))|(refine thn_ret ?_)|(refine inb_n ?_)|(refine inb_ret ?_)|(refine thn_goto ?_)|(refine jq_n ?_)|(refine jq_ret ?_)|(refine mid_ret ?_)))
                exact mid_n i ⟨Nat.le_refl _, hle, hT1⟩ (.of (.same (by repeat constructor)))
      · have hst := size_end (line := line) (d := d) (n := n) (s := s) (i := i) (by omega)
        repeat' (first|((refine k_call ?_;refine al_call rfl rfl rfl rfl s_hexP ?_;rintro _ rfl))|(refine k_al ?_;first|(refine al_v (ov_move rfl) rfl ?_)|(refine k_g ?_;first|(refine al_gy' rfl rfl (by with_reducible rfl) ?_)|(refine al_gnt rfl rfl (by with_reducible rfl) rfl ?_)|(refine al_gnf rfl rfl (by with_reducible rfl) rfl ?_)|(refine al_gsp rfl rfl (fun hc => ?_) (fun hc => ?_) <;> (try (exfalso;omega))))|(refine k_bin ?_;first|(refine al_v (ov_cmp rfl rfl rfl) rfl ?_)|(refine al_v (ov_add rfl rfl (by (first|exact w64 (by omega) (by omega)|rfl))) rfl ?_)|(refine al_v (ov_sub rfl rfl (by (first|exact w64 (by omega) (by omega)|rfl))) rfl ?_))|(refine k_pick ?_;first|(refine al_v (ov_pick_t' rfl (by with_reducible rfl) rfl) rfl ?_)|(refine al_v (ov_pick_f' rfl (by with_reducible rfl) rfl) rfl ?_))|(refine al_v (ov_assign rfl) rfl ?_)|(refine k_call ?_;first|(refine al_v (ov_len_str rfl) rfl ?_))|(refine al_nil ?_)|(refine al_v (ov_index rfl rfl (by omega) (by omega)) rfl ?_))|(first|(refine thn_n ?_)|(refine k_awp ?_;first|(refine awp_seq (awp_region ?_))|(refine awp_seq ?_)|(refine awp_region ?_)|(refine k_cond ?_;first|(refine awp_cond_t' rfl (by with_reducible rfl) ?_)|(refine awp_cond_p rfl (fun hc => ?_) (fun hc => ?_) <;> (try (exfalso;omega))))|(refine awp_block ?_)|(refine awp_ret ?_)|(refine awp_skip ?_)|(refine awp_label ?_)|(refine awp_goto ?_))|(refine thn_ret ?_)|(refine inb_n ?_)|(refine inb_ret ?_)|(refine thn_goto ?_)|(refine jq_n ?_)|(refine jq_ret ?_)|(refine mid_ret ?_)))
        refine ret4 (by first | exact .inr rfl | exact .inl rfl) rfl rfl rfl rfl rfl ?_
        exact ⟨by rw [hT1, hst]; rfl, rfl⟩
  · intro hf
    repeat' (first|(first|(refine awp_fall (CS.mk 0 at' 0 0 0 [] .nilp 0) (hf _ ?_) ?_ ?_)|(refine al_alloc_t rfl rfl rfl (by first|exact ln0) (by repeat constructor) rfl ?_;refine al_wkn (.adoptBox (id := 0) (k := 1) (e := 5) (sz := 1) rfl rfl (by decide) rfl rfl rfl) ?_))|(refine k_al ?_;first|(refine al_v (ov_move rfl) rfl ?_)|(refine k_g ?_;first|(refine al_gy' rfl rfl (by with_reducible rfl) ?_)|(refine al_gnt rfl rfl (by with_reducible rfl) rfl ?_)|(refine al_gnf rfl rfl (by with_reducible rfl) rfl ?_)|(refine al_gsp rfl rfl (fun hc => ?_) (fun hc => ?_) <;> (try (exfalso;omega))))|(refine k_bin ?_;first|(refine al_v (ov_cmp rfl rfl rfl) rfl ?_)|(refine al_v (ov_add rfl rfl (by (first|exact w64 (by omega) (by omega)|rfl))) rfl ?_)|(refine al_v (ov_sub rfl rfl (by (first|exact w64 (by omega) (by omega)|rfl))) rfl ?_))|(refine k_pick ?_;first|(refine al_v (ov_pick_t' rfl (by with_reducible rfl) rfl) rfl ?_)|(refine al_v (ov_pick_f' rfl (by with_reducible rfl) rfl) rfl ?_))|(refine al_v (ov_assign rfl) rfl ?_)|(refine k_call ?_;first|(refine al_v (ov_len_str rfl) rfl ?_))|(refine al_nil ?_)|(refine al_v (ov_index rfl rfl (by omega) (by omega)) rfl ?_))|(first|(refine thn_n ?_)|(refine k_awp ?_;first|(refine awp_seq (awp_region ?_))|(refine awp_seq ?_)|(refine awp_region ?_)|(refine k_cond ?_;first|(refine awp_cond_t' rfl (by with_reducible rfl) ?_)|(refine awp_cond_p rfl (fun hc => ?_) (fun hc => ?_) <;> (try (exfalso;omega))))|(refine awp_block ?_)|(refine awp_ret ?_)|(refine awp_skip ?_)|(refine awp_label ?_)|(refine awp_goto ?_))|(refine thn_ret ?_)|(refine inb_n ?_)|(refine inb_ret ?_)|(refine thn_goto ?_)|(refine jq_n ?_)|(refine jq_ret ?_)|(refine mid_ret ?_)))
    · exact ⟨h, .inl rfl, Nat.zero_le _, .inl rfl, fun _ => ⟨s.length + 1, by dsimp only; omega, hT⟩, fun k => absurd k Nat.zero_ne_one⟩
    · dsimp only
      simp only [if_true]
      omega
    · exact .of (.same (by repeat constructor))
end
end Go.Proofs.YtffcgpkbibijpaaGreatDoor.L
