/- Layer 8 (parse): feeding and the next request, case by case; lists of whole numbers. -/
import Derived.Test.YtffcgpkbibijpaaGreatDoorQd6
set_option linter.unusedVariables false
set_option linter.unusedSimpArgs false
namespace Go.Proofs.YtffcgpkbibijpaaGreatDoor.L
open Go Go.RowKit Go.Proofs
set_option linter.unusedVariables false
set_option linter.unusedSimpArgs false
set_option maxRecDepth 100000
attribute [local irreducible] AL QL AWp Thn InB RetQ ACalls LoopQ HL HO HW HQ NoG JmpQ MidQ HF

theorem feedS_ok {s t : List UInt8} (h : ¬ 65536 < s.length + t.length) : feedS s 0 t = (0, s ++ t) := by unfold feedS; rw [if_neg (by decide), if_neg h]
def intAV (l : List Int) : List (List AV) := l.map fun n => [.int .i64 n]
theorem intAV_len (l : List Int) : (intAV l).length = l.length := List.length_map _
theorem intAV_row {l : List Int} {i : Nat} {c : Int} (h : l[i]? = some c) : (intAV l)[((i : Nat) : Int).toNat]? = some [.int .i64 c] := by
  have : ((i : Nat) : Int).toNat = i := rfl
  rw [this]
  unfold intAV
  rw [List.getElem?_map, h]
  rfl
section
variable {w0 : World} {base : Nat}
theorem a_left0 {st : Int} : ACalls (EE w0 base) 29 [.op 0 0] [parO true [] st] fun rv os => rv = .int .i64 0 ∧ os = [parO true [] st] := a_left
theorem a_nextM {s : List UInt8} (hG : Glob w0 base) (hs : s.length ≤ 4294967200) (h : nextL s = .more) : ACalls (EE w0 base) 23 [.op 0 0] [parO true s 0] fun rv os => rv = .tup [req0, .bool false, .int .i64 0] ∧ os = [parO true s 0] := by
  have hN := a_next (w0 := w0) (base := base) (s := s) (st := 0) hG hs
  unfold nextV at hN
  rw [if_neg (by decide), h] at hN
  exact hN
theorem a_nextB {s : List UInt8} {st : Int} (hG : Glob w0 base) (hs : s.length ≤ 4294967200) (h : nextL s = .bad st) : ACalls (EE w0 base) 23 [.op 0 0] [parO true s 0] fun rv os => rv = .tup [req0, .bool false, .int .i64 st] ∧ os = [parO true [] st] := by
  have hN := a_next (w0 := w0) (base := base) (s := s) (st := 0) hG hs
  unfold nextV at hN
  rw [if_neg (by decide), h] at hN
  exact hN
theorem a_nextG {s : List UInt8} {hd : Hd} {b : List UInt8} {k : Nat} (hG : Glob w0 base) (hs : s.length ≤ 4294967200) (h : nextL s = .got hd b k) : ACalls (EE w0 base) 23 [.op 0 0] [parO true s 0] fun rv os => rv = .tup [reqAV hd b, .bool true, .int .i64 0] ∧ os = [parO true (s.drop k) 0] := by
  have hN := a_next (w0 := w0) (base := base) (s := s) (st := 0) hG hs
  unfold nextV at hN
  rw [if_neg (by decide), h] at hN
  exact hN
end
end Go.Proofs.YtffcgpkbibijpaaGreatDoor.L
