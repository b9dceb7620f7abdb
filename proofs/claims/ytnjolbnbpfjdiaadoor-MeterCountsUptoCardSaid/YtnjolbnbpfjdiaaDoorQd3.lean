/- Part 3 of the texts behind the theorem of this claim: The logic, part 26: a text over a row of bytes; a nil row in a box is taken for an own one; The logic, part 27: a range over a text; a scope that is not jumped in; DERIVED: THE SHELF's CONTRACTS AT THIS DUMP, IN PLAIN WORDS (tools/lay-plain.mjs out of 'TrydShelf.lean', which tools/lay-shelf.mjs wrote): THE SAME DECLARATIONS UNDER THE SAME NAMES: 'import', 'namespace', 'open', 'def', 'theorem' AND NOTHING ELSE: no command of the shelf's: FOR A HAND-IN. Each laying: the table of numbers ('.._ren') and one theorem, a field a fact of the dump's own or the kernel's comparison; each contract: ONE APPLICATION; Layer 7 (head): what the library answers: strings.Cut, HasPrefix, IndexByte, Trim, strconv.Itoa; strings.Builder; The logic, part 28: what stands in a box: a row is frozen, a value is told less exactly; The logic, part 30: the greater and the smaller of two integers; The logic, part 31: a scope in which the run jumps back to labels; The logic, part 32: a held region in which two operations that change something may come up in either order; The logic, part 33: objects renamed and dropped; string(b) of bytes that never change; an and of bits; Layer 13 (code): which instructions may be; the operations' names; Layer 13 (code): the operations' names; which have an A; the text of instructions; Layer 13 (code): Print, the program's and the document's; Layer 7 (head): strings.ContainsAny at "\r\n", of any bytes; Layer 7 (head): the bytes: digits, letters, signs; Layer 6 (uri): which t -/
import Derived.Test.YtnjolbnbpfjdiaaDoorQd2
import Derived.Scope
import Derived.Laws.RangeString
import Derived.Shelf.Strings.Builder1
import Derived.Shelf.Strings.Trim
import Derived.Shelf.Small.Utf8
import Derived.Shelf.Small.Strs
import Derived.Shelf.Strings.BuilderF
import Derived.Shelf.Strings.BuilderK
import Derived.Shelf.Strconv.Atoi
import Derived.Shelf.Strconv.Itoa0
import Derived.Shelf.Strconv.Itoa1
import Derived.Shelf.LaysM
import Derived.Shelf.Strconv.Itoa2
import Derived.Shelf.Strconv.Itoa3
import Derived.Shelf.Strconv.AtoiErrFast
import Derived.Shelf.Strconv.ParseIntEmpty
import Derived.Shelf.Strconv.AtoiFail
import Derived.Shelf.Strconv.Clone
import Derived.Shelf.Strconv.SyntaxError
import Derived.Shelf.LaysC
import Derived.Shelf.Strconv.ToError
import Derived.Shelf.Strconv.Lower
import Derived.Shelf.Strconv.ParseUint10
import Derived.Shelf.Strconv.ParseUint10Empty
import Derived.Shelf.Strconv.ParseUint10Any
import Derived.Shelf.Strconv.ParseInt10
import Derived.Shelf.Strconv.AtoiLong
import Derived.Shelf.Strconv.AtoiInnerAll
import Derived.Shelf.Strconv.RangeError
import Derived.Shelf.Strconv.ToErrorRange
import Derived.Shelf.Strconv.AtoiAll
import Derived.Shelf.Strings.Search1
import Derived.Shelf.Strings.Search2
import Derived.Shelf.Strings.Search3
import Derived.Shelf.Strings.Cut
import Derived.Shelf.Strings.Count
import Derived.Shelf.Strings.Shaped
import Derived.Shelf.Strings.Prefix
import Derived.Shelf.Strings.Split
import Derived.Shelf.Unicode.Decode
import Derived.Shelf.Strings.Runes
import Derived.Shelf.Strings.RuneCount
import Derived.Shelf.Strings.IndexAny
import Derived.Shelf.Strings.AsciiSet
import Derived.Shelf.Strings.IndexAnyAll
import Derived.Shelf.Strings.Explode
import Derived.Shelf.Unicode.DecodeSlow
import Derived.Shelf.Unicode.DecodeAny
import Derived.Shelf.Unicode.DecodeLast
import Derived.Shelf.Strings.BuilderCap
import Derived.Test.YtnjolbnbpfjdiaaDoorProg
import Derived.Shelf.Strings.SlTrimAscii
import Derived.Laws.Small
import Derived.ScopeJumps
import Derived.Lib.ItoaLen
import Derived.Lib.LaidTab
import Derived.Lib.AtoiAll
import Derived.Lib.ItoaMem
import Derived.Lib.SplitLaws
set_option linter.unusedVariables false
set_option linter.unusedSimpArgs false
namespace Go.Proofs.YtnjolbnbpfjdiaaDoor.L
open Go Go.RowKit
set_option linter.unusedVariables false
set_option linter.unusedSimpArgs false

theorem freeze_at {w : World} {g n : Nat} {cur : Array Value} {e : TypeId} {fr : Nat × Nat} (h : w.heap[g]? = some (.cells cur e fr)) : ∃ fr', (w.freeze ⟨g, 0, none⟩ n).heap[g]? = some (.cells cur e fr') := by
  unfold World.freeze
  split
  · exact ⟨fr, h⟩
  · simp only [Array.getElem?_modify, if_true, h, Option.map_some]
    exact ⟨_, rfl⟩
theorem freeze_far {w : World} {g n k : Nat} (hk : k ≠ g) : (w.freeze ⟨g, 0, none⟩ n).heap[k]? = w.heap[k]? := by
  unfold World.freeze
  split
  · rfl
  · simp only [Array.getElem?_modify]
    rw [if_neg (Ne.symm hk)]
theorem freeze_size {w : World} {g n : Nat} : (w.freeze ⟨g, 0, none⟩ n).heap.size = w.heap.size := by
  unfold World.freeze
  split
  · rfl
  · simp
section
variable {E : Env} {N : Nat} {ops : Array Oper} {Q : Exit → St → Prop} {rest : List Oper} {sl : Slots} {H H' : List AO}
theorem al_ustr {p n : Operand} {id ver e : Nat} {l : List UInt8} {o o' : AO} {pt it : Nat} {nn b : Nat} {z : Value} [ti : TI E.P pt (.pointer e) nn b z] {ty : TypeId} {pos : String} {after : Array Edge} {d : Nat} (hce : E.P.cellsOf e = 1)
    (hp : ev sl p = some (.er id ver 1 0 0)) (hn : ev sl n = some (.int .i64 (l.length : Int))) (hU : Upd id H o o' H') (hsh : (o = .row e 1 ver 0 (bytesAV l) ∨ ∃ wr, o = .arr e 1 ver (bytesAV l) wr) ∧ o' = .arr e 1 ver (bytesAV l) false) (hne : l ≠ []) (hlen : l.length ≤ 9223372036854775807) (hd : Nat.blt d N = true)
    (h : AL E N ops Q rest ⟨(d, .str l) :: sl, H'⟩) : AL E N ops Q (⟨some d, .call { callee := .builtin .unsafeString, args := #[p, n], argTypes := #[pt, it] }, ty, pos, after, none⟩ :: rest) ⟨sl, H⟩ := by
  obtain ⟨hid, hset⟩ := hU.eq
  subst hset
  obtain ⟨ho, rfl⟩ := hsh
  refine al_mem hd (fun I ν a w hh hs => ?_) h
  have e2 := (ev_ok hs hn).int_inv
  have hp' := ev_ok hs hp
  obtain ⟨pv, hpv⟩ : ∃ v, a.eval p = v := ⟨_, rfl⟩
  rw [hpv] at hp'
  have hbl : (bytesAV l).length = l.length := List.length_map _
  have hlp : 0 < l.length := List.length_pos_iff.2 hne
  cases hp' with
  | pure hp' => cases hp'
  | er _ _ _ _ _ g n2 c hidl hver hval =>
  have key : ∃ cur fr, w.heap[g]? = some (.cells cur e fr) ∧ l.length ≤ cur.size ∧ n2 = l.length ∧ l.length ≤ c ∧ cur.toList.take l.length = (l.map fun b => Value.int .u8 (b.toNat : Int)) ∧ (∀ o, ¬ I g o) ∧ OB ν id o = some g ∧ o ≠ .gone ∧ E.base ≤ g := by
    rcases ho with rfl | ⟨wr, rfl⟩
    · cases hh.obj id _ hid with
      | row _ _ _ _ _ inner ht h0 hown hr hf hI =>
        have hin := bytes_rowRel hr
        subst hin
        rw [hval] at hown hI
        rcases hown.2 with ⟨e1, e2⟩ | ⟨g', cap, cur, h1, h2, h3, h4, h5, h6, h7⟩
        · cases e1
        · injection h1 with h1 h1b h1c
          injection h1 with h1; injection h1 with h1
          subst h1
          rw [Nat.mul_one] at h6 h7
          refine ⟨cur, _, h3, by omega, by omega, by omega, by rw [← hbl]; exact h7, fun o hio => ?_, by simp only [OB, hval, Value.ownBlock], (fun e => by cases e), h2⟩
          have := hI g o rfl hio
          omega
    · cases hh.obj id _ hid with
      | arr _ _ _ _ _ g' c' cur fr ht h0 hv' hb hheap hfr hl hcc hr hI =>
        rw [hval] at hv'
        injection hv' with e1 e2 e3
        injection e1 with e1
        injection e1 with e1
        subst e1
        have hin := bytes_rowRel hr
        rw [Nat.mul_one, hbl] at hl hin
        exact ⟨cur, fr, hheap, hl, by omega, by omega, hin, hI, by simp only [OB, hval, Value.ownBlock], (fun e => by cases e), hb⟩
  obtain ⟨cur, fr, hheap, hl, hn2, hlc, ht, hI, hOB, hng, hbase⟩ := key
  obtain ⟨w', hw'⟩ : ∃ w', w' = w.freeze ⟨g, 0, none⟩ l.length := ⟨_, rfl⟩
  obtain ⟨fr', hheap'⟩ := freeze_at (n := l.length) hheap
  rw [← hw'] at hheap'
  have hfar : ∀ k, k ≠ g → w'.heap[k]? = w.heap[k]? := fun k hk => by rw [hw']; exact freeze_far hk
  have hsz : w'.heap.size = w.heap.size := by rw [hw']; exact freeze_size
  have hIm : ImmLe w I w' I := ImmLe.heap hh fun k _ ⟨o, ho⟩ => hfar k fun e => hI o (e ▸ ho)
  have hrun := Lib.run_unsafeString_row (P := E.P) (w := w) pt it ty e ti.u hce g cur.size (by simp [World.shape?, hheap]) l hne hl hlen (fun j x hj => bytes_cell hheap ht hj)
  rw [← hw'] at hrun
  have hbel : Below E.base E.w0 w' := by rw [hw']; exact Lib.below_freeze hh.below hbase _
  have htop : ver ≤ ν.top id := hver
  have := hh.set (o' := .arr e 1 ver (bytesAV l) false) (w' := w') hid hng (Nu.le.refl ν) rfl (fun _ _ => rfl) hbel (by omega) (fun k _ hk => hfar k (fun e => hk (by rw [hOB, e]))) hIm
    (.arr e 1 ver (bytesAV l) false g c cur fr' htop (by decide) (by rw [hval, hn2, hbl]) hbase hheap' (fun h => by cases h) (by rw [hbl, Nat.mul_one]; exact hl) (by rw [hbl]; exact hlc) (by rw [hbl, Nat.mul_one, ht]; exact rowRel_bytes) hI)
    (fun b' hb' => by simp only [OB, hval, Value.ownBlock, Option.some.injEq] at hb'; exact .inl (by rw [hOB, ← hb']))
  refine ⟨_, w', ν, fun o ho => ?_, this.1, this.2, Nu.le.refl ν, .pure (.str l)⟩
  have hz : (⟨g, 0 * 1 + 0, none⟩ : Addr) = ⟨g, 0, none⟩ := rfl
  have : (Builtin.unsafeString_ #[pt, it] o.type #[.pointer (some ⟨g, 0 * 1 + 0, none⟩), .int .i64 l.length]).run E.P w = .ok (.string ⟨l.toArray⟩) w' := hrun
  simp [execOp, ho, hpv, e2, resolve, invoke, builtin]
  simp at this
  rw [this]
  rfl

/-- A nil row in a box is taken for an own one. -/
theorem adoptBox_sr {I : Imm} {ν : Nu} {a : Act} {w : World} {id k e sz : Nat} {cells : List AV} {tyo : Option Nat} (hs : SR E N I ν ⟨sl, H⟩ a w) (hH : H[id]? = some (.box cells tyo)) (hk : cells[k]? = some .nilsl) (h0 : 0 < sz) :
    ∃ ν', SR E N I ν' ⟨sl, (H ++ [AO.row e sz 0 0 []]).set id (.box (cells.set k (.os H.length 0)) tyo)⟩ a w ∧ FR E.k w I ν H w I ν' ((H ++ [AO.row e sz 0 0 []]).set id (.box (cells.set k (.os H.length 0)) tyo)) := by
  have hh := hs.hr
  obtain ⟨ν', p1, p2, p3, p4⟩ := row_push (w' := w) hh (xs := []) (v := .slice none 0 0) (inner := []) (e := e) (n := 0) h0 rfl (World.ownsRow_nil w E.base e sz) ⟨by simp, fun i c h => by simp at h⟩ hh.below (Nat.le_refl _) (fun _ _ => rfl) (fun b hb => by simp [Value.ownBlock] at hb)
  have hlt : id < H.length := (List.getElem?_eq_some_iff.1 hH).1
  have hH' : (H ++ [AO.row e sz 0 0 []])[id]? = some (.box cells tyo) := by rw [List.getElem?_append_left hlt]; exact hH
  have hset := (show HR E I ν' ((H ++ [AO.row e sz 0 0 []]).set id (.box (cells.set k (.os H.length 0)) tyo)) w ∧ FR E.k w I ν' (H ++ [AO.row e sz 0 0 []]) w I ν' ((H ++ [AO.row e sz 0 0 []]).set id (.box (cells.set k (.os H.length 0)) tyo)) by
    cases p1.obj id _ hH' with
    | box _ _ b vs ty hv hb hheap hl hx hI hty =>
      have hOB : OB ν' id (.box cells tyo) = some b := by simp only [OB, hv]
      have hkl : k < cells.length := (List.getElem?_eq_some_iff.1 hk).1
      refine p1.set (o' := .box (cells.set k (.os H.length 0)) tyo) hH' (fun e => by cases e) (Nu.le.refl ν') rfl (fun _ _ => rfl) p1.below (Nat.le_refl _) (fun _ _ _ => rfl) (ImmLe.refl _ _)
        (.box _ tyo b vs ty hv hb hheap (by simpa using hl) (fun j x v h1 h2 => ?_) hI hty) (fun b' hb' => by simp only [OB, hv, Option.some.injEq] at hb'; exact .inl (by rw [hOB, ← hb']))
      by_cases e1 : j = k
      · subst e1
        rw [List.getElem?_set_self hkl] at h1
        injection h1 with h1
        subst h1
        have := (hx j .nilsl v hk h2).nilsl_inv
        rw [this]
        exact p4
      · rw [List.getElem?_set_ne (Ne.symm e1)] at h1
        exact hx j x v h1 h2)
  exact ⟨ν', ⟨hset.1, hs.sl.mono p2.imm p3, hs.df, hs.nt⟩, p2.trans hset.2⟩
theorem Wkn.adoptBox {id k e sz m : Nat} {cells cells' : List AV} {tyo : Option Nat} {H1 : List AO} (hH : H[id]? = some (.box cells tyo)) (hk : cells[k]? = some .nilsl) (h0 : 0 < sz) (hm : H.length = m) (hc : cells' = cells.set k (.os m 0)) (h1 : H1 = (H ++ [AO.row e sz 0 0 []]).set id (.box cells' tyo)) : Wkn E N ⟨sl, H⟩ ⟨sl, H1⟩ := fun I ν a w hs => by
  subst hm; subst hc; subst h1
  obtain ⟨ν', h2, h3⟩ := adoptBox_sr (e := e) (sz := sz) hs hH hk h0
  exact ⟨I, ν', h2, h3⟩
end
end Go.Proofs.YtnjolbnbpfjdiaaDoor.L

namespace Go.Proofs.YtnjolbnbpfjdiaaDoor.L
open Go Go.RowKit
set_option linter.unusedVariables false
set_option linter.unusedSimpArgs false

def NoG (Q : Exit → St → Prop) : Exit → St → Prop
  | .goto _, _ => False
  | e, σ => Q e σ
section
variable {E : Env} {N : Nat} {ops : Array Oper} {Q : Exit → St → Prop} {rest : List Oper} {sl : Slots} {H H' : List AO}
/-- What a step of a range over a text finds. -/
structure DecF (s : List UInt8) (pos c wd : Nat) : Prop where
  wd1 : 1 ≤ wd
  kind : (∃ b : UInt8, s[pos]? = some b ∧ b.toNat < 128 ∧ c = b.toNat ∧ wd = 1) ∨ (128 ≤ c ∧ ∀ (k : Nat) (b : UInt8), k < wd → s[pos + k]? = some b → 128 ≤ b.toNat)
end
end Go.Proofs.YtnjolbnbpfjdiaaDoor.L

namespace Go.Proofs
open Go.Shelf
def Tryd.lays161_ren : Go.Shelf.Ren := ⟨fun|161 => 49|231 => 69|227 => 70|233 => 71|235 => 72|228 => 91|197 => 92|151 => 93|260 => 115|152 => 95|137 => 79|119 => 117|224 => 113|225 => 112|217 => 97|266 => 118|n => n, fun|9 => 9|4 => 4|3 => 3|5 => 5|117 => 112|116 => 111|0 => 0|124 => 115|105 => 127|21 => 21|119 => 158|46 => 144|139 => 161|138 => 160|n => n, fun|3 => 4|4 => 5|n => n⟩
def Tryd.lays160_ren : Go.Shelf.Ren := ⟨fun|160 => 50|232 => 73|231 => 69|227 => 70|234 => 74|233 => 71|236 => 75|235 => 72|228 => 91|271 => 94|151 => 93|197 => 92|120 => 116|152 => 95|260 => 115|137 => 79|119 => 117|224 => 113|225 => 112|217 => 97|266 => 118|n => n, fun|9 => 9|4 => 4|3 => 3|5 => 5|117 => 112|116 => 111|0 => 0|124 => 115|21 => 21|105 => 127|46 => 144|119 => 158|139 => 161|138 => 160|n => n, fun|3 => 4|4 => 5|n => n⟩
theorem Tryd.lays160 : Go.Proofs.Lays.n160 Tryd.prog Tryd.lays160_ren := {
  mixed := by kernel_rfl
  f119 := Tryd.func117.trans (congrArg some (by kernel_rfl))
  f120 := Tryd.func116.trans (congrArg some (by kernel_rfl))
  f137 := Tryd.func79.trans (congrArg some (by kernel_rfl))
  f151 := Tryd.func93.trans (congrArg some (by kernel_rfl))
  f152 := Tryd.func95.trans (congrArg some (by kernel_rfl))
  f160 := Tryd.func50.trans (congrArg some (by kernel_rfl))
  f197 := Tryd.func92.trans (congrArg some (by kernel_rfl))
  f217 := Tryd.func97.trans (congrArg some (by kernel_rfl))
  f224 := Tryd.func113.trans (congrArg some (by kernel_rfl))
  f225 := Tryd.func112.trans (congrArg some (by kernel_rfl))
  f227 := Tryd.func70.trans (congrArg some (by kernel_rfl))
  f228 := Tryd.func91.trans (congrArg some (by kernel_rfl))
  f231 := Tryd.func69.trans (congrArg some (by kernel_rfl))
  f232 := Tryd.func73.trans (congrArg some (by kernel_rfl))
  f233 := Tryd.func71.trans (congrArg some (by kernel_rfl))
  f234 := Tryd.func74.trans (congrArg some (by kernel_rfl))
  f235 := Tryd.func72.trans (congrArg some (by kernel_rfl))
  f236 := Tryd.func75.trans (congrArg some (by kernel_rfl))
  f260 := Tryd.func115.trans (congrArg some (by kernel_rfl))
  f266 := Tryd.func118.trans (congrArg some (by kernel_rfl))
  f271 := Tryd.func94.trans (congrArg some (by kernel_rfl))
  t0 := Tryd.underlying0
  a0 := Tryd.isAgg0
  z0 := Tryd.sizeOf0
  v0 := Tryd.zeroValue0
  t3 := Tryd.underlying3
  a3 := Tryd.isAgg3
  z3 := Tryd.sizeOf3
  v3 := Tryd.zeroValue3
  t4 := Tryd.underlying4
  a4 := Tryd.isAgg4
  z4 := Tryd.sizeOf4
  v4 := Tryd.zeroValue4
  t5 := Tryd.underlying5
  a5 := Tryd.isAgg5
  z5 := Tryd.sizeOf5
  v5 := Tryd.zeroValue5
  t9 := Tryd.underlying9
  a9 := Tryd.isAgg9
  z9 := Tryd.sizeOf9
  v9 := Tryd.zeroValue9
  t21 := Tryd.underlying21
  a21 := Tryd.isAgg21
  z21 := Tryd.sizeOf21
  v21 := Tryd.zeroValue21
  t46 := Tryd.underlying144
  a46 := Tryd.isAgg144
  z46 := Tryd.sizeOf144
  v46 := Tryd.zeroValue144
  t105 := Tryd.underlying127
  a105 := Tryd.isAgg127
  z105 := Tryd.sizeOf127
  v105 := Tryd.zeroValue127
  t116 := Tryd.underlying111
  a116 := Tryd.isAgg111
  z116 := Tryd.sizeOf111
  t117 := Tryd.underlying112
  a117 := Tryd.isAgg112
  z117 := Tryd.sizeOf112
  v117 := Tryd.zeroValue112
  t119 := Tryd.underlying158
  a119 := Tryd.isAgg158
  z119 := Tryd.sizeOf158
  t124 := Tryd.underlying115
  a124 := Tryd.isAgg115
  z124 := Tryd.sizeOf115
  v124 := Tryd.zeroValue115
  t138 := Tryd.underlying160
  a138 := Tryd.isAgg160
  z138 := Tryd.sizeOf160
  v138 := Tryd.zeroValue160
  t139 := Tryd.underlying161
  a139 := Tryd.isAgg161
  z139 := Tryd.sizeOf161
  v139 := Tryd.zeroValue161
  g3 := by kernel_rfl
  g4 := by kernel_rfl }
def Tryd.lays137_ren : Go.Shelf.Ren := ⟨fun | 137 => 79 | 217 => 97 | 266 => 118 | n => n, fun | 9 => 9 | 5 => 5 | 3 => 3 | n => n, fun | n => n⟩
theorem Tryd.lays137 : Go.Proofs.Lays.n137 Tryd.prog Tryd.lays137_ren := {
  mixed := by kernel_rfl
  f137 := Tryd.func79.trans (congrArg some (by kernel_rfl))
  f217 := Tryd.func97.trans (congrArg some (by kernel_rfl))
  f266 := Tryd.func118.trans (congrArg some (by kernel_rfl))
  t3 := Tryd.underlying3
  a3 := Tryd.isAgg3
  z3 := Tryd.sizeOf3
  v3 := Tryd.zeroValue3
  t5 := Tryd.underlying5
  a5 := Tryd.isAgg5
  z5 := Tryd.sizeOf5
  v5 := Tryd.zeroValue5
  t9 := Tryd.underlying9
  a9 := Tryd.isAgg9
  z9 := Tryd.sizeOf9
  v9 := Tryd.zeroValue9 }
open Go.RowKit in
/-- strings.IndexByte: "IndexByte returns the index of the first instance of c in s, or -1 if c is not present in s.": IT RETURNS 'Lib.indexByte s c'; the world is as it was. (LAID: no walk: one application.) -/
theorem Tryd.strings_IndexByte (s : ByteArray) (c : Int) (w : World) :
    Calls Tryd.prog 79 #[.string s, .int .u8 c] w fun e w' => e = .returned (.int .i64 (Lib.indexByte s.data.toList c.toNat.toUInt8)) ∧ w' = w := Any.strings_IndexByte Tryd.lays137 s c w
def Tryd.lays172_ren : Go.Shelf.Ren := ⟨fun|172 => 60|244 => 82|245 => 83|247 => 102|279 => 103|280 => 104|281 => 105|282 => 106|287 => 124|316 => 125|171 => 30|205 => 126|321 => 130|322 => 131|243 => 58|246 => 81|283 => 98|284 => 99|285 => 100|286 => 101|129 => 120|317 => 119|318 => 121|319 => 122|320 => 123|337 => 128|338 => 129|n => n, fun|9 => 9|3 => 3|75 => 56|76 => 57|4 => 4|5 => 5|167 => 137|37 => 52|0 => 0|85 => 138|2 => 2|168 => 140|53 => 132|175 => 151|46 => 144|210 => 154|127 => 102|145 => 166|143 => 164|21 => 21|171 => 131|173 => 135|212 => 147|51 => 148|20 => 20|213 => 149|232 => 167|233 => 168|80 => 63|n => n, fun|15 => 2|16 => 3|17 => 1|18 => 6|19 => 7|n => n⟩
def Tryd.laysM246_ren : Go.Shelf.Ren := ⟨fun|246 => 81|283 => 98|284 => 99|285 => 100|286 => 101|129 => 120|317 => 119|318 => 121|319 => 122|320 => 123|337 => 128|338 => 129|n => n, fun|2 => 2|3 => 3|9 => 9|4 => 4|171 => 131|0 => 0|53 => 132|37 => 52|5 => 5|173 => 135|212 => 147|51 => 148|20 => 20|213 => 149|46 => 144|232 => 167|233 => 168|n => n, fun|17 => 1|18 => 6|19 => 7|n => n⟩
def Tryd.laysM243_ren : Go.Shelf.Ren := ⟨fun|243 => 58|246 => 81|283 => 98|284 => 99|285 => 100|286 => 101|129 => 120|317 => 119|318 => 121|319 => 122|320 => 123|337 => 128|338 => 129|n => n, fun|3 => 3|9 => 9|2 => 2|4 => 4|171 => 131|0 => 0|53 => 132|37 => 52|5 => 5|173 => 135|212 => 147|51 => 148|20 => 20|213 => 149|46 => 144|232 => 167|233 => 168|n => n, fun|17 => 1|18 => 6|19 => 7|n => n⟩
def Tryd.laysM171_ren : Go.Shelf.Ren := ⟨fun|171 => 30|243 => 58|246 => 81|283 => 98|284 => 99|285 => 100|286 => 101|129 => 120|317 => 119|318 => 121|319 => 122|320 => 123|337 => 128|338 => 129|n => n, fun|3 => 3|9 => 9|2 => 2|4 => 4|171 => 131|0 => 0|53 => 132|37 => 52|5 => 5|173 => 135|212 => 147|51 => 148|20 => 20|213 => 149|46 => 144|232 => 167|233 => 168|n => n, fun|17 => 1|18 => 6|19 => 7|n => n⟩
theorem Tryd.laysM171 : Go.Proofs.LaysM.n171 Tryd.prog Tryd.laysM171_ren := {
  mixed := by kernel_rfl
  f129 := Tryd.func120.trans (congrArg some (by kernel_rfl))
  f171 := Tryd.func30.trans (congrArg some (by kernel_rfl))
  f243 := Tryd.func58.trans (congrArg some (by kernel_rfl))
  f246 := Tryd.func81.trans (congrArg some (by kernel_rfl))
  f283 := Tryd.func98.trans (congrArg some (by kernel_rfl))
  f284 := Tryd.func99.trans (congrArg some (by kernel_rfl))
  f285 := Tryd.func100.trans (congrArg some (by kernel_rfl))
  f286 := Tryd.func101.trans (congrArg some (by kernel_rfl))
  f317 := Tryd.func119.trans (congrArg some (by kernel_rfl))
  f318 := Tryd.func121.trans (congrArg some (by kernel_rfl))
  f319 := Tryd.func122.trans (congrArg some (by kernel_rfl))
  f320 := Tryd.func123.trans (congrArg some (by kernel_rfl))
  f337 := Tryd.func128.trans (congrArg some (by kernel_rfl))
  f338 := Tryd.func129.trans (congrArg some (by kernel_rfl))
  t0 := Tryd.underlying0
  a0 := Tryd.isAgg0
  z0 := Tryd.sizeOf0
  v0 := Tryd.zeroValue0
  t2 := Tryd.underlying2
  a2 := Tryd.isAgg2
  z2 := Tryd.sizeOf2
  v2 := Tryd.zeroValue2
  t3 := Tryd.underlying3
  a3 := Tryd.isAgg3
  z3 := Tryd.sizeOf3
  v3 := Tryd.zeroValue3
  t4 := Tryd.underlying4
  a4 := Tryd.isAgg4
  z4 := Tryd.sizeOf4
  v4 := Tryd.zeroValue4
  t5 := Tryd.underlying5
  a5 := Tryd.isAgg5
  z5 := Tryd.sizeOf5
  v5 := Tryd.zeroValue5
  t9 := Tryd.underlying9
  a9 := Tryd.isAgg9
  z9 := Tryd.sizeOf9
  v9 := Tryd.zeroValue9
  t20 := Tryd.underlying20
  a20 := Tryd.isAgg20
  z20 := Tryd.sizeOf20
  v20 := Tryd.zeroValue20
  t37 := Tryd.underlying52
  a37 := Tryd.isAgg52
  z37 := Tryd.sizeOf52
  v37 := Tryd.zeroValue52
  t46 := Tryd.underlying144
  a46 := Tryd.isAgg144
  z46 := Tryd.sizeOf144
  v46 := Tryd.zeroValue144
  t51 := Tryd.underlying148
  a51 := Tryd.isAgg148
  z51 := Tryd.sizeOf148
  v51 := Tryd.zeroValue148
  t53 := Tryd.underlying132
  a53 := Tryd.isAgg132
  z53 := Tryd.sizeOf132
  v53 := Tryd.zeroValue132
  t171 := Tryd.underlying131
  a171 := Tryd.isAgg131
  z171 := Tryd.sizeOf131
  v171 := Tryd.zeroValue131
  t173 := Tryd.underlying135
  a173 := Tryd.isAgg135
  z173 := Tryd.sizeOf135
  v173 := Tryd.zeroValue135
  t212 := Tryd.underlying147
  a212 := Tryd.isAgg147
  z212 := Tryd.sizeOf147
  v212 := Tryd.zeroValue147
  t213 := Tryd.underlying149
  a213 := Tryd.isAgg149
  z213 := Tryd.sizeOf149
  t232 := Tryd.underlying167
  a232 := Tryd.isAgg167
  z232 := Tryd.sizeOf167
  v232 := Tryd.zeroValue167
  t233 := Tryd.underlying168
  a233 := Tryd.isAgg168
  z233 := Tryd.sizeOf168
  v233 := Tryd.zeroValue168
  g17 := by kernel_rfl
  g18 := by kernel_rfl
  g19 := by kernel_rfl
  i0 := by kernel_rfl
  i2 := by kernel_rfl
  i3 := by kernel_rfl
  i4 := by kernel_rfl
  i5 := by kernel_rfl
  i9 := by kernel_rfl
  i20 := by kernel_rfl
  i37 := by kernel_rfl
  i46 := by kernel_rfl
  i51 := by kernel_rfl
  i53 := by kernel_rfl
  i171 := by kernel_rfl
  i173 := by kernel_rfl
  i212 := by kernel_rfl
  i232 := by kernel_rfl
  i233 := by kernel_rfl
  m17 := by kernel_rfl
  m18 := by kernel_rfl
  m19 := by kernel_rfl }
open Go.RowKit Go.Sort Go.Lib in
/-- strconv.Itoa: "Itoa is equivalent to FormatInt(int64(i), 10).": i's DECIMAL NUMERAL ('Lib.itoa': a '-' where i is negative, then the digits), FOR EVERY int. The world behind the call: the world before it, new blocks behind the heap (the library's 'var a [24]byte'), draws. (LAID: no walk: one application.) -/
theorem Tryd.strconv_Itoa (n : Int) (h0 : -9223372036854775808 ≤ n) (h1 : n ≤ 9223372036854775807) (w : World) (htab : Lib.TabIs Tryd.prog w "internal/strconv.uint64pow10" .u64 Lib.pow10Tab) :
    Calls Tryd.prog 30 #[.int .i64 n] w fun e w' => e = .returned (.string ⟨(Lib.itoa n).toArray⟩) ∧ ∃ k os, w' = grow (w.drewN k) os := Any.strconv_Itoa Tryd.laysM171 n h0 h1 w htab
def Tryd.laysC172_ren : Go.Shelf.Ren := ⟨fun|172 => 60|244 => 82|245 => 83|247 => 102|279 => 103|280 => 104|281 => 105|282 => 106|287 => 124|316 => 125|171 => 30|205 => 126|321 => 130|322 => 131|243 => 58|246 => 81|283 => 98|284 => 99|285 => 100|286 => 101|129 => 120|317 => 119|318 => 121|319 => 122|320 => 123|337 => 128|338 => 129|n => n, fun|9 => 9|3 => 3|75 => 56|76 => 57|4 => 4|5 => 5|167 => 137|37 => 52|0 => 0|85 => 138|2 => 2|168 => 140|53 => 132|175 => 151|46 => 144|210 => 154|127 => 102|145 => 166|143 => 164|21 => 21|171 => 131|173 => 135|212 => 147|51 => 148|20 => 20|213 => 149|232 => 167|233 => 168|80 => 63|n => n, fun|15 => 2|16 => 3|17 => 1|18 => 6|19 => 7|n => n⟩
theorem Tryd.laysC172 : Go.Proofs.LaysC.n172 Tryd.prog Tryd.laysC172_ren := {
  mixed := by kernel_rfl
  f129 := Tryd.func120.trans (congrArg some (by kernel_rfl))
  f171 := Tryd.func30.trans (congrArg some (by kernel_rfl))
  f172 := Tryd.func60.trans (congrArg some (by kernel_rfl))
  f205 := Tryd.func126.trans (congrArg some (by kernel_rfl))
  f243 := Tryd.func58.trans (congrArg some (by kernel_rfl))
  f244 := Tryd.func82.trans (congrArg some (by kernel_rfl))
  f245 := Tryd.func83.trans (congrArg some (by kernel_rfl))
  f246 := Tryd.func81.trans (congrArg some (by kernel_rfl))
  f247 := Tryd.func102.trans (congrArg some (by kernel_rfl))
  f279 := Tryd.func103.trans (congrArg some (by kernel_rfl))
  f280 := Tryd.func104.trans (congrArg some (by kernel_rfl))
  f281 := Tryd.func105.trans (congrArg some (by kernel_rfl))
  f282 := Tryd.func106.trans (congrArg some (by kernel_rfl))
  f283 := Tryd.func98.trans (congrArg some (by kernel_rfl))
  f284 := Tryd.func99.trans (congrArg some (by kernel_rfl))
  f285 := Tryd.func100.trans (congrArg some (by kernel_rfl))
  f286 := Tryd.func101.trans (congrArg some (by kernel_rfl))
  f287 := Tryd.func124.trans (congrArg some (by kernel_rfl))
  f316 := Tryd.func125.trans (congrArg some (by kernel_rfl))
  f317 := Tryd.func119.trans (congrArg some (by kernel_rfl))
  f318 := Tryd.func121.trans (congrArg some (by kernel_rfl))
  f319 := Tryd.func122.trans (congrArg some (by kernel_rfl))
  f320 := Tryd.func123.trans (congrArg some (by kernel_rfl))
  f321 := Tryd.func130.trans (congrArg some (by kernel_rfl))
  f322 := Tryd.func131.trans (congrArg some (by kernel_rfl))
  f337 := Tryd.func128.trans (congrArg some (by kernel_rfl))
  f338 := Tryd.func129.trans (congrArg some (by kernel_rfl))
  t0 := Tryd.underlying0
  a0 := Tryd.isAgg0
  z0 := Tryd.sizeOf0
  v0 := Tryd.zeroValue0
  t2 := Tryd.underlying2
  a2 := Tryd.isAgg2
  z2 := Tryd.sizeOf2
  v2 := Tryd.zeroValue2
  t3 := Tryd.underlying3
  a3 := Tryd.isAgg3
  z3 := Tryd.sizeOf3
  v3 := Tryd.zeroValue3
  t4 := Tryd.underlying4
  a4 := Tryd.isAgg4
  z4 := Tryd.sizeOf4
  v4 := Tryd.zeroValue4
  t5 := Tryd.underlying5
  a5 := Tryd.isAgg5
  z5 := Tryd.sizeOf5
  v5 := Tryd.zeroValue5
  t9 := Tryd.underlying9
  a9 := Tryd.isAgg9
  z9 := Tryd.sizeOf9
  v9 := Tryd.zeroValue9
  t20 := Tryd.underlying20
  a20 := Tryd.isAgg20
  z20 := Tryd.sizeOf20
  v20 := Tryd.zeroValue20
  t21 := Tryd.underlying21
  a21 := Tryd.isAgg21
  z21 := Tryd.sizeOf21
  v21 := Tryd.zeroValue21
  t37 := Tryd.underlying52
  a37 := Tryd.isAgg52
  z37 := Tryd.sizeOf52
  v37 := Tryd.zeroValue52
  t46 := Tryd.underlying144
  a46 := Tryd.isAgg144
  z46 := Tryd.sizeOf144
  v46 := Tryd.zeroValue144
  t51 := Tryd.underlying148
  a51 := Tryd.isAgg148
  z51 := Tryd.sizeOf148
  v51 := Tryd.zeroValue148
  t53 := Tryd.underlying132
  a53 := Tryd.isAgg132
  z53 := Tryd.sizeOf132
  v53 := Tryd.zeroValue132
  t75 := Tryd.underlying56
  a75 := Tryd.isAgg56
  z75 := Tryd.sizeOf56
  v75 := Tryd.zeroValue56
  t76 := Tryd.underlying57
  a76 := Tryd.isAgg57
  z76 := Tryd.sizeOf57
  v76 := Tryd.zeroValue57
  t85 := Tryd.underlying138
  a85 := Tryd.isAgg138
  z85 := Tryd.sizeOf138
  v85 := Tryd.zeroValue138
  t127 := Tryd.underlying102
  a127 := Tryd.isAgg102
  z127 := Tryd.sizeOf102
  v127 := Tryd.zeroValue102
  t143 := Tryd.underlying164
  a143 := Tryd.isAgg164
  z143 := Tryd.sizeOf164
  v143 := Tryd.zeroValue164
  t145 := Tryd.underlying166
  a145 := Tryd.isAgg166
  z145 := Tryd.sizeOf166
  v145 := Tryd.zeroValue166
  t167 := Tryd.underlying137
  a167 := Tryd.isAgg137
  z167 := Tryd.sizeOf137
  v167 := Tryd.zeroValue137
  t168 := Tryd.underlying140
  a168 := Tryd.isAgg140
  z168 := Tryd.sizeOf140
  v168 := Tryd.zeroValue140
  t171 := Tryd.underlying131
  a171 := Tryd.isAgg131
  z171 := Tryd.sizeOf131
  v171 := Tryd.zeroValue131
  t173 := Tryd.underlying135
  a173 := Tryd.isAgg135
  z173 := Tryd.sizeOf135
  v173 := Tryd.zeroValue135
  t175 := Tryd.underlying151
  a175 := Tryd.isAgg151
  z175 := Tryd.sizeOf151
  v175 := Tryd.zeroValue151
  t210 := Tryd.underlying154
  a210 := Tryd.isAgg154
  z210 := Tryd.sizeOf154
  v210 := Tryd.zeroValue154
  t212 := Tryd.underlying147
  a212 := Tryd.isAgg147
  z212 := Tryd.sizeOf147
  v212 := Tryd.zeroValue147
  t213 := Tryd.underlying149
  a213 := Tryd.isAgg149
  z213 := Tryd.sizeOf149
  t232 := Tryd.underlying167
  a232 := Tryd.isAgg167
  z232 := Tryd.sizeOf167
  v232 := Tryd.zeroValue167
  t233 := Tryd.underlying168
  a233 := Tryd.isAgg168
  z233 := Tryd.sizeOf168
  v233 := Tryd.zeroValue168
  g15 := by kernel_rfl
  g16 := by kernel_rfl
  g17 := by kernel_rfl
  g18 := by kernel_rfl
  g19 := by kernel_rfl
  t80 := Tryd.underlying63
  a80 := Tryd.isAgg63
  z80 := Tryd.sizeOf63
  v80 := Tryd.zeroValue63
  i0 := by kernel_rfl
  i2 := by kernel_rfl
  i3 := by kernel_rfl
  i4 := by kernel_rfl
  i5 := by kernel_rfl
  i9 := by kernel_rfl
  i20 := by kernel_rfl
  i21 := by kernel_rfl
  i37 := by kernel_rfl
  i46 := by kernel_rfl
  i51 := by kernel_rfl
  i53 := by kernel_rfl
  i75 := by kernel_rfl
  i76 := by kernel_rfl
  i80 := by kernel_rfl
  i85 := by kernel_rfl
  i127 := by kernel_rfl
  i143 := by kernel_rfl
  i145 := by kernel_rfl
  i167 := by kernel_rfl
  i168 := by kernel_rfl
  i171 := by kernel_rfl
  i173 := by kernel_rfl
  i175 := by kernel_rfl
  i210 := by kernel_rfl
  i212 := by kernel_rfl
  i232 := by kernel_rfl
  i233 := by kernel_rfl
  m15 := by kernel_rfl
  m16 := by kernel_rfl
  m17 := by kernel_rfl
  m18 := by kernel_rfl
  m19 := by kernel_rfl
  c0 := by kernel_rfl
  c2 := by kernel_rfl
  c3 := by kernel_rfl
  c4 := by kernel_rfl
  c5 := by kernel_rfl
  c9 := by kernel_rfl
  c20 := by kernel_rfl
  c21 := by kernel_rfl
  c37 := by kernel_rfl
  c46 := by kernel_rfl
  c51 := by kernel_rfl
  c53 := by kernel_rfl
  c75 := by kernel_rfl
  c76 := by kernel_rfl
  c80 := by kernel_rfl
  c85 := by kernel_rfl
  c127 := by kernel_rfl
  c143 := by kernel_rfl
  c145 := by kernel_rfl
  c167 := by kernel_rfl
  c168 := by kernel_rfl
  c171 := by kernel_rfl
  c173 := by kernel_rfl
  c175 := by kernel_rfl
  c210 := by kernel_rfl
  c212 := by kernel_rfl
  c213 := by kernel_rfl
  c232 := by kernel_rfl
  c233 := by kernel_rfl }
open Go.RowKit in
/-- strconv.Atoi, AT EVERY STRING THAT SPELLS AN int ('Lib.atoiAll .. = .ok v'; of whatever length: leading zeros count): v, AND NO ERROR. The world: as it was, or with the one new row that '[]byte(..)' lays. (LAID: no walk: one application.) -/
theorem Tryd.strconv_Atoi_ok (s : ByteArray) (hmax : s.size ≤ 9223372036854775806) (v : Int) (h : Lib.atoiAll s.data.toList = .ok v) (w : World) :
    Calls Tryd.prog 60 #[.string s] w fun e w' => e = .returned (.tuple #[.int .i64 v, .nilIface]) ∧ (w' = w ∨ ∃ t, w' = Lib.bytesWorld w 5 t) := Any.strconv_Atoi_ok Tryd.laysC172 s hmax v h w
open Go.RowKit in
/-- strconv.Atoi, AT EVERY STRING THAT IS NO DECIMAL NUMERAL ('.syntax'): 0, AND AN ERROR THAT IS NOT nil: a *NumError in a new block N: {Func: "Atoi", Num: s's bytes, Err: what the variable ErrSyntax holds}. Of what was there nothing has turned. (LAID: no walk: one application.) -/
theorem Tryd.strconv_Atoi_syntax (s : ByteArray) (hlim : s.size ≤ 281474976710656) (h : Lib.atoiAll s.data.toList = Lib.NumEnd.syntax) (ev : Value) (w : World) (hv : w.cell? ⟨2, 0, none⟩ = some ev) (hev : ev = .nilIface ∨ ∃ te pe, ev = .iface te pe) :
    Calls Tryd.prog 60 #[.string s] w fun e w' => ∃ N, e = .returned (.tuple #[.int .i64 (0), .iface 140 (.pointer (some ⟨N, 0, none⟩))]) ∧ w.heap.size ≤ N ∧ w'.heap[N]? = some (.cells #[.string ⟨#[65, 116, 111, 105]⟩, .string s, ev] 154 (0, 0)) ∧ Below w.heap.size w w' := Any.strconv_Atoi_syntax Tryd.laysC172 s hlim h ev w hv hev
open Go.RowKit in
/-- strconv.Atoi, AT EVERY NUMERAL THAT NO int HOLDS ('.range'): THE GREATEST OR THE LEAST int, BY THE SIGN ('Lib.atoiSat'), AND AN ERROR THAT IS NOT nil: a *NumError in a new block N: {Func: "Atoi", Num: s's bytes, Err: what the variable ErrRange holds}. Of what was there nothing has turned. (LAID: no walk: one application.) -/
theorem Tryd.strconv_Atoi_range (s : ByteArray) (hlim : s.size ≤ 281474976710656) (h : Lib.atoiAll s.data.toList = .range) (ev : Value) (w : World) (hv : w.cell? ⟨3, 0, none⟩ = some ev) (hev : ev = .nilIface ∨ ∃ te pe, ev = .iface te pe) :
    Calls Tryd.prog 60 #[.string s] w fun e w' => ∃ N, e = .returned (.tuple #[.int .i64 (Lib.atoiSat s.data.toList), .iface 140 (.pointer (some ⟨N, 0, none⟩))]) ∧ w.heap.size ≤ N ∧ w'.heap[N]? = some (.cells #[.string ⟨#[65, 116, 111, 105]⟩, .string s, ev] 154 (0, 0)) ∧ Below w.heap.size w w' := Any.strconv_Atoi_range Tryd.laysC172 s hlim h ev w hv hev
def Tryd.lays219_ren : Go.Shelf.Ren := ⟨fun | 219 => 90 | 217 => 97 | 225 => 112 | 224 => 113 | 267 => 114 | 266 => 118 | 314 => 127 | n => n, fun | 9 => 9 | 3 => 3 | 4 => 4 | 5 => 5 | 46 => 144 | 146 => 156 | 51 => 148 | n => n, fun | 1 => 0 | n => n⟩
def Tryd.lays145_ren : Go.Shelf.Ren := ⟨fun | 145 => 48 | 220 => 68 | 219 => 90 | 217 => 97 | 225 => 112 | 224 => 113 | 267 => 114 | 266 => 118 | 314 => 127 | n => n, fun | 9 => 9 | 4 => 4 | 59 => 92 | 3 => 3 | 5 => 5 | 46 => 144 | 146 => 156 | 51 => 148 | n => n, fun | 1 => 0 | n => n⟩
theorem Tryd.lays145 : Go.Proofs.Lays.n145 Tryd.prog Tryd.lays145_ren := {
  mixed := by kernel_rfl
  f145 := Tryd.func48.trans (congrArg some (by kernel_rfl))
  f217 := Tryd.func97.trans (congrArg some (by kernel_rfl))
  f219 := Tryd.func90.trans (congrArg some (by kernel_rfl))
  f220 := Tryd.func68.trans (congrArg some (by kernel_rfl))
  f224 := Tryd.func113.trans (congrArg some (by kernel_rfl))
  f225 := Tryd.func112.trans (congrArg some (by kernel_rfl))
  f266 := Tryd.func118.trans (congrArg some (by kernel_rfl))
  f267 := Tryd.func114.trans (congrArg some (by kernel_rfl))
  f314 := Tryd.func127.trans (congrArg some (by kernel_rfl))
  t3 := Tryd.underlying3
  a3 := Tryd.isAgg3
  z3 := Tryd.sizeOf3
  v3 := Tryd.zeroValue3
  t4 := Tryd.underlying4
  a4 := Tryd.isAgg4
  z4 := Tryd.sizeOf4
  v4 := Tryd.zeroValue4
  t5 := Tryd.underlying5
  a5 := Tryd.isAgg5
  z5 := Tryd.sizeOf5
  v5 := Tryd.zeroValue5
  t9 := Tryd.underlying9
  a9 := Tryd.isAgg9
  z9 := Tryd.sizeOf9
  v9 := Tryd.zeroValue9
  t46 := Tryd.underlying144
  a46 := Tryd.isAgg144
  z46 := Tryd.sizeOf144
  v46 := Tryd.zeroValue144
  t51 := Tryd.underlying148
  a51 := Tryd.isAgg148
  z51 := Tryd.sizeOf148
  v51 := Tryd.zeroValue148
  t59 := Tryd.underlying92
  a59 := Tryd.isAgg92
  z59 := Tryd.sizeOf92
  v59 := Tryd.zeroValue92
  t146 := Tryd.underlying156
  a146 := Tryd.isAgg156
  z146 := Tryd.sizeOf156
  v146 := Tryd.zeroValue156
  g1 := by kernel_rfl }
open Go.RowKit Go.Lib in
/-- strings.Cut: "Cut slices s around the first instance of sep, returning the text before and after sep. The found result reports whether sep appears in s. If sep does not appear in s, cut returns s, "", false.": IT RETURNS 'Lib.cut s sep'; the world is as it was but for the count of draws. (LAID: no walk: one application.) -/
theorem Tryd.strings_Cut (s sep : ByteArray) (m : Int) (w : World) (hs : s.size < 4294967281) (hm : w.cell? ⟨0, 0, none⟩ = some (.int .i64 m)) :
    Calls Tryd.prog 48 #[.string s, .string sep] w fun e w' => e = .returned (.tuple #[.string ⟨(Lib.cut s.data.toList sep.data.toList).1.toArray⟩, .string ⟨(Lib.cut s.data.toList sep.data.toList).2.1.toArray⟩, .bool (Lib.cut s.data.toList sep.data.toList).2.2]) ∧ ∃ n, w' = w.drewN n := Any.strings_Cut Tryd.lays145 s sep m w hs hm
def Tryd.lays206_ren : Go.Shelf.Ren := ⟨fun | 206 => 61 | n => n, fun | 9 => 9 | 4 => 4 | 3 => 3 | n => n, fun | n => n⟩
def Tryd.lays99_ren : Go.Shelf.Ren := ⟨fun | 99 => 34 | 206 => 61 | n => n, fun | 9 => 9 | 4 => 4 | 3 => 3 | n => n, fun | n => n⟩
theorem Tryd.lays99 : Go.Proofs.Lays.n99 Tryd.prog Tryd.lays99_ren := {
  mixed := by kernel_rfl
  f99 := Tryd.func34.trans (congrArg some (by kernel_rfl))
  f206 := Tryd.func61.trans (congrArg some (by kernel_rfl))
  t3 := Tryd.underlying3
  a3 := Tryd.isAgg3
  z3 := Tryd.sizeOf3
  v3 := Tryd.zeroValue3
  t4 := Tryd.underlying4
  a4 := Tryd.isAgg4
  z4 := Tryd.sizeOf4
  v4 := Tryd.zeroValue4
  t9 := Tryd.underlying9
  a9 := Tryd.isAgg9
  z9 := Tryd.sizeOf9
  v9 := Tryd.zeroValue9 }
open Go.RowKit Go.Lib in
/-- strings.HasPrefix: "HasPrefix reports whether the string s begins with prefix.": IT RETURNS 'Lib.hasPrefix s prefix'; the world is as it was. (LAID: no walk: one application.) -/
theorem Tryd.strings_HasPrefix (s p : ByteArray) (w : World) :
    Calls Tryd.prog 34 #[.string s, .string p] w fun e w' => e = .returned (.bool (Lib.hasPrefix s.data.toList p.data.toList)) ∧ w' = w := Any.strings_HasPrefix Tryd.lays99 s p w
def Tryd.lays221_ren : Go.Shelf.Ren := ⟨fun|221 => 67|268 => 87|138 => 88|143 => 89|195 => 110|197 => 92|218 => 111|219 => 90|260 => 115|217 => 97|225 => 112|224 => 113|267 => 114|266 => 118|314 => 127|n => n, fun|9 => 9|3 => 3|31 => 89|4 => 4|0 => 0|105 => 127|21 => 21|5 => 5|46 => 144|119 => 158|139 => 161|138 => 160|146 => 156|51 => 148|n => n, fun|1 => 0|3 => 4|4 => 5|n => n⟩
def Tryd.lays147_ren : Go.Shelf.Ren := ⟨fun|147 => 59|221 => 67|268 => 87|138 => 88|143 => 89|195 => 110|197 => 92|218 => 111|219 => 90|260 => 115|217 => 97|225 => 112|224 => 113|267 => 114|266 => 118|314 => 127|n => n, fun|9 => 9|3 => 3|31 => 89|4 => 4|0 => 0|105 => 127|21 => 21|5 => 5|46 => 144|119 => 158|139 => 161|138 => 160|146 => 156|51 => 148|n => n, fun|1 => 0|3 => 4|4 => 5|n => n⟩
theorem Tryd.lays147 : Go.Proofs.Lays.n147 Tryd.prog Tryd.lays147_ren := {
  mixed := by kernel_rfl
  f138 := Tryd.func88.trans (congrArg some (by kernel_rfl))
  f143 := Tryd.func89.trans (congrArg some (by kernel_rfl))
  f147 := Tryd.func59.trans (congrArg some (by kernel_rfl))
  f195 := Tryd.func110.trans (congrArg some (by kernel_rfl))
  f197 := Tryd.func92.trans (congrArg some (by kernel_rfl))
  f217 := Tryd.func97.trans (congrArg some (by kernel_rfl))
  f218 := Tryd.func111.trans (congrArg some (by kernel_rfl))
  f219 := Tryd.func90.trans (congrArg some (by kernel_rfl))
  f221 := Tryd.func67.trans (congrArg some (by kernel_rfl))
  f224 := Tryd.func113.trans (congrArg some (by kernel_rfl))
  f225 := Tryd.func112.trans (congrArg some (by kernel_rfl))
  f260 := Tryd.func115.trans (congrArg some (by kernel_rfl))
  f266 := Tryd.func118.trans (congrArg some (by kernel_rfl))
  f267 := Tryd.func114.trans (congrArg some (by kernel_rfl))
  f268 := Tryd.func87.trans (congrArg some (by kernel_rfl))
  f314 := Tryd.func127.trans (congrArg some (by kernel_rfl))
  t0 := Tryd.underlying0
  a0 := Tryd.isAgg0
  z0 := Tryd.sizeOf0
  v0 := Tryd.zeroValue0
  t3 := Tryd.underlying3
  a3 := Tryd.isAgg3
  z3 := Tryd.sizeOf3
  v3 := Tryd.zeroValue3
  t4 := Tryd.underlying4
  a4 := Tryd.isAgg4
  z4 := Tryd.sizeOf4
  v4 := Tryd.zeroValue4
  t5 := Tryd.underlying5
  a5 := Tryd.isAgg5
  z5 := Tryd.sizeOf5
  v5 := Tryd.zeroValue5
  t9 := Tryd.underlying9
  a9 := Tryd.isAgg9
  z9 := Tryd.sizeOf9
  v9 := Tryd.zeroValue9
  t21 := Tryd.underlying21
  a21 := Tryd.isAgg21
  z21 := Tryd.sizeOf21
  v21 := Tryd.zeroValue21
  t31 := Tryd.underlying89
  a31 := Tryd.isAgg89
  z31 := Tryd.sizeOf89
  v31 := Tryd.zeroValue89
  t46 := Tryd.underlying144
  a46 := Tryd.isAgg144
  z46 := Tryd.sizeOf144
  v46 := Tryd.zeroValue144
  t51 := Tryd.underlying148
  a51 := Tryd.isAgg148
  z51 := Tryd.sizeOf148
  v51 := Tryd.zeroValue148
  t105 := Tryd.underlying127
  a105 := Tryd.isAgg127
  z105 := Tryd.sizeOf127
  v105 := Tryd.zeroValue127
  t119 := Tryd.underlying158
  a119 := Tryd.isAgg158
  z119 := Tryd.sizeOf158
  t138 := Tryd.underlying160
  a138 := Tryd.isAgg160
  z138 := Tryd.sizeOf160
  v138 := Tryd.zeroValue160
  t139 := Tryd.underlying161
  a139 := Tryd.isAgg161
  z139 := Tryd.sizeOf161
  v139 := Tryd.zeroValue161
  t146 := Tryd.underlying156
  a146 := Tryd.isAgg156
  z146 := Tryd.sizeOf156
  v146 := Tryd.zeroValue156
  g1 := by kernel_rfl
  g3 := by kernel_rfl
  g4 := by kernel_rfl }
open Go.RowKit Go.Lib in
/-- strings.SplitN, n > 0. (LAID: no walk: one application.) -/
theorem Tryd.strings_SplitN (s sep : ByteArray) (n : Nat) (m : Int) (w : World) (hs : s.size < 4294967281) (hm : w.cell? ⟨0, 0, none⟩ = some (.int .i64 m)) (h1 : 1 ≤ sep.size) (hn : 1 ≤ n) (hn63 : n ≤ 9223372036854775807) :
    Calls Tryd.prog 59 #[.string s, .string sep, .int .i64 n] w fun e w' =>
      e = .returned (.slice (some ⟨w.heap.size, 0, none⟩) (Lib.splitB sep 0 (min n (s.size + 1) - 1) s).length (min n (s.size + 1))) ∧ w' = w.alloc (.cells (Lib.cellsOf (Lib.splitB sep 0 (min n (s.size + 1) - 1) s) (min n (s.size + 1))) 9) := Any.strings_SplitN Tryd.lays147 (by kernel_rfl) s sep n m w hs hm h1 hn hn63
end Go.Proofs

namespace Go.Proofs.YtnjolbnbpfjdiaaDoor.L
open Go Go.RowKit Go.Proofs
set_option linter.unusedVariables false
set_option linter.unusedSimpArgs false
set_option maxRecDepth 100000
attribute [local irreducible] AL QL AWp Thn InB RetQ ACalls LoopQ HL HO HW HQ NoG

noncomputable abbrev EE (w0 : World) (base : Nat) : Env := ⟨Tryd.prog, w0, base, 0⟩
/-- The one variable of the library's that is read: any number. -/
def Glob (w0 : World) (base : Nat) : Prop := 0 < base ∧ ∃ m, w0.cell? ⟨0, 0, none⟩ = some (.int .i64 m)

section
variable {w0 : World} {base : Nat}
theorem glob_at {I : Imm} {ν : Nu} {H : List AO} {w : World} (hG : Glob w0 base) (hh : HR (EE w0 base) I ν H w) : ∃ m, w.cell? ⟨0, 0, none⟩ = some (.int .i64 m) := by
  obtain ⟨h0, m, hm⟩ := hG
  exact ⟨m, (hh.below.cell h0).trans hm⟩
theorem below_drawn {w : World} : ∀ n, Below w.heap.size w (w.drewN n) := fun n => ⟨rfl, rfl, rfl, Nat.le_refl _, fun _ _ => rfl⟩

theorem s_cut {s p : List UInt8} (hG : Glob w0 base) (hs : s.length < 4294967281) : PCalls (EE w0 base) 48 [.str s, .str p] fun rv => rv = .tup [.str (Lib.cut s p).1, .str (Lib.cut s p).2.1, .bool (Lib.cut s p).2.2] := by
  refine pcalls_plain rfl fun I ν w vs hh hl hv => ?_
  match vs, hl with
  | [v1, v2], _ =>
  have e1 := (hv 0 _ v1 rfl rfl).str_inv
  have e2 := (hv 1 _ v2 rfl rfl).str_inv
  subst e1; subst e2
  obtain ⟨m, hm⟩ := glob_at hG hh
  refine ⟨_, fun w I => .tup _ [_, _, _] rfl (fun j x v h1 h2 => ?_), (Tryd.strings_Cut ⟨s.toArray⟩ ⟨p.toArray⟩ m w hs hm).mono fun e w' ⟨he, n, hw⟩ => ⟨he, by subst hw; exact below_drawn n⟩⟩
  match j, h1, h2 with
  | 0, h1, h2 => simp at h1 h2; subst h1; subst h2; exact .pure (.str _)
  | 1, h1, h2 => simp at h1 h2; subst h1; subst h2; exact .pure (.str _)
  | 2, h1, h2 => simp at h1 h2; subst h1; subst h2; exact .pure (.bool _)
  | j + 3, h1, h2 => simp at h1
theorem s_hasPrefix {s p : List UInt8} : PCalls (EE w0 base) 34 [.str s, .str p] fun rv => rv = .bool (Lib.hasPrefix s p) := by
  refine pcalls_plain rfl fun I ν w vs hh hl hv => ?_
  match vs, hl with
  | [v1, v2], _ =>
  have e1 := (hv 0 _ v1 rfl rfl).str_inv
  have e2 := (hv 1 _ v2 rfl rfl).str_inv
  subst e1; subst e2
  exact ⟨_, fun w I => .pure (.bool _), (Tryd.strings_HasPrefix ⟨s.toArray⟩ ⟨p.toArray⟩ w).mono fun e w' ⟨he, hw⟩ => ⟨he, by subst hw; exact Below.refl _ _⟩⟩
theorem s_indexByte {s : List UInt8} {c : UInt8} : PCalls (EE w0 base) 79 [.str s, .int .u8 (c.toNat : Int)] fun rv => rv = .int .i64 (Lib.indexByte s c) := by
  refine pcalls_plain rfl fun I ν w vs hh hl hv => ?_
  match vs, hl with
  | [v1, v2], _ =>
  have e1 := (hv 0 _ v1 rfl rfl).str_inv
  have e2 := (hv 1 _ v2 rfl rfl).int_inv
  subst e1; subst e2
  have hc : ((c.toNat : Int).toNat).toUInt8 = c := by simp
  have := Tryd.strings_IndexByte ⟨s.toArray⟩ (c.toNat : Int) w
  rw [hc] at this
  exact ⟨_, fun w I => .pure (.int _ _), this.mono fun e w' ⟨he, hw⟩ => ⟨he, by subst hw; exact Below.refl _ _⟩⟩
theorem s_trim {s : List UInt8} (hs : s.length ≤ 9223372036854775807) : PCalls (EE w0 base) 50 [.str s, .str [32, 9]] fun rv => rv = .str (Lib.trimS s [32, 9]) := by
  refine pcalls_plain rfl fun I ν w vs hh hl hv => ?_
  match vs, hl with
  | [v1, v2], _ =>
  have e1 := (hv 0 _ v1 rfl rfl).str_inv
  have e2 := (hv 1 _ v2 rfl rfl).str_inv
  subst e1; subst e2
  exact ⟨_, fun w I => .pure (.str _), Any.strings_Trim_laid Tryd.lays160 (by kernel_rfl) ⟨s.toArray⟩ ⟨#[32, 9]⟩ w hs (by decide) (fun j b h => by
    match j, h with
    | 0, h => simp at h; subst h; decide
    | 1, h => simp at h; subst h; decide
    | j + 2, h => simp at h)⟩
/-! ### strings.Builder -/
theorem noEscape (x : Value) (w : World) : (callFunc 80 #[x]).run Tryd.prog w = .ok (.value x) w := by
  rw [run_callFunc_extern Tryd.func80 (by kernel_rfl) (by kernel_rfl) (by kernel_rfl) (e := Extern.AbiNoEscape.same) (by kernel_rfl)]
  rfl
theorem a_copyCheck {p x : AV} (hp : p = .nilp ∨ p = .op 0 0) {rest : List AO} : ACalls (EE w0 base) 57 [.op 0 0] (.box [p, x] (some 54) :: rest) fun rv os => rv = .tup [] ∧ os = .box [.op 0 0, x] (some 54) :: rest := by
  refine acalls_of Tryd.func57 rfl rfl rfl (.cons .nil) ?_
  rcases hp with rfl | rfl
  · repeat' (first|(first|(refine al_v (ov_nilCheck (n := 0) rfl rfl) rfl ?_)|(refine al_v (ov_peq_nn rfl rfl) rfl ?_)|(refine al_v (ov_conv_to rfl rfl (by decide) (by simp)) rfl ?_)|(refine k_call ?_;refine al_v (ov_same noEscape rfl) rfl ?_)|(refine al_v (ov_conv_from rfl rfl (by kernel_rfl)) rfl ?_))|(refine k_al ?_;first|(refine al_v (ov_move rfl) rfl ?_)|(refine al_v (ov_fieldAddr rfl rfl) rfl ?_)|(refine k_load ?_;first|(refine al_v (ov_load rfl rfl) rfl ?_))|(refine al_nil ?_)|(refine al_store rfl rfl rfl rfl rfl (by repeat constructor) (by repeat constructor) ?_))|(first|(refine thn_n ?_)|(refine k_awp ?_;first|(refine awp_seq (awp_region ?_))|(refine awp_seq ?_)|(refine awp_region ?_)|(refine k_cond ?_;first|(refine awp_cond_t' rfl (by with_reducible rfl) ?_)|(refine awp_cond_f' rfl (by with_reducible rfl) ?_))|(refine awp_skip ?_))))
    refine ret0 (by first | exact .inr rfl | exact .inl rfl) rfl ⟨rfl, rfl⟩
  · repeat' (first|(first|(refine al_v (ov_nilCheck (n := 0) rfl rfl) rfl ?_)|(refine al_v (ov_peq_pn rfl rfl rfl) rfl ?_)|(refine al_v (ov_pne_same rfl rfl) rfl ?_))|(refine k_al ?_;first|(refine al_v (ov_move rfl) rfl ?_)|(refine al_v (ov_fieldAddr rfl rfl) rfl ?_)|(refine k_load ?_;first|(refine al_v (ov_load rfl rfl) rfl ?_))|(refine al_nil ?_)|(refine al_store rfl rfl rfl rfl rfl (by repeat constructor) (by repeat constructor) ?_))|(first|(refine thn_n ?_)|(refine k_awp ?_;first|(refine awp_seq (awp_region ?_))|(refine awp_seq ?_)|(refine awp_region ?_)|(refine k_cond ?_;first|(refine awp_cond_t' rfl (by with_reducible rfl) ?_)|(refine awp_cond_f' rfl (by with_reducible rfl) ?_))|(refine awp_skip ?_))))
    refine ret0 (by first | exact .inr rfl | exact .inl rfl) rfl ⟨rfl, rfl⟩

/-- A builder's bytes. -/
def BldB (l : List UInt8) (ver : Nat) (o : AO) : Prop := o = .row 5 1 ver 0 (bytesAV l) ∨ ∃ wr, o = .arr 5 1 ver (bytesAV l) wr
abbrev bldBox (p : AV) (ver : Nat) : AO := .box [p, .os 1 ver] (some 54)
theorem a_writeString {p : AV} (hp : p = .nilp ∨ p = .op 0 0) {bs s : List UInt8} {ver : Nat} (hb : bs.length + s.length ≤ 140737488355328) : ACalls (EE w0 base) 29 [.op 0 0, .str s] [bldBox p ver, .row 5 1 ver 0 (bytesAV bs)]
    fun rv os => rv = .tup [.int .i64 (s.length : Int), .nilif] ∧ os = [bldBox (.op 0 0) (ver + 1), .row 5 1 (ver + 1) 0 (bytesAV (bs ++ s))] := by
  refine acalls_of Tryd.func29 rfl rfl rfl (.cons (.cons .nil)) ?_
  have hbl : (bytesAV bs).length = bs.length := List.length_map _
  have hsl : (bytesAV s).length = s.length := List.length_map _
  have hq := hp
  rcases hp with rfl | rfl
  all_goals
    repeat' (first|(first|(refine k_call ?_;refine al_acall [0, 1] rfl rfl (a_copyCheck (x := .os 1 ver) (rest := [.row 5 1 ver 0 (bytesAV bs)]) hq) (by repeat constructor) (by repeat constructor) rfl rfl ?_;rintro _ _ ⟨rfl, rfl⟩;refine ⟨_, _, by repeat constructor, by repeat constructor, ?_⟩)|(refine al_v (ov_nilCheck (n := 0) rfl rfl) rfl ?_)|(refine k_call ?_;refine al_append rfl rfl (by repeat constructor) src_str rfl (by decide) (by simp;omega) rfl ?_))|(refine k_al ?_;first|(refine al_v (ov_move rfl) rfl ?_)|(refine al_v (ov_fieldAddr rfl rfl) rfl ?_)|(refine k_load ?_;first|(refine al_v (ov_load rfl rfl) rfl ?_))|(refine al_v (ov_assign rfl) rfl ?_)|(refine k_call ?_;first|(refine al_v (ov_len_str rfl) rfl ?_))|(refine al_nil ?_)|(refine al_store rfl rfl rfl rfl rfl (by repeat constructor) (by repeat constructor) ?_))|(first|(refine thn_n ?_)|(refine k_awp ?_;first|(refine awp_seq (awp_region ?_))|(refine awp_seq ?_)|(refine awp_region ?_)|(refine awp_ret ?_))))
    refine ret2 (by first | exact .inr rfl | exact .inl rfl) rfl rfl rfl ?_
    exact ⟨rfl, by simp only [bytesAV, List.map_append]; rfl⟩
set_option maxHeartbeats 2000000 in
theorem a_string {p : AV} {l : List UInt8} {ver : Nat} {o : AO} (hp : p = .nilp ∨ p = .op 0 0) (ho : BldB l ver o) (hlen : l.length ≤ 9223372036854775807) : ACalls (EE w0 base) 32 [.op 0 0] [bldBox p ver, o] fun rv os => rv = .str l ∧ ∃ o', os = [bldBox p ver, o'] ∧ BldB l ver o' := by
  refine acalls_of Tryd.func32 rfl rfl rfl (.cons .nil) ?_
  have hbl : (bytesAV l).length = l.length := List.length_map _
  by_cases hne : l = []
  · subst hne
    rcases ho with rfl | ⟨wr, rfl⟩
    · repeat' (first|(first|(refine awp_held (id := 1) [] [⟨0, true, [], bl 12 992⟩, ⟨1, true, [], bl 12 993⟩, ⟨2, true, [], bl 12 995⟩, ⟨3, true, [], bl 12 999⟩, ⟨5, true, [], bl 12 31⟩, ⟨6, true, [], bl 12 63⟩, ⟨7, true, [], bl 12 127⟩, ⟨8, true, [], bl 12 255⟩, ⟨9, true, [], bl 12 511⟩, ⟨4, false, [], []⟩, ⟨10, false, [], []⟩, ⟨11, true, [], bl 12 2047⟩] (by kernel_rfl) (by kernel_rfl) rfl (by kernel_rfl) ?_)|(refine hw_v (ov_nilCheck (n := 0) rfl rfl) rfl ?_)|(refine hw_usd0 rfl rfl (.row _ _) (by repeat constructor) rfl rfl (fun pv hpv => ?_))|(refine al_v (ov_ustr0 rfl hpv rfl) rfl ?_))|(refine k_al ?_;first|(refine al_v (ov_move rfl) rfl ?_)|(refine al_v (ov_fieldAddr rfl rfl) rfl ?_)|(refine al_v (ov_assign rfl) rfl ?_)|(refine al_nil ?_))|(first|(refine thn_n ?_)|(refine k_awp ?_;first|(refine awp_seq (awp_region ?_))|(refine awp_seq ?_)|(refine awp_region ?_)|(refine awp_ret ?_)))|(first|(refine k_hw ?_;first|(refine hw_s rfl ?_)|(refine hw_v (ov_move rfl) rfl ?_)|(refine hw_v (ov_assign rfl) rfl ?_)|(refine hw_v (ov_fieldAddr rfl rfl) rfl ?_)|(refine hw_v (ov_load rfl rfl) rfl ?_)|(refine hw_v (ov_len_os rfl rfl rfl) rfl ?_))|(refine hl_op rfl ?_)|(refine k_ho ?_;first|(refine ho_n ?_))|(refine hl_nil ?_)|(refine hq_back ?_)))
      refine retq_wkn (.of (Wk'.drop (H := [_, _]) (sl' := [(2, _)]) (ex := [_]) (.cons rfl .nil) rfl (.cons (by rcases hp with rfl | rfl <;> rfl) (.cons trivial .nil)) rfl)) ?_
      refine ret1 (by first | exact .inr rfl | exact .inl rfl) rfl rfl ?_
      exact ⟨rfl, _, rfl, .inl rfl⟩
    · repeat' (first|(first|(refine awp_held (id := 1) [] [⟨0, true, [], bl 12 992⟩, ⟨1, true, [], bl 12 993⟩, ⟨2, true, [], bl 12 995⟩, ⟨3, true, [], bl 12 999⟩, ⟨5, true, [], bl 12 31⟩, ⟨6, true, [], bl 12 63⟩, ⟨7, true, [], bl 12 127⟩, ⟨8, true, [], bl 12 255⟩, ⟨9, true, [], bl 12 511⟩, ⟨4, false, [], []⟩, ⟨10, false, [], []⟩, ⟨11, true, [], bl 12 2047⟩] (by kernel_rfl) (by kernel_rfl) rfl (by kernel_rfl) ?_)|(refine hw_v (ov_nilCheck (n := 0) rfl rfl) rfl ?_)|(refine hw_v (ov_len_arr rfl rfl rfl) rfl ?_)|(refine hw_usd0 rfl rfl (.arr _ _) (by repeat constructor) rfl rfl (fun pv hpv => ?_))|(refine al_v (ov_ustr0 rfl hpv rfl) rfl ?_))|(refine k_al ?_;first|(refine al_v (ov_move rfl) rfl ?_)|(refine al_v (ov_fieldAddr rfl rfl) rfl ?_)|(refine al_v (ov_assign rfl) rfl ?_)|(refine al_nil ?_))|(first|(refine thn_n ?_)|(refine k_awp ?_;first|(refine awp_seq (awp_region ?_))|(refine awp_seq ?_)|(refine awp_region ?_)|(refine awp_ret ?_)))|(first|(refine k_hw ?_;first|(refine hw_s rfl ?_)|(refine hw_v (ov_move rfl) rfl ?_)|(refine hw_v (ov_assign rfl) rfl ?_)|(refine hw_v (ov_fieldAddr rfl rfl) rfl ?_)|(refine hw_v (ov_load rfl rfl) rfl ?_)|(refine hw_v (ov_len_os rfl rfl rfl) rfl ?_))|(refine hl_op rfl ?_)|(refine k_ho ?_;first|(refine ho_n ?_))|(refine hl_nil ?_)|(refine hq_back ?_)))
      refine retq_wkn (.of (Wk'.drop (H := [_, _]) (sl' := [(2, _)]) (ex := [_]) (.cons rfl .nil) rfl (.cons (by rcases hp with rfl | rfl <;> rfl) (.cons trivial .nil)) rfl)) ?_
      refine ret1 (by first | exact .inr rfl | exact .inl rfl) rfl rfl ?_
      exact ⟨rfl, _, rfl, .inr ⟨_, rfl⟩⟩
  · rcases ho with rfl | ⟨wr, rfl⟩
    · repeat' (first|(first|(refine awp_held (id := 1) [(10, [1])] [⟨0, true, [], bl 12 992⟩, ⟨1, true, [], bl 12 993⟩, ⟨2, true, [], bl 12 995⟩, ⟨3, true, [], bl 12 999⟩, ⟨4, true, [], bl 12 1007⟩, ⟨5, true, [], bl 12 31⟩, ⟨6, true, [], bl 12 63⟩, ⟨7, true, [], bl 12 127⟩, ⟨8, true, [], bl 12 255⟩, ⟨9, true, [], bl 12 511⟩, ⟨10, false, [], []⟩, ⟨11, true, [], bl 12 2047⟩] (by kernel_rfl) (by kernel_rfl) rfl (by kernel_rfl) ?_)|(refine hw_v (ov_nilCheck (n := 0) rfl rfl) rfl ?_)|(refine hw_v (ov_usd rfl rfl (.row _ _) hne) rfl ?_)|(refine al_wkn (.spell 12 (.int .i64 (l.length : Int)) rfl (by rw [hbl])) ?_;refine al_ustr (by kernel_rfl) rfl rfl (by repeat constructor) ⟨.inl rfl, rfl⟩ hne hlen rfl ?_))|(refine k_al ?_;first|(refine al_v (ov_move rfl) rfl ?_)|(refine al_v (ov_fieldAddr rfl rfl) rfl ?_)|(refine al_v (ov_assign rfl) rfl ?_)|(refine al_nil ?_))|(first|(refine thn_n ?_)|(refine k_awp ?_;first|(refine awp_seq (awp_region ?_))|(refine awp_seq ?_)|(refine awp_region ?_)|(refine awp_ret ?_)))|(first|(refine k_hw ?_;first|(refine hw_s rfl ?_)|(refine hw_v (ov_move rfl) rfl ?_)|(refine hw_v (ov_assign rfl) rfl ?_)|(refine hw_v (ov_fieldAddr rfl rfl) rfl ?_)|(refine hw_v (ov_load rfl rfl) rfl ?_)|(refine hw_v (ov_len_os rfl rfl rfl) rfl ?_))|(refine hl_op rfl ?_)|(refine k_ho ?_;first|(refine ho_n ?_))|(refine hl_nil ?_)|(refine hq_back ?_)))
      refine ret1 (by first | exact .inr rfl | exact .inl rfl) rfl rfl ?_
      exact ⟨rfl, _, rfl, .inr ⟨_, rfl⟩⟩
    · repeat' (first|(first|(refine awp_held (id := 1) [(10, [1])] [⟨0, true, [], bl 12 992⟩, ⟨1, true, [], bl 12 993⟩, ⟨2, true, [], bl 12 995⟩, ⟨3, true, [], bl 12 999⟩, ⟨4, true, [], bl 12 1007⟩, ⟨5, true, [], bl 12 31⟩, ⟨6, true, [], bl 12 63⟩, ⟨7, true, [], bl 12 127⟩, ⟨8, true, [], bl 12 255⟩, ⟨9, true, [], bl 12 511⟩, ⟨10, false, [], []⟩, ⟨11, true, [], bl 12 2047⟩] (by kernel_rfl) (by kernel_rfl) rfl (by kernel_rfl) ?_)|(refine hw_v (ov_nilCheck (n := 0) rfl rfl) rfl ?_)|(refine hw_v (ov_len_arr rfl rfl rfl) rfl ?_)|(refine hw_v (ov_usd rfl rfl (.arr _ _) hne) rfl ?_)|(refine al_wkn (.spell 12 (.int .i64 (l.length : Int)) rfl (by rw [hbl])) ?_;refine al_ustr (by kernel_rfl) rfl rfl (by repeat constructor) ⟨.inr ⟨_, rfl⟩, rfl⟩ hne hlen rfl ?_))|(refine k_al ?_;first|(refine al_v (ov_move rfl) rfl ?_)|(refine al_v (ov_fieldAddr rfl rfl) rfl ?_)|(refine al_v (ov_assign rfl) rfl ?_)|(refine al_nil ?_))|(first|(refine thn_n ?_)|(refine k_awp ?_;first|(refine awp_seq (awp_region ?_))|(refine awp_seq ?_)|(refine awp_region ?_)|(refine awp_ret ?_)))|(first|(refine k_hw ?_;first|(refine hw_s rfl ?_)|(refine hw_v (ov_move rfl) rfl ?_)|(refine hw_v (ov_assign rfl) rfl ?_)|(refine hw_v (ov_fieldAddr rfl rfl) rfl ?_)|(refine hw_v (ov_load rfl rfl) rfl ?_)|(refine hw_v (ov_len_os rfl rfl rfl) rfl ?_))|(refine hl_op rfl ?_)|(refine k_ho ?_;first|(refine ho_n ?_))|(refine hl_nil ?_)|(refine hq_back ?_)))
      refine ret1 (by first | exact .inr rfl | exact .inl rfl) rfl rfl ?_
      exact ⟨rfl, _, rfl, .inr ⟨_, rfl⟩⟩
end
end Go.Proofs.YtnjolbnbpfjdiaaDoor.L

namespace Go.Proofs.YtnjolbnbpfjdiaaDoor.L
open Go Go.RowKit Go.Proofs
set_option linter.unusedVariables false
set_option linter.unusedSimpArgs false

section
variable {E : Env} {N : Nat} {sl : Slots} {H : List AO}
/-- A box whose cells are told otherwise, as what they hold is. -/
theorem boxTell {I : Imm} {ν : Nu} {w : World} {id : Nat} {cells cells' : List AV} {tyo : Option Nat} (hh : HR E I ν H w) (hH : H[id]? = some (.box cells tyo)) (hl : cells.length = cells'.length)
    (hc : ∀ (j : Nat) y, cells'[j]? = some y → ∃ x, cells[j]? = some x ∧ ∀ v, VR w I ν x v → VR w I ν y v) : HR E I ν (H.set id (.box cells' tyo)) w ∧ FR E.k w I ν H w I ν (H.set id (.box cells' tyo)) := by
  cases hh.obj id _ hH with
  | box _ _ b vs ty hv hb hheap hll hx hI hty =>
    refine hh.set (o' := .box cells' tyo) hH (fun e => by cases e) (Nu.le.refl ν) rfl (fun _ _ => rfl) hh.below (Nat.le_refl _) (fun _ _ _ => rfl) (ImmLe.refl _ _)
      (.box _ tyo b vs ty hv hb hheap (by omega) (fun j y v h1 h2 => ?_) hI hty) (fun b' hb' => .inl (by simpa only [OB, hv] using hb'))
    obtain ⟨x, h3, h4⟩ := hc j y h1
    exact h4 v (hx j x v h3 h2)
theorem Wkn.boxLe {id : Nat} {cells : List AV} (cells' : List AV) {tyo : Option Nat} {H' : List AO} (hH : H[id]? = some (.box cells tyo)) (hc : AvLeL cells cells') (h1 : H' = H.set id (.box cells' tyo)) : Wkn E N ⟨sl, H⟩ ⟨sl, H'⟩ := fun I ν a w hs => by
  subst h1
  have := boxTell hs.hr hH hc.get.1 fun j y hy => by
    obtain ⟨x, h2, h3⟩ := hc.get.2 j y hy
    exact ⟨x, h2, fun v hv => h3.vr hv⟩
  exact ⟨I, ν, ⟨this.1, hs.sl, hs.df, hs.nt⟩, this.2⟩
theorem Wkn.boxFreeze {ib k id ver fz e sz : Nat} {cells cells' : List AV} {tyo : Option Nat} {xs : List (List AV)} {H' H1 : List AO} (hB : H[ib]? = some (.box cells tyo)) (hk : cells[k]? = some (.os id ver)) (hne : Nat.beq ib id = false) (hN : Nat.blt 0 N = true)
    (hU : Upd id H (.row e sz ver fz xs) (.row e sz ver xs.length xs) H') (hc : cells' = cells.set k (.rs xs)) (h1 : H1 = H'.set ib (.box cells' tyo)) : Wkn E N ⟨sl, H⟩ ⟨sl, H1⟩ := fun I ν a w hs => by
  subst hc; subst h1
  have hN' : 0 < N := Nat.le_of_ble_eq_true hN
  have hne' : ib ≠ id := fun e => by subst e; simp at hne
  have hkl : k < cells.length := (List.getElem?_eq_some_iff.1 hk).1
  obtain ⟨v, hv, hvk⟩ : ∃ v, VR w I ν (.os id ver) v ∧ ∀ b vs ty, ν.val ib 0 = .pointer (some ⟨b, 0, none⟩) → w.heap[b]? = some (.cells vs ty (0, 0)) → vs[k]? = some v := by
    cases hs.hr.obj ib _ hB with
    | box _ _ b vs ty hv hb hheap hll hx hI hty =>
      obtain ⟨v, hvk⟩ : ∃ v, vs[k]? = some v := ⟨_, List.getElem?_eq_getElem (by omega)⟩
      refine ⟨v, hx k _ v hk hvk, fun b' vs' ty' e1 e2 => ?_⟩
      rw [hv] at e1
      injection e1 with e1; injection e1 with e1; injection e1 with e1
      subst e1
      rw [hheap] at e2
      injection e2 with e2; injection e2 with e2
      subst e2
      simpa using hvk
  obtain ⟨ν0, hh0, fr0⟩ : ∃ I', SR E N I' ν ⟨(0, .rs xs) :: (0, .os id ver) :: sl, H'⟩ (a.put (some 0) v) w ∧ FR E.k w I ν H w I' ν H' :=
    freeze_sr (sl := (0, .os id ver) :: sl) ⟨hs.hr, hs.sl.put 0 hv (by rw [hs.nt]; exact hN'), hs.df, by rw [← hs.nt]; simp [Act.put]⟩ rfl hU
  have hrs : VR w ν0 ν (.rs xs) v := by
    have := hh0.sl 0 (.rs xs) rfl
    simpa [Act.put, Array.getD_eq_getD_getElem?, Array.getElem?_setIfInBounds, hs.nt, hN'] using this
  obtain ⟨hid, hset⟩ := hU.eq
  have hB' : H'[ib]? = some (.box cells tyo) := by rw [hset, List.getElem?_set_ne (Ne.symm hne')]; exact hB
  have key : HR E ν0 ν (H'.set ib (.box (cells.set k (.rs xs)) tyo)) w ∧ FR E.k w ν0 ν H' w ν0 ν (H'.set ib (.box (cells.set k (.rs xs)) tyo)) := by
    cases hh0.hr.obj ib _ hB' with
    | box _ _ b vs ty hv' hb hheap hll hx hI hty =>
      refine hh0.hr.set (o' := .box (cells.set k (.rs xs)) tyo) hB' (fun e => by cases e) (Nu.le.refl ν) rfl (fun _ _ => rfl) hh0.hr.below (Nat.le_refl _) (fun _ _ _ => rfl) (ImmLe.refl _ _)
        (.box _ tyo b vs ty hv' hb hheap (by simpa using hll) (fun j y u h1 h2 => ?_) hI hty) (fun b' hb' => .inl (by simpa only [OB, hv'] using hb'))
      by_cases e1 : j = k
      · subst e1
        rw [List.getElem?_set_self hkl] at h1
        injection h1 with h1
        subst h1
        have := hvk b _ ty hv' hheap
        have h3 : vs[j]? = some v := by simpa using this
        rw [h3] at h2
        injection h2 with h2
        subst h2
        exact hrs
      · rw [List.getElem?_set_ne (Ne.symm e1)] at h1
        exact hx j y u h1 h2
  exact ⟨ν0, ν, ⟨key.1, hs.sl.mono fr0.imm (Nu.le.refl ν), hs.df, hs.nt⟩, fr0.trans key.2⟩
end
end Go.Proofs.YtnjolbnbpfjdiaaDoor.L

namespace Go.Proofs.YtnjolbnbpfjdiaaDoor.L
open Go Go.RowKit
set_option linter.unusedVariables false
section
variable {E : Env} {sl : Slots} {H : List AO}
end
end Go.Proofs.YtnjolbnbpfjdiaaDoor.L

namespace Go.Proofs.YtnjolbnbpfjdiaaDoor.L
open Go Go.RowKit
set_option linter.unusedVariables false
set_option linter.unusedSimpArgs false

/-- The code behind a label. -/
def lblC (c : Code) (l : Nat) : Code := match findLabel c l with
  | some (.seq _ b) => b
  | _ => .skip
/-- As Q; at a jump: what holds at the label. -/
def JmpQ (E : Env) (N : Nat) {α : Type} (inv : α → St) (lab : α → Nat) (ok : α → Prop) (m : α → Nat) (b : Nat) (Q : Exit → St → Prop) : Exit → St → Prop
  | .goto l, σ => ∃ y, lab y = l ∧ ok y ∧ m y < b ∧ Wkn E N σ (inv y)
  | e, σ => Q e σ
def jmpW {ι : Type} (J : ι → Act → World → Prop) (lab : ι → Nat) (μ : ι → Nat) (B : Nat) (Q : Exit → Act → World → Prop) : Exit → Act → World → Prop
  | .goto l, a, w => ∃ x, lab x = l ∧ μ x < B ∧ J x a w
  | e, a, w => Q e a w
section
variable {E : Env} {N : Nat} {Q : Exit → St → Prop} {α : Type} {inv : α → St} {lab : α → Nat} {ok : α → Prop} {m : α → Nat} {b : Nat} {σ : St}
end
/-- Where a part of the code comes to its end normally: at one of the states J. -/
def MidQ (E : Env) (N : Nat) {ι : Type} (J : ι → St) (ok : ι → Prop) (Q : Exit → St → Prop) : Exit → St → Prop
  | .normal, σ => ∃ j, ok j ∧ Wkn E N σ (J j)
  | e, σ => Q e σ
section
variable {E : Env} {N : Nat} {Q : Exit → St → Prop} {ι : Type} {σ : St} {J : ι → St} {ok : ι → Prop}
end
section
variable {E : Env} {sl : Slots} {H : List AO}
end
end Go.Proofs.YtnjolbnbpfjdiaaDoor.L

namespace Go.Proofs.YtnjolbnbpfjdiaaDoor.L
open Go Go.RowKit
set_option linter.unusedVariables false
set_option linter.unusedSimpArgs false

def preOK (ops : Array Oper) (τ : List (Nat × List Nat)) (i j : Nat) (A B : List PS) : List Bool → List PS → Bool
  | L, [] => (Region.ready .any ops L.toArray == [i, j]) && (planOK ops τ (L.set i true) A && (planOK ops τ (L.set j true) B && Nat.beq A.length B.length))
  | L, p :: r => (p.q && qOK ops τ L p.R p.i p.G) && preOK ops τ i j A B (L.set p.i true) r
/-- A plan of what only looks, then either of two operations. -/
def HF (E : Env) (N : Nat) (ops : Array Oper) (τ : List (Nat × List Nat)) (Q : Exit → St → Prop) (i j : Nat) (A B pl : List PS) (σ : St) : Prop :=
  Region.noSelect ops = true → ∀ L : List Bool, L.length = ops.size → preOK ops τ i j A B L pl = true → ∀ I ν a w, SR E N I ν σ a w → ∀ w0 I0 ν0 o0, FR E.k w0 I0 ν0 o0 w I ν σ.objs →
    wpAnyP E.P .any ops (LN E N w0 I0 ν0 o0 Q) (SS τ L.toArray I ν σ.objs w) (pl.length + (A.length + 1)) L.toArray a w
section
variable {E : Env} {N : Nat} {ops : Array Oper} {τ : List (Nat × List Nat)} {Q : Exit → St → Prop} {i j : Nat} {A B : List PS} {p : PS} {pl : List PS} {sl : Slots} {H : List AO}
end
end Go.Proofs.YtnjolbnbpfjdiaaDoor.L

namespace Go.Proofs.YtnjolbnbpfjdiaaDoor.L
open Go Go.RowKit
set_option linter.unusedVariables false
set_option linter.unusedSimpArgs false

/-- Slots as they are called behind a renaming. -/
inductive SubR (r : Nat → Nat) (sl : Slots) : Slots → Prop where
  | nil : SubR r sl []
  | cons {t : Nat} {x y : AV} {s : Slots} (h : lk sl t = some y) (e : Rn r x y) (k : SubR r sl s) : SubR r sl ((t, x) :: s)
theorem SubR.get {r : Nat → Nat} {sl s : Slots} (h : SubR r sl s) : ∀ t x, lk s t = some x → ∃ y, lk sl t = some y ∧ Rn r x y := by
  induction h with
  | nil => intro t x h; simp [lk] at h
  | @cons t x y s h e k ih =>
    intro t' x' h'
    rw [lk_cons] at h'
    by_cases q : t = t'
    · subst q
      rw [if_pos rfl] at h'
      injection h' with h'
      subst h'
      exact ⟨y, h, e⟩
    · rw [if_neg q] at h'
      exact ih t' x' h'
/-- The first k ids keep their names. -/
def keeps (ρ : List Nat) : Nat → Bool
  | 0 => true
  | k + 1 => match ρ[k]? with
    | some j => Nat.beq j k && keeps ρ k
    | none => false
theorem keeps_get {ρ : List Nat} : ∀ {k : Nat}, keeps ρ k = true → ∀ i, i < k → ρ[i]? = some i := by
  intro k
  induction k with
  | zero => intro _ i h; exact absurd h (Nat.not_lt_zero _)
  | succ k ih =>
    intro h i hi
    rw [keeps] at h
    split at h
    · rename_i j hj
      rw [Bool.and_eq_true] at h
      have := Nat.eq_of_beq_eq_true h.1
      subst this
      rcases Nat.lt_or_ge i j with h2 | h2
      · exact ih h.2 i h2
      · obtain rfl : i = j := by omega
        exact hj
    · cases h
section
variable {E : Env} {N : Nat}
/-- Objects renamed; those that ρ does not name are forgotten. -/
theorem Wkn.pick (ρ : List Nat) {sl sl' : Slots} {H os : List AO} (hp : PickO (rn ρ H.length) H ρ os) (hn : ndup ρ = true) (hk : keeps ρ E.k = true) (hs' : SubR (rn ρ H.length) sl sl') : Wkn E N ⟨sl, H⟩ ⟨sl', os⟩ := by
  intro I ν a w hs
  obtain ⟨h1, h2⟩ := hr_A hs.hr hp hn
  obtain ⟨g1, g2⟩ := hp.get
  refine ⟨I, nuC ρ ν, ⟨HR.env (E := E.at 0) (F := E) rfl rfl h1, fun t x hx => ?_, hs.df, hs.nt⟩, ⟨ImmLe.refl _ _, Nat.le_refl _, fun _ _ h => .inl h, fun _ _ _ => rfl, fun b hb => ?_, fun id hi hn' => ?_, fun id hi hg => ?_⟩⟩
  · obtain ⟨y, hy, hxy⟩ := hs'.get t x hx
    exact rn_A hs.hr.n (hs.sl t y hy) hxy
  · obtain ⟨i, j, o', _, k2, k3⟩ := h2 b hb
    exact .inl ⟨j, o', k2, k3⟩
  · have hr := keeps_get hk id hi
    have hl : id < ρ.length := (List.getElem?_eq_some_iff.1 hr).1
    refine ⟨hl, ?_, fun ver _ => ?_⟩
    · simp only [nuC, hr, Option.getD_some]; exact Nat.le_refl _
    · simp only [nuC, hr, Option.getD_some]
  · have hr := keeps_get hk id hi
    have hl : id < ρ.length := (List.getElem?_eq_some_iff.1 hr).1
    have hos : id < os.length := by omega
    refine ⟨by simp only [nuC, hr, Option.getD_some], ?_⟩
    show os[id]? = some .gone
    obtain ⟨j, o', k1, k2, k3⟩ := g2 id (os[id]'hos) (List.getElem?_eq_getElem hos)
    rw [hr] at k1
    injection k1 with k1
    subst k1
    rw [List.getElem?_eq_getElem hos]
    have : o' = .gone := Option.some.inj (k2.symm.trans hg)
    subst this
    revert k3
    generalize os[id]'hos = q
    intro k3
    cases k3
    rfl
variable {sl : Slots} {H : List AO}
theorem ov_len_c {t e : Nat} {n b : Nat} {z : Value} [ti : TI E.P t (.slice e) n b z] {x : Operand} {xs : List (List AV)} (k : Nat) (hx : ev sl x = some (.rs xs)) (hk : xs.length = k) : OV E sl H (.call { callee := .builtin .len, args := #[x], argTypes := #[t] }) (.int .i64 (k : Int)) := by
  subst hk
  exact ov_len_rs hx
end
end Go.Proofs.YtnjolbnbpfjdiaaDoor.L

namespace Go.Proofs.YtnjolbnbpfjdiaaDoor.L
open Go Go.RowKit Go.Proofs
set_option linter.unusedVariables false
set_option linter.unusedSimpArgs false
set_option maxRecDepth 100000
attribute [local irreducible] AL QL AWp Thn InB RetQ ACalls LoopQ HL HO HW HQ NoG JmpQ MidQ HF

/-- Instructions: an operation, and its A. -/
abbrev Ins := List (Int × Int)
abbrev insC (p : Int × Int) : List AV := [.int .i64 p.1, .int .i64 p.2]
def insAV (l : Ins) : List (List AV) := l.map insC
def mayP (n : Nat) (p : Int × Int) : Prop := p.1 = 1 ∨ (p.1 = 3 ∧ 0 ≤ p.2 ∧ p.2 < 64) ∨ ((p.1 = 20 ∨ p.1 = 21 ∨ p.1 = 22) ∧ 0 ≤ p.2 ∧ p.2 < n) ∨ (p.1 = 24 ∧ 1 ≤ p.2 ∧ p.2 ≤ 99) ∨
  ((p.1 ≠ 3 ∧ p.1 ≠ 20 ∧ p.1 ≠ 21 ∧ p.1 ≠ 22 ∧ p.1 ≠ 24) ∧ 1 ≤ p.1 ∧ p.1 ≤ 25 ∧ p.2 = 0)
instance (n : Nat) (p : Int × Int) : Decidable (mayP n p) := by unfold mayP; exact inferInstance
def firstBad (n : Nat) : Ins → Nat → Option Nat
  | [], _ => none
  | p :: r, k => if mayP n p then firstBad n r (k + 1) else some k
/-- Why instructions may not be, and where. -/
def checkI (l : Ins) : Int × Int := if l.length < 1 ∨ 1024 < l.length then (2, 0) else match firstBad l.length l 0 with
  | none => (0, 0)
  | some k => (130, (k : Int))
def hasAP (op : Int) : Prop := op = 1 ∨ op = 3 ∨ op = 20 ∨ op = 21 ∨ op = 22 ∨ op = 24
instance (op : Int) : Decidable (hasAP op) := by unfold hasAP; exact inferInstance
def nameL : List (List UInt8) := ["push", "pop", "dup", "swap", "add", "sub", "mul", "div", "rem", "and", "or", "xor", "shl", "shr", "eq", "less", "not", "load", "store", "jump", "if", "call", "ret", "trap", "halt"].map fun s => s.toUTF8.data.toList
/-- An operation's name. -/
def nmI (op : Int) : List UInt8 := nameL.getD (op - 1).toNat []
section
variable {w0 : World} {base : Nat}
end
end Go.Proofs.YtnjolbnbpfjdiaaDoor.L

namespace Go.Proofs.YtnjolbnbpfjdiaaDoor.L
open Go Go.RowKit Go.Proofs
set_option linter.unusedVariables false
set_option linter.unusedSimpArgs false
set_option maxRecDepth 100000
attribute [local irreducible] AL QL AWp Thn InB RetQ ACalls LoopQ HL HO HW HQ NoG JmpQ MidQ HF

def txtAV (l : List (List UInt8)) : List (List AV) := l.map fun x => [.str x]
/-- What the library's variables hold: a number; the powers of ten. -/
structure Tabs (w0 : World) (base : Nat) : Prop where
  g : Glob w0 base
  lt : 4 ≤ base
  es : ∃ te pe, w0.cell? ⟨2, 0, none⟩ = some (.iface te pe)
  er : ∃ te pe, w0.cell? ⟨3, 0, none⟩ = some (.iface te pe)
  pow : Lib.TabIs Tryd.prog w0 "internal/strconv.uint64pow10" .u64 Lib.pow10Tab
/-- The text of an instruction. -/
def insS (p : Int × Int) : List UInt8 := nmI p.1 ++ ((if hasAP p.1 then 32 :: Lib.itoa p.2 else []) ++ [10])
def printI (l : Ins) : List UInt8 := l.flatMap insS
/-- Numbers that an int holds. -/
def InI (l : Ins) : Prop := ∀ p ∈ l, -9223372036854775808 ≤ p.2 ∧ p.2 ≤ 9223372036854775807
section
variable {w0 : World} {base : Nat}
abbrev nmV (op : Int) : AV := .tup [.str (if 1 ≤ op ∧ op ≤ 25 then nmI op else []), .int .i64 (if 1 ≤ op ∧ op ≤ 25 then 0 else 3)]
def takL : List Int := [1, 3, 20, 21, 22, 24]
abbrev numAV (l : List Int) : List (List AV) := l.map fun n => [.int .i64 n]
theorem tab_at {I : Imm} {ν : Nu} {H : List AO} {w : World} (hG : Tabs w0 base) (hh : HR (EE w0 base) I ν H w) : Lib.TabIs Tryd.prog w "internal/strconv.uint64pow10" .u64 Lib.pow10Tab := by
  have hp := hG.pow
  unfold Lib.TabIs World.var? at hp ⊢
  have hg : Tryd.prog.globalNamed "internal/strconv.uint64pow10" = some ((Tryd.prog.globalNamed "internal/strconv.uint64pow10").getD 0) := by kernel_rfl
  have hlt : (Tryd.prog.globalNamed "internal/strconv.uint64pow10").getD 0 < 4 := of_decide_eq_true (by kernel_rfl)
  rw [hg] at hp ⊢
  simp only [Option.bind_some] at hp ⊢
  rw [hh.below.block _ (Nat.lt_of_lt_of_le hlt hG.lt)]
  exact hp
theorem below_grow {w : World} (os : Array Obj) : Below w.heap.size w (Go.Sort.grow w os) :=
  ⟨rfl, rfl, rfl, by simp [Go.Sort.grow], fun k hk => by simp [Go.Sort.grow, Array.getElem?_append, hk]⟩
theorem s_itoaA {n : Int} (hG : Tabs w0 base) (h0 : -9223372036854775808 ≤ n) (h1 : n ≤ 9223372036854775807) : PCalls (EE w0 base) 30 [.int .i64 n] fun rv => rv = .str (Lib.itoa n) := by
  refine pcalls_plain rfl fun I ν w vs hh hl hv => ?_
  match vs, hl with
  | [v1], _ =>
  have e1 := (hv 0 _ v1 rfl rfl).int_inv
  subst e1
  exact ⟨_, fun w I => .pure (.str _), (Tryd.strconv_Itoa n h0 h1 w (tab_at hG hh)).mono fun e w' ⟨he, k, os, hw⟩ => ⟨he, by subst hw; exact (below_drawn k).trans (show Below w.heap.size (w.drewN k) _ from below_grow (w := w.drewN k) os)⟩⟩
end
end Go.Proofs.YtnjolbnbpfjdiaaDoor.L

namespace Go.Proofs.YtnjolbnbpfjdiaaDoor.L
open Go Go.RowKit Go.Proofs
set_option linter.unusedVariables false
set_option linter.unusedSimpArgs false
set_option maxRecDepth 100000
attribute [local irreducible] AL QL AWp Thn InB RetQ ACalls LoopQ HL HO HW HQ NoG JmpQ MidQ HF

theorem bld_rn {l : List UInt8} {ver : Nat} {o : AO} (h : BldB l ver o) {r : Nat → Nat} : RnO r o o := by
  rcases h with rfl | ⟨wr, rfl⟩
  · exact .row
  · exact .arr
section
variable {w0 : World} {base : Nat}
abbrev prnC (l : Ins) : AV := .tup [.str (if (checkI l).1 = 0 then printI l else []), .int .i64 (checkI l).1]
end
end Go.Proofs.YtnjolbnbpfjdiaaDoor.L

namespace Go.Proofs.YtnjolbnbpfjdiaaDoor.L
open Go Go.RowKit Go.Proofs
set_option linter.unusedVariables false
set_option linter.unusedSimpArgs false
set_option maxRecDepth 100000
attribute [local irreducible] AL QL AWp Thn InB RetQ ACalls LoopQ HL HO HW HQ NoG

def hasBr (s : List UInt8) : Prop := 13 ∈ s ∨ 10 ∈ s
instance (s : List UInt8) : Decidable (hasBr s) := by unfold hasBr; infer_instance
section
variable {E : Env} {sl : Slots} {H : List AO}
end

section
variable {w0 : World} {base : Nat}
end
end Go.Proofs.YtnjolbnbpfjdiaaDoor.L

namespace Go.Proofs.YtnjolbnbpfjdiaaDoor.L
open Go Go.RowKit Go.Proofs
set_option linter.unusedVariables false
set_option linter.unusedSimpArgs false
set_option maxRecDepth 100000
attribute [local irreducible] AL QL AWp Thn InB RetQ ACalls LoopQ HL HO HW HQ NoG

abbrev bI (b : UInt8) : AV := .int .u8 (b.toNat : Int)
theorem u8_all {P : UInt8 → Prop} (h : ∀ n : Fin 256, P (UInt8.ofNat n.1)) (b : UInt8) : P b := by
  have := h ⟨b.toNat, b.toNat_lt⟩
  simpa using this
def hexS : List UInt8 := [48, 49, 50, 51, 52, 53, 54, 55, 56, 57, 97, 98, 99, 100, 101, 102]
def hexI (b : UInt8) : Int := Lib.indexByte hexS (b ||| ((32 : UInt8) * ((b >>> 6) &&& 1)))
def signs : List UInt8 := [33, 35, 36, 37, 38, 39, 42, 43, 45, 46, 94, 95, 96, 124, 126]
def pOdd (b : UInt8) : Bool := decide (b.toNat < 33) || decide (126 < b.toNat) || decide (b.toNat = 35)
def pVis (b : UInt8) : Bool := decide (33 ≤ b.toNat) && decide (b.toNat ≤ 126)
def pLoose (b : UInt8) : Bool := pVis b || decide (b.toNat = 32) || decide (b.toNat = 9)
def pLarge (b : UInt8) : Bool := decide (65 ≤ b.toNat) && decide (b.toNat ≤ 90)
def pDigit (b : UInt8) : Bool := decide (48 ≤ b.toNat) && decide (b.toNat ≤ 57)
def pToken (b : UInt8) : Bool := pLarge b || (decide (97 ≤ b.toNat) && decide (b.toNat ≤ 122)) || pDigit b || decide (0 ≤ Lib.indexByte signs b)

section
variable {w0 : World} {base : Nat}
end
end Go.Proofs.YtnjolbnbpfjdiaaDoor.L

namespace Go.Proofs.YtnjolbnbpfjdiaaDoor.L
open Go Go.RowKit Go.Proofs
set_option linter.unusedVariables false
set_option linter.unusedSimpArgs false
set_option maxRecDepth 100000
attribute [local irreducible] AL QL AWp Thn InB RetQ ACalls LoopQ HL HO HW HQ NoG

def decOk : List UInt8 → Bool
  | [] => true
  | b :: r => if b = 37 then (match r with
    | x :: y :: r' => decide (0 ≤ hexI x) && (decide (0 ≤ hexI y) && decOk r')
    | _ => false) else decOk r
abbrev bAt (s : List UInt8) (m : Int) : UInt8 := s.getD m.toNat 0
theorem byteAt_eq (s : List UInt8) (m : Int) : byteAt s m = ((bAt s m).toNat : Int) := rfl
theorem u8_of_int {b : UInt8} (n : Nat) (hn : n < 256) (h : (b.toNat : Int) = n) : b = UInt8.ofNat n := by
  apply UInt8.toNat.inj
  simp
  omega
/-- The byte of two hexadecimal digits. -/
def decB (x y : UInt8) : UInt8 := UInt8.ofNat (16 * (hexI x).toNat + (hexI y).toNat)
/-- A text without its percent signs. -/
def decT (plus : Bool) : List UInt8 → List UInt8
  | [] => []
  | b :: r => if b = 37 then (match r with
    | x :: y :: r' => decB x y :: decT plus r'
    | _ => []) else (if plus && decide (b = 43) then 32 else b) :: decT plus r
section
variable {w0 : World} {base : Nat}
def DecR (s : List UInt8) (plus : Bool) (rv : AV) : Prop := ∃ l e k, rv = .tup [.str l, .int .i64 e, .int .i64 k] ∧ (e = 0 ↔ decOk s = true) ∧ (e = 0 ∨ e = 60) ∧ 0 ≤ k ∧ k ≤ s.length ∧ (e = 0 → l = decT plus s)
end
end Go.Proofs.YtnjolbnbpfjdiaaDoor.L

namespace Go.Proofs.YtnjolbnbpfjdiaaDoor.L
open Go Go.RowKit Go.Proofs
set_option linter.unusedVariables false
set_option linter.unusedSimpArgs false
set_option maxRecDepth 100000
attribute [local irreducible] AL QL AWp Thn InB RetQ ACalls LoopQ HL HO HW HQ NoG

section
variable {w0 : World} {base : Nat}
end
end Go.Proofs.YtnjolbnbpfjdiaaDoor.L

namespace Go.Proofs.YtnjolbnbpfjdiaaDoor.L
open Go Go.RowKit Go.Proofs
set_option linter.unusedVariables false
set_option linter.unusedSimpArgs false
set_option maxRecDepth 100000

def prAV (p : List UInt8 × List UInt8) : List AV := [.str p.1, .str p.2]
/-- A part of a form, as a name and a value. -/
def pairP (p : List UInt8) : List UInt8 × List UInt8 := (decT true (Lib.cut p [61]).1, decT true (Lib.cut p [61]).2.1)
def pairOk (p : List UInt8) : Bool := decOk (Lib.cut p [61]).1 && decOk (Lib.cut p [61]).2.1
def splitB (c : UInt8) : List UInt8 → List (List UInt8)
  | [] => [[]]
  | b :: r => if b = c then [] :: splitB c r else (b :: (splitB c r).headD []) :: (splitB c r).tail
def nz (l : List UInt8) : List (List UInt8) := (splitB 38 l).filter (fun p => !p.isEmpty)
def one (p : List UInt8) : List (List UInt8) := if p = [] then [] else [p]
def formOk (s : List UInt8) : Bool := (nz s).all pairOk && decide ((nz s).length ≤ 32)
def tgtOk (s : List UInt8) : Bool := decide (s.length ≤ 1024) && (decide (s.head? = some 47) && (s.all (fun b => !pOdd b) && (decOk (Lib.cut s [63]).1 && (!(Lib.cut s [63]).2.2 || formOk (Lib.cut s [63]).2.1))))
/-- The pairs of a form; a target's path and query. -/
def formP (s : List UInt8) : List (List UInt8 × List UInt8) := (nz s).map pairP
def tgtP (s : List UInt8) : List UInt8 := decT false (Lib.cut s [63]).1
def tgtQ (s : List UInt8) : List (List UInt8 × List UInt8) := if (Lib.cut s [63]).2.2 then formP (Lib.cut s [63]).2.1 else []
theorem mem_bAt {s : List UInt8} {c : UInt8} (h : c ∈ s) : ∃ i : Nat, i < s.length ∧ s[i]? = some c := by
  obtain ⟨i, hi, he⟩ := List.getElem_of_mem h
  exact ⟨i, hi, by rw [List.getElem?_eq_getElem hi, he]⟩
theorem get_bAt {s : List UInt8} {i : Nat} (h : i < s.length) : s[i]? = some (bAt s (i : Int)) := by
  simp [bAt, List.getD_eq_getElem?_getD, h]
theorem all_bAt {s : List UInt8} {f : UInt8 → Bool} (h : ∀ j : Nat, j < s.length → f (bAt s (j : Int)) = true) : s.all f = true := by
  rw [List.all_eq_true]
  intro x hx
  obtain ⟨i, hi, he⟩ := mem_bAt hx
  rw [get_bAt hi] at he
  injection he with he
  rw [← he]
  exact h i hi
theorem all_bAt_not {s : List UInt8} {f : UInt8 → Bool} {j : Nat} (hj : j < s.length) (h : f (bAt s (j : Int)) = false) : s.all f = false := by
  cases ha : s.all f with
  | false => rfl
  | true =>
    rw [List.all_eq_true] at ha
    have := ha _ (List.mem_of_getElem? (get_bAt hj))
    rw [h] at this
    cases this
end Go.Proofs.YtnjolbnbpfjdiaaDoor.L

namespace Go.Proofs.YtnjolbnbpfjdiaaDoor.L
open Go Go.RowKit Go.Proofs
set_option linter.unusedVariables false
set_option linter.unusedSimpArgs false
set_option maxRecDepth 100000
attribute [local irreducible] AL QL AWp Thn InB RetQ ACalls LoopQ HL HO HW HQ NoG JmpQ MidQ HF

section
variable {E : Env} {sl : Slots} {H : List AO}
theorem VR.nilif_inv {w : World} {I : Imm} {ν : Nu} {v : Value} (h : VR w I ν .nilif v) : v = .nilIface := by
  cases h with
  | pure h => cases h; rfl
theorem VR.iface_inv {w : World} {I : Imm} {ν : Nu} {v : Value} (h : VR w I ν .iface v) : ∃ t u, v = .iface t u := by
  cases h with
  | pure h => cases h; exact ⟨_, _, rfl⟩
end
def blank (b : UInt8) : Prop := b = 32 ∨ b = 9
instance (b : UInt8) : Decidable (blank b) := by unfold blank; exact inferInstance
section
variable {w0 : World} {base : Nat}
theorem var_at {g : Nat} {I : Imm} {ν : Nu} {H : List AO} {w : World} {v : Value} (hg : g < base) (hv : w0.cell? ⟨g, 0, none⟩ = some v) (hh : HR (EE w0 base) I ν H w) : w.cell? ⟨g, 0, none⟩ = some v := (hh.below.cell hg).trans hv
/-- How strconv.Atoi ends. -/
def AtoiR (l : List UInt8) (rv : AV) : Prop := (∃ v, Lib.atoiAll l = .ok v ∧ rv = .tup [.int .i64 v, .nilif]) ∨ ((∀ v, Lib.atoiAll l ≠ .ok v) ∧ ∃ n, rv = .tup [.int .i64 n, .iface])
theorem tup_iface {w : World} {I : Imm} {ν : Nu} (n : Int) (t : TypeId) (u : Value) : VR w I ν (.tup [.int .i64 n, .iface]) (.tuple #[.int .i64 n, .iface t u]) := by
  refine .tup _ [_, _] rfl (fun j x v h1 h2 => ?_)
  match j, h1, h2 with
  | 0, h1, h2 => simp at h1 h2; subst h1; subst h2; exact .pure (.int _ _)
  | 1, h1, h2 => simp at h1 h2; subst h1; subst h2; exact .pure (.iface _ _)
  | j + 2, h1, h2 => simp at h1
theorem s_atoiA {l : List UInt8} (hG : Tabs w0 base) (hl : l.length ≤ 281474976710656) : PCalls (EE w0 base) 60 [.str l] (AtoiR l) := by
  refine pcalls_real fun I ν w vs hh hlen hv => ?_
  match vs, hlen with
  | [v1], _ =>
  have e1 := (hv 0 _ v1 rfl rfl).str_inv
  subst e1
  have hlt := hG.lt
  obtain ⟨te, pe, hes⟩ := hG.es
  obtain ⟨tr, pr, her⟩ := hG.er
  have hes := var_at (Nat.lt_of_lt_of_le (by decide) hlt) hes hh
  have her := var_at (Nat.lt_of_lt_of_le (by decide) hlt) her hh
  cases hx : Lib.atoiAll l with
  | ok v =>
    refine (Tryd.strconv_Atoi_ok ⟨l.toArray⟩ (by rw [size_mk]; omega) v (by simpa using hx) w).mono fun e w' ⟨he, hw⟩ => ⟨_, _, .inl ⟨v, hx, rfl⟩, rfl, he, ?_, ?_⟩
    · rcases hw with rfl | ⟨t, rfl⟩
      · exact Below.refl _ _
      · exact Lib.bytesWorld_below _ _ _
    · refine .tup _ [_, _] rfl (fun j x v h1 h2 => ?_)
      match j, h1, h2 with
      | 0, h1, h2 => simp at h1 h2; subst h1; subst h2; exact .pure (.int _ _)
      | 1, h1, h2 => simp at h1 h2; subst h1; subst h2; exact .pure .nilif
      | j + 2, h1, h2 => simp at h1
  | range =>
    refine (Tryd.strconv_Atoi_range ⟨l.toArray⟩ (by rw [size_mk]; omega) (by simpa using hx) _ w her (.inr ⟨_, _, rfl⟩)).mono fun e w' ⟨N, he, _, _, hb⟩ => ⟨_, _, .inr ⟨fun v k => (by rw [hx] at k; cases k), _, rfl⟩, rfl, he, hb, tup_iface _ _ _⟩
  | _ =>
    refine (Tryd.strconv_Atoi_syntax ⟨l.toArray⟩ (by rw [size_mk]; omega) (by simpa using hx) _ w hes (.inr ⟨_, _, rfl⟩)).mono fun e w' ⟨N, he, _, _, hb⟩ => ⟨_, _, .inr ⟨fun v k => (by rw [hx] at k; cases k), _, rfl⟩, rfl, he, hb, tup_iface _ _ _⟩
end
end Go.Proofs.YtnjolbnbpfjdiaaDoor.L

namespace Go.Proofs.YtnjolbnbpfjdiaaDoor.L
open Go Go.RowKit Go.Proofs
set_option linter.unusedVariables false
set_option linter.unusedSimpArgs false
set_option maxRecDepth 100000
attribute [local irreducible] AL QL AWp Thn InB RetQ ACalls LoopQ HL HO HW HQ NoG JmpQ MidQ HF

def firstEq (v : List UInt8) : List (List UInt8) → Nat → Option Nat
  | [], _ => none
  | x :: r, k => if v = x then some k else firstEq v r (k + 1)
theorem txtAV_len (a : List (List UInt8)) : (txtAV a).length = a.length := List.length_map _
/-- The number of a text that is written as numbers are. -/
def numI (s : List UInt8) : Option Int := match Lib.atoiAll s with
  | .ok v => if Lib.itoa v = s then some v else none
  | _ => none
def wordI (s : List UInt8) : List UInt8 := if 0 ≤ Lib.indexAny s [32, 9] then s.take (Lib.indexAny s [32, 9]).toNat else s
def restI (s : List UInt8) : List UInt8 := if 0 ≤ Lib.indexAny s [32, 9] then Lib.trimS (s.drop (Lib.indexAny s [32, 9]).toNat) [32, 9] else []
/-- A line's instruction. -/
def readI (s : List UInt8) : Option (Int × Int) := match firstEq (wordI s) nameL 0 with
  | none => none
  | some a => if hasAP ((a : Int) + 1) then (match numI (restI s) with
      | some n => some ((a : Int) + 1, n)
      | none => none)
    else if restI s = [] then some ((a : Int) + 1, 0) else none
def ReadR (s : List UInt8) (rv : AV) : Prop := ∃ i : Int × Int, rv = .tup [.agg (insC i), .bool (readI s).isSome] ∧ ∀ x, readI s = some x → i = x
section
variable {w0 : World} {base : Nat}
end
end Go.Proofs.YtnjolbnbpfjdiaaDoor.L

namespace Go.Proofs.YtnjolbnbpfjdiaaDoor.L
open Go Go.RowKit Go.Proofs
set_option linter.unusedVariables false
set_option linter.unusedSimpArgs false
set_option maxRecDepth 100000
attribute [local irreducible] AL QL AWp Thn InB RetQ ACalls LoopQ HL HO HW HQ NoG JmpQ MidQ HF

section
variable {E : Env} {sl : Slots} {H : List AO}
theorem ov_sne_t {t t' : TypeId} {x y : Operand} {m n : List UInt8} (h : m ≠ n) (hx : ev sl x = some (.str m)) (hy : ev sl y = some (.str n)) : OV E sl H (.binOp .neq t x y t') (.bool true) := by
  have := ov_sne (E := E) (H := H) (t := t) (t' := t') hx hy
  rwa [decide_eq_true h] at this
theorem ov_sne_f {t t' : TypeId} {x y : Operand} {m n : List UInt8} (h : m = n) (hx : ev sl x = some (.str m)) (hy : ev sl y = some (.str n)) : OV E sl H (.binOp .neq t x y t') (.bool false) := by
  have := ov_sne (E := E) (H := H) (t := t) (t' := t') hx hy
  rwa [decide_eq_false (fun k => k h)] at this
theorem ov_seq_t {t t' : TypeId} {x y : Operand} {m n : List UInt8} (h : m = n) (hx : ev sl x = some (.str m)) (hy : ev sl y = some (.str n)) : OV E sl H (.binOp .eql t x y t') (.bool true) := by
  have := ov_seq (E := E) (H := H) (t := t) (t' := t') hx hy
  rwa [decide_eq_true h] at this
theorem ov_seq_f {t t' : TypeId} {x y : Operand} {m n : List UInt8} (h : m ≠ n) (hx : ev sl x = some (.str m)) (hy : ev sl y = some (.str n)) : OV E sl H (.binOp .eql t x y t') (.bool false) := by
  have := ov_seq (E := E) (H := H) (t := t) (t' := t') hx hy
  rwa [decide_eq_false h] at this
theorem retc1 {N : Nat} {fn : Func} {R : AV → List AO → Prop} {e : Exit} {σ : St} {p ty t n b : Nat} {z : Value} {pv x : AV} {cs : List AV} [ti : TZ E.P ty true n b z] (he : e = .normal ∨ e = .ret) (h2 : fn.results = #[.cell p ty, .tmp t]) (hp : lk σ.sl p = some pv) (hc : cellsAt σ.objs pv = some cs) (hn : Nat.ble n cs.length = true) (k : lk σ.sl t = some x) (hR : R (.tup [.agg (cs.take n), x]) σ.objs) : RetQ E N fn R e σ :=
  retQ_mk he σ [.cell p ty, .tmp t] [.agg (cs.take n), x] (.refl σ) h2 (.agg hp hc hn (.tmp k .nil)) hR
end
section
variable {w0 : World} {base : Nat}
end
end Go.Proofs.YtnjolbnbpfjdiaaDoor.L

namespace Go.Proofs.YtnjolbnbpfjdiaaDoor.L
open Go Go.RowKit Go.Proofs
set_option linter.unusedVariables false
set_option linter.unusedSimpArgs false
set_option maxRecDepth 100000
attribute [local irreducible] AL QL AWp Thn InB RetQ ACalls LoopQ HL HO HW HQ NoG JmpQ MidQ HF

def cutC (line : List UInt8) : List UInt8 := (Lib.cut line [59]).1
def bareI (t : List UInt8) : List UInt8 := Lib.trimS t [32, 9]
def leadI (t : List UInt8) : Nat := t.length - (Lib.trimLeftS t [32, 9]).length
/-- How the reading of lines ends. -/
inductive PR where
  | bad (p : Nat)
  | done (out : Ins) (ps : List Int)
def codeL : List (List UInt8) → Nat → Ins → List Int → PR
  | [], _, out, ps => .done out ps
  | line :: r, at', out, ps => if bareI (cutC line) = [] then codeL r (at' + (line.length + 1)) out ps else match readI (bareI (cutC line)) with
    | none => .bad (at' + leadI (cutC line))
    | some x => codeL r (at' + (line.length + 1)) (out ++ [x]) (ps ++ [((at' + leadI (cutC line) : Nat) : Int)])
def endC (out : Ins) (ps : List Int) : Ins × Int × Int := if (checkI out).1 = 0 then (out, 0, 0) else if (checkI out).1 = 130 then ([], 130, ps.getD (checkI out).2.toNat 0) else ([], (checkI out).1, 0)
/-- The instructions of a text; a number of what is wrong; where. -/
def parseI (s : List UInt8) : Ins × Int × Int := if 262144 < s.length then ([], 4, 0) else match codeL (splitB 10 s) 0 [] [] with
  | .bad p => ([], 130, (p : Int))
  | .done out ps => endC out ps
def sumL : List (List UInt8) → Nat
  | [] => 0
  | l :: r => l.length + 1 + sumL r
section
variable {w0 : World} {base : Nat}
end
end Go.Proofs.YtnjolbnbpfjdiaaDoor.L

namespace Go.Proofs.YtnjolbnbpfjdiaaDoor.L
open Go Go.RowKit Go.Proofs
set_option linter.unusedVariables false
set_option linter.unusedSimpArgs false
set_option maxRecDepth 100000

def digB (c : UInt8) : Bool := decide (48 ≤ c.toNat) && decide (c.toNat ≤ 57)
theorem digB_iff {c : UInt8} : digB c = true ↔ 48 ≤ c.toNat ∧ c.toNat ≤ 57 := by simp only [digB, Bool.and_eq_true, decide_eq_true_eq]
def fv (m : Nat) (l : List UInt8) : Nat := l.foldl (fun m c => 10 * m + (c.toNat - 48)) m
theorem fv_cons (m : Nat) (c : UInt8) (l : List UInt8) : fv m (c :: l) = fv (10 * m + (c.toNat - 48)) l := by unfold fv; rw [List.foldl_cons]
theorem fv_snoc (m : Nat) (l : List UInt8) (c : UInt8) : fv m (l ++ [c]) = 10 * fv m l + (c.toNat - 48) := by unfold fv; rw [List.foldl_append, List.foldl_cons, List.foldl_nil]
theorem fv_ge : ∀ (l : List UInt8) (m : Nat), m ≤ fv m l := by
  intro l
  induction l with
  | nil => intro m; exact Nat.le_refl _
  | cons c l ih =>
    intro m
    rw [fv_cons]
    have := ih (10 * m + (c.toNat - 48))
    omega
/-- Digits, without noughts ahead. -/
structure DigL (l : List UInt8) : Prop where
  ne : l ≠ []
  dig : l.all digB = true
  lead : 1 < l.length → l.head? ≠ some 48
theorem ofNat_dig {k : Nat} (h : k < 10) : (UInt8.ofNat (48 + k)).toNat = 48 + k := by
  rw [UInt8.toNat_ofNat']
  omega
theorem dec_is : ∀ (u : Nat), DigL (Lib.decDigits u) ∧ fv 0 (Lib.decDigits u) = u ∧ (1 ≤ u → (Lib.decDigits u).head? ≠ some 48) := by
  intro u
  induction u using Nat.strongRecOn with
  | _ u ih =>
    rw [Lib.decDigits]
    split
    · rename_i h
      have e := ofNat_dig h
      refine ⟨⟨by simp, by rw [List.all_cons, List.all_nil, Bool.and_true]; exact digB_iff.2 (by omega), fun k => by simp at k⟩, ?_, fun h1 k => ?_⟩
      · rw [fv_cons, e]; show 10 * 0 + (48 + u - 48) = u; omega
      · simp only [List.head?_cons, Option.some.injEq] at k
        have := congrArg UInt8.toNat k
        rw [e] at this
        have h48 : (48 : UInt8).toNat = 48 := rfl
        omega
    · rename_i h
      obtain ⟨d, hv, hz⟩ := ih (u / 10) (by omega)
      have e := ofNat_dig (k := u % 10) (by omega)
      have hhead : (Lib.decDigits (u / 10) ++ [UInt8.ofNat (48 + u % 10)]).head? = (Lib.decDigits (u / 10)).head? := by
        cases hq : Lib.decDigits (u / 10) with
        | nil => exact absurd hq d.ne
        | cons a r => rfl
      refine ⟨⟨by simp, by rw [List.all_append, d.dig, List.all_cons, List.all_nil, Bool.and_true, Bool.true_and]; exact digB_iff.2 (by omega), fun _ => by rw [hhead]; exact hz (by omega)⟩, ?_, fun _ => by rw [hhead]; exact hz (by omega)⟩
      rw [fv_snoc, hv, e]
      omega
theorem parseUint_fv : ∀ (l : List UInt8) (acc : Nat), l.all digB = true → fv acc l < 18446744073709551616 → Lib.parseUint10 acc l = .ok (fv acc l) := by
  intro l
  induction l with
  | nil => intro acc _ _; rfl
  | cons c l ih =>
    intro acc h hf
    rw [List.all_cons, Bool.and_eq_true] at h
    have hc := digB_iff.1 h.1
    rw [fv_cons] at hf ⊢
    have hge := fv_ge l (10 * acc + (c.toNat - 48))
    have e : acc * 10 + (c.toNat - 48) = 10 * acc + (c.toNat - 48) := by omega
    rw [Lib.parseUint10, if_pos hc, if_neg (by omega), if_neg (by omega), e]
    exact ih _ h.2 hf
theorem digL_head {l : List UInt8} (d : DigL l) : ∃ c r, l = c :: r ∧ c.toNat ≠ 43 ∧ c.toNat ≠ 45 := by
  cases l with
  | nil => exact absurd rfl d.ne
  | cons c r =>
    have := d.dig
    rw [List.all_cons, Bool.and_eq_true] at this
    have := digB_iff.1 this.1
    exact ⟨c, r, rfl, by omega, by omega⟩
theorem atoi_itoa {v : Int} (h0 : -9223372036854775808 ≤ v) (h1 : v ≤ 9223372036854775807) : Lib.atoiAll (Lib.itoa v) = .ok v := by
  unfold Lib.itoa
  split
  · rename_i hn
    obtain ⟨d, hv, _⟩ := dec_is v.natAbs
    unfold Lib.atoiAll
    dsimp only
    have h45 : (45 : UInt8).toNat = 45 := rfl
    rw [if_pos (.inr h45)]
    unfold Lib.parseMag
    rw [if_neg d.ne, parseUint_fv _ 0 d.dig (by rw [hv]; omega), hv]
    dsimp only
    rw [if_neg (by rw [h45]; simp), if_neg (by omega), if_pos h45]
    congr 1
    omega
  · rename_i hn
    obtain ⟨d, hv, _⟩ := dec_is v.toNat
    obtain ⟨c, r, hcr, hc1, hc2⟩ := digL_head d
    unfold Lib.atoiAll
    rw [hcr]
    dsimp only
    rw [if_neg (by omega), ← hcr]
    unfold Lib.parseMag
    rw [if_neg d.ne, parseUint_fv _ 0 d.dig (by rw [hv]; omega), hv]
    dsimp only
    rw [if_neg (by omega), if_neg (by omega), if_neg hc2]
    congr 1
    omega
/-- A number of a text, the document's: by its negative. -/
def negN : List UInt8 → Nat → Option Nat
  | [], m => some m
  | c :: r, m => if digB c = true ∧ 10 * m + (c.toNat - 48) ≤ 9223372036854775808 then negN r (10 * m + (c.toNat - 48)) else none
def belowN (s : List UInt8) : Prop := 1 < s.length ∧ s.head? = some 45
instance (s : List UInt8) : Decidable (belowN s) := by unfold belowN; exact inferInstance
def tailN (s : List UInt8) : List UInt8 := if belowN s then s.drop 1 else s
def numG (s : List UInt8) : Option Int :=
  if tailN s = [] ∨ (1 < (tailN s).length ∧ (tailN s).head? = some 48) ∨ (belowN s ∧ (tailN s).head? = some 48) then none
  else match negN (tailN s) 0 with
    | none => none
    | some m => if belowN s then some (-(m : Int)) else if m = 9223372036854775808 then none else some (m : Int)
end Go.Proofs.YtnjolbnbpfjdiaaDoor.L

namespace Go.Proofs.YtnjolbnbpfjdiaaDoor.L
open Go Go.RowKit Go.Proofs
set_option linter.unusedVariables false
set_option linter.unusedSimpArgs false
set_option maxRecDepth 100000
attribute [local irreducible] AL QL AWp Thn InB RetQ ACalls LoopQ HL HO HW HQ NoG

section
variable {w0 : World} {base : Nat}
abbrev frmO (ver : Nat) (e k : Int) (xs : List (List AV)) : List AO := [.box [.os 3 ver], .box [.int .i64 e], .box [.int .i64 k], .row 61 2 ver 0 xs]
def FormR (s : List UInt8) (rv : AV) : Prop := ∃ q e k, rv = .tup [.rs q, .int .i64 e, .int .i64 k] ∧ (e = 0 ↔ formOk s = true) ∧ 0 ≤ k ∧ k ≤ s.length + 1 ∧ (e = 0 → q = (formP s).map prAV)
def TgtR (s : List UInt8) (rv : AV) : Prop := ∃ p q e k, rv = .tup [.str p, .rs q, .int .i64 e, .int .i64 k] ∧ (e = 0 ↔ tgtOk s = true) ∧ (e = 0 → p = tgtP s ∧ q = (tgtQ s).map prAV)
end
end Go.Proofs.YtnjolbnbpfjdiaaDoor.L

namespace Go.Proofs.YtnjolbnbpfjdiaaDoor.L
open Go Go.RowKit Go.Proofs
set_option linter.unusedVariables false
set_option linter.unusedSimpArgs false
set_option maxRecDepth 100000
attribute [local irreducible] AL QL AWp Thn InB RetQ ACalls LoopQ HL HO HW HQ NoG

theorem retc2 {E : Env} {N : Nat} {fn : Func} {R : AV → List AO → Prop} {e : Exit} {σ : St} {p ty t u n b : Nat} {z : Value} {pv x y : AV} {cs : List AV} [ti : TZ E.P ty true n b z] (he : e = .normal ∨ e = .ret) (h2 : fn.results = #[.cell p ty, .tmp t, .tmp u]) (hp : lk σ.sl p = some pv) (hc : cellsAt σ.objs pv = some cs) (hn : Nat.ble n cs.length = true) (k : lk σ.sl t = some x) (l : lk σ.sl u = some y) (hR : R (.tup [.agg (cs.take n), x, y]) σ.objs) : RetQ E N fn R e σ :=
  retQ_mk he σ [.cell p ty, .tmp t, .tmp u] [.agg (cs.take n), x, y] (.refl σ) h2 (.agg hp hc hn (.tmp k (.tmp l .nil))) hR
section
variable {w0 : World} {base : Nat}
end
end Go.Proofs.YtnjolbnbpfjdiaaDoor.L

namespace Go.Proofs.YtnjolbnbpfjdiaaDoor.L
open Go Go.RowKit Go.Proofs
set_option linter.unusedVariables false
set_option linter.unusedSimpArgs false
set_option maxRecDepth 100000
attribute [local irreducible] AL QL AWp Thn InB RetQ ACalls LoopQ HL HO HW HQ NoG

section
variable {w0 : World} {base : Nat}
theorem eq_get {s : List UInt8} {c : UInt8} {j : Nat} (hj : j < s.length) (h : byteAt s (j : Int) = (c.toNat : Int)) : s[j]? = some c := by
  rw [get_bAt hj]
  exact congrArg some (u8_of_int c.toNat c.toNat_lt (by rw [← byteAt_eq]; exact h) |>.trans (by simp))
end
end Go.Proofs.YtnjolbnbpfjdiaaDoor.L

namespace Go.Proofs.YtnjolbnbpfjdiaaDoor.L
open Go Go.RowKit Go.Proofs
set_option linter.unusedVariables false
set_option linter.unusedSimpArgs false
set_option maxRecDepth 100000
attribute [local irreducible] AL QL AWp Thn InB RetQ ACalls LoopQ HL HO HW HQ NoG

def lowB (b : UInt8) : UInt8 := if pLarge b then b + 32 else b
def smallS (s : List UInt8) : List UInt8 := s.map lowB
theorem lowB_large' : ∀ b : UInt8, pLarge b = true → ((lowB b).toNat : Int) = b.toNat + 32 := u8_all (by decide +kernel)
theorem lowB_not {b : UInt8} (h : pLarge b = false) : lowB b = b := by unfold lowB; rw [if_neg (by simp [h])]
theorem pLarge_iff (b : UInt8) : pLarge b = true ↔ 65 ≤ b.toNat ∧ b.toNat ≤ 90 := by unfold pLarge; simp
/-- A text whose letters before a place are small. -/
def halfS (s : List UInt8) (k : Nat) : List UInt8 := smallS (s.take k) ++ s.drop k
section
variable {w0 : World} {base : Nat}
theorem bytes_snocB {l : List UInt8} {b : UInt8} : bytesAV l ++ [[.int .u8 (b.toNat : Int)]] = bytesAV (l ++ [b]) := by simp [bytesAV]
theorem smallS_next {s : List UInt8} {i : Nat} (h : i < s.length) : smallS (s.take (i + 1)) = smallS (s.take i) ++ [lowB (bAt s (i : Int))] := by
  unfold smallS
  rw [List.take_add_one, get_bAt h]
  simp
set_option maxHeartbeats 2000000 in
theorem s_smallR {s : List UInt8} (hs : s.length ≤ 140737488351232) : PCalls (EE w0 base) 108 [.str s] fun rv => rv = .str (smallS s) := by
  refine acalls_of Tryd.func108 rfl rfl rfl (.cons .nil) ?_
  repeat' (first|(refine k_al ?_;first|(refine al_v (ov_move rfl) rfl ?_)|(refine k_g ?_;first|(refine al_gy' rfl rfl (by with_reducible rfl) ?_)|(refine al_gnt rfl rfl (by with_reducible rfl) rfl ?_)|(refine al_gsp rfl rfl (fun hc => ?_) (fun hc => ?_) <;> (try (exfalso;omega))))|(refine k_bin ?_;first|(refine al_v (ov_cmp rfl rfl rfl) rfl ?_)|(refine al_v (ov_add rfl rfl (by (first|exact w64 (by omega) (by omega)|exact w8 (by omega) (by omega)|rfl))) rfl ?_))|(refine k_pick ?_;first|(refine al_v (ov_pick_t' rfl (by with_reducible rfl) rfl) rfl ?_)|(refine al_v (ov_pick_f' rfl (by with_reducible rfl) rfl) rfl ?_))|(refine al_v (ov_assign rfl) rfl ?_)|(refine k_call ?_;first|(refine al_v (ov_len_str rfl) rfl ?_))|(refine al_nil ?_)|(refine al_buildSlice (by rfl) (by rfl) (by rfl) (by rfl) (by decide) (by decide) (by rfl) (by rfl) (by repeat constructor) (by rfl) (by repeat constructor) (by rfl) (by first|exact ln1) (by repeat constructor) rfl ?_)|(refine al_v (ov_index rfl rfl (by omega) (by omega)) rfl ?_))|(first|(refine thn_n ?_)|(refine k_awp ?_;first|(refine awp_seq (awp_region ?_))|(refine awp_seq ?_)|(refine awp_region ?_)|(refine k_cond ?_;first|(refine awp_cond_f' rfl (by with_reducible rfl) ?_)|(refine awp_cond_p rfl (fun hc => ?_) (fun hc => ?_) <;> (try (exfalso;omega))))|(refine awp_block ?_)|(refine awp_ret ?_)|(refine awp_skip ?_)|(refine awp_exit ?_))|(refine lq_exit ?_)|(refine thn_exit ?_)|(refine inb_n ?_)|(refine inb_here ?_)))
  refine awp_adopt 3 5 1 rfl (by decide) rfl (by repeat constructor) ?_
  refine awp_loopq (fun p : Nat × Nat × List (List AV) => ⟨[(0, .str s), (3, .os 0 p.2.1), (4, .int .i64 p.1)], [.row 5 1 p.2.1 0 p.2.2]⟩)
    (fun p => p.1 ≤ s.length ∧ p.2.2 = bytesAV (smallS (s.take p.1))) (fun p => s.length - p.1) (0, 0, []) (.of (.same (by repeat constructor))) ⟨Nat.zero_le _, rfl⟩ ?_
  rintro ⟨i, ver, xs⟩ ⟨hi, hx⟩
  dsimp only at hi hx ⊢
  subst hx
  have hbl : (bytesAV (smallS (s.take i))).length = i := by simp [bytesAV, smallS]; omega
  have hlb := (bAt s (i : Int)).toNat_lt
  have hb := byteAt_eq s (i : Int)
  repeat' (first|((refine k_call ?_;refine al_append rfl rfl (by repeat constructor) (src_os rfl rfl) rfl (by decide) (by simp only [hbl, List.length_cons, List.length_nil];omega) rfl ?_))|(refine k_al ?_;first|(refine al_v (ov_move rfl) rfl ?_)|(refine k_g ?_;first|(refine al_gy' rfl rfl (by with_reducible rfl) ?_)|(refine al_gnt rfl rfl (by with_reducible rfl) rfl ?_)|(refine al_gsp rfl rfl (fun hc => ?_) (fun hc => ?_) <;> (try (exfalso;omega))))|(refine k_bin ?_;first|(refine al_v (ov_cmp rfl rfl rfl) rfl ?_)|(refine al_v (ov_add rfl rfl (by (first|exact w64 (by omega) (by omega)|exact w8 (by omega) (by omega)|rfl))) rfl ?_))|(refine k_pick ?_;first|(refine al_v (ov_pick_t' rfl (by with_reducible rfl) rfl) rfl ?_)|(refine al_v (ov_pick_f' rfl (by with_reducible rfl) rfl) rfl ?_))|(refine al_v (ov_assign rfl) rfl ?_)|(refine k_call ?_;first|(refine al_v (ov_len_str rfl) rfl ?_))|(refine al_nil ?_)|(refine al_buildSlice (by rfl) (by rfl) (by rfl) (by rfl) (by decide) (by decide) (by rfl) (by rfl) (by repeat constructor) (by rfl) (by repeat constructor) (by rfl) (by first|exact ln1) (by repeat constructor) rfl ?_)|(refine al_v (ov_index rfl rfl (by omega) (by omega)) rfl ?_))|(first|(refine thn_n ?_)|(refine k_awp ?_;first|(refine awp_seq (awp_region ?_))|(refine awp_seq ?_)|(refine awp_region ?_)|(refine k_cond ?_;first|(refine awp_cond_f' rfl (by with_reducible rfl) ?_)|(refine awp_cond_p rfl (fun hc => ?_) (fun hc => ?_) <;> (try (exfalso;omega))))|(refine awp_block ?_)|(refine awp_ret ?_)|(refine awp_skip ?_)|(refine awp_exit ?_))|(refine lq_exit ?_)|(refine thn_exit ?_)|(refine inb_n ?_)|(refine inb_here ?_)))
  · have hla : pLarge (bAt s (i : Int)) = true := (pLarge_iff _).2 (by omega)
    first|refine lq_back (i + 1, ver + 1, _) (.of (.same (by repeat constructor))) ?_ ?_|refine lq_back (i + 1, ver + 1, _) (.of (wk_drop [_] rfl (by repeat constructor) rfl (by repeat constructor) rfl)) ?_ ?_|refine lq_back (i + 1, ver + 1, _) (.of (wk_drop [_, _] rfl (by repeat constructor) rfl (by repeat constructor) rfl)) ?_ ?_|refine lq_back (i + 1, ver + 1, _) (.of (wk_drop [_, _, _] rfl (by repeat constructor) rfl (by repeat constructor) rfl)) ?_ ?_
    · refine ⟨by dsimp only; omega, ?_⟩
      dsimp only
      rw [smallS_next (by omega), ← bytes_snocB, lowB_large' _ hla]
      rfl
    · dsimp only; omega
  iterate 2
    · have hla : pLarge (bAt s (i : Int)) = false := by
        cases h : pLarge (bAt s (i : Int)) with
        | false => rfl
        | true => have := (pLarge_iff _).1 h; omega
      first|refine lq_back (i + 1, ver + 1, _) (.of (.same (by repeat constructor))) ?_ ?_|refine lq_back (i + 1, ver + 1, _) (.of (wk_drop [_] rfl (by repeat constructor) rfl (by repeat constructor) rfl)) ?_ ?_|refine lq_back (i + 1, ver + 1, _) (.of (wk_drop [_, _] rfl (by repeat constructor) rfl (by repeat constructor) rfl)) ?_ ?_|refine lq_back (i + 1, ver + 1, _) (.of (wk_drop [_, _, _] rfl (by repeat constructor) rfl (by repeat constructor) rfl)) ?_ ?_
      · refine ⟨by dsimp only; omega, ?_⟩
        dsimp only
        rw [smallS_next (by omega), ← bytes_snocB, lowB_not hla]
        rfl
      · dsimp only; omega
  · repeat' (first|((refine al_v (ov_conv_bytes (l := smallS s) rfl rfl (by rw [show smallS s = smallS (s.take i) by rw [List.take_of_length_le (by omega)]];exact .row _ _)) rfl ?_))|(refine k_al ?_;first|(refine al_v (ov_move rfl) rfl ?_)|(refine k_g ?_;first|(refine al_gy' rfl rfl (by with_reducible rfl) ?_)|(refine al_gnt rfl rfl (by with_reducible rfl) rfl ?_)|(refine al_gsp rfl rfl (fun hc => ?_) (fun hc => ?_) <;> (try (exfalso;omega))))|(refine k_bin ?_;first|(refine al_v (ov_cmp rfl rfl rfl) rfl ?_)|(refine al_v (ov_add rfl rfl (by (first|exact w64 (by omega) (by omega)|exact w8 (by omega) (by omega)|rfl))) rfl ?_))|(refine k_pick ?_;first|(refine al_v (ov_pick_t' rfl (by with_reducible rfl) rfl) rfl ?_)|(refine al_v (ov_pick_f' rfl (by with_reducible rfl) rfl) rfl ?_))|(refine al_v (ov_assign rfl) rfl ?_)|(refine k_call ?_;first|(refine al_v (ov_len_str rfl) rfl ?_))|(refine al_nil ?_)|(refine al_buildSlice (by rfl) (by rfl) (by rfl) (by rfl) (by decide) (by decide) (by rfl) (by rfl) (by repeat constructor) (by rfl) (by repeat constructor) (by rfl) (by first|exact ln1) (by repeat constructor) rfl ?_)|(refine al_v (ov_index rfl rfl (by omega) (by omega)) rfl ?_))|(first|(refine thn_n ?_)|(refine k_awp ?_;first|(refine awp_seq (awp_region ?_))|(refine awp_seq ?_)|(refine awp_region ?_)|(refine k_cond ?_;first|(refine awp_cond_f' rfl (by with_reducible rfl) ?_)|(refine awp_cond_p rfl (fun hc => ?_) (fun hc => ?_) <;> (try (exfalso;omega))))|(refine awp_block ?_)|(refine awp_ret ?_)|(refine awp_skip ?_)|(refine awp_exit ?_))|(refine lq_exit ?_)|(refine thn_exit ?_)|(refine inb_n ?_)|(refine inb_here ?_)))
    refine ret1 (by first | exact .inr rfl | exact .inl rfl) rfl rfl ?_
    exact ⟨rfl, rfl⟩
end
end Go.Proofs.YtnjolbnbpfjdiaaDoor.L

namespace Go.Proofs.YtnjolbnbpfjdiaaDoor.L
open Go Go.RowKit Go.Proofs
set_option linter.unusedVariables false
set_option linter.unusedSimpArgs false
set_option maxRecDepth 100000
attribute [local irreducible] AL QL AWp Thn InB RetQ ACalls LoopQ HL HO HW HQ NoG

def verOk (v : List UInt8) : Bool := decide (v.length = 8) && (Lib.hasPrefix v [72, 84, 84, 80, 47] && (pDigit (bAt v 5) && (decide (byteAt v 6 = 46) && pDigit (bAt v 7))))
theorem signs_mem : ∀ b : UInt8, decide (0 ≤ Lib.indexByte signs b) = signs.contains b := u8_all (by decide +kernel)
theorem trim_eq {s : List UInt8} {a b : Nat} (hab : a ≤ b) (hb : b ≤ s.length) (h1 : ∀ j : Nat, j < a → ([32, 9] : List UInt8).contains (bAt s (j : Int)) = true) (h2 : ∀ j : Nat, b ≤ j → j < s.length → ([32, 9] : List UInt8).contains (bAt s (j : Int)) = true)
    (h3 : a < b → ([32, 9] : List UInt8).contains (bAt s (a : Int)) = false ∧ ([32, 9] : List UInt8).contains (bAt s ((b - 1 : Nat) : Int)) = false) : Lib.trimS s [32, 9] = (s.take b).drop a := by
  have get : ∀ (j : Nat) (x : UInt8), s[j]? = some x → j < s.length ∧ bAt s (j : Int) = x := fun j x h => by
    have hj := (List.getElem?_eq_some_iff.1 h).1
    rw [get_bAt hj] at h
    injection h with h
    exact ⟨hj, h⟩
  unfold Lib.trimS
  rcases Nat.lt_or_ge a b with hlt | hge
  · obtain ⟨h4, h5⟩ := h3 hlt
    rw [Lib.trimRightS_take s [32, 9] b hb (fun j x hj hx => by obtain ⟨g1, g2⟩ := get j x hx; rw [← g2]; exact h2 j hj g1) (fun x _ hx => by obtain ⟨g1, g2⟩ := get _ x hx; rw [← g2]; exact h5)]
    refine Lib.trimLeftS_drop _ _ a (by simp; omega) (fun j x hj hx => ?_) (fun x hx => ?_)
    · rw [List.getElem?_take, if_pos (by omega)] at hx
      obtain ⟨g1, g2⟩ := get j x hx; rw [← g2]; exact h1 j hj
    · rw [List.getElem?_take, if_pos hlt] at hx
      obtain ⟨g1, g2⟩ := get a x hx; rw [← g2]; exact h4
  · obtain rfl : a = b := by omega
    rw [Lib.trimRightS_take s [32, 9] 0 (Nat.zero_le _) (fun j x _ hx => by
      obtain ⟨g1, g2⟩ := get j x hx
      rw [← g2]
      rcases Nat.lt_or_ge j a with h | h
      · exact h1 j h
      · exact h2 j h g1) (fun x h => absurd h (Nat.lt_irrefl 0))]
    rw [List.drop_eq_nil_of_le (by simp; omega)]
    rfl
theorem blank_iff (s : List UInt8) (m : Int) : ([32, 9] : List UInt8).contains (bAt s m) = true ↔ byteAt s m = 32 ∨ byteAt s m = 9 := by
  rw [byteAt_eq]
  generalize bAt s m = b
  revert b
  exact u8_all (by decide +kernel)
theorem blank_not (s : List UInt8) (m : Int) : ([32, 9] : List UInt8).contains (bAt s m) = false ↔ ¬ (byteAt s m = 32 ∨ byteAt s m = 9) := by
  rw [← blank_iff, Bool.not_eq_true]
theorem occ_crlf (l : List UInt8) (i : Nat) : Lib.occAt l [13, 10] i = true ↔ l[i]? = some 13 ∧ l[i + 1]? = some 10 := by
  constructor
  · intro h
    exact ⟨Lib.occAt_head rfl h, Lib.occAt_second rfl h⟩
  · rintro ⟨h1, h2⟩
    obtain ⟨g1, g2⟩ := List.getElem?_eq_some_iff.1 h1
    obtain ⟨g3, g4⟩ := List.getElem?_eq_some_iff.1 h2
    unfold Lib.occAt
    rw [List.drop_eq_getElem_cons g1, List.drop_eq_getElem_cons g3, g2, g4]
    simp [List.isPrefixOf]
theorem cut_crlf_at {l : List UInt8} {i : Nat} (h1 : l[i]? = some 13) (h2 : l[i + 1]? = some 10) (hn : ∀ j, j < i → ¬ (l[j]? = some 13 ∧ l[j + 1]? = some 10)) : Lib.cut l [13, 10] = (l.take i, l.drop (i + 2), true) := by
  have hi := (List.getElem?_eq_some_iff.1 h1).1
  have := Lib.index_first (s := l) (sub := [13, 10]) (i := i) (by omega) ((occ_crlf l i).2 ⟨h1, h2⟩) (fun j hj => by
    cases h : Lib.occAt l [13, 10] j with
    | false => rfl
    | true => exact absurd ((occ_crlf l j).1 h) (hn j hj))
  unfold Lib.cut
  rw [this, if_pos (by omega)]
  simp
theorem cut_crlf_no {l : List UInt8} (hn : ∀ j : Nat, ¬ (l[j]? = some 13 ∧ l[j + 1]? = some 10)) : Lib.cut l [13, 10] = (l, [], false) := by
  have := Lib.index_none (s := l) (sub := [13, 10]) (fun j hj => by
    cases h : Lib.occAt l [13, 10] j with
    | false => rfl
    | true => exact absurd ((occ_crlf l j).1 h) (hn j))
  unfold Lib.cut
  rw [this, if_neg (by omega)]

section
variable {w0 : World} {base : Nat}
end
end Go.Proofs.YtnjolbnbpfjdiaaDoor.L

namespace Go.Proofs.YtnjolbnbpfjdiaaDoor.L
open Go Go.RowKit Go.Proofs
set_option linter.unusedVariables false
set_option linter.unusedSimpArgs false
set_option maxRecDepth 100000
attribute [local irreducible] AL QL AWp Thn InB RetQ ACalls LoopQ HL HO HW HQ NoG

section
variable {w0 : World} {base : Nat}
theorem signs_step (b : UInt8) (k : Nat) (h : k < 15) : (signs.take (k + 1)).contains b = ((signs.take k).contains b || decide ((b.toNat : Int) = byteAt signs (k : Int))) := by
  have : ∀ k : Fin 15, ∀ n : Fin 256, (signs.take (k.1 + 1)).contains (UInt8.ofNat n.1) = ((signs.take k.1).contains (UInt8.ofNat n.1) || decide (((UInt8.ofNat n.1).toNat : Int) = byteAt signs (k.1 : Int))) := by decide +kernel
  have := this ⟨k, h⟩ ⟨b.toNat, b.toNat_lt⟩
  simpa using this
theorem token_iff (b : UInt8) : pToken b = (decide (97 ≤ b.toNat ∧ b.toNat ≤ 122 ∨ 65 ≤ b.toNat ∧ b.toNat ≤ 90 ∨ 48 ≤ b.toNat ∧ b.toNat ≤ 57) || signs.contains b) := by
  rw [← signs_mem]
  unfold pToken pLarge pDigit
  rw [Bool.eq_iff_iff]
  simp only [Bool.or_eq_true, Bool.and_eq_true, decide_eq_true_eq]
  omega
set_option maxHeartbeats 4000000 in
theorem s_name {s : List UInt8} (hs : s.length ≤ 140737488351232) : PCalls (EE w0 base) 107 [.str s] fun rv => rv = .bool (s.all pToken && decide (1 ≤ s.length)) := by
  refine acalls_of Tryd.func107 rfl rfl rfl (.cons .nil) ?_
  repeat' (first|(refine k_al ?_;first|(refine al_v (ov_move rfl) rfl ?_)|(refine k_g ?_;first|(refine al_gy' rfl rfl (by with_reducible rfl) ?_)|(refine al_gnt rfl rfl (by with_reducible rfl) rfl ?_)|(refine al_gnf rfl rfl (by with_reducible rfl) rfl ?_)|(refine al_gu rfl rfl rfl ?_)|(refine al_gsp rfl rfl (fun hc => ?_) (fun hc => ?_) <;> (try (exfalso;omega)))|(refine al_gsb rfl rfl (fun hc => ?_) (fun hc => ?_) <;> (try (exact absurd hc (by decide)))))|(refine k_bin ?_;first|(refine al_v (ov_cmp rfl rfl rfl) rfl ?_)|(refine al_v (ov_add rfl rfl (by (first|exact w64 (by omega) (by omega)|rfl))) rfl ?_))|(refine k_pick ?_;first|(refine al_v (ov_pick_t' rfl (by with_reducible rfl) rfl) rfl ?_)|(refine al_v (ov_pick_f' rfl (by with_reducible rfl) rfl) rfl ?_))|(refine al_v (ov_assign rfl) rfl ?_)|(refine k_call ?_;first|(refine al_v (ov_len_str rfl) rfl ?_))|(refine al_nil ?_)|(refine al_v (ov_not rfl rfl) rfl ?_)|(refine al_v (ov_index rfl rfl (by omega) (by omega)) rfl ?_))|(first|(refine thn_n ?_)|(refine k_awp ?_;first|(refine awp_seq (awp_region ?_))|(refine awp_seq ?_)|(refine awp_region ?_)|(refine k_cond ?_;first|(refine awp_cond_p rfl (fun hc => ?_) (fun hc => ?_) <;> (try (exfalso;omega)))|(refine awp_cond_b rfl (fun hc => ?_) (fun hc => ?_) <;> (try (exact absurd hc (by decide)))))|(refine awp_block ?_)|(refine awp_ret ?_)|(refine awp_skip ?_)|(refine awp_exit ?_))|(refine thn_ret ?_)|(refine lq_exit ?_)|(refine lq_ret ?_)|(refine thn_exit ?_)|(refine inb_n ?_)|(refine inb_ret ?_)|(refine inb_here ?_)))
  refine awp_loopq (fun k : Nat => ⟨[(0, .str s), (3, .str signs), (4, .int .i64 k)], []⟩) (fun k => k ≤ s.length ∧ ∀ j, j < k → pToken (bAt s (j : Int)) = true) (fun k => s.length - k) 0 (.of (.same (by repeat constructor))) ⟨Nat.zero_le _, fun j h => absurd h (Nat.not_lt_zero _)⟩ ?_
  rintro i ⟨hi, hall⟩
  try dsimp only
  have hb := byteAt_eq s (i : Int)
  obtain ⟨b, hbe⟩ : ∃ b, bAt s (i : Int) = b := ⟨_, rfl⟩
  rw [hbe] at hb
  have htok := token_iff b
  obtain ⟨al, hal⟩ : ∃ al, al = decide (97 ≤ b.toNat ∧ b.toNat ≤ 122 ∨ 65 ≤ b.toNat ∧ b.toNat ≤ 90 ∨ 48 ≤ b.toNat ∧ b.toNat ≤ 57) := ⟨_, rfl⟩
  rw [← hal] at htok
  have hsl : signs.length = 15 := rfl
  repeat' (first|(refine k_al ?_;first|(refine al_v (ov_move rfl) rfl ?_)|(refine k_g ?_;first|(refine al_gy' rfl rfl (by with_reducible rfl) ?_)|(refine al_gnt rfl rfl (by with_reducible rfl) rfl ?_)|(refine al_gnf rfl rfl (by with_reducible rfl) rfl ?_)|(refine al_gu rfl rfl rfl ?_)|(refine al_gsp rfl rfl (fun hc => ?_) (fun hc => ?_) <;> (try (exfalso;omega)))|(refine al_gsb rfl rfl (fun hc => ?_) (fun hc => ?_) <;> (try (exact absurd hc (by decide)))))|(refine k_bin ?_;first|(refine al_v (ov_cmp rfl rfl rfl) rfl ?_)|(refine al_v (ov_add rfl rfl (by (first|exact w64 (by omega) (by omega)|rfl))) rfl ?_))|(refine k_pick ?_;first|(refine al_v (ov_pick_t' rfl (by with_reducible rfl) rfl) rfl ?_)|(refine al_v (ov_pick_f' rfl (by with_reducible rfl) rfl) rfl ?_))|(refine al_v (ov_assign rfl) rfl ?_)|(refine k_call ?_;first|(refine al_v (ov_len_str rfl) rfl ?_))|(refine al_nil ?_)|(refine al_v (ov_not rfl rfl) rfl ?_)|(refine al_v (ov_index rfl rfl (by omega) (by omega)) rfl ?_))|(first|(refine thn_n ?_)|(refine k_awp ?_;first|(refine awp_seq (awp_region ?_))|(refine awp_seq ?_)|(refine awp_region ?_)|(refine k_cond ?_;first|(refine awp_cond_p rfl (fun hc => ?_) (fun hc => ?_) <;> (try (exfalso;omega)))|(refine awp_cond_b rfl (fun hc => ?_) (fun hc => ?_) <;> (try (exact absurd hc (by decide)))))|(refine awp_block ?_)|(refine awp_ret ?_)|(refine awp_skip ?_)|(refine awp_exit ?_))|(refine thn_ret ?_)|(refine lq_exit ?_)|(refine lq_ret ?_)|(refine thn_exit ?_)|(refine inb_n ?_)|(refine inb_ret ?_)|(refine inb_here ?_)))
  iterate 6
    · refine awp_wkn (.spell 6 (.bool al) rfl (congrArg AV.bool ?_)) ?_
      · rw [hal, Bool.eq_iff_iff]
        simp only [decide_eq_true_eq, true_iff, false_iff, Bool.false_eq_true]
        omega
      refine awp_loopq (fun p : Nat × Bool => ⟨[(0, .str s), (3, .str signs), (4, .int .i64 i), (5, .int .u8 (byteAt s (i : Int))), (6, .bool p.2), (7, .int .i64 p.1)], []⟩) (fun p => p.1 ≤ 15 ∧ p.2 = (al || (signs.take p.1).contains b)) (fun p => 15 - p.1) (0, al) (.of (.same (by repeat constructor))) ⟨Nat.zero_le _, by simp⟩ ?_
      rintro ⟨k, ok⟩ ⟨hk, hok⟩
      dsimp only at hk hok ⊢
      repeat' (first|(refine k_al ?_;first|(refine al_v (ov_move rfl) rfl ?_)|(refine k_g ?_;first|(refine al_gy' rfl rfl (by with_reducible rfl) ?_)|(refine al_gnt rfl rfl (by with_reducible rfl) rfl ?_)|(refine al_gnf rfl rfl (by with_reducible rfl) rfl ?_)|(refine al_gu rfl rfl rfl ?_)|(refine al_gsp rfl rfl (fun hc => ?_) (fun hc => ?_) <;> (try (exfalso;omega)))|(refine al_gsb rfl rfl (fun hc => ?_) (fun hc => ?_) <;> (try (exact absurd hc (by decide)))))|(refine k_bin ?_;first|(refine al_v (ov_cmp rfl rfl rfl) rfl ?_)|(refine al_v (ov_add rfl rfl (by (first|exact w64 (by omega) (by omega)|rfl))) rfl ?_))|(refine k_pick ?_;first|(refine al_v (ov_pick_t' rfl (by with_reducible rfl) rfl) rfl ?_)|(refine al_v (ov_pick_f' rfl (by with_reducible rfl) rfl) rfl ?_))|(refine al_v (ov_assign rfl) rfl ?_)|(refine k_call ?_;first|(refine al_v (ov_len_str rfl) rfl ?_))|(refine al_nil ?_)|(refine al_v (ov_not rfl rfl) rfl ?_)|(refine al_v (ov_index rfl rfl (by omega) (by omega)) rfl ?_))|(first|(refine thn_n ?_)|(refine k_awp ?_;first|(refine awp_seq (awp_region ?_))|(refine awp_seq ?_)|(refine awp_region ?_)|(refine k_cond ?_;first|(refine awp_cond_p rfl (fun hc => ?_) (fun hc => ?_) <;> (try (exfalso;omega)))|(refine awp_cond_b rfl (fun hc => ?_) (fun hc => ?_) <;> (try (exact absurd hc (by decide)))))|(refine awp_block ?_)|(refine awp_ret ?_)|(refine awp_skip ?_)|(refine awp_exit ?_))|(refine thn_ret ?_)|(refine lq_exit ?_)|(refine lq_ret ?_)|(refine thn_exit ?_)|(refine inb_n ?_)|(refine inb_ret ?_)|(refine inb_here ?_)))
      · have hst := signs_step b k (by omega)
        first | refine lq_back (k + 1, true) (.of (.same (by repeat constructor))) ?_ ?_ | fail
        · refine ⟨by dsimp only; omega, ?_⟩
          dsimp only
          rw [hst, ← Bool.or_assoc, ← hok, ‹ok = true›]
          rfl
        · dsimp only; omega
      · have hst := signs_step b k (by omega)
        first | refine lq_back (k + 1, decide (byteAt s (i : Int) = byteAt signs (k : Int))) (.of (.same (by repeat constructor))) ?_ ?_ | fail
        · refine ⟨by dsimp only; omega, ?_⟩
          dsimp only
          rw [hst, ← Bool.or_assoc, ← hok, ‹ok = false›, Bool.false_or, ← hb]
        · dsimp only; omega
      all_goals
        have hkk : k = 15 := by omega
        subst hkk
        rw [show signs.take 15 = signs from rfl, ← htok] at hok
        subst hok
      · refine ret1 (by first | exact .inr rfl | exact .inl rfl) rfl rfl ?_
        rw [all_bAt_not (j := i) (by omega) (by rw [hbe]; simpa using ‹(!pToken b) = true›)]
        exact ⟨rfl, rfl⟩
      · first | refine lq_back (i + 1) (.of (.same (by repeat constructor))) ?_ ?_ | fail
        · refine ⟨by omega, fun j hj => ?_⟩
          rcases Nat.lt_or_ge j i with h | h
          · exact hall j h
          · obtain rfl : j = i := by omega
            rw [hbe]
            simpa using ‹(!pToken b) = false›
        · omega
  · refine ret1 (by first | exact .inr rfl | exact .inl rfl) rfl rfl ?_
    rw [all_bAt fun j hj => hall j (by omega)]
    refine ⟨congrArg AV.bool ?_, rfl⟩
    rw [Bool.true_and]
    exact decide_eq_decide.2 (by omega)
end
end Go.Proofs.YtnjolbnbpfjdiaaDoor.L

namespace Go.Proofs.YtnjolbnbpfjdiaaDoor.L
open Go Go.RowKit Go.Proofs
set_option linter.unusedVariables false
set_option linter.unusedSimpArgs false
set_option maxRecDepth 100000
attribute [local irreducible] AL QL AWp Thn InB RetQ ACalls LoopQ HL HO HW HQ NoG

section
variable {w0 : World} {base : Nat}
def endI (s : List UInt8) (at' : Nat) : Int := if (Lib.cut (s.drop at') [13, 10]).2.2 then ((at' + (Lib.cut (s.drop at') [13, 10]).1.length : Nat) : Int) else -1
theorem s_end {s : List UInt8} {at' : Nat} (hs : s.length ≤ 140737488351232) (ha : at' ≤ s.length) : PCalls (EE w0 base) 63 [.str s, .int .i64 at'] fun rv => rv = .int .i64 (endI s at') := by
  refine acalls_of Tryd.func63 rfl rfl rfl (.cons (.cons .nil)) ?_
  repeat' (first|(refine k_al ?_;first|(refine al_v (ov_move rfl) rfl ?_)|(refine k_g ?_;first|(refine al_gy' rfl rfl (by with_reducible rfl) ?_)|(refine al_gnt rfl rfl (by with_reducible rfl) rfl ?_)|(refine al_gsp rfl rfl (fun hc => ?_) (fun hc => ?_) <;> (try (exfalso;omega))))|(refine k_bin ?_;first|(refine al_v (ov_cmp rfl rfl rfl) rfl ?_)|(refine al_v (ov_add rfl rfl (by (first|exact w64 (by omega) (by omega)|rfl))) rfl ?_))|(refine k_pick ?_;first|(refine al_v (ov_pick_t' rfl (by with_reducible rfl) rfl) rfl ?_)|(refine al_v (ov_pick_f' rfl (by with_reducible rfl) rfl) rfl ?_))|(refine al_v (ov_assign rfl) rfl ?_)|(refine k_call ?_;first|(refine al_v (ov_len_str rfl) rfl ?_))|(refine al_nil ?_)|(refine al_v (ov_index rfl rfl (by omega) (by omega)) rfl ?_))|(first|(refine thn_n ?_)|(refine k_awp ?_;first|(refine awp_seq (awp_region ?_))|(refine awp_seq ?_)|(refine awp_region ?_)|(refine k_cond ?_;first|(refine awp_cond_f' rfl (by with_reducible rfl) ?_)|(refine awp_cond_p rfl (fun hc => ?_) (fun hc => ?_) <;> (try (exfalso;omega))))|(refine awp_block ?_)|(refine awp_ret ?_)|(refine awp_skip ?_)|(refine awp_exit ?_))|(refine thn_ret ?_)|(refine lq_exit ?_)|(refine lq_ret ?_)|(refine thn_exit ?_)|(refine inb_n ?_)|(refine inb_ret ?_)|(refine inb_here ?_)))
  refine awp_loopq (fun k : Nat => ⟨[(0, .str s), (5, .int .i64 k)], []⟩) (fun k => at' ≤ k ∧ k ≤ s.length ∧ ∀ j : Nat, at' ≤ j → j < k → ¬ (byteAt s (j : Int) = 13 ∧ byteAt s ((j : Int) + 1) = 10)) (fun k => s.length - k) at' (.of (.same (by repeat constructor))) ⟨Nat.le_refl _, ha, fun j h1 h2 => by omega⟩ ?_
  rintro i ⟨hi1, hi, hno⟩
  try dsimp only
  have key : ∀ j : Nat, (s.drop at')[j]? = some 13 ∧ (s.drop at')[j + 1]? = some 10 → at' + j + 1 < s.length ∧ byteAt s ((at' + j : Nat) : Int) = 13 ∧ byteAt s (((at' + j : Nat) : Int) + 1) = 10 := fun j ⟨h1, h2⟩ => by
    rw [List.getElem?_drop] at h1 h2
    have hj := (List.getElem?_eq_some_iff.1 h2).1
    rw [get_bAt (by omega)] at h1
    rw [get_bAt (by omega)] at h2
    injection h1 with h1
    injection h2 with h2
    refine ⟨by omega, by rw [byteAt_eq, h1]; rfl, ?_⟩
    rw [show (((at' + j : Nat) : Int) + 1) = ((at' + (j + 1) : Nat) : Int) by push_cast; omega, byteAt_eq, h2]
    rfl
  repeat' (first|(refine k_al ?_;first|(refine al_v (ov_move rfl) rfl ?_)|(refine k_g ?_;first|(refine al_gy' rfl rfl (by with_reducible rfl) ?_)|(refine al_gnt rfl rfl (by with_reducible rfl) rfl ?_)|(refine al_gsp rfl rfl (fun hc => ?_) (fun hc => ?_) <;> (try (exfalso;omega))))|(refine k_bin ?_;first|(refine al_v (ov_cmp rfl rfl rfl) rfl ?_)|(refine al_v (ov_add rfl rfl (by (first|exact w64 (by omega) (by omega)|rfl))) rfl ?_))|(refine k_pick ?_;first|(refine al_v (ov_pick_t' rfl (by with_reducible rfl) rfl) rfl ?_)|(refine al_v (ov_pick_f' rfl (by with_reducible rfl) rfl) rfl ?_))|(refine al_v (ov_assign rfl) rfl ?_)|(refine k_call ?_;first|(refine al_v (ov_len_str rfl) rfl ?_))|(refine al_nil ?_)|(refine al_v (ov_index rfl rfl (by omega) (by omega)) rfl ?_))|(first|(refine thn_n ?_)|(refine k_awp ?_;first|(refine awp_seq (awp_region ?_))|(refine awp_seq ?_)|(refine awp_region ?_)|(refine k_cond ?_;first|(refine awp_cond_f' rfl (by with_reducible rfl) ?_)|(refine awp_cond_p rfl (fun hc => ?_) (fun hc => ?_) <;> (try (exfalso;omega))))|(refine awp_block ?_)|(refine awp_ret ?_)|(refine awp_skip ?_)|(refine awp_exit ?_))|(refine thn_ret ?_)|(refine lq_exit ?_)|(refine lq_ret ?_)|(refine thn_exit ?_)|(refine inb_n ?_)|(refine inb_ret ?_)|(refine inb_here ?_)))
  · have hend : endI s at' = i := by
      have e : Lib.cut (s.drop at') [13, 10] = ((s.drop at').take (i - at'), (s.drop at').drop (i - at' + 2), true) := by
        refine cut_crlf_at ?_ ?_ fun j hj hc => ?_
        · rw [List.getElem?_drop, show at' + (i - at') = i by omega]
          exact eq_get (c := 13) (by omega) ‹_›
        · rw [List.getElem?_drop, show at' + (i - at' + 1) = i + 1 by omega]
          exact eq_get (c := 10) (j := i + 1) (by omega) ‹_›
        · obtain ⟨_, g2, g3⟩ := key j hc
          exact hno (at' + j) (by omega) (by omega) ⟨g2, g3⟩
      unfold endI
      rw [e]
      simp
      omega
    refine ret1 (by first | exact .inr rfl | exact .inl rfl) rfl rfl ?_
    rw [hend]
    exact ⟨rfl, rfl⟩
  iterate 2
    · first | refine lq_back (i + 1) (.of (.same (by repeat constructor))) ?_ ?_ | fail
      · refine ⟨by omega, by omega, fun j h1 h2 => ?_⟩
        rcases Nat.lt_or_ge j i with h | h
        · exact hno j h1 h
        · obtain rfl : j = i := by omega
          omega
      · omega
  · have hend : endI s at' = -1 := by
      have e : Lib.cut (s.drop at') [13, 10] = (s.drop at', [], false) := by
        refine cut_crlf_no fun j hc => ?_
        obtain ⟨g1, g2, g3⟩ := key j hc
        exact hno (at' + j) (by omega) (by omega) ⟨g2, g3⟩
      unfold endI
      rw [e]
      rfl
    refine ret1 (by first | exact .inr rfl | exact .inl rfl) rfl rfl ?_
    rw [hend]
    exact ⟨rfl, rfl⟩
set_option maxHeartbeats 1000000 in
theorem s_trimR {s : List UInt8} (hs : s.length ≤ 140737488351232) : PCalls (EE w0 base) 52 [.str s] fun rv => rv = .str (Lib.trimS s [32, 9]) := by
  refine acalls_of Tryd.func52 rfl rfl rfl (.cons .nil) ?_
  repeat' (first|(refine k_al ?_;first|(refine al_v (ov_move rfl) rfl ?_)|(refine k_g ?_;first|(refine al_gy' rfl rfl (by with_reducible rfl) ?_)|(refine al_gnt rfl rfl (by with_reducible rfl) rfl ?_)|(refine al_gnf rfl rfl (by with_reducible rfl) rfl ?_)|(refine al_gu rfl rfl rfl ?_)|(refine al_gsp rfl rfl (fun hc => ?_) (fun hc => ?_) <;> (try (exfalso;omega))))|(refine k_bin ?_;first|(refine al_v (ov_cmp rfl rfl rfl) rfl ?_)|(refine al_v (ov_add rfl rfl (by (first|exact w64 (by omega) (by omega)|rfl))) rfl ?_)|(refine al_v (ov_sub rfl rfl (by (first|exact w64 (by omega) (by omega)|rfl))) rfl ?_))|(refine k_pick ?_;first|(refine al_v (ov_pick_t' rfl (by with_reducible rfl) rfl) rfl ?_)|(refine al_v (ov_pick_f' rfl (by with_reducible rfl) rfl) rfl ?_))|(refine al_v (ov_assign rfl) rfl ?_)|(refine k_call ?_;first|(refine al_v (ov_len_str rfl) rfl ?_))|(refine al_nil ?_)|(refine al_v (ov_index rfl rfl (by omega) (by omega)) rfl ?_))|(first|(refine thn_n ?_)|(refine k_awp ?_;first|(refine awp_seq (awp_region ?_))|(refine awp_seq ?_)|(refine awp_region ?_)|(refine k_cond ?_;first|(refine awp_cond_t' rfl (by with_reducible rfl) ?_)|(refine awp_cond_f' rfl (by with_reducible rfl) ?_)|(refine awp_cond_p rfl (fun hc => ?_) (fun hc => ?_) <;> (try (exfalso;omega))))|(refine awp_block ?_)|(refine awp_ret ?_)|(refine awp_skip ?_)|(refine awp_exit ?_))|(refine lq_exit ?_)|(refine thn_exit ?_)|(refine inb_n ?_)|(refine inb_here ?_)))
  refine awp_loopq (fun k : Nat => ⟨[(0, .str s), (3, .int .i64 k), (4, .int .i64 s.length)], []⟩) (fun k => k ≤ s.length ∧ ∀ j : Nat, j < k → ([32, 9] : List UInt8).contains (bAt s (j : Int)) = true) (fun k => s.length - k) 0 (.of (.same (by repeat constructor))) ⟨Nat.zero_le _, fun j h => absurd h (Nat.not_lt_zero _)⟩ ?_
  rintro a ⟨ha, hbl⟩
  try dsimp only
  repeat' (first|(refine k_al ?_;first|(refine al_v (ov_move rfl) rfl ?_)|(refine k_g ?_;first|(refine al_gy' rfl rfl (by with_reducible rfl) ?_)|(refine al_gnt rfl rfl (by with_reducible rfl) rfl ?_)|(refine al_gnf rfl rfl (by with_reducible rfl) rfl ?_)|(refine al_gu rfl rfl rfl ?_)|(refine al_gsp rfl rfl (fun hc => ?_) (fun hc => ?_) <;> (try (exfalso;omega))))|(refine k_bin ?_;first|(refine al_v (ov_cmp rfl rfl rfl) rfl ?_)|(refine al_v (ov_add rfl rfl (by (first|exact w64 (by omega) (by omega)|rfl))) rfl ?_)|(refine al_v (ov_sub rfl rfl (by (first|exact w64 (by omega) (by omega)|rfl))) rfl ?_))|(refine k_pick ?_;first|(refine al_v (ov_pick_t' rfl (by with_reducible rfl) rfl) rfl ?_)|(refine al_v (ov_pick_f' rfl (by with_reducible rfl) rfl) rfl ?_))|(refine al_v (ov_assign rfl) rfl ?_)|(refine k_call ?_;first|(refine al_v (ov_len_str rfl) rfl ?_))|(refine al_nil ?_)|(refine al_v (ov_index rfl rfl (by omega) (by omega)) rfl ?_))|(first|(refine thn_n ?_)|(refine k_awp ?_;first|(refine awp_seq (awp_region ?_))|(refine awp_seq ?_)|(refine awp_region ?_)|(refine k_cond ?_;first|(refine awp_cond_t' rfl (by with_reducible rfl) ?_)|(refine awp_cond_f' rfl (by with_reducible rfl) ?_)|(refine awp_cond_p rfl (fun hc => ?_) (fun hc => ?_) <;> (try (exfalso;omega))))|(refine awp_block ?_)|(refine awp_ret ?_)|(refine awp_skip ?_)|(refine awp_exit ?_))|(refine lq_exit ?_)|(refine thn_exit ?_)|(refine inb_n ?_)|(refine inb_here ?_)))
  iterate 2
    · first | refine lq_back (a + 1) (.of (.same (by repeat constructor))) ?_ ?_ | fail
      · refine ⟨by omega, fun j hj => ?_⟩
        rcases Nat.lt_or_ge j a with h | h
        · exact hbl j h
        · obtain rfl : j = a := by omega
          exact (blank_iff s j).2 (by omega)
      · omega
  all_goals
    have hstop : a < s.length → ([32, 9] : List UInt8).contains (bAt s (a : Int)) = false := fun h => (blank_not s a).2 (by omega)
    refine awp_loopq (fun k : Int => ⟨[(0, .str s), (3, .int .i64 a), (4, .int .i64 k)], []⟩) (fun k => (a : Int) ≤ k ∧ k ≤ s.length ∧ ∀ j : Nat, k ≤ j → j < s.length → ([32, 9] : List UInt8).contains (bAt s (j : Int)) = true) (fun k => k.toNat) (s.length : Int) (.of (.same (by repeat constructor))) ⟨by omega, Int.le_refl _, fun j h1 h2 => by omega⟩ ?_
    rintro b ⟨hab, hb, hbr⟩
    try dsimp only
    repeat' (first|(refine k_al ?_;first|(refine al_v (ov_move rfl) rfl ?_)|(refine k_g ?_;first|(refine al_gy' rfl rfl (by with_reducible rfl) ?_)|(refine al_gnt rfl rfl (by with_reducible rfl) rfl ?_)|(refine al_gnf rfl rfl (by with_reducible rfl) rfl ?_)|(refine al_gu rfl rfl rfl ?_)|(refine al_gsp rfl rfl (fun hc => ?_) (fun hc => ?_) <;> (try (exfalso;omega))))|(refine k_bin ?_;first|(refine al_v (ov_cmp rfl rfl rfl) rfl ?_)|(refine al_v (ov_add rfl rfl (by (first|exact w64 (by omega) (by omega)|rfl))) rfl ?_)|(refine al_v (ov_sub rfl rfl (by (first|exact w64 (by omega) (by omega)|rfl))) rfl ?_))|(refine k_pick ?_;first|(refine al_v (ov_pick_t' rfl (by with_reducible rfl) rfl) rfl ?_)|(refine al_v (ov_pick_f' rfl (by with_reducible rfl) rfl) rfl ?_))|(refine al_v (ov_assign rfl) rfl ?_)|(refine k_call ?_;first|(refine al_v (ov_len_str rfl) rfl ?_))|(refine al_nil ?_)|(refine al_v (ov_index rfl rfl (by omega) (by omega)) rfl ?_))|(first|(refine thn_n ?_)|(refine k_awp ?_;first|(refine awp_seq (awp_region ?_))|(refine awp_seq ?_)|(refine awp_region ?_)|(refine k_cond ?_;first|(refine awp_cond_t' rfl (by with_reducible rfl) ?_)|(refine awp_cond_f' rfl (by with_reducible rfl) ?_)|(refine awp_cond_p rfl (fun hc => ?_) (fun hc => ?_) <;> (try (exfalso;omega))))|(refine awp_block ?_)|(refine awp_ret ?_)|(refine awp_skip ?_)|(refine awp_exit ?_))|(refine lq_exit ?_)|(refine thn_exit ?_)|(refine inb_n ?_)|(refine inb_here ?_)))
    all_goals try (
      first | refine lq_back (b - 1) (.of (.same (by repeat constructor))) ?_ ?_ | fail
      · refine ⟨by omega, by omega, fun j h1 h2 => ?_⟩
        rcases Int.lt_or_le j b with h | h
        · obtain rfl : b = (j : Int) + 1 := by omega
          refine (blank_iff s j).2 ?_
          rw [show ((j : Int) + 1 - 1) = j by omega] at *
          omega
        · exact hbr j h h2
      · omega)
    all_goals
      obtain ⟨n, rfl⟩ : ∃ n : Nat, b = n := ⟨b.toNat, by omega⟩
      have htr : Lib.trimS s [32, 9] = (s.take n).drop a := trim_eq (by omega) (by omega) hbl (fun j h1 h2 => hbr j (by omega) h2) (fun h => ⟨hstop (by omega), by
        rw [show ((n - 1 : Nat) : Int) = (n : Int) - 1 by omega]
        exact (blank_not s _).2 (by omega)⟩)
      repeat' (first|((refine al_v (ov_slice rfl rfl rfl (by omega) (by omega) (by omega)) rfl ?_))|(refine k_al ?_;first|(refine al_v (ov_move rfl) rfl ?_)|(refine k_g ?_;first|(refine al_gy' rfl rfl (by with_reducible rfl) ?_)|(refine al_gnt rfl rfl (by with_reducible rfl) rfl ?_)|(refine al_gnf rfl rfl (by with_reducible rfl) rfl ?_)|(refine al_gu rfl rfl rfl ?_)|(refine al_gsp rfl rfl (fun hc => ?_) (fun hc => ?_) <;> (try (exfalso;omega))))|(refine k_bin ?_;first|(refine al_v (ov_cmp rfl rfl rfl) rfl ?_)|(refine al_v (ov_add rfl rfl (by (first|exact w64 (by omega) (by omega)|rfl))) rfl ?_)|(refine al_v (ov_sub rfl rfl (by (first|exact w64 (by omega) (by omega)|rfl))) rfl ?_))|(refine k_pick ?_;first|(refine al_v (ov_pick_t' rfl (by with_reducible rfl) rfl) rfl ?_)|(refine al_v (ov_pick_f' rfl (by with_reducible rfl) rfl) rfl ?_))|(refine al_v (ov_assign rfl) rfl ?_)|(refine k_call ?_;first|(refine al_v (ov_len_str rfl) rfl ?_))|(refine al_nil ?_)|(refine al_v (ov_index rfl rfl (by omega) (by omega)) rfl ?_))|(first|(refine thn_n ?_)|(refine k_awp ?_;first|(refine awp_seq (awp_region ?_))|(refine awp_seq ?_)|(refine awp_region ?_)|(refine k_cond ?_;first|(refine awp_cond_t' rfl (by with_reducible rfl) ?_)|(refine awp_cond_f' rfl (by with_reducible rfl) ?_)|(refine awp_cond_p rfl (fun hc => ?_) (fun hc => ?_) <;> (try (exfalso;omega))))|(refine awp_block ?_)|(refine awp_ret ?_)|(refine awp_skip ?_)|(refine awp_exit ?_))|(refine lq_exit ?_)|(refine thn_exit ?_)|(refine inb_n ?_)|(refine inb_here ?_)))
      refine ret1 (by first | exact .inr rfl | exact .inl rfl) rfl rfl ?_
      rw [htr]
      exact ⟨rfl, rfl⟩
end
end Go.Proofs.YtnjolbnbpfjdiaaDoor.L

namespace Go.Proofs.YtnjolbnbpfjdiaaDoor.L
open Go Go.RowKit Go.Proofs
set_option linter.unusedVariables false
set_option linter.unusedSimpArgs false
set_option maxRecDepth 100000
attribute [local irreducible] AL QL AWp Thn InB RetQ ACalls LoopQ HL HO HW HQ NoG JmpQ MidQ HF

section
variable {E : Env} {sl : Slots} {H : List AO}
theorem ov_cmp_t {op : BinOp} {t t' : TypeId} {x y : Operand} {k : IntKind} {m n : Int} {p : Prop} {ip : Decidable p} (hx : ev sl x = some (.int k m)) (hy : ev sl y = some (.int k n)) (hb : cmpI op m n = some (@decide p ip)) (h : p) : OV E sl H (.binOp op t x y t') (.bool true) := by
  have := ov_cmp (E := E) (H := H) (t := t) (t' := t') hx hy hb
  rwa [decide_eq_true h] at this
theorem ov_cmp_f {op : BinOp} {t t' : TypeId} {x y : Operand} {k : IntKind} {m n : Int} {p : Prop} {ip : Decidable p} (hx : ev sl x = some (.int k m)) (hy : ev sl y = some (.int k n)) (hb : cmpI op m n = some (@decide p ip)) (h : ¬ p) : OV E sl H (.binOp op t x y t') (.bool false) := by
  have := ov_cmp (E := E) (H := H) (t := t) (t' := t') hx hy hb
  rwa [decide_eq_false h] at this
theorem ov_slice_loT {t : Nat} {n b : Nat} {z : Value} [ti : TI E.P t .string n b z] {x lo : Operand} {s T : List UInt8} {k : IntKind} {l : Int}
    (hx : ev sl x = some (.str s)) (hlo : ev sl lo = some (.int k l)) (h0 : 0 ≤ l) (h2 : l ≤ (s.length : Int)) (he : s.drop l.toNat = T) : OV E sl H (.slice t x (some lo) none none) (.str T) := he ▸ ov_slice_lo hx hlo h0 h2
theorem ov_slice_hiT {t : Nat} {n b : Nat} {z : Value} [ti : TI E.P t .string n b z] {x hi : Operand} {s T : List UInt8} {k : IntKind} {h : Int}
    (hx : ev sl x = some (.str s)) (hhi : ev sl hi = some (.int k h)) (h0 : 0 ≤ h) (h2 : h ≤ (s.length : Int)) (he : s.take h.toNat = T) : OV E sl H (.slice t x none (some hi) none) (.str T) := he ▸ ov_slice_hi hx hhi h0 h2
end
section
variable {w0 : World} {base : Nat}
end
end Go.Proofs.YtnjolbnbpfjdiaaDoor.L

namespace Go.Proofs.YtnjolbnbpfjdiaaDoor.L
open Go Go.RowKit Go.Proofs
set_option linter.unusedVariables false
set_option linter.unusedSimpArgs false
set_option maxRecDepth 100000
attribute [local irreducible] AL QL AWp Thn InB RetQ ACalls LoopQ HL HO HW HQ NoG JmpQ MidQ HF

def markL : List UInt8 := "!#$%&'*+-.^_`|~".toUTF8.data.toList
def okN (c : UInt8) : Bool := (decide (97 ≤ c.toNat) && decide (c.toNat ≤ 122)) || (decide (48 ≤ c.toNat) && decide (c.toNat ≤ 57)) || decide (0 ≤ Lib.indexByte markL c)
def clN : List UInt8 := "content-length".toUTF8.data.toList
def cnN : List UInt8 := "connection".toUTF8.data.toList
def nameY (s : List UInt8) : Bool := s.all okN && (decide (s ≠ []) && decide (s ≠ clN) && decide (s ≠ cnN))
def okV (c : UInt8) : Bool := decide (c.toNat = 9) || (decide (32 ≤ c.toNat) && decide (c.toNat ≤ 126))
def valueY (s : List UInt8) : Bool := s.all okV && decide (bareI s = s)
theorem all_take {p : UInt8 → Bool} {s : List UInt8} {i : Nat} {c : UInt8} (h : (s.take i).all p = true) (hc : s[i]? = some c) : (s.take (i + 1)).all p = p c := by
  rw [List.take_add_one, hc, List.all_append, h]
  simp
theorem all_not {p : UInt8 → Bool} {s : List UInt8} {i : Nat} {c : UInt8} (hc : s[i]? = some c) (h : p c = false) : s.all p = false := by
  cases hq : s.all p with
  | false => rfl
  | true => rw [List.all_eq_true] at hq; rw [hq c (List.mem_of_getElem? hc)] at h; cases h
theorem byte_at {s : List UInt8} {i : Nat} {c : UInt8} (hc : s[i]? = some c) : byteAt s (i : Int) = (c.toNat : Int) := by
  unfold byteAt
  have : ((i : Nat) : Int).toNat = i := rfl
  rw [this, List.getD_eq_getElem?_getD, hc]
  rfl
section
variable {w0 : World} {base : Nat}
set_option maxHeartbeats 4000000 in
theorem s_nameY {s : List UInt8} (hs : s.length ≤ 140737488351232) : PCalls (EE w0 base) 54 [.str s] fun rv => rv = .bool (nameY s) := by
  refine acalls_of Tryd.func54 rfl rfl rfl (.cons .nil) ?_
  repeat' (first|(refine k_al ?_;first|(refine al_v (ov_move rfl) rfl ?_)|(refine k_g ?_;first|(refine al_gy' rfl rfl (by with_reducible rfl) ?_)|(refine al_gnt rfl rfl (by with_reducible rfl) rfl ?_)|(refine al_gnf rfl rfl (by with_reducible rfl) rfl ?_)|(refine al_gu rfl rfl rfl ?_)|(refine al_gsp rfl rfl (fun hc => ?_) (fun hc => ?_) <;> (try (exfalso;omega))))|(refine k_bin ?_;first|(refine al_v (ov_cmp rfl rfl rfl) rfl ?_)|(refine al_v (ov_add rfl rfl (by (first|exact w64 (by omega) (by omega)|rfl))) rfl ?_))|(refine k_pick ?_;first|(refine al_v (ov_pick_t' rfl (by with_reducible rfl) rfl) rfl ?_)|(refine al_v (ov_pick_f' rfl (by with_reducible rfl) rfl) rfl ?_))|(refine al_v (ov_assign rfl) rfl ?_)|(refine k_call ?_;first|(refine al_v (ov_len_str rfl) rfl ?_))|(refine al_nil ?_)|(refine al_v (ov_index rfl rfl (by omega) (by omega)) rfl ?_))|(first|(refine thn_n ?_)|(refine k_awp ?_;first|(refine awp_seq (awp_region ?_))|(refine awp_seq ?_)|(refine awp_region ?_)|(refine k_cond ?_;first|(refine awp_cond_t' rfl (by with_reducible rfl) ?_)|(refine awp_cond_f' rfl (by with_reducible rfl) ?_))|(refine awp_block ?_)|(refine awp_ret ?_)|(refine awp_skip ?_)|(refine awp_exit ?_))|(refine thn_ret ?_)|(refine lq_exit ?_)|(refine lq_ret ?_)|(refine thn_exit ?_)|(refine inb_n ?_)|(refine inb_ret ?_)|(refine inb_here ?_)))
  refine awp_loopq (fun k : Nat => ⟨[(0, .str s), (6, .int .i64 s.length), (7, .int .i64 k)], []⟩) (fun k => k ≤ s.length ∧ (s.take k).all okN = true) (fun k => s.length - k) 0 (.of (.same (by repeat constructor))) ⟨Nat.zero_le _, rfl⟩ ?_
  rintro k ⟨hk, hok⟩
  try dsimp only
  by_cases hlt : k < s.length
  · obtain ⟨c, hcc⟩ : ∃ c, s[k]? = some c := ⟨_, List.getElem?_eq_getElem hlt⟩
    have hb := byte_at hcc
    have hI := s_indexByte (w0 := w0) (base := base) (s := markL) (c := c)
    rw [← hb] at hI
    have hiff : okN c = true ↔ (97 ≤ c.toNat ∧ c.toNat ≤ 122) ∨ (48 ≤ c.toNat ∧ c.toNat ≤ 57) ∨ 0 ≤ Lib.indexByte markL c := by
      unfold okN
      simp only [Bool.or_eq_true, Bool.and_eq_true, decide_eq_true_eq]
      omega
    cases ho : okN c with
    | false =>
      have hno : ¬ ((97 ≤ c.toNat ∧ c.toNat ≤ 122) ∨ (48 ≤ c.toNat ∧ c.toNat ≤ 57) ∨ 0 ≤ Lib.indexByte markL c) := fun h => by rw [hiff.2 h] at ho; cases ho
      repeat' (first|(first|(refine k_call ?_;refine al_call rfl rfl rfl rfl hI ?_;rintro _ rfl)|(refine k_bin ?_;first|(refine al_v (ov_cmp_t rfl rfl rfl (by omega)) rfl ?_)|(refine al_v (ov_cmp_f rfl rfl rfl (by omega)) rfl ?_)))|(refine k_al ?_;first|(refine al_v (ov_move rfl) rfl ?_)|(refine k_g ?_;first|(refine al_gy' rfl rfl (by with_reducible rfl) ?_)|(refine al_gnt rfl rfl (by with_reducible rfl) rfl ?_)|(refine al_gnf rfl rfl (by with_reducible rfl) rfl ?_)|(refine al_gu rfl rfl rfl ?_)|(refine al_gsp rfl rfl (fun hc => ?_) (fun hc => ?_) <;> (try (exfalso;omega))))|(refine k_bin ?_;first|(refine al_v (ov_cmp rfl rfl rfl) rfl ?_)|(refine al_v (ov_add rfl rfl (by (first|exact w64 (by omega) (by omega)|rfl))) rfl ?_))|(refine k_pick ?_;first|(refine al_v (ov_pick_t' rfl (by with_reducible rfl) rfl) rfl ?_)|(refine al_v (ov_pick_f' rfl (by with_reducible rfl) rfl) rfl ?_))|(refine al_v (ov_assign rfl) rfl ?_)|(refine k_call ?_;first|(refine al_v (ov_len_str rfl) rfl ?_))|(refine al_nil ?_)|(refine al_v (ov_index rfl rfl (by omega) (by omega)) rfl ?_))|(first|(refine thn_n ?_)|(refine k_awp ?_;first|(refine awp_seq (awp_region ?_))|(refine awp_seq ?_)|(refine awp_region ?_)|(refine k_cond ?_;first|(refine awp_cond_t' rfl (by with_reducible rfl) ?_)|(refine awp_cond_f' rfl (by with_reducible rfl) ?_))|(refine awp_block ?_)|(refine awp_ret ?_)|(refine awp_skip ?_)|(refine awp_exit ?_))|(refine thn_ret ?_)|(refine lq_exit ?_)|(refine lq_ret ?_)|(refine thn_exit ?_)|(refine inb_n ?_)|(refine inb_ret ?_)|(refine inb_here ?_)))
      all_goals
        refine ret1 (by first | exact .inr rfl | exact .inl rfl) rfl rfl ?_
        exact ⟨by unfold nameY; rw [all_not hcc ho]; rfl, rfl⟩
    | true =>
      have hyes := hiff.1 ho
      repeat' (first|(first|(refine k_call ?_;refine al_call rfl rfl rfl rfl hI ?_;rintro _ rfl)|(refine k_bin ?_;first|(refine al_v (ov_cmp_t rfl rfl rfl (by omega)) rfl ?_)|(refine al_v (ov_cmp_f rfl rfl rfl (by omega)) rfl ?_)))|(refine k_al ?_;first|(refine al_v (ov_move rfl) rfl ?_)|(refine k_g ?_;first|(refine al_gy' rfl rfl (by with_reducible rfl) ?_)|(refine al_gnt rfl rfl (by with_reducible rfl) rfl ?_)|(refine al_gnf rfl rfl (by with_reducible rfl) rfl ?_)|(refine al_gu rfl rfl rfl ?_)|(refine al_gsp rfl rfl (fun hc => ?_) (fun hc => ?_) <;> (try (exfalso;omega))))|(refine k_bin ?_;first|(refine al_v (ov_cmp rfl rfl rfl) rfl ?_)|(refine al_v (ov_add rfl rfl (by (first|exact w64 (by omega) (by omega)|rfl))) rfl ?_))|(refine k_pick ?_;first|(refine al_v (ov_pick_t' rfl (by with_reducible rfl) rfl) rfl ?_)|(refine al_v (ov_pick_f' rfl (by with_reducible rfl) rfl) rfl ?_))|(refine al_v (ov_assign rfl) rfl ?_)|(refine k_call ?_;first|(refine al_v (ov_len_str rfl) rfl ?_))|(refine al_nil ?_)|(refine al_v (ov_index rfl rfl (by omega) (by omega)) rfl ?_))|(first|(refine thn_n ?_)|(refine k_awp ?_;first|(refine awp_seq (awp_region ?_))|(refine awp_seq ?_)|(refine awp_region ?_)|(refine k_cond ?_;first|(refine awp_cond_t' rfl (by with_reducible rfl) ?_)|(refine awp_cond_f' rfl (by with_reducible rfl) ?_))|(refine awp_block ?_)|(refine awp_ret ?_)|(refine awp_skip ?_)|(refine awp_exit ?_))|(refine thn_ret ?_)|(refine lq_exit ?_)|(refine lq_ret ?_)|(refine thn_exit ?_)|(refine inb_n ?_)|(refine inb_ret ?_)|(refine inb_here ?_)))
      all_goals
        first | refine lq_back (k + 1) (.of (.same (by repeat constructor))) ?_ ?_ | fail
        · exact ⟨by omega, by rw [all_take hok hcc, ho]⟩
        · omega
  · rw [List.take_of_length_le (by omega)] at hok
    have hn : nameY s = (decide (s ≠ []) && decide (s ≠ clN) && decide (s ≠ cnN)) := by unfold nameY; rw [hok]; rfl
    by_cases h1 : s = []
    · repeat' (first|(first|(refine k_bin ?_;first|(refine al_v (ov_cmp_t rfl rfl rfl (by omega)) rfl ?_)|(refine al_v (ov_cmp_f rfl rfl rfl (by omega)) rfl ?_))|(refine k_bin ?_;first|(refine al_v (ov_sne_f h1 rfl rfl) rfl ?_)))|(refine k_al ?_;first|(refine al_v (ov_move rfl) rfl ?_)|(refine k_g ?_;first|(refine al_gy' rfl rfl (by with_reducible rfl) ?_)|(refine al_gnt rfl rfl (by with_reducible rfl) rfl ?_)|(refine al_gnf rfl rfl (by with_reducible rfl) rfl ?_)|(refine al_gu rfl rfl rfl ?_)|(refine al_gsp rfl rfl (fun hc => ?_) (fun hc => ?_) <;> (try (exfalso;omega))))|(refine k_bin ?_;first|(refine al_v (ov_cmp rfl rfl rfl) rfl ?_)|(refine al_v (ov_add rfl rfl (by (first|exact w64 (by omega) (by omega)|rfl))) rfl ?_))|(refine k_pick ?_;first|(refine al_v (ov_pick_t' rfl (by with_reducible rfl) rfl) rfl ?_)|(refine al_v (ov_pick_f' rfl (by with_reducible rfl) rfl) rfl ?_))|(refine al_v (ov_assign rfl) rfl ?_)|(refine k_call ?_;first|(refine al_v (ov_len_str rfl) rfl ?_))|(refine al_nil ?_)|(refine al_v (ov_index rfl rfl (by omega) (by omega)) rfl ?_))|(first|(refine thn_n ?_)|(refine k_awp ?_;first|(refine awp_seq (awp_region ?_))|(refine awp_seq ?_)|(refine awp_region ?_)|(refine k_cond ?_;first|(refine awp_cond_t' rfl (by with_reducible rfl) ?_)|(refine awp_cond_f' rfl (by with_reducible rfl) ?_))|(refine awp_block ?_)|(refine awp_ret ?_)|(refine awp_skip ?_)|(refine awp_exit ?_))|(refine thn_ret ?_)|(refine lq_exit ?_)|(refine lq_ret ?_)|(refine thn_exit ?_)|(refine inb_n ?_)|(refine inb_ret ?_)|(refine inb_here ?_)))
      all_goals
        refine ret1 (by first | exact .inr rfl | exact .inl rfl) rfl rfl ?_
        exact ⟨by rw [hn, decide_eq_false (fun k => k h1)]; rfl, rfl⟩
    by_cases h2 : s = clN
    · repeat' (first|(first|(refine k_bin ?_;first|(refine al_v (ov_cmp_t rfl rfl rfl (by omega)) rfl ?_)|(refine al_v (ov_cmp_f rfl rfl rfl (by omega)) rfl ?_))|(refine k_bin ?_;first|(refine al_v (ov_sne_t h1 rfl rfl) rfl ?_)|(refine al_v (ov_sne_f (n := clN) h2 rfl rfl) rfl ?_)))|(refine k_al ?_;first|(refine al_v (ov_move rfl) rfl ?_)|(refine k_g ?_;first|(refine al_gy' rfl rfl (by with_reducible rfl) ?_)|(refine al_gnt rfl rfl (by with_reducible rfl) rfl ?_)|(refine al_gnf rfl rfl (by with_reducible rfl) rfl ?_)|(refine al_gu rfl rfl rfl ?_)|(refine al_gsp rfl rfl (fun hc => ?_) (fun hc => ?_) <;> (try (exfalso;omega))))|(refine k_bin ?_;first|(refine al_v (ov_cmp rfl rfl rfl) rfl ?_)|(refine al_v (ov_add rfl rfl (by (first|exact w64 (by omega) (by omega)|rfl))) rfl ?_))|(refine k_pick ?_;first|(refine al_v (ov_pick_t' rfl (by with_reducible rfl) rfl) rfl ?_)|(refine al_v (ov_pick_f' rfl (by with_reducible rfl) rfl) rfl ?_))|(refine al_v (ov_assign rfl) rfl ?_)|(refine k_call ?_;first|(refine al_v (ov_len_str rfl) rfl ?_))|(refine al_nil ?_)|(refine al_v (ov_index rfl rfl (by omega) (by omega)) rfl ?_))|(first|(refine thn_n ?_)|(refine k_awp ?_;first|(refine awp_seq (awp_region ?_))|(refine awp_seq ?_)|(refine awp_region ?_)|(refine k_cond ?_;first|(refine awp_cond_t' rfl (by with_reducible rfl) ?_)|(refine awp_cond_f' rfl (by with_reducible rfl) ?_))|(refine awp_block ?_)|(refine awp_ret ?_)|(refine awp_skip ?_)|(refine awp_exit ?_))|(refine thn_ret ?_)|(refine lq_exit ?_)|(refine lq_ret ?_)|(refine thn_exit ?_)|(refine inb_n ?_)|(refine inb_ret ?_)|(refine inb_here ?_)))
      all_goals
        refine ret1 (by first | exact .inr rfl | exact .inl rfl) rfl rfl ?_
        exact ⟨by rw [hn, decide_eq_true h1, decide_eq_false (p := s ≠ clN) (fun k => k h2)]; rfl, rfl⟩
    by_cases h3 : s = cnN
    · repeat' (first|(first|(refine k_bin ?_;first|(refine al_v (ov_cmp_t rfl rfl rfl (by omega)) rfl ?_)|(refine al_v (ov_cmp_f rfl rfl rfl (by omega)) rfl ?_))|(refine k_bin ?_;first|(refine al_v (ov_sne_t h1 rfl rfl) rfl ?_)|(refine al_v (ov_sne_t (n := clN) h2 rfl rfl) rfl ?_)|(refine al_v (ov_sne_f (n := cnN) h3 rfl rfl) rfl ?_)))|(refine k_al ?_;first|(refine al_v (ov_move rfl) rfl ?_)|(refine k_g ?_;first|(refine al_gy' rfl rfl (by with_reducible rfl) ?_)|(refine al_gnt rfl rfl (by with_reducible rfl) rfl ?_)|(refine al_gnf rfl rfl (by with_reducible rfl) rfl ?_)|(refine al_gu rfl rfl rfl ?_)|(refine al_gsp rfl rfl (fun hc => ?_) (fun hc => ?_) <;> (try (exfalso;omega))))|(refine k_bin ?_;first|(refine al_v (ov_cmp rfl rfl rfl) rfl ?_)|(refine al_v (ov_add rfl rfl (by (first|exact w64 (by omega) (by omega)|rfl))) rfl ?_))|(refine k_pick ?_;first|(refine al_v (ov_pick_t' rfl (by with_reducible rfl) rfl) rfl ?_)|(refine al_v (ov_pick_f' rfl (by with_reducible rfl) rfl) rfl ?_))|(refine al_v (ov_assign rfl) rfl ?_)|(refine k_call ?_;first|(refine al_v (ov_len_str rfl) rfl ?_))|(refine al_nil ?_)|(refine al_v (ov_index rfl rfl (by omega) (by omega)) rfl ?_))|(first|(refine thn_n ?_)|(refine k_awp ?_;first|(refine awp_seq (awp_region ?_))|(refine awp_seq ?_)|(refine awp_region ?_)|(refine k_cond ?_;first|(refine awp_cond_t' rfl (by with_reducible rfl) ?_)|(refine awp_cond_f' rfl (by with_reducible rfl) ?_))|(refine awp_block ?_)|(refine awp_ret ?_)|(refine awp_skip ?_)|(refine awp_exit ?_))|(refine thn_ret ?_)|(refine lq_exit ?_)|(refine lq_ret ?_)|(refine thn_exit ?_)|(refine inb_n ?_)|(refine inb_ret ?_)|(refine inb_here ?_)))
      all_goals
        refine ret1 (by first | exact .inr rfl | exact .inl rfl) rfl rfl ?_
        exact ⟨by rw [hn, decide_eq_true h1, decide_eq_true h2, decide_eq_false (p := s ≠ cnN) (fun k => k h3)]; rfl, rfl⟩
    · repeat' (first|(first|(refine k_bin ?_;first|(refine al_v (ov_cmp_t rfl rfl rfl (by omega)) rfl ?_)|(refine al_v (ov_cmp_f rfl rfl rfl (by omega)) rfl ?_))|(refine k_bin ?_;first|(refine al_v (ov_sne_t h1 rfl rfl) rfl ?_)|(refine al_v (ov_sne_t (n := clN) h2 rfl rfl) rfl ?_)|(refine al_v (ov_sne_t (n := cnN) h3 rfl rfl) rfl ?_)))|(refine k_al ?_;first|(refine al_v (ov_move rfl) rfl ?_)|(refine k_g ?_;first|(refine al_gy' rfl rfl (by with_reducible rfl) ?_)|(refine al_gnt rfl rfl (by with_reducible rfl) rfl ?_)|(refine al_gnf rfl rfl (by with_reducible rfl) rfl ?_)|(refine al_gu rfl rfl rfl ?_)|(refine al_gsp rfl rfl (fun hc => ?_) (fun hc => ?_) <;> (try (exfalso;omega))))|(refine k_bin ?_;first|(refine al_v (ov_cmp rfl rfl rfl) rfl ?_)|(refine al_v (ov_add rfl rfl (by (first|exact w64 (by omega) (by omega)|rfl))) rfl ?_))|(refine k_pick ?_;first|(refine al_v (ov_pick_t' rfl (by with_reducible rfl) rfl) rfl ?_)|(refine al_v (ov_pick_f' rfl (by with_reducible rfl) rfl) rfl ?_))|(refine al_v (ov_assign rfl) rfl ?_)|(refine k_call ?_;first|(refine al_v (ov_len_str rfl) rfl ?_))|(refine al_nil ?_)|(refine al_v (ov_index rfl rfl (by omega) (by omega)) rfl ?_))|(first|(refine thn_n ?_)|(refine k_awp ?_;first|(refine awp_seq (awp_region ?_))|(refine awp_seq ?_)|(refine awp_region ?_)|(refine k_cond ?_;first|(refine awp_cond_t' rfl (by with_reducible rfl) ?_)|(refine awp_cond_f' rfl (by with_reducible rfl) ?_))|(refine awp_block ?_)|(refine awp_ret ?_)|(refine awp_skip ?_)|(refine awp_exit ?_))|(refine thn_ret ?_)|(refine lq_exit ?_)|(refine lq_ret ?_)|(refine thn_exit ?_)|(refine inb_n ?_)|(refine inb_ret ?_)|(refine inb_here ?_)))
      all_goals
        refine ret1 (by first | exact .inr rfl | exact .inl rfl) rfl rfl ?_
        exact ⟨by rw [hn, decide_eq_true h3, decide_eq_true h1, decide_eq_true h2]; rfl, rfl⟩
set_option maxHeartbeats 4000000 in
theorem s_valueY {s : List UInt8} (hs : s.length ≤ 140737488351232) : PCalls (EE w0 base) 55 [.str s] fun rv => rv = .bool (valueY s) := by
  have hT : PCalls (EE w0 base) 50 [.str s, .str [32, 9]] fun rv => rv = .str (bareI s) := s_trim (by omega)
  refine acalls_of Tryd.func55 rfl rfl rfl (.cons .nil) ?_
  repeat' (first|(refine k_al ?_;first|(refine al_v (ov_move rfl) rfl ?_)|(refine k_g ?_;first|(refine al_gy' rfl rfl (by with_reducible rfl) ?_)|(refine al_gnt rfl rfl (by with_reducible rfl) rfl ?_)|(refine al_gnf rfl rfl (by with_reducible rfl) rfl ?_)|(refine al_gu rfl rfl rfl ?_)|(refine al_gsp rfl rfl (fun hc => ?_) (fun hc => ?_) <;> (try (exfalso;omega))))|(refine k_bin ?_;first|(refine al_v (ov_cmp rfl rfl rfl) rfl ?_)|(refine al_v (ov_add rfl rfl (by (first|exact w64 (by omega) (by omega)|rfl))) rfl ?_)|(refine al_v (ov_seq rfl rfl) rfl ?_))|(refine k_pick ?_;first|(refine al_v (ov_pick_t' rfl (by with_reducible rfl) rfl) rfl ?_)|(refine al_v (ov_pick_f' rfl (by with_reducible rfl) rfl) rfl ?_))|(refine al_v (ov_assign rfl) rfl ?_)|(refine k_call ?_;first|(refine al_v (ov_len_str rfl) rfl ?_))|(refine al_nil ?_)|(refine al_v (ov_index rfl rfl (by omega) (by omega)) rfl ?_))|(first|(refine thn_n ?_)|(refine k_awp ?_;first|(refine awp_seq (awp_region ?_))|(refine awp_seq ?_)|(refine awp_region ?_)|(refine k_cond ?_;first|(refine awp_cond_t' rfl (by with_reducible rfl) ?_)|(refine awp_cond_f' rfl (by with_reducible rfl) ?_))|(refine awp_block ?_)|(refine awp_ret ?_)|(refine awp_skip ?_)|(refine awp_exit ?_))|(refine thn_ret ?_)|(refine lq_exit ?_)|(refine lq_ret ?_)|(refine thn_exit ?_)|(refine inb_n ?_)|(refine inb_ret ?_)|(refine inb_here ?_)))
  refine awp_loopq (fun k : Nat => ⟨[(0, .str s), (6, .int .i64 s.length), (7, .int .i64 k)], []⟩) (fun k => k ≤ s.length ∧ (s.take k).all okV = true) (fun k => s.length - k) 0 (.of (.same (by repeat constructor))) ⟨Nat.zero_le _, rfl⟩ ?_
  rintro k ⟨hk, hok⟩
  try dsimp only
  by_cases hlt : k < s.length
  · obtain ⟨c, hcc⟩ : ∃ c, s[k]? = some c := ⟨_, List.getElem?_eq_getElem hlt⟩
    have hb := byte_at hcc
    have hiff : okV c = true ↔ c.toNat = 9 ∨ (32 ≤ c.toNat ∧ c.toNat ≤ 126) := by
      unfold okV
      simp only [Bool.or_eq_true, Bool.and_eq_true, decide_eq_true_eq]
    cases ho : okV c with
    | false =>
      have hno : ¬ (c.toNat = 9 ∨ (32 ≤ c.toNat ∧ c.toNat ≤ 126)) := fun h => by rw [hiff.2 h] at ho; cases ho
      repeat' (first|((refine k_bin ?_;first|(refine al_v (ov_cmp_t rfl rfl rfl (by omega)) rfl ?_)|(refine al_v (ov_cmp_f rfl rfl rfl (by omega)) rfl ?_)))|(refine k_al ?_;first|(refine al_v (ov_move rfl) rfl ?_)|(refine k_g ?_;first|(refine al_gy' rfl rfl (by with_reducible rfl) ?_)|(refine al_gnt rfl rfl (by with_reducible rfl) rfl ?_)|(refine al_gnf rfl rfl (by with_reducible rfl) rfl ?_)|(refine al_gu rfl rfl rfl ?_)|(refine al_gsp rfl rfl (fun hc => ?_) (fun hc => ?_) <;> (try (exfalso;omega))))|(refine k_bin ?_;first|(refine al_v (ov_cmp rfl rfl rfl) rfl ?_)|(refine al_v (ov_add rfl rfl (by (first|exact w64 (by omega) (by omega)|rfl))) rfl ?_)|(refine al_v (ov_seq rfl rfl) rfl ?_))|(refine k_pick ?_;first|(refine al_v (ov_pick_t' rfl (by with_reducible rfl) rfl) rfl ?_)|(refine al_v (ov_pick_f' rfl (by with_reducible rfl) rfl) rfl ?_))|(refine al_v (ov_assign rfl) rfl ?_)|(refine k_call ?_;first|(refine al_v (ov_len_str rfl) rfl ?_))|(refine al_nil ?_)|(refine al_v (ov_index rfl rfl (by omega) (by omega)) rfl ?_))|(first|(refine thn_n ?_)|(refine k_awp ?_;first|(refine awp_seq (awp_region ?_))|(refine awp_seq ?_)|(refine awp_region ?_)|(refine k_cond ?_;first|(refine awp_cond_t' rfl (by with_reducible rfl) ?_)|(refine awp_cond_f' rfl (by with_reducible rfl) ?_))|(refine awp_block ?_)|(refine awp_ret ?_)|(refine awp_skip ?_)|(refine awp_exit ?_))|(refine thn_ret ?_)|(refine lq_exit ?_)|(refine lq_ret ?_)|(refine thn_exit ?_)|(refine inb_n ?_)|(refine inb_ret ?_)|(refine inb_here ?_)))
      all_goals
        refine ret1 (by first | exact .inr rfl | exact .inl rfl) rfl rfl ?_
        exact ⟨by unfold valueY; rw [all_not hcc ho]; rfl, rfl⟩
    | true =>
      have hyes := hiff.1 ho
      repeat' (first|((refine k_bin ?_;first|(refine al_v (ov_cmp_t rfl rfl rfl (by omega)) rfl ?_)|(refine al_v (ov_cmp_f rfl rfl rfl (by omega)) rfl ?_)))|(refine k_al ?_;first|(refine al_v (ov_move rfl) rfl ?_)|(refine k_g ?_;first|(refine al_gy' rfl rfl (by with_reducible rfl) ?_)|(refine al_gnt rfl rfl (by with_reducible rfl) rfl ?_)|(refine al_gnf rfl rfl (by with_reducible rfl) rfl ?_)|(refine al_gu rfl rfl rfl ?_)|(refine al_gsp rfl rfl (fun hc => ?_) (fun hc => ?_) <;> (try (exfalso;omega))))|(refine k_bin ?_;first|(refine al_v (ov_cmp rfl rfl rfl) rfl ?_)|(refine al_v (ov_add rfl rfl (by (first|exact w64 (by omega) (by omega)|rfl))) rfl ?_)|(refine al_v (ov_seq rfl rfl) rfl ?_))|(refine k_pick ?_;first|(refine al_v (ov_pick_t' rfl (by with_reducible rfl) rfl) rfl ?_)|(refine al_v (ov_pick_f' rfl (by with_reducible rfl) rfl) rfl ?_))|(refine al_v (ov_assign rfl) rfl ?_)|(refine k_call ?_;first|(refine al_v (ov_len_str rfl) rfl ?_))|(refine al_nil ?_)|(refine al_v (ov_index rfl rfl (by omega) (by omega)) rfl ?_))|(first|(refine thn_n ?_)|(refine k_awp ?_;first|(refine awp_seq (awp_region ?_))|(refine awp_seq ?_)|(refine awp_region ?_)|(refine k_cond ?_;first|(refine awp_cond_t' rfl (by with_reducible rfl) ?_)|(refine awp_cond_f' rfl (by with_reducible rfl) ?_))|(refine awp_block ?_)|(refine awp_ret ?_)|(refine awp_skip ?_)|(refine awp_exit ?_))|(refine thn_ret ?_)|(refine lq_exit ?_)|(refine lq_ret ?_)|(refine thn_exit ?_)|(refine inb_n ?_)|(refine inb_ret ?_)|(refine inb_here ?_)))
      all_goals
        first | refine lq_back (k + 1) (.of (.same (by repeat constructor))) ?_ ?_ | fail
        · exact ⟨by omega, by rw [all_take hok hcc, ho]⟩
        · omega
  · rw [List.take_of_length_le (by omega)] at hok
    have hn : valueY s = decide (bareI s = s) := by unfold valueY; rw [hok]; rfl
    repeat' (first|(first|(refine k_bin ?_;first|(refine al_v (ov_cmp_t rfl rfl rfl (by omega)) rfl ?_)|(refine al_v (ov_cmp_f rfl rfl rfl (by omega)) rfl ?_))|(refine k_call ?_;refine al_call rfl rfl rfl rfl hT ?_;rintro _ rfl))|(refine k_al ?_;first|(refine al_v (ov_move rfl) rfl ?_)|(refine k_g ?_;first|(refine al_gy' rfl rfl (by with_reducible rfl) ?_)|(refine al_gnt rfl rfl (by with_reducible rfl) rfl ?_)|(refine al_gnf rfl rfl (by with_reducible rfl) rfl ?_)|(refine al_gu rfl rfl rfl ?_)|(refine al_gsp rfl rfl (fun hc => ?_) (fun hc => ?_) <;> (try (exfalso;omega))))|(refine k_bin ?_;first|(refine al_v (ov_cmp rfl rfl rfl) rfl ?_)|(refine al_v (ov_add rfl rfl (by (first|exact w64 (by omega) (by omega)|rfl))) rfl ?_)|(refine al_v (ov_seq rfl rfl) rfl ?_))|(refine k_pick ?_;first|(refine al_v (ov_pick_t' rfl (by with_reducible rfl) rfl) rfl ?_)|(refine al_v (ov_pick_f' rfl (by with_reducible rfl) rfl) rfl ?_))|(refine al_v (ov_assign rfl) rfl ?_)|(refine k_call ?_;first|(refine al_v (ov_len_str rfl) rfl ?_))|(refine al_nil ?_)|(refine al_v (ov_index rfl rfl (by omega) (by omega)) rfl ?_))|(first|(refine thn_n ?_)|(refine k_awp ?_;first|(refine awp_seq (awp_region ?_))|(refine awp_seq ?_)|(refine awp_region ?_)|(refine k_cond ?_;first|(refine awp_cond_t' rfl (by with_reducible rfl) ?_)|(refine awp_cond_f' rfl (by with_reducible rfl) ?_))|(refine awp_block ?_)|(refine awp_ret ?_)|(refine awp_skip ?_)|(refine awp_exit ?_))|(refine thn_ret ?_)|(refine lq_exit ?_)|(refine lq_ret ?_)|(refine thn_exit ?_)|(refine inb_n ?_)|(refine inb_ret ?_)|(refine inb_here ?_)))
    all_goals
      refine ret1 (by first | exact .inr rfl | exact .inl rfl) rfl rfl ?_
      exact ⟨by rw [hn], rfl⟩
end
end Go.Proofs.YtnjolbnbpfjdiaaDoor.L

namespace Go.Proofs.YtnjolbnbpfjdiaaDoor.L
open Go Go.RowKit Go.Proofs
set_option linter.unusedVariables false
set_option linter.unusedSimpArgs false
set_option maxRecDepth 100000
attribute [local irreducible] AL QL AWp Thn InB RetQ ACalls LoopQ HL HO HW HQ NoG JmpQ MidQ HF

def reasonL : List (Int × List UInt8) := [(200, "OK"), (201, "Created"), (204, "No Content"), (400, "Bad Request"), (401, "Unauthorized"), (403, "Forbidden"), (404, "Not Found"), (409, "Conflict"), (413, "Content Too Large"), (431, "Request Header Fields Too Large"), (500, "Internal Server Error"), (503, "Service Unavailable"), (505, "HTTP Version Not Supported")].map fun p => (p.1, p.2.toUTF8.data.toList)
abbrev reaC (p : Int × List UInt8) : List AV := [.int .i64 p.1, .str p.2]
def reasonAV : List (List AV) := reasonL.map reaC
def wordsOf (st : Int) : List (Int × List UInt8) → Option (List UInt8)
  | [] => none
  | p :: r => if p.1 = st then some p.2 else wordsOf st r
def wordsY (st : Int) : Option (List UInt8) := wordsOf st reasonL
section
variable {w0 : World} {base : Nat}
theorem s_reasons : PCalls (EE w0 base) 56 [] fun rv => rv = .rs reasonAV := by
  refine acalls_of Tryd.func56 rfl rfl rfl .nil ?_
  repeat' (first|(refine k_al ?_;first|(refine al_v (ov_assign rfl) rfl ?_)|(refine al_nil ?_)|(refine al_v (ov_build rfl rfl rfl (by repeat constructor)) rfl ?_)|(refine al_buildSlice (by rfl) (by rfl) (by rfl) (by rfl) (by decide) (by decide) (by rfl) (by rfl) (by repeat constructor) (by rfl) (by repeat constructor) (by rfl) (by first|exact ln0) (by repeat constructor) rfl ?_))|(first|(refine thn_n ?_)|(refine k_awp ?_;first|(refine awp_seq (awp_region ?_))|(refine awp_seq ?_)|(refine awp_region ?_)|(refine awp_ret ?_))))
  refine retq_wkn (.freeze 0 rfl (by repeat constructor)) ?_
  refine ret1 (by first | exact .inr rfl | exact .inl rfl) rfl rfl ?_
  exact ⟨rfl, rfl⟩
set_option maxHeartbeats 4000000 in
theorem s_reasonY {st : Int} : PCalls (EE w0 base) 28 [.int .i64 st] fun rv => rv = .tup [.str ((wordsY st).getD []), .int .i64 (if (wordsY st).isSome then 0 else 3)] := by
  refine acalls_of Tryd.func28 rfl rfl rfl (.cons .nil) ?_
  have hlen : reasonAV.length = 13 := rfl
  obtain ⟨T, hT⟩ : ∃ T, T = wordsY st := ⟨_, rfl⟩
  rw [← hT]
  repeat' (first|(first|(refine k_call ?_;refine al_call rfl rfl rfl rfl s_reasons ?_;rintro _ rfl))|(refine k_al ?_;first|(refine al_v (ov_move rfl) rfl ?_)|(refine al_v (ov_fieldAddr rfl rfl) rfl ?_)|(refine k_load ?_;first|(refine al_v (ov_load rfl rfl) rfl ?_)|(refine al_v (ov_load_agg rfl rfl rfl) rfl ?_))|(refine k_bin ?_;first|(refine al_v (ov_add rfl rfl (by (first|exact w64 (by omega) (by omega)|rfl))) rfl ?_))|(refine al_v (ov_assign rfl) rfl ?_)|(refine k_call ?_;first|(refine al_v (ov_len_rs rfl) rfl ?_))|(refine al_nil ?_)|(refine al_alloc rfl rfl rfl (by first|exact ln0) (by repeat constructor) rfl ?_)|(refine al_store rfl rfl rfl rfl rfl (by repeat constructor) (by repeat constructor) ?_))|(first|(refine thn_n ?_)|(refine k_awp ?_;first|(refine awp_seq (awp_region ?_))|(refine awp_seq ?_)|(refine awp_region ?_)|(refine k_cond ?_;first|(refine awp_cond_t' rfl (by with_reducible rfl) ?_)|(refine awp_cond_f' rfl (by with_reducible rfl) ?_))|(refine awp_block ?_)|(refine awp_ret ?_)|(refine awp_skip ?_)|(refine awp_exit ?_))|(refine thn_ret ?_)|(refine lq_exit ?_)|(refine lq_ret ?_)|(refine thn_exit ?_)|(refine inb_n ?_)|(refine inb_ret ?_)|(refine inb_here ?_)))
  refine awp_loopq (fun k : Nat => ⟨[(0, .int .i64 st), (6, .rs reasonAV), (7, .int .i64 13), (8, .int .i64 k)], []⟩) (fun k => k ≤ 13 ∧ T = wordsOf st (reasonL.drop k)) (fun k => 13 - k) 0 (.of (.same (by repeat constructor))) ⟨Nat.zero_le _, hT⟩ ?_
  rintro k ⟨hk, hTk⟩
  try dsimp only
  by_cases hlt : k < 13
  · have hlt2 : k < reasonL.length := hlt
    obtain ⟨p, hp⟩ : ∃ p, reasonL[k]? = some p := ⟨_, List.getElem?_eq_getElem hlt2⟩
    have hrow : reasonAV[((k : Nat) : Int).toNat]? = some [.int .i64 p.1, .str p.2] := by
      have : ((k : Nat) : Int).toNat = k := rfl
      unfold reasonAV
      rw [this, List.getElem?_map, hp]
      rfl
    have hd : reasonL.drop k = p :: reasonL.drop (k + 1) := by
      rw [List.drop_eq_getElem_cons hlt2]
      congr 1
      exact (List.getElem?_eq_some_iff.1 hp).2
    rw [hd, wordsOf] at hTk
    by_cases hps : p.1 = st
    · rw [if_pos hps] at hTk
      repeat' (first|(first|(refine al_v (ov_indexAddr rfl rfl (by omega) hrow rfl) rfl ?_)|(refine k_bin ?_;first|(refine al_v (ov_cmp_t rfl rfl rfl (by omega)) rfl ?_)|(refine al_v (ov_cmp_f rfl rfl rfl (by omega)) rfl ?_)))|(refine k_al ?_;first|(refine al_v (ov_move rfl) rfl ?_)|(refine al_v (ov_fieldAddr rfl rfl) rfl ?_)|(refine k_load ?_;first|(refine al_v (ov_load rfl rfl) rfl ?_)|(refine al_v (ov_load_agg rfl rfl rfl) rfl ?_))|(refine k_bin ?_;first|(refine al_v (ov_add rfl rfl (by (first|exact w64 (by omega) (by omega)|rfl))) rfl ?_))|(refine al_v (ov_assign rfl) rfl ?_)|(refine k_call ?_;first|(refine al_v (ov_len_rs rfl) rfl ?_))|(refine al_nil ?_)|(refine al_alloc rfl rfl rfl (by first|exact ln0) (by repeat constructor) rfl ?_)|(refine al_store rfl rfl rfl rfl rfl (by repeat constructor) (by repeat constructor) ?_))|(first|(refine thn_n ?_)|(refine k_awp ?_;first|(refine awp_seq (awp_region ?_))|(refine awp_seq ?_)|(refine awp_region ?_)|(refine k_cond ?_;first|(refine awp_cond_t' rfl (by with_reducible rfl) ?_)|(refine awp_cond_f' rfl (by with_reducible rfl) ?_))|(refine awp_block ?_)|(refine awp_ret ?_)|(refine awp_skip ?_)|(refine awp_exit ?_))|(refine thn_ret ?_)|(refine lq_exit ?_)|(refine lq_ret ?_)|(refine thn_exit ?_)|(refine inb_n ?_)|(refine inb_ret ?_)|(refine inb_here ?_)))
      refine ret2 (by first | exact .inr rfl | exact .inl rfl) rfl rfl rfl ?_
      exact ⟨by rw [hTk]; rfl, rfl⟩
    · rw [if_neg hps] at hTk
      repeat' (first|(first|(refine al_v (ov_indexAddr rfl rfl (by omega) hrow rfl) rfl ?_)|(refine k_bin ?_;first|(refine al_v (ov_cmp_t rfl rfl rfl (by omega)) rfl ?_)|(refine al_v (ov_cmp_f rfl rfl rfl (by omega)) rfl ?_)))|(refine k_al ?_;first|(refine al_v (ov_move rfl) rfl ?_)|(refine al_v (ov_fieldAddr rfl rfl) rfl ?_)|(refine k_load ?_;first|(refine al_v (ov_load rfl rfl) rfl ?_)|(refine al_v (ov_load_agg rfl rfl rfl) rfl ?_))|(refine k_bin ?_;first|(refine al_v (ov_add rfl rfl (by (first|exact w64 (by omega) (by omega)|rfl))) rfl ?_))|(refine al_v (ov_assign rfl) rfl ?_)|(refine k_call ?_;first|(refine al_v (ov_len_rs rfl) rfl ?_))|(refine al_nil ?_)|(refine al_alloc rfl rfl rfl (by first|exact ln0) (by repeat constructor) rfl ?_)|(refine al_store rfl rfl rfl rfl rfl (by repeat constructor) (by repeat constructor) ?_))|(first|(refine thn_n ?_)|(refine k_awp ?_;first|(refine awp_seq (awp_region ?_))|(refine awp_seq ?_)|(refine awp_region ?_)|(refine k_cond ?_;first|(refine awp_cond_t' rfl (by with_reducible rfl) ?_)|(refine awp_cond_f' rfl (by with_reducible rfl) ?_))|(refine awp_block ?_)|(refine awp_ret ?_)|(refine awp_skip ?_)|(refine awp_exit ?_))|(refine thn_ret ?_)|(refine lq_exit ?_)|(refine lq_ret ?_)|(refine thn_exit ?_)|(refine inb_n ?_)|(refine inb_ret ?_)|(refine inb_here ?_)))
      first|refine lq_back (k + 1) (.of (.same (by repeat constructor))) ?_ ?_|refine lq_back (k + 1) (.of (wk_drop [_] rfl (by repeat constructor) rfl (by repeat constructor) rfl)) ?_ ?_|refine lq_back (k + 1) (.of (wk_drop [_, _] rfl (by repeat constructor) rfl (by repeat constructor) rfl)) ?_ ?_|refine lq_back (k + 1) (.of (wk_drop [_, _, _] rfl (by repeat constructor) rfl (by repeat constructor) rfl)) ?_ ?_
      · exact ⟨by omega, hTk⟩
      · omega
  · have hl : reasonL.length = 13 := rfl
    rw [List.drop_eq_nil_of_le (by omega), wordsOf] at hTk
    repeat' (first|((refine k_bin ?_;first|(refine al_v (ov_cmp_t rfl rfl rfl (by omega)) rfl ?_)|(refine al_v (ov_cmp_f rfl rfl rfl (by omega)) rfl ?_)))|(refine k_al ?_;first|(refine al_v (ov_move rfl) rfl ?_)|(refine al_v (ov_fieldAddr rfl rfl) rfl ?_)|(refine k_load ?_;first|(refine al_v (ov_load rfl rfl) rfl ?_)|(refine al_v (ov_load_agg rfl rfl rfl) rfl ?_))|(refine k_bin ?_;first|(refine al_v (ov_add rfl rfl (by (first|exact w64 (by omega) (by omega)|rfl))) rfl ?_))|(refine al_v (ov_assign rfl) rfl ?_)|(refine k_call ?_;first|(refine al_v (ov_len_rs rfl) rfl ?_))|(refine al_nil ?_)|(refine al_alloc rfl rfl rfl (by first|exact ln0) (by repeat constructor) rfl ?_)|(refine al_store rfl rfl rfl rfl rfl (by repeat constructor) (by repeat constructor) ?_))|(first|(refine thn_n ?_)|(refine k_awp ?_;first|(refine awp_seq (awp_region ?_))|(refine awp_seq ?_)|(refine awp_region ?_)|(refine k_cond ?_;first|(refine awp_cond_t' rfl (by with_reducible rfl) ?_)|(refine awp_cond_f' rfl (by with_reducible rfl) ?_))|(refine awp_block ?_)|(refine awp_ret ?_)|(refine awp_skip ?_)|(refine awp_exit ?_))|(refine thn_ret ?_)|(refine lq_exit ?_)|(refine lq_ret ?_)|(refine thn_exit ?_)|(refine inb_n ?_)|(refine inb_ret ?_)|(refine inb_here ?_)))
    refine ret2 (by first | exact .inr rfl | exact .inl rfl) rfl rfl rfl ?_
    exact ⟨by rw [hTk]; rfl, rfl⟩
theorem s_endY {b : Bool} : PCalls (EE w0 base) 31 [.bool b] fun rv => rv = .str (if b then "close".toUTF8.data.toList else "keep-alive".toUTF8.data.toList) := by
  refine acalls_of Tryd.func31 rfl rfl rfl (.cons .nil) ?_
  cases b
  all_goals
    repeat' (first|(refine k_al ?_;first|(refine al_v (ov_move rfl) rfl ?_)|(refine al_v (ov_assign rfl) rfl ?_)|(refine al_nil ?_))|(first|(refine thn_n ?_)|(refine k_awp ?_;first|(refine awp_seq (awp_region ?_))|(refine awp_seq ?_)|(refine awp_region ?_)|(refine k_cond ?_;first|(refine awp_cond_t' rfl (by with_reducible rfl) ?_)|(refine awp_cond_f' rfl (by with_reducible rfl) ?_))|(refine awp_ret ?_)|(refine awp_skip ?_))|(refine thn_ret ?_)))
    refine ret1 (by first | exact .inr rfl | exact .inl rfl) rfl rfl ?_
    exact ⟨rfl, rfl⟩
end
end Go.Proofs.YtnjolbnbpfjdiaaDoor.L

namespace Go.Proofs.YtnjolbnbpfjdiaaDoor.L
open Go Go.RowKit Go.Proofs
set_option linter.unusedVariables false
set_option linter.unusedSimpArgs false
set_option maxRecDepth 100000
attribute [local irreducible] AL QL AWp Thn InB RetQ ACalls LoopQ HL HO HW HQ NoG

structure Hd where
  m : List UInt8
  t : List UInt8
  v : Int
  fs : List (List UInt8 × List UInt8)
def rM (l : List UInt8) : List UInt8 := (Lib.cut l [32]).1
def rT (l : List UInt8) : List UInt8 := (Lib.cut (Lib.cut l [32]).2.1 [32]).1
def rV (l : List UInt8) : List UInt8 := (Lib.cut (Lib.cut l [32]).2.1 [32]).2.1
def r2 (l : List UInt8) : Bool := (Lib.cut (Lib.cut l [32]).2.1 [32]).2.2
def goodR (m t v : List UInt8) (two : Bool) : Prop := two = true ∧ 1 ≤ m.length ∧ m.length ≤ 16 ∧ m.all pLarge = true ∧ t ≠ [] ∧ t.all pVis = true ∧ verOk v = true
instance (m t v : List UInt8) (two : Bool) : Decidable (goodR m t v two) := by unfold goodR; infer_instance
def stR (m t v : List UInt8) (two : Bool) : Int := if goodR m t v two then (if v.drop 5 ≠ [49, 46, 48] ∧ v.drop 5 ≠ [49, 46, 49] then 505 else if tgtOk t = true then 0 else 400) else 400
def reqSt (l : List UInt8) : Int := stR (rM l) (rT l) (rV l) (r2 l)
def reqV (l : List UInt8) : Int := byteAt (rV l) 7 - 48
section
variable {w0 : World} {base : Nat}
abbrev hdO (m t : List UInt8) (v : Int) (ver : Nat) (xs : List (List AV)) : List AO := [.box [.str m, .str t, .int .i64 v, .os 1 ver], .row 61 2 ver 0 xs]
def fN (l : List UInt8) : List UInt8 := (Lib.cut l [58]).1
def fV (l : List UInt8) : List UInt8 := Lib.trimS (Lib.cut l [58]).2.1 [32, 9]
def goodF (n v : List UInt8) (two : Bool) : Prop := two = true ∧ n ≠ [] ∧ n.all pToken = true ∧ v.all pLoose = true
instance (n v : List UInt8) (two : Bool) : Decidable (goodF n v two) := by unfold goodF; infer_instance
def fieldOk (l : List UInt8) : Prop := goodF (fN l) (fV l) (Lib.cut l [58]).2.2
instance (l : List UInt8) : Decidable (fieldOk l) := by unfold fieldOk; infer_instance
def fieldOf (l : List UInt8) : List UInt8 × List UInt8 := (smallS (fN l), fV l)
end
end Go.Proofs.YtnjolbnbpfjdiaaDoor.L

namespace Go.Proofs.YtnjolbnbpfjdiaaDoor.L
open Go Go.RowKit Go.Proofs
set_option linter.unusedVariables false
set_option linter.unusedSimpArgs false
set_option maxRecDepth 100000
attribute [local irreducible] AL QL AWp Thn InB RetQ ACalls LoopQ HL HO HW HQ NoG

section
variable {w0 : World} {base : Nat}
end
end Go.Proofs.YtnjolbnbpfjdiaaDoor.L

namespace Go.Proofs.YtnjolbnbpfjdiaaDoor.L
open Go Go.RowKit Go.Proofs
set_option linter.unusedVariables false
set_option linter.unusedSimpArgs false
set_option maxRecDepth 100000
attribute [local irreducible] AL QL AWp Thn InB RetQ ACalls LoopQ HL HO HW HQ NoG

section
variable {E : Env} {sl : Slots} {H : List AO}
end

section
variable {w0 : World} {base : Nat}
end
end Go.Proofs.YtnjolbnbpfjdiaaDoor.L

namespace Go.Proofs.YtnjolbnbpfjdiaaDoor.L
open Go Go.RowKit Go.Proofs
set_option linter.unusedVariables false
set_option linter.unusedSimpArgs false
set_option maxRecDepth 100000
attribute [local irreducible] AL QL AWp Thn InB RetQ ACalls LoopQ HL HO HW HQ NoG

abbrev Fs := List (List UInt8 × List UInt8)
abbrev hdAV (m t : List UInt8) (v : Int) (fs : Fs) : AV := .agg [.str m, .str t, .int .i64 v, .rs (fs.map prAV)]
def strAV (l : List (List UInt8)) : List (List AV) := l.map fun x => [.str x]
def valsOf (fs : Fs) (name : List UInt8) : List (List UInt8) := (fs.filter fun p => decide (p.1 = smallS name)).map (·.2)
theorem prAV_row {fs : Fs} {i : Nat} {p : List UInt8 × List UInt8} (h : fs[i]? = some p) : (fs.map prAV)[((i : Nat) : Int).toNat]? = some [.str p.1, .str p.2] := by
  have : ((i : Nat) : Int).toNat = i := rfl
  rw [this, List.getElem?_map, h]
  rfl

section
variable {w0 : World} {base : Nat}
def hostS : List UInt8 := [104, 111, 115, 116]
def nHost (fs : Fs) : Nat := (valsOf fs hostS).length
end
end Go.Proofs.YtnjolbnbpfjdiaaDoor.L

namespace Go.Proofs.YtnjolbnbpfjdiaaDoor.L
open Go Go.RowKit Go.Proofs
set_option linter.unusedVariables false
set_option linter.unusedSimpArgs false
set_option maxRecDepth 100000
attribute [local irreducible] AL QL AWp Thn InB RetQ ACalls LoopQ HL HO HW HQ NoG JmpQ MidQ HF

/-- A response. -/
structure Rp where
  st : Int
  fs : Fs
  body : List UInt8
  cl : Bool
abbrev rpC (r : Rp) : List AV := [.int .i64 r.st, .rs (r.fs.map prAV), .str r.body, .bool r.cl]
/-- Lengths that fit. -/
structure RpFit (r : Rp) : Prop where
  fs : r.fs.length * 16 ≤ 140737488351232
  each : ∀ p ∈ r.fs, p.1.length ≤ 1099511627776 ∧ p.2.length ≤ 1099511627776
  body : r.body.length ≤ 140737488351232
def fieldY (p : List UInt8 × List UInt8) : Bool := nameY p.1 && valueY p.2
def mayY (r : Rp) : Bool := (decide (200 ≤ r.st ∧ r.st ≤ 599) && decide (r.fs.length ≤ 32) && decide (r.body.length ≤ 1048576)) && r.fs.all fieldY
theorem allF_take {s : Fs} {i : Nat} {c : List UInt8 × List UInt8} (h : (s.take i).all fieldY = true) (hc : s[i]? = some c) : (s.take (i + 1)).all fieldY = fieldY c := by
  rw [List.take_add_one, hc, List.all_append, h]
  simp
theorem allF_not {s : Fs} {i : Nat} {c : List UInt8 × List UInt8} (hc : s[i]? = some c) (h : fieldY c = false) : s.all fieldY = false := by
  cases hq : s.all fieldY with
  | false => rfl
  | true => rw [List.all_eq_true] at hq; rw [hq c (List.mem_of_getElem? hc)] at h; cases h
section
variable {w0 : World} {base : Nat}
set_option maxHeartbeats 8000000 in
theorem s_mayY {r : Rp} (hr : RpFit r) : PCalls (EE w0 base) 27 [.agg (rpC r)] fun rv => rv = .bool (mayY r) := by
  obtain ⟨st, fs, body, cl⟩ := r
  obtain ⟨hf, he, hbd⟩ := hr
  dsimp only at hf he hbd
  show PCalls (EE w0 base) 27 [.agg [.int .i64 st, .rs (fs.map prAV), .str body, .bool cl]] fun rv => rv = .bool (mayY ⟨st, fs, body, cl⟩)
  refine acalls_of Tryd.func27 rfl rfl rfl (.cons .nil) ?_
  have hlen : (fs.map prAV).length = fs.length := List.length_map _
  by_cases hg : (200 ≤ st ∧ st ≤ 599) ∧ fs.length ≤ 32 ∧ body.length ≤ 1048576
  · have hm : mayY ⟨st, fs, body, cl⟩ = fs.all fieldY := by
      unfold mayY
      dsimp only
      rw [decide_eq_true hg.1, decide_eq_true hg.2.1, decide_eq_true hg.2.2]
      rfl
    repeat' (first|(first|(refine k_call ?_;refine al_v (ov_len_c fs.length rfl hlen) rfl ?_)|(refine k_bin ?_;first|(refine al_v (ov_cmp_t rfl rfl rfl (by omega)) rfl ?_)|(refine al_v (ov_cmp_f rfl rfl rfl (by omega)) rfl ?_)))|(refine k_al ?_;first|(refine al_v (ov_move rfl) rfl ?_)|(refine k_g ?_;first|(refine al_gy' rfl rfl (by with_reducible rfl) ?_)|(refine al_gnf rfl rfl (by with_reducible rfl) rfl ?_)|(refine al_gsp rfl rfl (fun hc => ?_) (fun hc => ?_) <;> (try (exfalso;omega))))|(refine al_v (ov_fieldAddr rfl rfl) rfl ?_)|(refine k_load ?_;first|(refine al_v (ov_load rfl rfl) rfl ?_)|(refine al_v (ov_load_agg rfl rfl rfl) rfl ?_))|(refine k_bin ?_;first|(refine al_v (ov_cmp rfl rfl rfl) rfl ?_)|(refine al_v (ov_add rfl rfl (by (first|exact w64 (by omega) (by omega)|rfl))) rfl ?_))|(refine k_pick ?_;first|(refine al_v (ov_pick_t' rfl (by with_reducible rfl) rfl) rfl ?_)|(refine al_v (ov_pick_f' rfl (by with_reducible rfl) rfl) rfl ?_))|(refine al_v (ov_assign rfl) rfl ?_)|(refine k_call ?_;first|(refine al_v (ov_len_str rfl) rfl ?_))|(refine al_nil ?_)|(refine al_box rfl rfl rfl (by first|exact ln0|exact ln1) (by repeat constructor) rfl ?_)|(refine al_alloc rfl rfl rfl (by first|exact ln0|exact ln1) (by repeat constructor) rfl ?_)|(refine al_store rfl rfl rfl rfl rfl (by repeat constructor) (by repeat constructor) ?_)|(refine al_v (ov_not_t rfl (by with_reducible rfl)) rfl ?_)|(refine al_v (ov_not_f rfl (by with_reducible rfl)) rfl ?_))|(first|(refine thn_n ?_)|(refine k_awp ?_;first|(refine awp_seq (awp_region ?_))|(refine awp_seq ?_)|(refine awp_region ?_)|(refine k_cond ?_;first|(refine awp_cond_t' rfl (by with_reducible rfl) ?_)|(refine awp_cond_f' rfl (by with_reducible rfl) ?_))|(refine awp_block ?_)|(refine awp_ret ?_)|(refine awp_skip ?_)|(refine awp_exit ?_))|(refine thn_ret ?_)|(refine lq_exit ?_)|(refine lq_ret ?_)|(refine thn_exit ?_)|(refine inb_n ?_)|(refine inb_ret ?_)|(refine inb_here ?_)))
    refine awp_loopq (fun k : Nat => ⟨[(26, .rs (fs.map prAV)), (27, .int .i64 fs.length), (28, .int .i64 k)], [.box [.int .i64 st, .rs (fs.map prAV), .str body, .bool cl]]⟩) (fun k => k ≤ fs.length ∧ (fs.take k).all fieldY = true) (fun k => fs.length - k) 0 (.of (.same (by repeat constructor))) ⟨Nat.zero_le _, rfl⟩ ?_
    rintro k ⟨hk, hok⟩
    try dsimp only
    by_cases hlt : k < fs.length
    · obtain ⟨p, hp⟩ : ∃ p, fs[k]? = some p := ⟨_, List.getElem?_eq_getElem hlt⟩
      have hrow := prAV_row hp
      have hel := he p (List.mem_of_getElem? hp)
      have h1 := s_nameY (w0 := w0) (base := base) (s := p.1) (by omega)
      have h2 := s_valueY (w0 := w0) (base := base) (s := p.2) (by omega)
      have hfy : fieldY p = (nameY p.1 && valueY p.2) := rfl
      cases hn : nameY p.1 with
      | false =>
        rw [hn] at h1 hfy
        repeat' (first|(first|(refine al_v (ov_indexAddr rfl rfl (by omega) hrow rfl) rfl ?_)|(refine k_call ?_;refine al_call rfl rfl rfl rfl h1 ?_;rintro _ rfl)|(refine k_call ?_;refine al_call rfl rfl rfl rfl h2 ?_;rintro _ rfl)|(refine k_bin ?_;first|(refine al_v (ov_cmp_t rfl rfl rfl (by omega)) rfl ?_)|(refine al_v (ov_cmp_f rfl rfl rfl (by omega)) rfl ?_)))|(refine k_al ?_;first|(refine al_v (ov_move rfl) rfl ?_)|(refine k_g ?_;first|(refine al_gy' rfl rfl (by with_reducible rfl) ?_)|(refine al_gnf rfl rfl (by with_reducible rfl) rfl ?_)|(refine al_gsp rfl rfl (fun hc => ?_) (fun hc => ?_) <;> (try (exfalso;omega))))|(refine al_v (ov_fieldAddr rfl rfl) rfl ?_)|(refine k_load ?_;first|(refine al_v (ov_load rfl rfl) rfl ?_)|(refine al_v (ov_load_agg rfl rfl rfl) rfl ?_))|(refine k_bin ?_;first|(refine al_v (ov_cmp rfl rfl rfl) rfl ?_)|(refine al_v (ov_add rfl rfl (by (first|exact w64 (by omega) (by omega)|rfl))) rfl ?_))|(refine k_pick ?_;first|(refine al_v (ov_pick_t' rfl (by with_reducible rfl) rfl) rfl ?_)|(refine al_v (ov_pick_f' rfl (by with_reducible rfl) rfl) rfl ?_))|(refine al_v (ov_assign rfl) rfl ?_)|(refine k_call ?_;first|(refine al_v (ov_len_str rfl) rfl ?_))|(refine al_nil ?_)|(refine al_box rfl rfl rfl (by first|exact ln0|exact ln1) (by repeat constructor) rfl ?_)|(refine al_alloc rfl rfl rfl (by first|exact ln0|exact ln1) (by repeat constructor) rfl ?_)|(refine al_store rfl rfl rfl rfl rfl (by repeat constructor) (by repeat constructor) ?_)|(refine al_v (ov_not_t rfl (by with_reducible rfl)) rfl ?_)|(refine al_v (ov_not_f rfl (by with_reducible rfl)) rfl ?_))|(first|(refine thn_n ?_)|(refine k_awp ?_;first|(refine awp_seq (awp_region ?_))|(refine awp_seq ?_)|(refine awp_region ?_)|(refine k_cond ?_;first|(refine awp_cond_t' rfl (by with_reducible rfl) ?_)|(refine awp_cond_f' rfl (by with_reducible rfl) ?_))|(refine awp_block ?_)|(refine awp_ret ?_)|(refine awp_skip ?_)|(refine awp_exit ?_))|(refine thn_ret ?_)|(refine lq_exit ?_)|(refine lq_ret ?_)|(refine thn_exit ?_)|(refine inb_n ?_)|(refine inb_ret ?_)|(refine inb_here ?_)))
        all_goals
          refine ret1 (by first | exact .inr rfl | exact .inl rfl) rfl rfl ?_
          exact ⟨by rw [hm, allF_not hp hfy], rfl⟩
      | true =>
        cases hv : valueY p.2 with
        | false =>
          rw [hn, hv] at hfy
          rw [hn] at h1
          rw [hv] at h2
          repeat' (first|(first|(refine al_v (ov_indexAddr rfl rfl (by omega) hrow rfl) rfl ?_)|(refine k_call ?_;refine al_call rfl rfl rfl rfl h1 ?_;rintro _ rfl)|(refine k_call ?_;refine al_call rfl rfl rfl rfl h2 ?_;rintro _ rfl)|(refine k_bin ?_;first|(refine al_v (ov_cmp_t rfl rfl rfl (by omega)) rfl ?_)|(refine al_v (ov_cmp_f rfl rfl rfl (by omega)) rfl ?_)))|(refine k_al ?_;first|(refine al_v (ov_move rfl) rfl ?_)|(refine k_g ?_;first|(refine al_gy' rfl rfl (by with_reducible rfl) ?_)|(refine al_gnf rfl rfl (by with_reducible rfl) rfl ?_)|(refine al_gsp rfl rfl (fun hc => ?_) (fun hc => ?_) <;> (try (exfalso;omega))))|(refine al_v (ov_fieldAddr rfl rfl) rfl ?_)|(refine k_load ?_;first|(refine al_v (ov_load rfl rfl) rfl ?_)|(refine al_v (ov_load_agg rfl rfl rfl) rfl ?_))|(refine k_bin ?_;first|(refine al_v (ov_cmp rfl rfl rfl) rfl ?_)|(refine al_v (ov_add rfl rfl (by (first|exact w64 (by omega) (by omega)|rfl))) rfl ?_))|(refine k_pick ?_;first|(refine al_v (ov_pick_t' rfl (by with_reducible rfl) rfl) rfl ?_)|(refine al_v (ov_pick_f' rfl (by with_reducible rfl) rfl) rfl ?_))|(refine al_v (ov_assign rfl) rfl ?_)|(refine k_call ?_;first|(refine al_v (ov_len_str rfl) rfl ?_))|(refine al_nil ?_)|(refine al_box rfl rfl rfl (by first|exact ln0|exact ln1) (by repeat constructor) rfl ?_)|(refine al_alloc rfl rfl rfl (by first|exact ln0|exact ln1) (by repeat constructor) rfl ?_)|(refine al_store rfl rfl rfl rfl rfl (by repeat constructor) (by repeat constructor) ?_)|(refine al_v (ov_not_t rfl (by with_reducible rfl)) rfl ?_)|(refine al_v (ov_not_f rfl (by with_reducible rfl)) rfl ?_))|(first|(refine thn_n ?_)|(refine k_awp ?_;first|(refine awp_seq (awp_region ?_))|(refine awp_seq ?_)|(refine awp_region ?_)|(refine k_cond ?_;first|(refine awp_cond_t' rfl (by with_reducible rfl) ?_)|(refine awp_cond_f' rfl (by with_reducible rfl) ?_))|(refine awp_block ?_)|(refine awp_ret ?_)|(refine awp_skip ?_)|(refine awp_exit ?_))|(refine thn_ret ?_)|(refine lq_exit ?_)|(refine lq_ret ?_)|(refine thn_exit ?_)|(refine inb_n ?_)|(refine inb_ret ?_)|(refine inb_here ?_)))
          all_goals
            refine ret1 (by first | exact .inr rfl | exact .inl rfl) rfl rfl ?_
            exact ⟨by rw [hm, allF_not hp hfy], rfl⟩
        | true =>
          rw [hn, hv] at hfy
          rw [hn] at h1
          rw [hv] at h2
          repeat' (first|(first|(refine al_v (ov_indexAddr rfl rfl (by omega) hrow rfl) rfl ?_)|(refine k_call ?_;refine al_call rfl rfl rfl rfl h1 ?_;rintro _ rfl)|(refine k_call ?_;refine al_call rfl rfl rfl rfl h2 ?_;rintro _ rfl)|(refine k_bin ?_;first|(refine al_v (ov_cmp_t rfl rfl rfl (by omega)) rfl ?_)|(refine al_v (ov_cmp_f rfl rfl rfl (by omega)) rfl ?_)))|(refine k_al ?_;first|(refine al_v (ov_move rfl) rfl ?_)|(refine k_g ?_;first|(refine al_gy' rfl rfl (by with_reducible rfl) ?_)|(refine al_gnf rfl rfl (by with_reducible rfl) rfl ?_)|(refine al_gsp rfl rfl (fun hc => ?_) (fun hc => ?_) <;> (try (exfalso;omega))))|(refine al_v (ov_fieldAddr rfl rfl) rfl ?_)|(refine k_load ?_;first|(refine al_v (ov_load rfl rfl) rfl ?_)|(refine al_v (ov_load_agg rfl rfl rfl) rfl ?_))|(refine k_bin ?_;first|(refine al_v (ov_cmp rfl rfl rfl) rfl ?_)|(refine al_v (ov_add rfl rfl (by (first|exact w64 (by omega) (by omega)|rfl))) rfl ?_))|(refine k_pick ?_;first|(refine al_v (ov_pick_t' rfl (by with_reducible rfl) rfl) rfl ?_)|(refine al_v (ov_pick_f' rfl (by with_reducible rfl) rfl) rfl ?_))|(refine al_v (ov_assign rfl) rfl ?_)|(refine k_call ?_;first|(refine al_v (ov_len_str rfl) rfl ?_))|(refine al_nil ?_)|(refine al_box rfl rfl rfl (by first|exact ln0|exact ln1) (by repeat constructor) rfl ?_)|(refine al_alloc rfl rfl rfl (by first|exact ln0|exact ln1) (by repeat constructor) rfl ?_)|(refine al_store rfl rfl rfl rfl rfl (by repeat constructor) (by repeat constructor) ?_)|(refine al_v (ov_not_t rfl (by with_reducible rfl)) rfl ?_)|(refine al_v (ov_not_f rfl (by with_reducible rfl)) rfl ?_))|(first|(refine thn_n ?_)|(refine k_awp ?_;first|(refine awp_seq (awp_region ?_))|(refine awp_seq ?_)|(refine awp_region ?_)|(refine k_cond ?_;first|(refine awp_cond_t' rfl (by with_reducible rfl) ?_)|(refine awp_cond_f' rfl (by with_reducible rfl) ?_))|(refine awp_block ?_)|(refine awp_ret ?_)|(refine awp_skip ?_)|(refine awp_exit ?_))|(refine thn_ret ?_)|(refine lq_exit ?_)|(refine lq_ret ?_)|(refine thn_exit ?_)|(refine inb_n ?_)|(refine inb_ret ?_)|(refine inb_here ?_)))
          all_goals
            first|refine lq_back (k + 1) (.of (.same (by repeat constructor))) ?_ ?_|refine lq_back (k + 1) (.of (wk_drop [_] rfl (by repeat constructor) rfl (by repeat constructor) rfl)) ?_ ?_|refine lq_back (k + 1) (.of (wk_drop [_, _] rfl (by repeat constructor) rfl (by repeat constructor) rfl)) ?_ ?_|refine lq_back (k + 1) (.of (wk_drop [_, _, _] rfl (by repeat constructor) rfl (by repeat constructor) rfl)) ?_ ?_
            · exact ⟨by omega, by rw [allF_take hok hp, hfy]; rfl⟩
            · omega
    · rw [List.take_of_length_le (by omega)] at hok
      repeat' (first|((refine k_bin ?_;first|(refine al_v (ov_cmp_t rfl rfl rfl (by omega)) rfl ?_)|(refine al_v (ov_cmp_f rfl rfl rfl (by omega)) rfl ?_)))|(refine k_al ?_;first|(refine al_v (ov_move rfl) rfl ?_)|(refine k_g ?_;first|(refine al_gy' rfl rfl (by with_reducible rfl) ?_)|(refine al_gnf rfl rfl (by with_reducible rfl) rfl ?_)|(refine al_gsp rfl rfl (fun hc => ?_) (fun hc => ?_) <;> (try (exfalso;omega))))|(refine al_v (ov_fieldAddr rfl rfl) rfl ?_)|(refine k_load ?_;first|(refine al_v (ov_load rfl rfl) rfl ?_)|(refine al_v (ov_load_agg rfl rfl rfl) rfl ?_))|(refine k_bin ?_;first|(refine al_v (ov_cmp rfl rfl rfl) rfl ?_)|(refine al_v (ov_add rfl rfl (by (first|exact w64 (by omega) (by omega)|rfl))) rfl ?_))|(refine k_pick ?_;first|(refine al_v (ov_pick_t' rfl (by with_reducible rfl) rfl) rfl ?_)|(refine al_v (ov_pick_f' rfl (by with_reducible rfl) rfl) rfl ?_))|(refine al_v (ov_assign rfl) rfl ?_)|(refine k_call ?_;first|(refine al_v (ov_len_str rfl) rfl ?_))|(refine al_nil ?_)|(refine al_box rfl rfl rfl (by first|exact ln0|exact ln1) (by repeat constructor) rfl ?_)|(refine al_alloc rfl rfl rfl (by first|exact ln0|exact ln1) (by repeat constructor) rfl ?_)|(refine al_store rfl rfl rfl rfl rfl (by repeat constructor) (by repeat constructor) ?_)|(refine al_v (ov_not_t rfl (by with_reducible rfl)) rfl ?_)|(refine al_v (ov_not_f rfl (by with_reducible rfl)) rfl ?_))|(first|(refine thn_n ?_)|(refine k_awp ?_;first|(refine awp_seq (awp_region ?_))|(refine awp_seq ?_)|(refine awp_region ?_)|(refine k_cond ?_;first|(refine awp_cond_t' rfl (by with_reducible rfl) ?_)|(refine awp_cond_f' rfl (by with_reducible rfl) ?_))|(refine awp_block ?_)|(refine awp_ret ?_)|(refine awp_skip ?_)|(refine awp_exit ?_))|(refine thn_ret ?_)|(refine lq_exit ?_)|(refine lq_ret ?_)|(refine thn_exit ?_)|(refine inb_n ?_)|(refine inb_ret ?_)|(refine inb_here ?_)))
      refine ret1 (by first | exact .inr rfl | exact .inl rfl) rfl rfl ?_
      exact ⟨by rw [hm, hok], rfl⟩
  · have hm : mayY ⟨st, fs, body, cl⟩ = false := by
      cases hq : mayY ⟨st, fs, body, cl⟩ with
      | false => rfl
      | true =>
        unfold mayY at hq
        simp only [Bool.and_eq_true, decide_eq_true_eq] at hq
        exact absurd ⟨hq.1.1.1, hq.1.1.2, hq.1.2⟩ hg
    repeat' (first|(first|(refine k_call ?_;refine al_v (ov_len_c fs.length rfl hlen) rfl ?_)|(refine k_bin ?_;first|(refine al_v (ov_cmp_t rfl rfl rfl (by omega)) rfl ?_)|(refine al_v (ov_cmp_f rfl rfl rfl (by omega)) rfl ?_)))|(refine k_al ?_;first|(refine al_v (ov_move rfl) rfl ?_)|(refine k_g ?_;first|(refine al_gy' rfl rfl (by with_reducible rfl) ?_)|(refine al_gnf rfl rfl (by with_reducible rfl) rfl ?_)|(refine al_gsp rfl rfl (fun hc => ?_) (fun hc => ?_) <;> (try (exfalso;omega))))|(refine al_v (ov_fieldAddr rfl rfl) rfl ?_)|(refine k_load ?_;first|(refine al_v (ov_load rfl rfl) rfl ?_)|(refine al_v (ov_load_agg rfl rfl rfl) rfl ?_))|(refine k_bin ?_;first|(refine al_v (ov_cmp rfl rfl rfl) rfl ?_)|(refine al_v (ov_add rfl rfl (by (first|exact w64 (by omega) (by omega)|rfl))) rfl ?_))|(refine k_pick ?_;first|(refine al_v (ov_pick_t' rfl (by with_reducible rfl) rfl) rfl ?_)|(refine al_v (ov_pick_f' rfl (by with_reducible rfl) rfl) rfl ?_))|(refine al_v (ov_assign rfl) rfl ?_)|(refine k_call ?_;first|(refine al_v (ov_len_str rfl) rfl ?_))|(refine al_nil ?_)|(refine al_box rfl rfl rfl (by first|exact ln0|exact ln1) (by repeat constructor) rfl ?_)|(refine al_alloc rfl rfl rfl (by first|exact ln0|exact ln1) (by repeat constructor) rfl ?_)|(refine al_store rfl rfl rfl rfl rfl (by repeat constructor) (by repeat constructor) ?_)|(refine al_v (ov_not_t rfl (by with_reducible rfl)) rfl ?_)|(refine al_v (ov_not_f rfl (by with_reducible rfl)) rfl ?_))|(first|(refine thn_n ?_)|(refine k_awp ?_;first|(refine awp_seq (awp_region ?_))|(refine awp_seq ?_)|(refine awp_region ?_)|(refine k_cond ?_;first|(refine awp_cond_t' rfl (by with_reducible rfl) ?_)|(refine awp_cond_f' rfl (by with_reducible rfl) ?_))|(refine awp_block ?_)|(refine awp_ret ?_)|(refine awp_skip ?_)|(refine awp_exit ?_))|(refine thn_ret ?_)|(refine lq_exit ?_)|(refine lq_ret ?_)|(refine thn_exit ?_)|(refine inb_n ?_)|(refine inb_ret ?_)|(refine inb_here ?_)))
    all_goals
      refine ret1 (by first | exact .inr rfl | exact .inl rfl) rfl rfl ?_
      exact ⟨by rw [hm], rfl⟩
end
end Go.Proofs.YtnjolbnbpfjdiaaDoor.L

namespace Go.Proofs.YtnjolbnbpfjdiaaDoor.L
open Go Go.RowKit Go.Proofs
set_option linter.unusedVariables false
set_option linter.unusedSimpArgs false
set_option maxRecDepth 100000
attribute [local irreducible] AL QL AWp Thn InB RetQ ACalls LoopQ HL HO HW HQ NoG JmpQ MidQ HF

abbrev tx (s : String) : List UInt8 := s.toUTF8.data.toList
def y1 (st : Int) (w : List UInt8) : List UInt8 := (((tx "HTTP/1.1 " ++ Lib.itoa st) ++ [32]) ++ w) ++ [13, 10]
def fldY (p : List UInt8 × List UInt8) : List UInt8 := ((p.1 ++ [58, 32]) ++ p.2) ++ [13, 10]
def fldsY : Fs → List UInt8
  | [] => []
  | p :: r => fldY p ++ fldsY r
def endW (b : Bool) : List UInt8 := if b then tx "close" else tx "keep-alive"
def y3 (body : List UInt8) (cl : Bool) : List UInt8 := ((((tx "content-length: " ++ Lib.itoa (body.length : Int)) ++ tx "\r\nconnection: ") ++ endW cl) ++ [13, 10, 13, 10]) ++ body
def statW (st : Int) : List UInt8 := (wordsY st).getD (tx "Status")
/-- The text of a response. -/
def printY (r : Rp) : List UInt8 := (y1 r.st (statW r.st) ++ fldsY r.fs) ++ y3 r.body r.cl
theorem fldsY_next {fs : Fs} {i : Nat} {p : List UInt8 × List UInt8} (h : fs[i]? = some p) : fldsY (fs.take (i + 1)) = fldsY (fs.take i) ++ fldY p := by
  have e : ∀ a b : Fs, fldsY (a ++ b) = fldsY a ++ fldsY b := by
    intro a
    induction a with
    | nil => intro b; rfl
    | cons x a ih => intro b; rw [List.cons_append, fldsY, ih, fldsY, List.append_assoc]
  rw [List.take_add_one, h, e]
  show fldsY (fs.take i) ++ (fldY p ++ []) = _
  rw [List.append_nil]
theorem fldsY_len : ∀ {fs : Fs}, (∀ p ∈ fs, p.1.length ≤ 1099511627776 ∧ p.2.length ≤ 1099511627776) → (fldsY fs).length ≤ fs.length * 2199023255556 := by
  intro fs
  induction fs with
  | nil => intro _; exact Nat.zero_le _
  | cons p fs ih =>
    intro h
    have h1 := h p List.mem_cons_self
    have h2 := ih fun q hq => h q (List.mem_cons_of_mem _ hq)
    rw [fldsY, List.length_append, List.length_cons, Nat.add_mul, Nat.one_mul]
    unfold fldY
    simp only [List.length_append, List.length_cons, List.length_nil]
    omega
theorem words_len (st : Int) : (statW st).length ≤ 40 := by
  have h : ∀ p ∈ reasonL, p.2.length ≤ 40 := by decide +kernel
  have h2 : ∀ (l : List (Int × List UInt8)) (w : List UInt8), wordsOf st l = some w → ∃ p ∈ l, p.2 = w := by
    intro l
    induction l with
    | nil => intro w h; cases h
    | cons p l ih =>
      intro w h
      rw [wordsOf] at h
      split at h
      · injection h with h; exact ⟨p, List.mem_cons_self, h⟩
      · obtain ⟨q, hq, e⟩ := ih w h; exact ⟨q, List.mem_cons_of_mem _ hq, e⟩
  unfold statW
  cases hw : wordsY st with
  | none => decide +kernel
  | some w =>
    obtain ⟨p, hp, e⟩ := h2 reasonL w hw
    rw [Option.getD_some, ← e]
    exact h p hp
section
variable {w0 : World} {base : Nat}
abbrev prnY (r : Rp) : AV := .tup [.str (if mayY r then printY r else []), .int .i64 (if mayY r then 0 else 90)]
set_option maxHeartbeats 8000000 in
theorem s_printY {r : Rp} (hG : Tabs w0 base) (hr : RpFit r) : PCalls (EE w0 base) 10 [.agg (rpC r)] fun rv => rv = prnY r := by
  have hM := s_mayY (w0 := w0) (base := base) hr
  unfold prnY
  obtain ⟨st, fs, body, cl⟩ := r
  obtain ⟨hf, he, hbd⟩ := hr
  dsimp only at hf he hbd
  have hlen : (fs.map prAV).length = fs.length := List.length_map _
  change PCalls (EE w0 base) 27 [.agg [.int .i64 st, .rs (fs.map prAV), .str body, .bool cl]] _ at hM
  change PCalls (EE w0 base) 10 [.agg [.int .i64 st, .rs (fs.map prAV), .str body, .bool cl]] _
  refine acalls_of Tryd.func10 rfl rfl rfl (.cons .nil) ?_
  cases hm : mayY ⟨st, fs, body, cl⟩ with
  | false =>
    rw [hm] at hM
    repeat' (first|((refine k_call ?_;refine al_call rfl rfl rfl rfl hM ?_;rintro _ rfl))|(refine k_al ?_;first|(refine al_v (ov_move rfl) rfl ?_)|(refine al_v (ov_fieldAddr rfl rfl) rfl ?_)|(refine k_load ?_;first|(refine al_v (ov_load rfl rfl) rfl ?_)|(refine al_v (ov_load_agg rfl rfl rfl) rfl ?_))|(refine k_bin ?_;first|(refine al_v (ov_cat rfl rfl (by first|omega|(simp only [List.length_append, List.length_cons, List.length_nil];omega)|(simp;omega))) rfl ?_)|(refine al_v (ov_add rfl rfl (by (first|exact w64 (by omega) (by omega)|rfl))) rfl ?_))|(refine al_v (ov_assign rfl) rfl ?_)|(refine k_call ?_;first|(refine al_v (ov_len_str rfl) rfl ?_))|(refine al_v (ov_extract rfl rfl) rfl ?_)|(refine al_nil ?_)|(refine al_box rfl rfl rfl (by first|exact ln0|exact ln1|exact ln3) (by repeat constructor) rfl ?_)|(refine al_alloc rfl rfl rfl (by first|exact ln0|exact ln1|exact ln3) (by repeat constructor) rfl ?_)|(refine al_store rfl rfl rfl rfl rfl (by repeat constructor) (by repeat constructor) ?_)|(refine al_v (ov_not_t rfl (by with_reducible rfl)) rfl ?_)|(refine al_v (ov_not_f rfl (by with_reducible rfl)) rfl ?_))|(first|(refine thn_n ?_)|(refine k_awp ?_;first|(refine awp_seq (awp_region ?_))|(refine awp_seq ?_)|(refine awp_region ?_)|(refine k_cond ?_;first|(refine awp_cond_t' rfl (by with_reducible rfl) ?_)|(refine awp_cond_f' rfl (by with_reducible rfl) ?_))|(refine awp_block ?_)|(refine awp_ret ?_)|(refine awp_skip ?_)|(refine awp_exit ?_))|(refine thn_ret ?_)|(refine lq_exit ?_)|(refine thn_exit ?_)|(refine inb_n ?_)|(refine inb_here ?_)))
    refine ret2 (by first | exact .inr rfl | exact .inl rfl) rfl rfl rfl ?_
    exact ⟨rfl, rfl⟩
  | true =>
    have hm2 := hm
    rw [hm] at hM
    unfold mayY at hm2
    simp only [Bool.and_eq_true, decide_eq_true_eq] at hm2
    obtain ⟨⟨⟨hst, hf32⟩, hb20⟩, _⟩ := hm2
    have hRe := s_reasonY (w0 := w0) (base := base) (st := st)
    have hIt := s_itoaA (w0 := w0) (base := base) (n := st) hG (by omega) (by omega)
    have hIl := Lib.itoa_length_le st (by omega) (by omega)
    have hIb := s_itoaA (w0 := w0) (base := base) (n := (body.length : Int)) hG (by omega) (by omega)
    have hIbl := Lib.itoa_length_le (body.length : Int) (by omega) (by omega)
    have hwl := words_len st
    have hEn : PCalls (EE w0 base) 31 [.bool cl] fun rv => rv = .str (endW cl) := s_endY
    have hE3 : (endW cl).length ≤ 10 := by cases cl <;> decide +kernel
    have hsw : statW st = (wordsY st).getD (tx "Status") := rfl
    obtain ⟨W, hW⟩ : ∃ W, W = statW st := ⟨_, rfl⟩
    have hRe2 : (wordsY st = none ∧ W = tx "Status") ∨ wordsY st = some W := by
      rw [hW]
      unfold statW
      cases wordsY st with
      | none => exact .inl ⟨rfl, rfl⟩
      | some w => exact .inr rfl
    rw [← hW] at hwl
    rcases hRe2 with ⟨hw, hWs⟩ | hw
    all_goals
      rw [hw] at hRe
      dsimp only [Option.getD_none, Option.isSome_none, Option.getD_some, Option.isSome_some] at hRe
      first | rw [if_neg (by decide)] at hRe | rw [if_pos rfl] at hRe
      repeat' (first|(first|(refine al_alloc_t rfl rfl rfl (by first|exact ln0|exact ln1|exact ln3) (by repeat constructor) rfl ?_)|(refine k_call ?_;refine al_call rfl rfl rfl rfl hM ?_;rintro _ rfl)|(refine k_call ?_;refine al_call rfl rfl rfl rfl hRe ?_;rintro _ rfl)|(refine k_bin ?_;first|(refine al_v (ov_cmp_t rfl rfl rfl (by omega)) rfl ?_)|(refine al_v (ov_cmp_f rfl rfl rfl (by omega)) rfl ?_)))|(refine k_al ?_;first|(refine al_v (ov_move rfl) rfl ?_)|(refine al_v (ov_fieldAddr rfl rfl) rfl ?_)|(refine k_load ?_;first|(refine al_v (ov_load rfl rfl) rfl ?_)|(refine al_v (ov_load_agg rfl rfl rfl) rfl ?_))|(refine k_bin ?_;first|(refine al_v (ov_cat rfl rfl (by first|omega|(simp only [List.length_append, List.length_cons, List.length_nil];omega)|(simp;omega))) rfl ?_)|(refine al_v (ov_add rfl rfl (by (first|exact w64 (by omega) (by omega)|rfl))) rfl ?_))|(refine al_v (ov_assign rfl) rfl ?_)|(refine k_call ?_;first|(refine al_v (ov_len_str rfl) rfl ?_))|(refine al_v (ov_extract rfl rfl) rfl ?_)|(refine al_nil ?_)|(refine al_box rfl rfl rfl (by first|exact ln0|exact ln1|exact ln3) (by repeat constructor) rfl ?_)|(refine al_alloc rfl rfl rfl (by first|exact ln0|exact ln1|exact ln3) (by repeat constructor) rfl ?_)|(refine al_store rfl rfl rfl rfl rfl (by repeat constructor) (by repeat constructor) ?_)|(refine al_v (ov_not_t rfl (by with_reducible rfl)) rfl ?_)|(refine al_v (ov_not_f rfl (by with_reducible rfl)) rfl ?_))|(first|(refine thn_n ?_)|(refine k_awp ?_;first|(refine awp_seq (awp_region ?_))|(refine awp_seq ?_)|(refine awp_region ?_)|(refine k_cond ?_;first|(refine awp_cond_t' rfl (by with_reducible rfl) ?_)|(refine awp_cond_f' rfl (by with_reducible rfl) ?_))|(refine awp_block ?_)|(refine awp_ret ?_)|(refine awp_skip ?_)|(refine awp_exit ?_))|(refine thn_ret ?_)|(refine lq_exit ?_)|(refine thn_exit ?_)|(refine inb_n ?_)|(refine inb_here ?_)))
      have hy1 : (y1 st W).length ≤ 200 := by
        unfold y1
        have e : (tx "HTTP/1.1 ").length = 9 := by decide +kernel
        simp only [List.length_append, List.length_cons, List.length_nil, e]
        omega
      have hW1 := a_writeString (w0 := w0) (base := base) (.inl rfl) (bs := []) (s := y1 st W) (ver := 0) (by simp only [List.length_nil]; omega)
      refine al_wkn (Wkn.spell 4 (.str W) rfl (congrArg AV.str (by first | rfl | (rw [hWs]; rfl)))) ?_
      refine al_wkn (.adoptBox (id := 1) (k := 1) (e := 5) (sz := 1) rfl rfl (by decide) rfl rfl rfl) ?_
      repeat' (first|(first|(refine k_call ?_;refine al_v (ov_len_c fs.length rfl hlen) rfl ?_)|(refine k_call ?_;refine al_call rfl rfl rfl rfl hIt ?_;rintro _ rfl)|(refine k_call ?_;refine al_acall [1, 2] rfl rfl hW1 ?_ ?_ rfl rfl ?_;(focus ((repeat constructor);done));(focus ((repeat constructor);done));rintro _ _ ⟨rfl, rfl⟩;refine ⟨_, _, by repeat constructor, by repeat constructor, ?_⟩)|(refine k_bin ?_;first|(refine al_v (ov_cmp_t rfl rfl rfl (by omega)) rfl ?_)|(refine al_v (ov_cmp_f rfl rfl rfl (by omega)) rfl ?_)))|(refine k_al ?_;first|(refine al_v (ov_move rfl) rfl ?_)|(refine al_v (ov_fieldAddr rfl rfl) rfl ?_)|(refine k_load ?_;first|(refine al_v (ov_load rfl rfl) rfl ?_)|(refine al_v (ov_load_agg rfl rfl rfl) rfl ?_))|(refine k_bin ?_;first|(refine al_v (ov_cat rfl rfl (by first|omega|(simp only [List.length_append, List.length_cons, List.length_nil];omega)|(simp;omega))) rfl ?_)|(refine al_v (ov_add rfl rfl (by (first|exact w64 (by omega) (by omega)|rfl))) rfl ?_))|(refine al_v (ov_assign rfl) rfl ?_)|(refine k_call ?_;first|(refine al_v (ov_len_str rfl) rfl ?_))|(refine al_v (ov_extract rfl rfl) rfl ?_)|(refine al_nil ?_)|(refine al_box rfl rfl rfl (by first|exact ln0|exact ln1|exact ln3) (by repeat constructor) rfl ?_)|(refine al_alloc rfl rfl rfl (by first|exact ln0|exact ln1|exact ln3) (by repeat constructor) rfl ?_)|(refine al_store rfl rfl rfl rfl rfl (by repeat constructor) (by repeat constructor) ?_)|(refine al_v (ov_not_t rfl (by with_reducible rfl)) rfl ?_)|(refine al_v (ov_not_f rfl (by with_reducible rfl)) rfl ?_))|(first|(refine thn_n ?_)|(refine k_awp ?_;first|(refine awp_seq (awp_region ?_))|(refine awp_seq ?_)|(refine awp_region ?_)|(refine k_cond ?_;first|(refine awp_cond_t' rfl (by with_reducible rfl) ?_)|(refine awp_cond_f' rfl (by with_reducible rfl) ?_))|(refine awp_block ?_)|(refine awp_ret ?_)|(refine awp_skip ?_)|(refine awp_exit ?_))|(refine thn_ret ?_)|(refine lq_exit ?_)|(refine thn_exit ?_)|(refine inb_n ?_)|(refine inb_here ?_)))
      refine awp_loopq (fun p : Nat × Nat × List UInt8 => ⟨[(1, .op 0 0), (6, .op 1 0), (30, .rs (fs.map prAV)), (31, .int .i64 fs.length), (32, .int .i64 p.1)], [.box [.int .i64 st, .rs (fs.map prAV), .str body, .bool cl], .box [.op 1 0, .os 2 p.2.1] (some 54), .row 5 1 p.2.1 0 (bytesAV p.2.2)]⟩)
        (fun p => p.1 ≤ fs.length ∧ p.2.2 = y1 st W ++ fldsY (fs.take p.1)) (fun p => fs.length - p.1) (0, 1, [] ++ y1 st W) (.of (.same (by repeat constructor))) ⟨Nat.zero_le _, by dsimp only; simp [fldsY]⟩ ?_
      rintro ⟨i, ver, l⟩ ⟨hi, hl⟩
      dsimp only at hi hl ⊢
      have htk := fldsY_len (fs := fs.take i) fun q hq => he q (List.mem_of_mem_take hq)
      have htl : (fs.take i).length * 2199023255556 ≤ 32 * 2199023255556 := Nat.mul_le_mul_right _ (by rw [List.length_take]; omega)
      have hlb : l.length ≤ 70368744178192 := by rw [hl, List.length_append]; omega
      by_cases hlt : i < fs.length
      · obtain ⟨p, hp⟩ : ∃ p, fs[i]? = some p := ⟨_, List.getElem?_eq_getElem hlt⟩
        have hrow := prAV_row hp
        have hel := he p (List.mem_of_getElem? hp)
        have hnx := fldsY_next hp
        have hfl : (fldY p).length ≤ 2199023255556 := by
          unfold fldY
          simp only [List.length_append, List.length_cons, List.length_nil]
          omega
        have hWf := a_writeString (w0 := w0) (base := base) (.inr rfl) (bs := l) (s := fldY p) (ver := ver) (by omega)
        repeat' (first|(first|(refine al_v (ov_indexAddr rfl rfl (by omega) hrow rfl) rfl ?_)|(refine k_call ?_;refine al_acall [1, 2] rfl rfl hWf ?_ ?_ rfl rfl ?_;(focus ((repeat constructor);done));(focus ((repeat constructor);done));rintro _ _ ⟨rfl, rfl⟩;refine ⟨_, _, by repeat constructor, by repeat constructor, ?_⟩)|(refine k_bin ?_;first|(refine al_v (ov_cmp_t rfl rfl rfl (by omega)) rfl ?_)|(refine al_v (ov_cmp_f rfl rfl rfl (by omega)) rfl ?_)))|(refine k_al ?_;first|(refine al_v (ov_move rfl) rfl ?_)|(refine al_v (ov_fieldAddr rfl rfl) rfl ?_)|(refine k_load ?_;first|(refine al_v (ov_load rfl rfl) rfl ?_)|(refine al_v (ov_load_agg rfl rfl rfl) rfl ?_))|(refine k_bin ?_;first|(refine al_v (ov_cat rfl rfl (by first|omega|(simp only [List.length_append, List.length_cons, List.length_nil];omega)|(simp;omega))) rfl ?_)|(refine al_v (ov_add rfl rfl (by (first|exact w64 (by omega) (by omega)|rfl))) rfl ?_))|(refine al_v (ov_assign rfl) rfl ?_)|(refine k_call ?_;first|(refine al_v (ov_len_str rfl) rfl ?_))|(refine al_v (ov_extract rfl rfl) rfl ?_)|(refine al_nil ?_)|(refine al_box rfl rfl rfl (by first|exact ln0|exact ln1|exact ln3) (by repeat constructor) rfl ?_)|(refine al_alloc rfl rfl rfl (by first|exact ln0|exact ln1|exact ln3) (by repeat constructor) rfl ?_)|(refine al_store rfl rfl rfl rfl rfl (by repeat constructor) (by repeat constructor) ?_)|(refine al_v (ov_not_t rfl (by with_reducible rfl)) rfl ?_)|(refine al_v (ov_not_f rfl (by with_reducible rfl)) rfl ?_))|(first|(refine thn_n ?_)|(refine k_awp ?_;first|(refine awp_seq (awp_region ?_))|(refine awp_seq ?_)|(refine awp_region ?_)|(refine k_cond ?_;first|(refine awp_cond_t' rfl (by with_reducible rfl) ?_)|(refine awp_cond_f' rfl (by with_reducible rfl) ?_))|(refine awp_block ?_)|(refine awp_ret ?_)|(refine awp_skip ?_)|(refine awp_exit ?_))|(refine thn_ret ?_)|(refine lq_exit ?_)|(refine thn_exit ?_)|(refine inb_n ?_)|(refine inb_here ?_)))
        first|refine lq_back (i + 1, ver + 1, l ++ fldY p) (.of (.same (by repeat constructor))) ?_ ?_|refine lq_back (i + 1, ver + 1, l ++ fldY p) (.of (wk_drop [_] rfl (by repeat constructor) rfl (by repeat constructor) rfl)) ?_ ?_|refine lq_back (i + 1, ver + 1, l ++ fldY p) (.of (wk_drop [_, _] rfl (by repeat constructor) rfl (by repeat constructor) rfl)) ?_ ?_|refine lq_back (i + 1, ver + 1, l ++ fldY p) (.of (wk_drop [_, _, _] rfl (by repeat constructor) rfl (by repeat constructor) rfl)) ?_ ?_
        · exact ⟨by dsimp only; omega, by dsimp only; rw [hl, hnx, List.append_assoc]⟩
        · dsimp only; omega
      · have hie : fs.take i = fs := List.take_of_length_le (by omega)
        rw [hie] at hl
        have hy3 : (y3 body cl).length ≤ 1048700 := by
          unfold y3
          have e1 : (tx "content-length: ").length = 16 := by decide +kernel
          have e2 : (tx "\r\nconnection: ").length = 14 := by decide +kernel
          have e3 : (endW cl).length ≤ 10 := by cases cl <;> decide +kernel
          simp only [List.length_append, List.length_cons, List.length_nil, e1, e2]
          omega
        have hW3 := a_writeString (w0 := w0) (base := base) (.inr rfl) (bs := l) (s := y3 body cl) (ver := ver) (by omega)
        have e : l ++ y3 body cl = printY ⟨st, fs, body, cl⟩ := by rw [hl, hW]; rfl
        have hS := a_string (w0 := w0) (base := base) (p := .op 0 0) (.inr rfl) (l := l ++ y3 body cl) (ver := ver + 1) (.inl rfl) (by simp only [List.length_append]; omega)
        repeat' (first|(first|(refine awp_held (id := 13) [(14, [1, 2])] [⟨0, true, [], bl 15 6336⟩, ⟨1, true, [], bl 15 6337⟩, ⟨2, true, [], bl 15 6339⟩, ⟨6, true, [], bl 15 6207⟩, ⟨7, true, [], bl 15 6271⟩, ⟨11, true, [], bl 15 2047⟩, ⟨12, true, [], bl 15 4095⟩, ⟨3, false, [], []⟩, ⟨4, true, [], bl 15 6607⟩, ⟨5, true, [], bl 15 6623⟩, ⟨8, false, [], []⟩, ⟨9, true, [], bl 15 6655⟩, ⟨10, true, [], bl 15 7167⟩, ⟨13, true, [], bl 15 8191⟩, ⟨14, false, [], []⟩] (by kernel_rfl) (by kernel_rfl) rfl (by kernel_rfl) ?_)|(refine k_call ?_;refine al_call rfl rfl rfl rfl hIb ?_;rintro _ rfl)|(refine k_call ?_;refine al_call rfl rfl rfl rfl hEn ?_;rintro _ rfl)|(refine k_call ?_;refine al_acall [1, 2] rfl rfl hW3 ?_ ?_ rfl rfl ?_;(focus ((repeat constructor);done));(focus ((repeat constructor);done));rintro _ _ ⟨rfl, rfl⟩;refine ⟨_, _, by repeat constructor, by repeat constructor, ?_⟩)|(refine k_call ?_;refine al_acall [1, 2] rfl rfl hS (by repeat constructor) (by repeat (first|exact bld_rn ‹_›|constructor)) rfl rfl ?_;rintro _ _ ⟨rfl, o', rfl, hB⟩;refine ⟨_, _, by repeat constructor, (by repeat (first|exact bld_rn ‹_›|constructor)), ?_⟩)|(refine k_bin ?_;first|(refine al_v (ov_cmp_t rfl rfl rfl (by omega)) rfl ?_)|(refine al_v (ov_cmp_f rfl rfl rfl (by omega)) rfl ?_)))|(refine k_al ?_;first|(refine al_v (ov_move rfl) rfl ?_)|(refine al_v (ov_fieldAddr rfl rfl) rfl ?_)|(refine k_load ?_;first|(refine al_v (ov_load rfl rfl) rfl ?_)|(refine al_v (ov_load_agg rfl rfl rfl) rfl ?_))|(refine k_bin ?_;first|(refine al_v (ov_cat rfl rfl (by first|omega|(simp only [List.length_append, List.length_cons, List.length_nil];omega)|(simp;omega))) rfl ?_)|(refine al_v (ov_add rfl rfl (by (first|exact w64 (by omega) (by omega)|rfl))) rfl ?_))|(refine al_v (ov_assign rfl) rfl ?_)|(refine k_call ?_;first|(refine al_v (ov_len_str rfl) rfl ?_))|(refine al_v (ov_extract rfl rfl) rfl ?_)|(refine al_nil ?_)|(refine al_box rfl rfl rfl (by first|exact ln0|exact ln1|exact ln3) (by repeat constructor) rfl ?_)|(refine al_alloc rfl rfl rfl (by first|exact ln0|exact ln1|exact ln3) (by repeat constructor) rfl ?_)|(refine al_store rfl rfl rfl rfl rfl (by repeat constructor) (by repeat constructor) ?_)|(refine al_v (ov_not_t rfl (by with_reducible rfl)) rfl ?_)|(refine al_v (ov_not_f rfl (by with_reducible rfl)) rfl ?_))|(first|(refine thn_n ?_)|(refine k_awp ?_;first|(refine awp_seq (awp_region ?_))|(refine awp_seq ?_)|(refine awp_region ?_)|(refine k_cond ?_;first|(refine awp_cond_t' rfl (by with_reducible rfl) ?_)|(refine awp_cond_f' rfl (by with_reducible rfl) ?_))|(refine awp_block ?_)|(refine awp_ret ?_)|(refine awp_skip ?_)|(refine awp_exit ?_))|(refine thn_ret ?_)|(refine lq_exit ?_)|(refine thn_exit ?_)|(refine inb_n ?_)|(refine inb_here ?_))|(first|(refine k_hw ?_;first|(refine hw_s rfl ?_)|(refine hw_v (ov_move rfl) rfl ?_)|(refine hw_v (ov_assign rfl) rfl ?_)|(refine hw_v (ov_fieldAddr rfl rfl) rfl ?_)|(refine hw_v (ov_load rfl rfl) rfl ?_)|(refine hw_v (ov_load_agg rfl rfl rfl) rfl ?_)|(refine hw_v (ov_len_str rfl) rfl ?_)|(refine hw_v (ov_extract rfl rfl) rfl ?_)|(refine hw_v (ov_add rfl rfl (by (first|exact w64 (by omega) (by omega)|rfl))) rfl ?_)|(refine hw_v (ov_not_t rfl (by with_reducible rfl)) rfl ?_)|(refine hw_v (ov_not_f rfl (by with_reducible rfl)) rfl ?_)|(refine hw_v (ov_cat rfl rfl (by first|omega|(simp only [List.length_append, List.length_cons, List.length_nil];omega)|(simp;omega))) rfl ?_))|(refine hl_op rfl ?_)|(refine k_ho ?_;first|(refine ho_n ?_))|(refine hl_nil ?_)|(refine hq_back ?_)))
        refine ret2 (by first | exact .inr rfl | exact .inl rfl) rfl rfl rfl ?_
        exact ⟨by rw [e]; rfl, rfl⟩
end
end Go.Proofs.YtnjolbnbpfjdiaaDoor.L

namespace Go.Proofs.YtnjolbnbpfjdiaaDoor.L
open Go Go.RowKit Go.Proofs
set_option linter.unusedVariables false
set_option linter.unusedSimpArgs false
set_option maxRecDepth 100000
attribute [local irreducible] AL QL AWp Thn InB RetQ ACalls LoopQ HL HO HW HQ NoG JmpQ MidQ HF
def split3 (s : List UInt8) : List (List UInt8) := Lib.splitK [32] 0 (min 3 (s.length + 1) - 1) s
section
variable {w0 : World} {base : Nat}
theorem s_splitN3 {s : List UInt8} (hG : Glob w0 base) (hs : s.length < 4294967281) : PCalls (EE w0 base) 59 [.str s, .str [32], .int .i64 3] fun rv => rv = .rs (txtAV (split3 s)) := by
  refine pcalls_real fun I ν w vs hh hl hv => ?_
  match vs, hl with
  | [v1, v2, v3], _ =>
  have e1 := (hv 0 _ v1 rfl rfl).str_inv
  have e2 := (hv 1 _ v2 rfl rfl).str_inv
  have e3 := (hv 2 _ v3 rfl rfl).int_inv
  subst e1; subst e2; subst e3
  obtain ⟨m, hm⟩ := glob_at hG hh
  obtain ⟨N, hN⟩ : ∃ N, N = min 3 (s.length + 1) := ⟨_, rfl⟩
  obtain ⟨ps, hps⟩ : ∃ ps, ps = Lib.splitB ⟨#[32]⟩ 0 (N - 1) ⟨s.toArray⟩ := ⟨_, rfl⟩
  have hpm : ps.map (fun p => p.data.toList) = split3 s := by
    rw [hps, Lib.splitB_data, hN]
    rfl
  have hpl : ps.length ≤ N := by
    rw [hps]
    have := Lib.splitB_length_le ⟨#[32]⟩ 0 (N - 1) ⟨s.toArray⟩
    omega
  refine (Tryd.strings_SplitN ⟨s.toArray⟩ ⟨#[32]⟩ 3 m w hs hm (by decide) (by decide) (by decide)).mono fun e w' ⟨he, hw⟩ => ⟨_, _, rfl, rfl, he, ?_, ?_⟩
  · subst hw; exact (Below.refl _ _).alloc (Nat.le_refl _) _
  · have hsz : (⟨s.toArray⟩ : ByteArray).size = s.length := rfl
    rw [hsz, ← hN, ← hps] at hw ⊢
    have hlen : (txtAV (split3 s)).length = ps.length := by rw [← hpm]; simp [txtAV]
    have hcell : ∀ j, j < ps.length → w'.cell? ⟨w.heap.size, 0 + j, none⟩ = some (((ps.map Value.string)[j]?).getD (.bool false)) := by
      intro j hj
      rw [hw]
      have hb : (w.alloc (.cells (Lib.cellsOf ps N) 9)).heap[w.heap.size]? = some (.cells (Lib.cellsOf ps N) 9) := halloc_new _ _
      unfold World.cell?
      rw [hb]
      simp [hj, Lib.cellsOf, List.getElem?_append]
    rw [← hlen]
    refine .pure (.rs (txtAV (split3 s)) 1 w.heap.size 0 _ (fun j => ((ps.map Value.string)[j]?).getD (.bool false)) (by omega) (by omega) ?_ ?_ ?_ ?_)
    · simp only [maxLen]
      omega
    · intro i row hi
      unfold txtAV at hi
      rw [List.getElem?_map] at hi
      obtain ⟨x, _, rfl⟩ := Option.map_eq_some_iff.1 hi
      rfl
    · intro j hj
      have h1 := hcell j (by omega)
      exact ⟨h1, .inr ⟨Nat.le_refl _, _, h1⟩⟩
    · intro i j row x hi hj
      unfold txtAV at hi
      rw [← hpm, List.map_map, List.getElem?_map] at hi
      obtain ⟨p, hp, rfl⟩ := Option.map_eq_some_iff.1 hi
      cases j with
      | succ j => simp at hj
      | zero =>
        simp at hj
        subst hj
        have : (ps.map Value.string)[i * 1 + 0]? = some (.string p) := by
          rw [List.getElem?_map, Nat.mul_one, Nat.add_zero, hp]
          rfl
        rw [this]
        simpa using VP.str (w := w') (I := immNew w w' I) p.data.toList
end
end Go.Proofs.YtnjolbnbpfjdiaaDoor.L

namespace Go.Proofs.YtnjolbnbpfjdiaaDoor.L
open Go Go.RowKit Go.Proofs
set_option linter.unusedVariables false
set_option linter.unusedSimpArgs false
set_option maxRecDepth 100000
attribute [local irreducible] AL QL AWp Thn InB RetQ ACalls LoopQ HL HO HW HQ NoG JmpQ MidQ HF

theorem index_app {a sep r : List UInt8} {c : UInt8} (h : c ∉ a) : Lib.index (a ++ ((c :: sep) ++ r)) (c :: sep) = (a.length : Int) := by
  refine Lib.index_first (by simp) ?_ ?_
  · unfold Lib.occAt
    rw [List.drop_left]
    exact List.isPrefixOf_iff_prefix.2 (List.prefix_append _ _)
  · intro j hj
    unfold Lib.occAt
    rw [List.drop_append_of_le_length (by omega), List.drop_eq_getElem_cons hj]
    have : c ≠ a[j] := fun e => h (e ▸ List.getElem_mem hj)
    rw [List.cons_append, List.isPrefixOf, beq_eq_false_iff_ne.2 this]
    rfl
theorem cut_app {a r : List UInt8} (c : UInt8) (sep : List UInt8) (h : c ∉ a) : Lib.cut (a ++ ((c :: sep) ++ r)) (c :: sep) = (a, r, true) := by
  unfold Lib.cut
  rw [index_app h, if_pos (by omega)]
  have e1 : ((a.length : Nat) : Int).toNat = a.length := rfl
  rw [e1, List.take_left, ← List.drop_drop, List.drop_left, List.drop_left]
theorem split3_app {a b c : List UInt8} (ha : (32 : UInt8) ∉ a) (hb : (32 : UInt8) ∉ b) : split3 (a ++ (32 :: (b ++ (32 :: c)))) = [a, b, c] := by
  unfold split3
  have hm : min 3 ((a ++ (32 :: (b ++ (32 :: c)))).length + 1) - 1 = 2 := by simp only [List.length_append, List.length_cons]; omega
  rw [hm]
  have h1 : Lib.index (a ++ (32 :: (b ++ (32 :: c)))) [32] = (a.length : Int) := index_app (sep := []) (r := b ++ (32 :: c)) ha
  have h2 : Lib.index (b ++ (32 :: c)) [32] = (b.length : Int) := index_app (sep := []) (r := c) hb
  have n1 : ¬ (((a.length : Nat) : Int) == -1) = true := fun e => by have := beq_iff_eq.1 e; omega
  have n2 : ¬ (((b.length : Nat) : Int) == -1) = true := fun e => by have := beq_iff_eq.1 e; omega
  rw [Lib.splitK, h1, if_neg n1]
  have e1 : ((a.length : Nat) : Int).toNat = a.length := rfl
  have e2 : ((b.length : Nat) : Int).toNat = b.length := rfl
  rw [e1, Nat.add_zero, List.take_left, ← List.drop_drop, List.drop_left]
  show a :: Lib.splitK [32] 0 1 (b ++ (32 :: c)) = _
  rw [Lib.splitK, h2, if_neg n2, e2, Nat.add_zero, List.take_left, ← List.drop_drop, List.drop_left]
  rfl
theorem cutY_room {l p : List UInt8} (h : (Lib.cut l p).2.2 = true) : (Lib.cut l p).1.length + p.length + (Lib.cut l p).2.1.length = l.length := by
  unfold Lib.cut at h ⊢
  split
  · rename_i hi
    have := Lib.index_room l p hi
    simp only [List.length_take, List.length_drop]
    omega
  · rename_i hi
    rw [if_neg hi] at h
    cases h
theorem cutY_not {l p : List UInt8} (h : (Lib.cut l p).2.2 = false) : (Lib.cut l p).1 = l ∧ (Lib.cut l p).2.1 = [] := by
  unfold Lib.cut at h ⊢
  split
  · rename_i hi
    rw [if_pos hi] at h
    cases h
  · exact ⟨rfl, rfl⟩
/-- Fields, then the length, the end and the body. -/
def fieldsP : Nat → List UInt8 → Fs → Option (Fs × List UInt8 × Bool)
  | 0, _, _ => none
  | f + 1, rest, out =>
    if (Lib.cut rest [13, 10]).2.2 = false then none
    else if (Lib.cut (Lib.cut rest [13, 10]).1 [58, 32]).2.2 = false then none
    else if (Lib.cut (Lib.cut rest [13, 10]).1 [58, 32]).1 = clN then
      (match Lib.atoiAll (Lib.cut (Lib.cut rest [13, 10]).1 [58, 32]).2.1 with
      | .ok n => if (Lib.cut (Lib.cut rest [13, 10]).2.1 [13, 10, 13, 10]).2.2 = true ∧ 0 ≤ n ∧ n ≤ ((Lib.cut (Lib.cut rest [13, 10]).2.1 [13, 10, 13, 10]).2.1.length : Int) then
          some (out, (Lib.cut (Lib.cut rest [13, 10]).2.1 [13, 10, 13, 10]).2.1.take n.toNat, decide ((Lib.cut (Lib.cut rest [13, 10]).2.1 [13, 10, 13, 10]).1 = tx "connection: close")) else none
      | _ => none)
    else fieldsP f (Lib.cut rest [13, 10]).2.1 (out ++ [((Lib.cut (Lib.cut rest [13, 10]).1 [58, 32]).1, (Lib.cut (Lib.cut rest [13, 10]).1 [58, 32]).2.1)])
/-- The response that a text begins with, read loosely. -/
def readP (s : List UInt8) : Option Rp := if (Lib.cut s [13, 10]).2.2 = false then none else match split3 (Lib.cut s [13, 10]).1 with
  | [_, w, _] => (match Lib.atoiAll w with
    | .ok st => (match fieldsP ((Lib.cut s [13, 10]).2.1.length + 1) (Lib.cut s [13, 10]).2.1 [] with
      | some g => some ⟨st, g.1, g.2.1, g.2.2⟩
      | none => none)
    | _ => none)
  | _ => none
theorem all_notin {p : UInt8 → Bool} {s : List UInt8} {c : UInt8} (h : s.all p = true) (hc : p c = false) : c ∉ s := by
  intro hm
  rw [List.all_eq_true] at h
  rw [h c hm] at hc
  cases hc
theorem nameY_all {s : List UInt8} (h : nameY s = true) : s.all okN = true ∧ s ≠ [] ∧ s ≠ clN ∧ s ≠ cnN := by
  unfold nameY at h
  simp only [Bool.and_eq_true, decide_eq_true_eq] at h
  exact ⟨h.1, h.2.1.1, h.2.1.2, h.2.2⟩
theorem valueY_all {s : List UInt8} (h : valueY s = true) : s.all okV = true := by
  unfold valueY at h
  simp only [Bool.and_eq_true, decide_eq_true_eq] at h
  exact h.1
def okD (c : UInt8) : Bool := decide (45 ≤ c.toNat) && decide (c.toNat ≤ 57)
theorem itoa_okD (v : Int) (h : 0 ≤ v) : (Lib.itoa v).all okD = true := by
  have h1 := (dec_is v.toNat).1.dig
  have h2 : Lib.itoa v = Lib.decDigits v.toNat := by
    obtain ⟨n, rfl⟩ := Int.eq_ofNat_of_zero_le h
    rfl
  rw [h2]
  rw [List.all_eq_true] at h1 ⊢
  intro c hc
  have := digB_iff.1 (h1 c hc)
  unfold okD
  simp only [Bool.and_eq_true, decide_eq_true_eq]
  omega
theorem itoa_no {v : Int} (h : 0 ≤ v) {c : UInt8} (hc : okD c = false) : c ∉ Lib.itoa v := all_notin (itoa_okD v h) hc
theorem statW_no (st : Int) : (13 : UInt8) ∉ statW st := by
  have h : ∀ p ∈ reasonL, (13 : UInt8) ∉ p.2 := by decide +kernel
  have h2 : ∀ (l : List (Int × List UInt8)) (w : List UInt8), wordsOf st l = some w → ∃ p ∈ l, p.2 = w := by
    intro l
    induction l with
    | nil => intro w h; cases h
    | cons p l ih =>
      intro w h
      rw [wordsOf] at h
      split at h
      · injection h with h; exact ⟨p, List.mem_cons_self, h⟩
      · obtain ⟨q, hq, e⟩ := ih w h; exact ⟨q, List.mem_cons_of_mem _ hq, e⟩
  unfold statW
  cases hw : wordsY st with
  | none => decide +kernel
  | some w =>
    obtain ⟨p, hp, e⟩ := h2 reasonL w hw
    rw [Option.getD_some, ← e]
    exact h p hp
theorem fld_cut {p : List UInt8 × List UInt8} {r : List UInt8} (h : fieldY p = true) : Lib.cut (fldY p ++ r) [13, 10] = ((p.1 ++ [58, 32]) ++ p.2, r, true) := by
  unfold fieldY at h
  rw [Bool.and_eq_true] at h
  have h1 := (nameY_all h.1).1
  have h2 := valueY_all h.2
  have hn : (13 : UInt8) ∉ (p.1 ++ [58, 32]) ++ p.2 := by
    intro hm
    simp only [List.mem_append] at hm
    rcases hm with (hm | hm) | hm
    · exact all_notin h1 (by decide +kernel) hm
    · exact absurd hm (by decide)
    · exact all_notin h2 (by decide +kernel) hm
  unfold fldY
  rw [List.append_assoc]
  exact cut_app 13 [10] hn
theorem fld_cut2 {p : List UInt8 × List UInt8} (h : fieldY p = true) : Lib.cut ((p.1 ++ [58, 32]) ++ p.2) [58, 32] = (p.1, p.2, true) := by
  unfold fieldY at h
  rw [Bool.and_eq_true] at h
  rw [List.append_assoc]
  exact cut_app 58 [32] (all_notin (nameY_all h.1).1 (by decide +kernel))
/-- The lines behind the fields. -/
theorem end_cut {body tail : List UInt8} {cl : Bool} : Lib.cut (y3 body cl ++ tail) [13, 10] = (tx "content-length: " ++ Lib.itoa (body.length : Int), (tx "connection: " ++ endW cl) ++ ([13, 10, 13, 10] ++ (body ++ tail)), true) := by
  have e : y3 body cl ++ tail = (tx "content-length: " ++ Lib.itoa (body.length : Int)) ++ ([13, 10] ++ ((tx "connection: " ++ endW cl) ++ ([13, 10, 13, 10] ++ (body ++ tail)))) := by
    unfold y3
    have e2 : tx "\r\nconnection: " = [13, 10] ++ tx "connection: " := by decide +kernel
    rw [e2]
    simp only [List.append_assoc]
  rw [e]
  refine cut_app 13 [10] ?_
  intro hm
  rcases List.mem_append.1 hm with hm | hm
  · exact absurd hm (by decide +kernel)
  · exact itoa_no (by omega) (by decide +kernel) hm
theorem end_cut2 (n : Nat) : Lib.cut (tx "content-length: " ++ Lib.itoa (n : Int)) [58, 32] = (clN, Lib.itoa (n : Int), true) := by
  have e : tx "content-length: " ++ Lib.itoa (n : Int) = clN ++ ([58, 32] ++ Lib.itoa (n : Int)) := by
    have e2 : tx "content-length: " = clN ++ [58, 32] := by decide +kernel
    rw [e2, List.append_assoc]
  rw [e]
  exact cut_app 58 [32] (by decide +kernel)
theorem end_cut3 {r : List UInt8} {cl : Bool} : Lib.cut ((tx "connection: " ++ endW cl) ++ ([13, 10, 13, 10] ++ r)) [13, 10, 13, 10] = (tx "connection: " ++ endW cl, r, true) :=
  cut_app 13 [10, 13, 10] (by cases cl <;> decide +kernel)
theorem end_cl (cl : Bool) : decide (tx "connection: " ++ endW cl = tx "connection: close") = cl := by cases cl <;> decide +kernel
theorem first_cut {st : Int} {r : List UInt8} (h : 0 ≤ st) : Lib.cut (y1 st (statW st) ++ r) [13, 10] = (tx "HTTP/1.1" ++ (32 :: (Lib.itoa st ++ (32 :: statW st))), r, true) := by
  have e : y1 st (statW st) ++ r = (tx "HTTP/1.1" ++ (32 :: (Lib.itoa st ++ (32 :: statW st)))) ++ ([13, 10] ++ r) := by
    unfold y1
    have e2 : tx "HTTP/1.1 " = tx "HTTP/1.1" ++ [32] := by decide +kernel
    rw [e2]
    simp only [List.append_assoc, List.cons_append, List.nil_append]
  rw [e]
  refine cut_app 13 [10] ?_
  intro hm
  simp only [List.mem_append, List.mem_cons] at hm
  rcases hm with hm | hm | hm | hm | hm
  · exact absurd hm (by decide +kernel)
  · exact absurd hm (by decide)
  · exact itoa_no h (by decide +kernel) hm
  · exact absurd hm (by decide)
  · exact statW_no st hm
theorem first_split {st : Int} (h : 0 ≤ st) : split3 (tx "HTTP/1.1" ++ (32 :: (Lib.itoa st ++ (32 :: statW st)))) = [tx "HTTP/1.1", Lib.itoa st, statW st] :=
  split3_app (by decide +kernel) (itoa_no h (by decide +kernel))
theorem mayY_all {r : Rp} (h : mayY r = true) : (200 ≤ r.st ∧ r.st ≤ 599) ∧ r.fs.length ≤ 32 ∧ r.body.length ≤ 1048576 ∧ r.fs.all fieldY = true := by
  unfold mayY at h
  simp only [Bool.and_eq_true, decide_eq_true_eq] at h
  exact ⟨h.1.1.1, h.1.1.2, h.1.2, h.2⟩
theorem fieldsP_end {f : Nat} {out : Fs} {body tail : List UInt8} {cl : Bool} (hb : body.length ≤ 1048576) : fieldsP (f + 1) (y3 body cl ++ tail) out = some (out, body, cl) := by
  rw [fieldsP, end_cut]
  dsimp only
  rw [if_neg (by decide), end_cut2]
  dsimp only
  rw [if_neg (by decide), if_pos rfl, atoi_itoa (by omega) (by omega), end_cut3]
  dsimp only
  rw [if_pos ⟨rfl, by omega, by rw [List.length_append]; omega⟩, end_cl]
  have : ((body.length : Nat) : Int).toNat = body.length := rfl
  rw [this, List.take_left]
theorem fieldsP_fld {f : Nat} {p : List UInt8 × List UInt8} {out : Fs} {r : List UInt8} (h : fieldY p = true) : fieldsP (f + 1) (fldY p ++ r) out = fieldsP f r (out ++ [p]) := by
  rw [fieldsP, fld_cut h]
  dsimp only
  rw [if_neg (by decide), fld_cut2 h]
  dsimp only
  have hh := h
  unfold fieldY at hh
  rw [Bool.and_eq_true] at hh
  rw [if_neg (by decide), if_neg (nameY_all hh.1).2.2.1]
theorem fieldsP_all {body tail : List UInt8} {cl : Bool} (hb : body.length ≤ 1048576) : ∀ {fs : Fs} {f : Nat} {out : Fs}, fs.all fieldY = true → fs.length < f → fieldsP f (fldsY fs ++ (y3 body cl ++ tail)) out = some (out ++ fs, body, cl) := by
  intro fs
  induction fs with
  | nil =>
    intro f out _ hf
    obtain ⟨f, rfl⟩ : ∃ g, f = g + 1 := ⟨f - 1, by simp only [List.length_nil] at hf; omega⟩
    rw [List.append_nil]
    exact fieldsP_end hb
  | cons p fs ih =>
    intro f out ha hf
    rw [List.length_cons] at hf
    obtain ⟨f, rfl⟩ : ∃ g, f = g + 1 := ⟨f - 1, by omega⟩
    rw [List.all_cons, Bool.and_eq_true] at ha
    rw [fldsY, List.append_assoc, fieldsP_fld ha.1, ih ha.2 (by omega), List.append_assoc]
    rfl
theorem fldsY_ge (fs : Fs) : fs.length ≤ (fldsY fs).length := by
  induction fs with
  | nil => exact Nat.zero_le _
  | cons p fs ih =>
    rw [fldsY, List.length_append, List.length_cons]
    unfold fldY
    simp only [List.length_append, List.length_cons, List.length_nil]
    omega
/-- What is printed is read as it is. -/
theorem readP_print {r : Rp} (h : mayY r = true) (tail : List UInt8) : readP (printY r ++ tail) = some r := by
  obtain ⟨h1, h2, h3, h4⟩ := mayY_all h
  have e : printY r ++ tail = y1 r.st (statW r.st) ++ (fldsY r.fs ++ (y3 r.body r.cl ++ tail)) := by
    unfold printY
    simp only [List.append_assoc]
  unfold readP
  rw [e, first_cut (by omega)]
  dsimp only
  rw [if_neg (by decide), first_split (by omega)]
  dsimp only
  rw [atoi_itoa (by omega) (by omega)]
  dsimp only
  rw [fieldsP_all h3 h4 (by have := fldsY_ge r.fs; simp only [List.length_append]; omega)]
  rfl
/-- The response that a text begins with. -/
def parseP (s : List UInt8) : Option Rp := match readP s with
  | some r => if mayY r = true ∧ Lib.hasPrefix s (printY r) = true then some r else none
  | none => none
theorem pre_iff {s p : List UInt8} : Lib.hasPrefix s p = true ↔ ∃ t, s = p ++ t := by
  unfold Lib.hasPrefix
  rw [List.isPrefixOf_iff_prefix]
  constructor
  · rintro ⟨t, e⟩; exact ⟨t, e.symm⟩
  · rintro ⟨t, e⟩; exact ⟨t, e.symm⟩
theorem parseP_iff {s : List UInt8} {r : Rp} : parseP s = some r ↔ mayY r = true ∧ Lib.hasPrefix s (printY r) = true := by
  constructor
  · intro h
    unfold parseP at h
    split at h
    · split at h
      · rename_i g; injection h with h; subst h; exact g
      · cases h
    · cases h
  · rintro ⟨h1, h2⟩
    obtain ⟨t, e⟩ := pre_iff.1 h2
    unfold parseP
    rw [e, readP_print h1]
    dsimp only
    rw [if_pos ⟨h1, pre_iff.2 ⟨t, rfl⟩⟩]
theorem parseP_none {s : List UInt8} (h : ∀ r, ¬ (mayY r = true ∧ Lib.hasPrefix s (printY r) = true)) : parseP s = none := by
  cases hq : parseP s with
  | none => rfl
  | some r => exact absurd (parseP_iff.1 hq) (h r)
end Go.Proofs.YtnjolbnbpfjdiaaDoor.L
