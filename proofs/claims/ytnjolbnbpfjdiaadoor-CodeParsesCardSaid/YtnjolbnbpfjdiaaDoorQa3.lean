/- Part 3 of the texts behind the theorem of this claim: The logic, part 25: arrays;the text over a row of bytes;a nil row in a box is taken for an own one;The logic, part 26: a text over a row of bytes;a nil row in a box is taken for an own one;The logic, part 27: a range over a text;a scope that is not jumped in;DERIVED: THE SHELF's CONTRACTS AT THIS DUMP, IN PLAIN WORDS (tools/lay-plain.mjs out of 'TrydShelf.lean', which tools/lay-shelf.mjs wrote): THE SAME DECLARATIONS UNDER THE SAME NAMES: 'import', 'namespace', 'open', 'def', 'theorem' AND NOTHING ELSE: no command of the shelf's: FOR A HAND-IN. Each laying: the table of numbers ('.._ren') and one theorem, a field a fact of the dump's own or the kernel's comparison;each contract: ONE APPLICATION;Layer 7 (head): what the library answers: strings.Cut, HasPrefix, IndexByte, Trim, strconv.Itoa;strings.Builder;The logic, part 28: what stands in a box: a row is frozen, a value is told less exactly;The logic, part 30: the greater and the smaller of two integers;The logic, part 31: a scope in which the run jumps back to labels;The logic, part 32: a held region in which two operations that change something may come up in either order;The logic, part 33: objects renamed and dropped;string(b) of bytes that never change;an and of bits;Layer 13 (code): which instructions may be;the operations' names;Layer 13 (code): the operations' names;which have an A;the text of instructions;Layer 13 (code): Print, the program's and the document's;Layer 7 (head): strings.Contains -/
import Derived.Test.YtnjolbnbpfjdiaaDoorQa2
import Derived.Scope
import Derived.Laws.RangeString
import Derived.Shelf.Strings.Builder1
import Derived.Shelf.Strings.Trim
import Derived.Shelf.Small.Utf8
import Derived.Shelf.Small.Strs
import Derived.Shelf.Strings.BuilderF
import Derived.Shelf.Strings.BuilderK
import Derived.Shelf.Strconv.Atoi
import Derived.Shelf.Strconv.Itoa0
import Derived.Shelf.Strconv.Itoa1
import Derived.Shelf.LaysM
import Derived.Shelf.Strconv.Itoa2
import Derived.Shelf.Strconv.Itoa3
import Derived.Shelf.Strconv.AtoiErrFast
import Derived.Shelf.Strconv.ParseIntEmpty
import Derived.Shelf.Strconv.AtoiFail
import Derived.Shelf.Strconv.Clone
import Derived.Shelf.Strconv.SyntaxError
import Derived.Shelf.LaysC
import Derived.Shelf.Strconv.ToError
import Derived.Shelf.Strconv.Lower
import Derived.Shelf.Strconv.ParseUint10
import Derived.Shelf.Strconv.ParseUint10Empty
import Derived.Shelf.Strconv.ParseUint10Any
import Derived.Shelf.Strconv.ParseInt10
import Derived.Shelf.Strconv.AtoiLong
import Derived.Shelf.Strconv.AtoiInnerAll
import Derived.Shelf.Strconv.RangeError
import Derived.Shelf.Strconv.ToErrorRange
import Derived.Shelf.Strconv.AtoiAll
import Derived.Shelf.Strings.Search1
import Derived.Shelf.Strings.Search2
import Derived.Shelf.Strings.Search3
import Derived.Shelf.Strings.Cut
import Derived.Shelf.Strings.Count
import Derived.Shelf.Strings.Shaped
import Derived.Shelf.Strings.Prefix
import Derived.Shelf.Strings.Split
import Derived.Shelf.Unicode.Decode
import Derived.Shelf.Strings.Runes
import Derived.Shelf.Strings.RuneCount
import Derived.Shelf.Strings.IndexAny
import Derived.Shelf.Strings.AsciiSet
import Derived.Shelf.Strings.IndexAnyAll
import Derived.Shelf.Strings.Explode
import Derived.Shelf.Unicode.DecodeSlow
import Derived.Shelf.Unicode.DecodeAny
import Derived.Shelf.Unicode.DecodeLast
import Derived.Shelf.Strings.BuilderCap
import Derived.Test.YtnjolbnbpfjdiaaDoorProg
import Derived.Shelf.Strings.SlTrimAscii
import Derived.Laws.Small
import Derived.ScopeJumps
import Derived.Lib.ItoaLen
import Derived.Lib.LaidTab
import Derived.Lib.AtoiAll
import Derived.Lib.ItoaMem
import Derived.Lib.SplitLaws
set_option linter.unusedVariables false
set_option linter.unusedSimpArgs false
namespace Go.Proofs.YtnjolbnbpfjdiaaDoor.L
open Go Go.RowKit
set_option linter.unusedVariables false
set_option linter.unusedSimpArgs false

section
variable {E : Env} {N : Nat} {ops : Array Oper} {Q : Exit → St → Prop} {rest : List Oper} {sl : Slots} {H H' : List AO}
theorem arr_inv {I : Imm} {ν : Nu} {w : World} (hh : HR E I ν H w) {id ver sz e : Nat} {wr : Bool} {xs : List (List AV)} (hH : H[id]? = some (.arr e sz ver xs wr)) {v : Value} (hv : VR w I ν (.os id ver) v) :
    ∃ g c, v = .slice (some ⟨g, 0, none⟩) xs.length c ∧ ν.val id ver = v ∧ id < ν.n ∧ ver ≤ ν.top id := by
  cases hv with
  | pure h => cases h
  | os _ _ A n c hi hver hs =>
    cases hh.obj id _ hH with
    | arr _ _ _ _ _ g c' cur fr ht h0 hv hb hheap hfr hl hcc hr hI =>
      rw [hs] at hv
      exact ⟨g, c', hv, hs, hi, hver⟩
theorem ov_len_arr {t e : Nat} {n b : Nat} {z : Value} [ti : TI E.P t (.slice e) n b z] {x : Operand} {id ver ver' sz e' : Nat} {wr : Bool} {xs : List (List AV)} (hx : ev sl x = some (.os id ver)) (hH : H[id]? = some (.arr e' sz ver' xs wr)) (hver : ver = ver') :
    OV E sl H (.call { callee := .builtin .len, args := #[x], argTypes := #[t] }) (.int .i64 (xs.length : Int)) := by
  intro I ν a w hh hs
  subst hver
  obtain ⟨g, c, hv, hval, hid, hle⟩ := arr_inv hh hH (ev_ok hs hx)
  refine ⟨_, .pure (.int .i64 _), fun o w' ho hb => ?_⟩
  simp [execOp, ho, hv, resolve, invoke, builtin, Builtin.len_, ti.und, goInt]

/-! ### unsafe.SliceData, unsafe.String -/
theorem VR.os_id {w : World} {I : Imm} {ν : Nu} {id ver : Nat} {v : Value} (h : VR w I ν (.os id ver) v) : id < ν.n ∧ ver ≤ ν.top id := by
  cases h with
  | pure h => cases h
  | os _ _ A n c hi hver hs => exact ⟨hi, hver⟩
theorem ov_usd {x : Operand} {id ver : Nat} {l : List UInt8} {o : AO} {tys : Array TypeId} (hx : ev sl x = some (.os id ver)) (hH : H[id]? = some o) (hb : IsBytes l ver o) (hne : l ≠ []) :
    OV E sl H (.call { callee := .builtin .unsafeSliceData, args := #[x], argTypes := tys }) (.er id ver 1 0 0) := by
  intro I ν a w hh hs
  have hos := ev_ok hs hx
  obtain ⟨hval, hv⟩ := bytes_obj hh hH hb hos
  rcases hv with ⟨_, e⟩ | ⟨g, c, cur, e', fr, hv, hlc, hob, hheap, hl, ht⟩
  · exact absurd e hne
  have hlp : 0 < l.length := List.length_pos_iff.2 hne
  obtain ⟨hid, hle⟩ := hos.os_id
  refine ⟨.pointer (some ⟨g, 0 * 1 + 0, none⟩), .er id ver 1 0 0 g l.length c hid hle (by rw [← hval, hv]), fun o' w' ho hw => ?_⟩
  have := Lib.run_unsafeSliceData_row (P := E.P) (w := w') tys o'.type ⟨g, 0, none⟩ l.length c (by omega)
  simp [execOp, ho, hv, resolve, invoke, builtin, this]
/-- Of no byte: some pointer or none. -/
theorem usd0_run {I : Imm} {ν : Nu} {a : Act} {w : World} {x : Operand} {id ver e : Nat} {n b : Nat} {z : Value} {o : AO} {tys : Array TypeId} {ty : TypeId} [ti : TI E.P ty (.pointer e) n b z] (hh : HR E I ν H w) (hs : SlR w I ν sl a) (hx : ev sl x = some (.os id ver)) (hH : H[id]? = some o) (hb : IsBytes [] ver o) (d : Option Nat) (pos : String) (after : Array Edge) (g : Option (Nat × Bool)) :
    ∃ w' q, (execOp a.eval ⟨d, .call { callee := .builtin .unsafeSliceData, args := #[x], argTypes := tys }, ty, pos, after, g⟩).run E.P w = .ok (.value (.pointer q)) w' ∧ Below w.heap.size w w' ∧ ∀ A, q = some A → ∃ g, A = ⟨g, 0, none⟩ := by
  obtain ⟨hval, hv⟩ := bytes_obj hh hH hb (ev_ok hs hx)
  rcases hv with ⟨hv, _⟩ | ⟨g, c, cur, e', fr, hv, hlc, hob, hheap, hl, ht⟩
  · have := Lib.run_unsafeSliceData_nil (P := E.P) (w := w) tys ty 0 0
    exact ⟨w, none, by simp [execOp, hv, resolve, invoke, builtin, this], Below.refl _ _, fun A h => by cases h⟩
  · by_cases hc : c = 0
    · subst hc
      have := Lib.run_unsafeSliceData_zero (P := E.P) (w := w) tys ty e ti.u ⟨g, 0, none⟩ 0 (e', cur.size) (by simp [World.shape?, hheap])
      exact ⟨w.alloc (.view ⟨g, 0, none⟩ e), some ⟨w.heap.size, 0, none⟩, by simp [execOp, hv, resolve, invoke, builtin, this], Below.alloc (Below.refl _ _) (Nat.le_refl _) _, fun A h => ⟨_, by injection h with h; exact h.symm⟩⟩
    · have := Lib.run_unsafeSliceData_row (P := E.P) (w := w) tys ty ⟨g, 0, none⟩ 0 c hc
      exact ⟨w, some ⟨g, 0, none⟩, by simp [execOp, hv, resolve, invoke, builtin, this], Below.refl _ _, fun A h => ⟨_, by injection h with h; exact h.symm⟩⟩
/-- What such a pointer is taken for. -/
theorem usd0_push {I : Imm} {ν : Nu} {w w' : World} {q : Option Addr} (hh : HR E I ν H w) (hb : Below w.heap.size w w') (hq : ∀ A, q = some A → ∃ g, A = ⟨g, 0, none⟩) : ∃ ν' pv, (isPtr pv = true ∨ pv = .nilp) ∧ HR E I ν' (H ++ [AO.gone]) w' ∧ FR E.k w I ν H w' I ν' (H ++ [AO.gone]) ∧ ν.le ν' ∧ VR w' I ν' pv (.pointer q) := by
  have hp := hh.push (o := .gone) (t := 0) (f := fun _ => .pointer q) (w' := w') (hh.below.trans (hb.mono hh.base)) hb.size (fun k hk => hb.block k hk) .gone (fun b h => by simp [OB] at h)
  cases q with
  | none => exact ⟨_, .nilp, .inr rfl, hp.1, hp.2.1, ν.add_le _ _, .pure .nilp⟩
  | some A =>
    obtain ⟨g, rfl⟩ := hq A rfl
    exact ⟨_, .op H.length 0, .inl rfl, hp.1, hp.2.1, ν.add_le _ _, .op _ 0 g (by simp [Nu.add, hh.n]) (by simp [Nu.add, hh.n])⟩
theorem hw_usd0 {τ : List (Nat × List Nat)} {p : PS} {pl : List PS} {x : Operand} {id ver e : Nat} {n b : Nat} {z : Value} {o : AO} {tys : Array TypeId} {ty : TypeId} [ti : TI E.P ty (.pointer e) n b z] {pos : String} {after : Array Edge} {d : Nat} (hx : ev sl x = some (.os id ver)) (hH : H[id]? = some o) (hb : IsBytes [] ver o) (hS : Snoc H .gone H') (hd : Nat.blt d N = true) (hq : p.q = false)
    (h : ∀ pv, isPtr pv = true ∨ pv = .nilp → HL E N ops τ Q pl ⟨(d, pv) :: sl, H'⟩) : HW E N ops τ Q p pl (some d) (.call { callee := .builtin .unsafeSliceData, args := #[x], argTypes := tys }) ty pos after ⟨sl, H⟩ := by
  rw [hS.eq] at h
  intro g hg hi hns L hL hp I ν a w hs w0 I0 ν0 o0 hf
  refine hl_one hL hns hp hq hi hs hf ?_
  obtain ⟨w', q, hrun, hbel, hqq⟩ := usd0_run (tys := tys) (ty := ty) hs.hr hs.sl hx hH hb (some d) pos after g
  obtain ⟨ν', pv, hpv, p1, p2, p3, p4⟩ := usd0_push hs.hr hbel hqq
  refine wpOp_do hi (hg I ν a w hs) ?_
  unfold Oper.wp
  rw [hrun]
  refine ⟨⟨(d, pv) :: sl, H ++ [AO.gone]⟩, I, ν', h pv hpv, ⟨p1, (hs.sl.mono p2.imm p3).put d p4 (by rw [hs.nt]; simpa [Nat.blt_eq] using hd), hs.df, by simp [Act.put, hs.nt]⟩, p2, fun id o b h1 _ h2 => ⟨hbel.block b (OB_lt (hs.hr.obj id o h1) h2).1, ?_, ?_⟩⟩
  · exact (List.getElem?_append_left (List.getElem?_eq_some_iff.1 h1).1).trans h1
  · exact (OB_same (hs.hr.obj id o h1) p3 (hs.hr.idlt h1)).trans h2
theorem ov_ustr0 {p n : Operand} {pv : AV} {pt it : Nat} (hp : ev sl p = some pv) (hpp : isPtr pv = true ∨ pv = .nilp) (hn : ev sl n = some (.int .i64 0)) :
    OV E sl H (.call { callee := .builtin .unsafeString, args := #[p, n], argTypes := #[pt, it] }) (.str []) := by
  intro I ν a w hh hs
  have e2 := (ev_ok hs hn).int_inv
  obtain ⟨q, e1⟩ : ∃ q, a.eval p = .pointer q := by
    rcases hpp with h | rfl
    · obtain ⟨A, hA⟩ := (ev_ok hs hp).ptr h
      exact ⟨_, hA⟩
    · exact ⟨_, (ev_ok hs hp).nilp_inv⟩
  refine ⟨_, .pure (.str []), fun o w' ho hw => ?_⟩
  have := Lib.run_unsafeString_none (P := E.P) (w := w') pt it o.type q
  simp [execOp, ho, e1, e2, resolve, invoke, builtin, this]
  rfl

/-- Which array is left of a list of bytes that a text shares. -/
inductive Shares (l : List UInt8) (ver : Nat) : AO → AO → Prop where
  | row (e : Nat) : Shares l ver (.row e 1 ver 0 (bytesAV l)) (.arr e 1 ver (bytesAV l) false)
  | arr (e : Nat) (wr : Bool) : Shares l ver (.arr e 1 ver (bytesAV l) wr) (.arr e 1 ver (bytesAV l) false)
end
end Go.Proofs.YtnjolbnbpfjdiaaDoor.L

namespace Go.Proofs.YtnjolbnbpfjdiaaDoor.L
open Go Go.RowKit
set_option linter.unusedVariables false
set_option linter.unusedSimpArgs false

theorem freeze_at {w : World} {g n : Nat} {cur : Array Value} {e : TypeId} {fr : Nat × Nat} (h : w.heap[g]? = some (.cells cur e fr)) : ∃ fr', (w.freeze ⟨g, 0, none⟩ n).heap[g]? = some (.cells cur e fr') := by
  unfold World.freeze
  split
  · exact ⟨fr, h⟩
  · simp only [Array.getElem?_modify, if_true, h, Option.map_some]
    exact ⟨_, rfl⟩
theorem freeze_far {w : World} {g n k : Nat} (hk : k ≠ g) : (w.freeze ⟨g, 0, none⟩ n).heap[k]? = w.heap[k]? := by
  unfold World.freeze
  split
  · rfl
  · simp only [Array.getElem?_modify]
    rw [if_neg (Ne.symm hk)]
theorem freeze_size {w : World} {g n : Nat} : (w.freeze ⟨g, 0, none⟩ n).heap.size = w.heap.size := by
  unfold World.freeze
  split
  · rfl
  · simp
section
variable {E : Env} {N : Nat} {ops : Array Oper} {Q : Exit → St → Prop} {rest : List Oper} {sl : Slots} {H H' : List AO}
theorem al_ustr {p n : Operand} {id ver e : Nat} {l : List UInt8} {o o' : AO} {pt it : Nat} {nn b : Nat} {z : Value} [ti : TI E.P pt (.pointer e) nn b z] {ty : TypeId} {pos : String} {after : Array Edge} {d : Nat} (hce : E.P.cellsOf e = 1)
    (hp : ev sl p = some (.er id ver 1 0 0)) (hn : ev sl n = some (.int .i64 (l.length : Int))) (hU : Upd id H o o' H') (hsh : (o = .row e 1 ver 0 (bytesAV l) ∨ ∃ wr, o = .arr e 1 ver (bytesAV l) wr) ∧ o' = .arr e 1 ver (bytesAV l) false) (hne : l ≠ []) (hlen : l.length ≤ 9223372036854775807) (hd : Nat.blt d N = true)
    (h : AL E N ops Q rest ⟨(d, .str l) :: sl, H'⟩) : AL E N ops Q (⟨some d, .call { callee := .builtin .unsafeString, args := #[p, n], argTypes := #[pt, it] }, ty, pos, after, none⟩ :: rest) ⟨sl, H⟩ := by
  obtain ⟨hid, hset⟩ := hU.eq
  subst hset
  obtain ⟨ho, rfl⟩ := hsh
  refine al_mem hd (fun I ν a w hh hs => ?_) h
  have e2 := (ev_ok hs hn).int_inv
  have hp' := ev_ok hs hp
  obtain ⟨pv, hpv⟩ : ∃ v, a.eval p = v := ⟨_, rfl⟩
  rw [hpv] at hp'
  have hbl : (bytesAV l).length = l.length := List.length_map _
  have hlp : 0 < l.length := List.length_pos_iff.2 hne
  cases hp' with
  | pure hp' => cases hp'
  | er _ _ _ _ _ g n2 c hidl hver hval =>
  have key : ∃ cur fr, w.heap[g]? = some (.cells cur e fr) ∧ l.length ≤ cur.size ∧ n2 = l.length ∧ l.length ≤ c ∧ cur.toList.take l.length = (l.map fun b => Value.int .u8 (b.toNat : Int)) ∧ (∀ o, ¬ I g o) ∧ OB ν id o = some g ∧ o ≠ .gone ∧ E.base ≤ g := by
    rcases ho with rfl | ⟨wr, rfl⟩
    · cases hh.obj id _ hid with
      | row _ _ _ _ _ inner ht h0 hown hr hf hI =>
        have hin := bytes_rowRel hr
        subst hin
        rw [hval] at hown hI
        rcases hown.2 with ⟨e1, e2⟩ | ⟨g', cap, cur, h1, h2, h3, h4, h5, h6, h7⟩
        · cases e1
        · injection h1 with h1 h1b h1c
          injection h1 with h1; injection h1 with h1
          subst h1
          rw [Nat.mul_one] at h6 h7
          refine ⟨cur, _, h3, by omega, by omega, by omega, by rw [← hbl]; exact h7, fun o hio => ?_, by simp only [OB, hval, Value.ownBlock], (fun e => by cases e), h2⟩
          have := hI g o rfl hio
          omega
    · cases hh.obj id _ hid with
      | arr _ _ _ _ _ g' c' cur fr ht h0 hv' hb hheap hfr hl hcc hr hI =>
        rw [hval] at hv'
        injection hv' with e1 e2 e3
        injection e1 with e1
        injection e1 with e1
        subst e1
        have hin := bytes_rowRel hr
        rw [Nat.mul_one, hbl] at hl hin
        exact ⟨cur, fr, hheap, hl, by omega, by omega, hin, hI, by simp only [OB, hval, Value.ownBlock], (fun e => by cases e), hb⟩
  obtain ⟨cur, fr, hheap, hl, hn2, hlc, ht, hI, hOB, hng, hbase⟩ := key
  obtain ⟨w', hw'⟩ : ∃ w', w' = w.freeze ⟨g, 0, none⟩ l.length := ⟨_, rfl⟩
  obtain ⟨fr', hheap'⟩ := freeze_at (n := l.length) hheap
  rw [← hw'] at hheap'
  have hfar : ∀ k, k ≠ g → w'.heap[k]? = w.heap[k]? := fun k hk => by rw [hw']; exact freeze_far hk
  have hsz : w'.heap.size = w.heap.size := by rw [hw']; exact freeze_size
  have hIm : ImmLe w I w' I := ImmLe.heap hh fun k _ ⟨o, ho⟩ => hfar k fun e => hI o (e ▸ ho)
  have hrun := Lib.run_unsafeString_row (P := E.P) (w := w) pt it ty e ti.u hce g cur.size (by simp [World.shape?, hheap]) l hne hl hlen (fun j x hj => bytes_cell hheap ht hj)
  rw [← hw'] at hrun
  have hbel : Below E.base E.w0 w' := by rw [hw']; exact Lib.below_freeze hh.below hbase _
  have htop : ver ≤ ν.top id := hver
  have := hh.set (o' := .arr e 1 ver (bytesAV l) false) (w' := w') hid hng (Nu.le.refl ν) rfl (fun _ _ => rfl) hbel (by omega) (fun k _ hk => hfar k (fun e => hk (by rw [hOB, e]))) hIm
    (.arr e 1 ver (bytesAV l) false g c cur fr' htop (by decide) (by rw [hval, hn2, hbl]) hbase hheap' (fun h => by cases h) (by rw [hbl, Nat.mul_one]; exact hl) (by rw [hbl]; exact hlc) (by rw [hbl, Nat.mul_one, ht]; exact rowRel_bytes) hI)
    (fun b' hb' => by simp only [OB, hval, Value.ownBlock, Option.some.injEq] at hb'; exact .inl (by rw [hOB, ← hb']))
  refine ⟨_, w', ν, fun o ho => ?_, this.1, this.2, Nu.le.refl ν, .pure (.str l)⟩
  have hz : (⟨g, 0 * 1 + 0, none⟩ : Addr) = ⟨g, 0, none⟩ := rfl
  have : (Builtin.unsafeString_ #[pt, it] o.type #[.pointer (some ⟨g, 0 * 1 + 0, none⟩), .int .i64 l.length]).run E.P w = .ok (.string ⟨l.toArray⟩) w' := hrun
  simp [execOp, ho, hpv, e2, resolve, invoke, builtin]
  simp at this
  rw [this]
  rfl

/-- A nil row in a box is taken for an own one. -/
theorem adoptBox_sr {I : Imm} {ν : Nu} {a : Act} {w : World} {id k e sz : Nat} {cells : List AV} {tyo : Option Nat} (hs : SR E N I ν ⟨sl, H⟩ a w) (hH : H[id]? = some (.box cells tyo)) (hk : cells[k]? = some .nilsl) (h0 : 0 < sz) :
    ∃ ν', SR E N I ν' ⟨sl, (H ++ [AO.row e sz 0 0 []]).set id (.box (cells.set k (.os H.length 0)) tyo)⟩ a w ∧ FR E.k w I ν H w I ν' ((H ++ [AO.row e sz 0 0 []]).set id (.box (cells.set k (.os H.length 0)) tyo)) := by
  have hh := hs.hr
  obtain ⟨ν', p1, p2, p3, p4⟩ := row_push (w' := w) hh (xs := []) (v := .slice none 0 0) (inner := []) (e := e) (n := 0) h0 rfl (World.ownsRow_nil w E.base e sz) ⟨by simp, fun i c h => by simp at h⟩ hh.below (Nat.le_refl _) (fun _ _ => rfl) (fun b hb => by simp [Value.ownBlock] at hb)
  have hlt : id < H.length := (List.getElem?_eq_some_iff.1 hH).1
  have hH' : (H ++ [AO.row e sz 0 0 []])[id]? = some (.box cells tyo) := by rw [List.getElem?_append_left hlt]; exact hH
  have hset := (show HR E I ν' ((H ++ [AO.row e sz 0 0 []]).set id (.box (cells.set k (.os H.length 0)) tyo)) w ∧ FR E.k w I ν' (H ++ [AO.row e sz 0 0 []]) w I ν' ((H ++ [AO.row e sz 0 0 []]).set id (.box (cells.set k (.os H.length 0)) tyo)) by
    cases p1.obj id _ hH' with
    | box _ _ b vs ty hv hb hheap hl hx hI hty =>
      have hOB : OB ν' id (.box cells tyo) = some b := by simp only [OB, hv]
      have hkl : k < cells.length := (List.getElem?_eq_some_iff.1 hk).1
      refine p1.set (o' := .box (cells.set k (.os H.length 0)) tyo) hH' (fun e => by cases e) (Nu.le.refl ν') rfl (fun _ _ => rfl) p1.below (Nat.le_refl _) (fun _ _ _ => rfl) (ImmLe.refl _ _)
        (.box _ tyo b vs ty hv hb hheap (by simpa using hl) (fun j x v h1 h2 => ?_) hI hty) (fun b' hb' => by simp only [OB, hv, Option.some.injEq] at hb'; exact .inl (by rw [hOB, ← hb']))
      by_cases e1 : j = k
      · subst e1
        rw [List.getElem?_set_self hkl] at h1
        injection h1 with h1
        subst h1
        have := (hx j .nilsl v hk h2).nilsl_inv
        rw [this]
        exact p4
      · rw [List.getElem?_set_ne (Ne.symm e1)] at h1
        exact hx j x v h1 h2)
  exact ⟨ν', ⟨hset.1, hs.sl.mono p2.imm p3, hs.df, hs.nt⟩, p2.trans hset.2⟩
theorem Wkn.adoptBox {id k e sz m : Nat} {cells cells' : List AV} {tyo : Option Nat} {H1 : List AO} (hH : H[id]? = some (.box cells tyo)) (hk : cells[k]? = some .nilsl) (h0 : 0 < sz) (hm : H.length = m) (hc : cells' = cells.set k (.os m 0)) (h1 : H1 = (H ++ [AO.row e sz 0 0 []]).set id (.box cells' tyo)) : Wkn E N ⟨sl, H⟩ ⟨sl, H1⟩ := fun I ν a w hs => by
  subst hm; subst hc; subst h1
  obtain ⟨ν', h2, h3⟩ := adoptBox_sr (e := e) (sz := sz) hs hH hk h0
  exact ⟨I, ν', h2, h3⟩
end
end Go.Proofs.YtnjolbnbpfjdiaaDoor.L

namespace Go.Proofs.YtnjolbnbpfjdiaaDoor.L
open Go Go.RowKit
set_option linter.unusedVariables false
set_option linter.unusedSimpArgs false

def NoG (Q : Exit → St → Prop) : Exit → St → Prop
  | .goto _, _ => False
  | e, σ => Q e σ
section
variable {E : Env} {N : Nat} {ops : Array Oper} {Q : Exit → St → Prop} {rest : List Oper} {sl : Slots} {H H' : List AO}
theorem awp_scope {c : Code} {σ : St} (h : AWp E N c (NoG Q) σ) : AWp E N (.scope c) Q σ := by
  intro I ν a w hs
  refine wp_scope_straight (Code.wp_mono (fun e a' w' hk => ?_) (h I ν a w hs))
  obtain ⟨σ', I', ν', hq, hs', hf⟩ := hk
  cases e with
  | goto l => exact hq.elim
  | normal => exact ⟨σ', I', ν', hq, hs', hf⟩
  | exit id => exact ⟨σ', I', ν', hq, hs', hf⟩
  | ret => exact ⟨σ', I', ν', hq, hs', hf⟩
  | panic ch => exact ⟨σ', I', ν', hq, hs', hf⟩
  | outgrown => exact ⟨σ', I', ν', hq, hs', hf⟩
theorem nog_ret {σ : St} (h : Q .ret σ) : NoG Q .ret σ := h
/-- What a step of a range over a text finds. -/
structure DecF (s : List UInt8) (pos c wd : Nat) : Prop where
  wd1 : 1 ≤ wd
  kind : (∃ b : UInt8, s[pos]? = some b ∧ b.toNat < 128 ∧ c = b.toNat ∧ wd = 1) ∨ (128 ≤ c ∧ ∀ (k : Nat) (b : UInt8), k < wd → s[pos + k]? = some b → 128 ≤ b.toNat)
theorem get!_mk (s : List UInt8) (i : Nat) (b : UInt8) (h : s[i]? = some b) : (ByteArray.mk s.toArray).get! i = b := by
  have hlt := (List.getElem?_eq_some_iff.1 h).1
  have h2 := (List.getElem?_eq_some_iff.1 h).2
  show s.toArray[i]! = b
  simp [hlt, h2]
theorem decF (s : List UInt8) (pos : Nat) (h : pos < s.length) : DecF s pos (Utf8.decode ⟨s.toArray⟩ pos).1 (Utf8.decode ⟨s.toArray⟩ pos).2 := by
  have hb : s[pos]? = some s[pos] := List.getElem?_eq_getElem h
  have e0 := get!_mk s pos _ hb
  have hsz : (ByteArray.mk s.toArray).size = s.length := rfl
  have cont : ∀ (k : Nat) (b : UInt8), s[pos + k]? = some b → ((ByteArray.mk s.toArray).get! (pos + k)).toNat = b.toNat := fun k b hk => by rw [get!_mk s _ b hk]
  obtain ⟨b0, hb0⟩ : ∃ b, s[pos] = b := ⟨_, rfl⟩
  rw [hb0] at hb e0
  have big : ¬ b0.toNat < 128 → 128 ≤ b0.toNat := fun h => by omega
  have one : ¬ b0.toNat < 128 → ∀ (k : Nat) (b : UInt8), k < 1 → s[pos + k]? = some b → 128 ≤ b.toNat := fun hn k b hk hbk => by
    obtain rfl : k = 0 := by omega
    rw [Nat.add_zero, hb] at hbk
    injection hbk with hbk
    subst hbk
    omega
  unfold Utf8.decode
  simp only [Nat.add_zero, e0, hsz]
  have re : (128 : Nat) ≤ Utf8.runeError := by decide
  split
  · rename_i h1
    exact ⟨Nat.le_refl _, .inl ⟨b0, hb, h1, rfl, rfl⟩⟩
  rename_i h1
  split
  · rename_i h2
    simp only [Bool.and_eq_true, decide_eq_true_eq, beq_iff_eq] at h2
    split
    · rename_i h3
      refine ⟨by dsimp only; omega, .inr ⟨h3, fun k b hk hbk => ?_⟩⟩
      rcases (show k = 0 ∨ k = 1 by omega) with rfl | rfl
      · exact one h1 0 b (by decide) hbk
      · have := cont 1 b hbk; omega
    · exact ⟨Nat.le_refl _, .inr ⟨re, one h1⟩⟩
  · split
    · rename_i h2
      simp only [Bool.and_eq_true, decide_eq_true_eq, beq_iff_eq] at h2
      split
      · rename_i h3
        simp only [Bool.and_eq_true, decide_eq_true_eq] at h3
        refine ⟨by dsimp only; omega, .inr ⟨by omega, fun k b hk hbk => ?_⟩⟩
        rcases (show k = 0 ∨ k = 1 ∨ k = 2 by omega) with rfl | rfl | rfl
        · exact one h1 0 b (by decide) hbk
        · have := cont 1 b hbk; omega
        · have := cont 2 b hbk; omega
      · exact ⟨Nat.le_refl _, .inr ⟨re, one h1⟩⟩
    · split
      · rename_i h2
        simp only [Bool.and_eq_true, decide_eq_true_eq, beq_iff_eq] at h2
        split
        · rename_i h3
          simp only [Bool.and_eq_true, decide_eq_true_eq] at h3
          refine ⟨by dsimp only; omega, .inr ⟨by omega, fun k b hk hbk => ?_⟩⟩
          rcases (show k = 0 ∨ k = 1 ∨ k = 2 ∨ k = 3 by omega) with rfl | rfl | rfl | rfl
          · exact one h1 0 b (by decide) hbk
          · have := cont 1 b hbk; omega
          · have := cont 2 b hbk; omega
          · have := cont 3 b hbk; omega
        · exact ⟨Nat.le_refl _, .inr ⟨re, one h1⟩⟩
      · exact ⟨Nat.le_refl _, .inr ⟨re, one h1⟩⟩

theorem al_range_str {t : Nat} {n b : Nat} {z : Value} [ti : TI E.P t .string n b z] {x : Operand} {s : List UInt8} {m : Nat} {ty : TypeId} {pos : String} {after : Array Edge} {d : Nat} (hx : ev sl x = some (.str s)) (hm : H.length = m) (hS : Snoc H (.siter s 0) H') (hd : Nat.blt d N = true)
    (h : AL E N ops Q rest ⟨(d, .op m 0) :: sl, H'⟩) : AL E N ops Q (⟨some d, .range t x, ty, pos, after, none⟩ :: rest) ⟨sl, H⟩ := by
  subst hm
  rw [hS.eq] at h
  refine al_mem hd (fun I ν a w hh hs => ?_) h
  have e1 := (ev_ok hs hx).str_inv
  have := hh.push (o := .siter s 0) (t := 0) (f := fun _ => .pointer (some ⟨w.heap.size, 0, none⟩)) (w' := w.iter ⟨s.toArray⟩ 0) (hh.below.alloc hh.base _) (by simp [World.iter]) (fun k hk => Below.heap_alloc w _ k hk)
    (.siter s 0 w.heap.size (by simp [Nu.add]) hh.base (World.iter_heap w _ 0)) (fun b hb => by simp [OB, Nu.add] at hb; omega)
  refine ⟨_, _, _, fun o ho => ?_, this.1, this.2.1, ν.add_le _ _, .op _ 0 w.heap.size (by simp [Nu.add, hh.n]) (by simp [Nu.add, hh.n])⟩
  have hrun := run_range_string (P := E.P) w t ⟨s.toArray⟩ ti.u
  simp [execOp, ho, e1, hrun]

theorem al_next_str {it : Operand} {id pos : Nat} {s : List UInt8} {ty : TypeId} {p : String} {after : Array Edge} {d : Nat} {Hf : Nat → List AO} (hit : ev sl it = some (.op id 0)) (hI : H[id]? = some (.siter s pos)) (hU : ∀ wd, Upd id H (.siter s pos) (.siter s (pos + wd)) (Hf wd)) (hd : Nat.blt d N = true)
    (h0 : s.length ≤ pos → AL E N ops Q rest ⟨(d, .tup [.bool false]) :: sl, H⟩) (h1 : ∀ c wd, pos < s.length → DecF s pos c wd → AL E N ops Q rest ⟨(d, .tup [.bool true, .int .i64 (pos : Int), .int .i32 (c : Int)]) :: sl, Hf wd⟩) :
    AL E N ops Q (⟨some d, .next it true, ty, p, after, none⟩ :: rest) ⟨sl, H⟩ := by
  intro I ν a w hs w0 I0 ν0 o0 hf0
  have hh := hs.hr
  have hit' := ev_ok hs.sl hit
  obtain ⟨iv, hiv⟩ : ∃ v, a.eval it = v := ⟨_, rfl⟩
  rw [hiv] at hit'
  cases hit' with
  | pure h => cases h
  | op _ _ r hi hval =>
  cases hh.obj id _ hI with
  | siter _ _ r' hv hb hheap =>
  rw [hval] at hv
  injection hv with e; injection e with e; injection e with e
  subst e
  refine wpList_plain rfl fun K hK => ?_
  unfold Oper.wp
  have hsz : (ByteArray.mk s.toArray).size = s.length := rfl
  by_cases hp : pos < s.length
  · obtain ⟨w', hw'⟩ : ∃ w', w' = { w with heap := w.heap.setIfInBounds r (.stringIter ⟨s.toArray⟩ (pos + (Utf8.decode ⟨s.toArray⟩ pos).2)) } := ⟨_, rfl⟩
    have hrl : r < w.heap.size := (Array.getElem?_eq_some_iff.1 hheap).1
    have hrun : (execOp a.eval ⟨some d, .next it true, ty, p, after, none⟩).run E.P w = .ok (.value (.tuple #[.bool true, .int .i64 (pos : Int), .int .i32 ((Utf8.decode ⟨s.toArray⟩ pos).1 : Int)])) w' := by
      have hr : w.heap[r] = .stringIter ⟨s.toArray⟩ pos := (Array.getElem?_eq_some_iff.1 hheap).2
      simp [execOp, hiv, Instr.next, getObj, setObj, Sem.run, hheap, hsz, hp, goInt, hw']
    rw [hrun]
    have hnew : w'.heap[r]? = some (.stringIter ⟨s.toArray⟩ (pos + (Utf8.decode ⟨s.toArray⟩ pos).2)) := by rw [hw']; simp [hrl]
    have hfar : ∀ k, k ≠ r → w'.heap[k]? = w.heap[k]? := fun k hk => by rw [hw']; simp [Array.getElem?_setIfInBounds, Ne.symm hk]
    have hszw : w'.heap.size = w.heap.size := by rw [hw']; simp
    have hOB : OB ν id (.siter s pos) = some r := by simp only [OB, hval]
    obtain ⟨hid, hset⟩ := (hU (Utf8.decode ⟨s.toArray⟩ pos).2).eq
    have hnoI : ∀ o, ¬ I r o := fun o ho => by
      obtain ⟨v, hv⟩ := hh.imm r o ho
      simp [World.cell?, hheap] at hv
    have hIm : ImmLe w I w' I := ImmLe.heap hh fun k _ ⟨o, ho⟩ => hfar k fun e => hnoI o (e ▸ ho)
    have hbel : Below E.base E.w0 w' := by
      refine hh.below.trans ⟨?_, ?_, ?_, by omega, fun k hk => hfar k (by omega)⟩
      all_goals rw [hw']
    have := hh.set (o' := .siter s (pos + (Utf8.decode ⟨s.toArray⟩ pos).2)) (w' := w') hid (fun e => by cases e) (Nu.le.refl ν) rfl (fun _ _ => rfl) hbel (by omega) (fun k _ hk => hfar k (fun e => hk (by rw [hOB, e]))) hIm
      (.siter _ _ r hval hb hnew) (fun b' hb' => by simp only [OB, hval, Option.some.injEq] at hb'; exact .inl (by rw [hOB, ← hb']))
    have hal := h1 _ _ hp (decF s pos hp)
    rw [hset] at hal
    exact hK _ _ (hal I ν _ w' ⟨this.1, (hs.sl.mono hIm (Nu.le.refl ν)).put d (.tup [.bool true, .int .i64 (pos : Int), .int .i32 ((Utf8.decode ⟨s.toArray⟩ pos).1 : Int)] [.bool true, .int .i64 (pos : Int), .int .i32 ((Utf8.decode ⟨s.toArray⟩ pos).1 : Int)] rfl (fun j x v k1 k2 => by
      match j, k1, k2 with
      | 0, k1, k2 => simp at k1 k2; subst k1; subst k2; exact .pure (.bool _)
      | 1, k1, k2 => simp at k1 k2; subst k1; subst k2; exact .pure (.int _ _)
      | 2, k1, k2 => simp at k1 k2; subst k1; subst k2; exact .pure (.int _ _)
      | j + 3, k1, k2 => simp at k1)) (by rw [hs.nt]; simpa [Nat.blt_eq] using hd), hs.df, by simp [Act.put, hs.nt]⟩ w0 I0 ν0 o0 (hf0.trans this.2))
  · have hrun : (execOp a.eval ⟨some d, .next it true, ty, p, after, none⟩).run E.P w = .ok (.value (.tuple #[.bool false])) w := by
      simp [execOp, hiv, Instr.next, getObj, Sem.run, hheap, hsz, hp]
    rw [hrun]
    exact hK _ _ (h0 (by omega) I ν _ w ⟨hh, hs.sl.put d (.tup [.bool false] [.bool false] rfl (fun j x v k1 k2 => by
      match j, k1, k2 with
      | 0, k1, k2 => simp at k1 k2; subst k1; subst k2; exact .pure (.bool _)
      | j + 1, k1, k2 => simp at k1)) (by rw [hs.nt]; simpa [Nat.blt_eq] using hd), hs.df, by simp [Act.put, hs.nt]⟩ w0 I0 ν0 o0 hf0)

/-- The text of a rune. -/
theorem ov_itos {src dst n b n' b' : Nat} {k k' : IntKind} {z z' : Value} [ts : TI E.P src (.int k) n b z] [td : TI E.P dst .string n' b' z'] {x : Operand} {m : Int} (hx : ev sl x = some (.int k' m)) : OV E sl H (.convert src dst x) (.str (Utf8.encode m).data.toList) := by
  intro I ν a w hh hs
  have e1 := (ev_ok hs hx).int_inv
  refine ⟨_, .pure (.str _), fun o w' ho hw => ?_⟩
  simp [execOp, ho, e1, convert, run_underlying ts.u, run_underlying td.u, Conv.intToString]
theorem encode_big {c : Nat} (h : 128 ≤ c) : ∃ (l : List UInt8) (b : UInt8), (Utf8.encode (c : Int)).data.toList = l ++ [b] ∧ 1 ≤ l.length ∧ l.length ≤ 3 ∧ 128 ≤ b.toNat := by
  unfold Utf8.encode
  obtain ⟨d, hd⟩ : ∃ d, d = if Utf8.valid (c : Int) = true then (c : Int).toNat else Utf8.runeError := ⟨_, rfl⟩
  have hd' : 128 ≤ d := by
    rw [hd]
    split
    · simpa using h
    · decide
  simp only [← hd]
  have key : 128 ≤ (UInt8.ofNat (128 + d % 64)).toNat := by
    rw [UInt8.toNat_ofNat']
    omega
  rw [if_neg (by omega)]
  split
  · exact ⟨[_], _, rfl, by simp, by simp, key⟩
  · split
    · exact ⟨[_, _], _, rfl, by simp, by simp, key⟩
    · exact ⟨[_, _, _], _, rfl, by simp, by simp, key⟩
end
end Go.Proofs.YtnjolbnbpfjdiaaDoor.L

namespace Go.Proofs
open Go.Shelf
def Tryd.lays161_ren : Go.Shelf.Ren := ⟨fun|161 => 49|231 => 69|227 => 70|233 => 71|235 => 72|228 => 91|197 => 92|151 => 93|260 => 115|152 => 95|137 => 79|119 => 117|224 => 113|225 => 112|217 => 97|266 => 118|n => n, fun|9 => 9|4 => 4|3 => 3|5 => 5|117 => 112|116 => 111|0 => 0|124 => 115|105 => 127|21 => 21|119 => 158|46 => 144|139 => 161|138 => 160|n => n, fun|3 => 4|4 => 5|n => n⟩
theorem Tryd.lays161 : Go.Proofs.Lays.n161 Tryd.prog Tryd.lays161_ren := {
  mixed := by kernel_rfl
  f119 := Tryd.func117.trans (congrArg some (by kernel_rfl))
  f137 := Tryd.func79.trans (congrArg some (by kernel_rfl))
  f151 := Tryd.func93.trans (congrArg some (by kernel_rfl))
  f152 := Tryd.func95.trans (congrArg some (by kernel_rfl))
  f161 := Tryd.func49.trans (congrArg some (by kernel_rfl))
  f197 := Tryd.func92.trans (congrArg some (by kernel_rfl))
  f217 := Tryd.func97.trans (congrArg some (by kernel_rfl))
  f224 := Tryd.func113.trans (congrArg some (by kernel_rfl))
  f225 := Tryd.func112.trans (congrArg some (by kernel_rfl))
  f227 := Tryd.func70.trans (congrArg some (by kernel_rfl))
  f228 := Tryd.func91.trans (congrArg some (by kernel_rfl))
  f231 := Tryd.func69.trans (congrArg some (by kernel_rfl))
  f233 := Tryd.func71.trans (congrArg some (by kernel_rfl))
  f235 := Tryd.func72.trans (congrArg some (by kernel_rfl))
  f260 := Tryd.func115.trans (congrArg some (by kernel_rfl))
  f266 := Tryd.func118.trans (congrArg some (by kernel_rfl))
  t0 := Tryd.underlying0
  a0 := Tryd.isAgg0
  z0 := Tryd.sizeOf0
  v0 := Tryd.zeroValue0
  t3 := Tryd.underlying3
  a3 := Tryd.isAgg3
  z3 := Tryd.sizeOf3
  v3 := Tryd.zeroValue3
  t4 := Tryd.underlying4
  a4 := Tryd.isAgg4
  z4 := Tryd.sizeOf4
  v4 := Tryd.zeroValue4
  t5 := Tryd.underlying5
  a5 := Tryd.isAgg5
  z5 := Tryd.sizeOf5
  v5 := Tryd.zeroValue5
  t9 := Tryd.underlying9
  a9 := Tryd.isAgg9
  z9 := Tryd.sizeOf9
  v9 := Tryd.zeroValue9
  t21 := Tryd.underlying21
  a21 := Tryd.isAgg21
  z21 := Tryd.sizeOf21
  v21 := Tryd.zeroValue21
  t46 := Tryd.underlying144
  a46 := Tryd.isAgg144
  z46 := Tryd.sizeOf144
  v46 := Tryd.zeroValue144
  t105 := Tryd.underlying127
  a105 := Tryd.isAgg127
  z105 := Tryd.sizeOf127
  v105 := Tryd.zeroValue127
  t116 := Tryd.underlying111
  a116 := Tryd.isAgg111
  z116 := Tryd.sizeOf111
  t117 := Tryd.underlying112
  a117 := Tryd.isAgg112
  z117 := Tryd.sizeOf112
  v117 := Tryd.zeroValue112
  t119 := Tryd.underlying158
  a119 := Tryd.isAgg158
  z119 := Tryd.sizeOf158
  t124 := Tryd.underlying115
  a124 := Tryd.isAgg115
  z124 := Tryd.sizeOf115
  v124 := Tryd.zeroValue115
  t138 := Tryd.underlying160
  a138 := Tryd.isAgg160
  z138 := Tryd.sizeOf160
  v138 := Tryd.zeroValue160
  t139 := Tryd.underlying161
  a139 := Tryd.isAgg161
  z139 := Tryd.sizeOf161
  v139 := Tryd.zeroValue161
  g3 := by kernel_rfl
  g4 := by kernel_rfl }
def Tryd.lays160_ren : Go.Shelf.Ren := ⟨fun|160 => 50|232 => 73|231 => 69|227 => 70|234 => 74|233 => 71|236 => 75|235 => 72|228 => 91|271 => 94|151 => 93|197 => 92|120 => 116|152 => 95|260 => 115|137 => 79|119 => 117|224 => 113|225 => 112|217 => 97|266 => 118|n => n, fun|9 => 9|4 => 4|3 => 3|5 => 5|117 => 112|116 => 111|0 => 0|124 => 115|21 => 21|105 => 127|46 => 144|119 => 158|139 => 161|138 => 160|n => n, fun|3 => 4|4 => 5|n => n⟩
theorem Tryd.lays160 : Go.Proofs.Lays.n160 Tryd.prog Tryd.lays160_ren := {
  mixed := by kernel_rfl
  f119 := Tryd.func117.trans (congrArg some (by kernel_rfl))
  f120 := Tryd.func116.trans (congrArg some (by kernel_rfl))
  f137 := Tryd.func79.trans (congrArg some (by kernel_rfl))
  f151 := Tryd.func93.trans (congrArg some (by kernel_rfl))
  f152 := Tryd.func95.trans (congrArg some (by kernel_rfl))
  f160 := Tryd.func50.trans (congrArg some (by kernel_rfl))
  f197 := Tryd.func92.trans (congrArg some (by kernel_rfl))
  f217 := Tryd.func97.trans (congrArg some (by kernel_rfl))
  f224 := Tryd.func113.trans (congrArg some (by kernel_rfl))
  f225 := Tryd.func112.trans (congrArg some (by kernel_rfl))
  f227 := Tryd.func70.trans (congrArg some (by kernel_rfl))
  f228 := Tryd.func91.trans (congrArg some (by kernel_rfl))
  f231 := Tryd.func69.trans (congrArg some (by kernel_rfl))
  f232 := Tryd.func73.trans (congrArg some (by kernel_rfl))
  f233 := Tryd.func71.trans (congrArg some (by kernel_rfl))
  f234 := Tryd.func74.trans (congrArg some (by kernel_rfl))
  f235 := Tryd.func72.trans (congrArg some (by kernel_rfl))
  f236 := Tryd.func75.trans (congrArg some (by kernel_rfl))
  f260 := Tryd.func115.trans (congrArg some (by kernel_rfl))
  f266 := Tryd.func118.trans (congrArg some (by kernel_rfl))
  f271 := Tryd.func94.trans (congrArg some (by kernel_rfl))
  t0 := Tryd.underlying0
  a0 := Tryd.isAgg0
  z0 := Tryd.sizeOf0
  v0 := Tryd.zeroValue0
  t3 := Tryd.underlying3
  a3 := Tryd.isAgg3
  z3 := Tryd.sizeOf3
  v3 := Tryd.zeroValue3
  t4 := Tryd.underlying4
  a4 := Tryd.isAgg4
  z4 := Tryd.sizeOf4
  v4 := Tryd.zeroValue4
  t5 := Tryd.underlying5
  a5 := Tryd.isAgg5
  z5 := Tryd.sizeOf5
  v5 := Tryd.zeroValue5
  t9 := Tryd.underlying9
  a9 := Tryd.isAgg9
  z9 := Tryd.sizeOf9
  v9 := Tryd.zeroValue9
  t21 := Tryd.underlying21
  a21 := Tryd.isAgg21
  z21 := Tryd.sizeOf21
  v21 := Tryd.zeroValue21
  t46 := Tryd.underlying144
  a46 := Tryd.isAgg144
  z46 := Tryd.sizeOf144
  v46 := Tryd.zeroValue144
  t105 := Tryd.underlying127
  a105 := Tryd.isAgg127
  z105 := Tryd.sizeOf127
  v105 := Tryd.zeroValue127
  t116 := Tryd.underlying111
  a116 := Tryd.isAgg111
  z116 := Tryd.sizeOf111
  t117 := Tryd.underlying112
  a117 := Tryd.isAgg112
  z117 := Tryd.sizeOf112
  v117 := Tryd.zeroValue112
  t119 := Tryd.underlying158
  a119 := Tryd.isAgg158
  z119 := Tryd.sizeOf158
  t124 := Tryd.underlying115
  a124 := Tryd.isAgg115
  z124 := Tryd.sizeOf115
  v124 := Tryd.zeroValue115
  t138 := Tryd.underlying160
  a138 := Tryd.isAgg160
  z138 := Tryd.sizeOf160
  v138 := Tryd.zeroValue160
  t139 := Tryd.underlying161
  a139 := Tryd.isAgg161
  z139 := Tryd.sizeOf161
  v139 := Tryd.zeroValue161
  g3 := by kernel_rfl
  g4 := by kernel_rfl }
def Tryd.lays137_ren : Go.Shelf.Ren := ⟨fun | 137 => 79 | 217 => 97 | 266 => 118 | n => n, fun | 9 => 9 | 5 => 5 | 3 => 3 | n => n, fun | n => n⟩
theorem Tryd.lays137 : Go.Proofs.Lays.n137 Tryd.prog Tryd.lays137_ren := {
  mixed := by kernel_rfl
  f137 := Tryd.func79.trans (congrArg some (by kernel_rfl))
  f217 := Tryd.func97.trans (congrArg some (by kernel_rfl))
  f266 := Tryd.func118.trans (congrArg some (by kernel_rfl))
  t3 := Tryd.underlying3
  a3 := Tryd.isAgg3
  z3 := Tryd.sizeOf3
  v3 := Tryd.zeroValue3
  t5 := Tryd.underlying5
  a5 := Tryd.isAgg5
  z5 := Tryd.sizeOf5
  v5 := Tryd.zeroValue5
  t9 := Tryd.underlying9
  a9 := Tryd.isAgg9
  z9 := Tryd.sizeOf9
  v9 := Tryd.zeroValue9 }
open Go.RowKit in
/-- strings.IndexByte: "IndexByte returns the index of the first instance of c in s, or -1 if c is not present in s.": IT RETURNS 'Lib.indexByte s c'; the world is as it was. (LAID: no walk: one application.) -/
theorem Tryd.strings_IndexByte (s : ByteArray) (c : Int) (w : World) :
    Calls Tryd.prog 79 #[.string s, .int .u8 c] w fun e w' => e = .returned (.int .i64 (Lib.indexByte s.data.toList c.toNat.toUInt8)) ∧ w' = w := Any.strings_IndexByte Tryd.lays137 s c w
def Tryd.lays172_ren : Go.Shelf.Ren := ⟨fun|172 => 60|244 => 82|245 => 83|247 => 102|279 => 103|280 => 104|281 => 105|282 => 106|287 => 124|316 => 125|171 => 30|205 => 126|321 => 130|322 => 131|243 => 58|246 => 81|283 => 98|284 => 99|285 => 100|286 => 101|129 => 120|317 => 119|318 => 121|319 => 122|320 => 123|337 => 128|338 => 129|n => n, fun|9 => 9|3 => 3|75 => 56|76 => 57|4 => 4|5 => 5|167 => 137|37 => 52|0 => 0|85 => 138|2 => 2|168 => 140|53 => 132|175 => 151|46 => 144|210 => 154|127 => 102|145 => 166|143 => 164|21 => 21|171 => 131|173 => 135|212 => 147|51 => 148|20 => 20|213 => 149|232 => 167|233 => 168|80 => 63|n => n, fun|15 => 2|16 => 3|17 => 1|18 => 6|19 => 7|n => n⟩
def Tryd.laysM246_ren : Go.Shelf.Ren := ⟨fun|246 => 81|283 => 98|284 => 99|285 => 100|286 => 101|129 => 120|317 => 119|318 => 121|319 => 122|320 => 123|337 => 128|338 => 129|n => n, fun|2 => 2|3 => 3|9 => 9|4 => 4|171 => 131|0 => 0|53 => 132|37 => 52|5 => 5|173 => 135|212 => 147|51 => 148|20 => 20|213 => 149|46 => 144|232 => 167|233 => 168|n => n, fun|17 => 1|18 => 6|19 => 7|n => n⟩
def Tryd.laysM243_ren : Go.Shelf.Ren := ⟨fun|243 => 58|246 => 81|283 => 98|284 => 99|285 => 100|286 => 101|129 => 120|317 => 119|318 => 121|319 => 122|320 => 123|337 => 128|338 => 129|n => n, fun|3 => 3|9 => 9|2 => 2|4 => 4|171 => 131|0 => 0|53 => 132|37 => 52|5 => 5|173 => 135|212 => 147|51 => 148|20 => 20|213 => 149|46 => 144|232 => 167|233 => 168|n => n, fun|17 => 1|18 => 6|19 => 7|n => n⟩
def Tryd.laysM171_ren : Go.Shelf.Ren := ⟨fun|171 => 30|243 => 58|246 => 81|283 => 98|284 => 99|285 => 100|286 => 101|129 => 120|317 => 119|318 => 121|319 => 122|320 => 123|337 => 128|338 => 129|n => n, fun|3 => 3|9 => 9|2 => 2|4 => 4|171 => 131|0 => 0|53 => 132|37 => 52|5 => 5|173 => 135|212 => 147|51 => 148|20 => 20|213 => 149|46 => 144|232 => 167|233 => 168|n => n, fun|17 => 1|18 => 6|19 => 7|n => n⟩
theorem Tryd.laysM171 : Go.Proofs.LaysM.n171 Tryd.prog Tryd.laysM171_ren := {
  mixed := by kernel_rfl
  f129 := Tryd.func120.trans (congrArg some (by kernel_rfl))
  f171 := Tryd.func30.trans (congrArg some (by kernel_rfl))
  f243 := Tryd.func58.trans (congrArg some (by kernel_rfl))
  f246 := Tryd.func81.trans (congrArg some (by kernel_rfl))
  f283 := Tryd.func98.trans (congrArg some (by kernel_rfl))
  f284 := Tryd.func99.trans (congrArg some (by kernel_rfl))
  f285 := Tryd.func100.trans (congrArg some (by kernel_rfl))
  f286 := Tryd.func101.trans (congrArg some (by kernel_rfl))
  f317 := Tryd.func119.trans (congrArg some (by kernel_rfl))
  f318 := Tryd.func121.trans (congrArg some (by kernel_rfl))
  f319 := Tryd.func122.trans (congrArg some (by kernel_rfl))
  f320 := Tryd.func123.trans (congrArg some (by kernel_rfl))
  f337 := Tryd.func128.trans (congrArg some (by kernel_rfl))
  f338 := Tryd.func129.trans (congrArg some (by kernel_rfl))
  t0 := Tryd.underlying0
  a0 := Tryd.isAgg0
  z0 := Tryd.sizeOf0
  v0 := Tryd.zeroValue0
  t2 := Tryd.underlying2
  a2 := Tryd.isAgg2
  z2 := Tryd.sizeOf2
  v2 := Tryd.zeroValue2
  t3 := Tryd.underlying3
  a3 := Tryd.isAgg3
  z3 := Tryd.sizeOf3
  v3 := Tryd.zeroValue3
  t4 := Tryd.underlying4
  a4 := Tryd.isAgg4
  z4 := Tryd.sizeOf4
  v4 := Tryd.zeroValue4
  t5 := Tryd.underlying5
  a5 := Tryd.isAgg5
  z5 := Tryd.sizeOf5
  v5 := Tryd.zeroValue5
  t9 := Tryd.underlying9
  a9 := Tryd.isAgg9
  z9 := Tryd.sizeOf9
  v9 := Tryd.zeroValue9
  t20 := Tryd.underlying20
  a20 := Tryd.isAgg20
  z20 := Tryd.sizeOf20
  v20 := Tryd.zeroValue20
  t37 := Tryd.underlying52
  a37 := Tryd.isAgg52
  z37 := Tryd.sizeOf52
  v37 := Tryd.zeroValue52
  t46 := Tryd.underlying144
  a46 := Tryd.isAgg144
  z46 := Tryd.sizeOf144
  v46 := Tryd.zeroValue144
  t51 := Tryd.underlying148
  a51 := Tryd.isAgg148
  z51 := Tryd.sizeOf148
  v51 := Tryd.zeroValue148
  t53 := Tryd.underlying132
  a53 := Tryd.isAgg132
  z53 := Tryd.sizeOf132
  v53 := Tryd.zeroValue132
  t171 := Tryd.underlying131
  a171 := Tryd.isAgg131
  z171 := Tryd.sizeOf131
  v171 := Tryd.zeroValue131
  t173 := Tryd.underlying135
  a173 := Tryd.isAgg135
  z173 := Tryd.sizeOf135
  v173 := Tryd.zeroValue135
  t212 := Tryd.underlying147
  a212 := Tryd.isAgg147
  z212 := Tryd.sizeOf147
  v212 := Tryd.zeroValue147
  t213 := Tryd.underlying149
  a213 := Tryd.isAgg149
  z213 := Tryd.sizeOf149
  t232 := Tryd.underlying167
  a232 := Tryd.isAgg167
  z232 := Tryd.sizeOf167
  v232 := Tryd.zeroValue167
  t233 := Tryd.underlying168
  a233 := Tryd.isAgg168
  z233 := Tryd.sizeOf168
  v233 := Tryd.zeroValue168
  g17 := by kernel_rfl
  g18 := by kernel_rfl
  g19 := by kernel_rfl
  i0 := by kernel_rfl
  i2 := by kernel_rfl
  i3 := by kernel_rfl
  i4 := by kernel_rfl
  i5 := by kernel_rfl
  i9 := by kernel_rfl
  i20 := by kernel_rfl
  i37 := by kernel_rfl
  i46 := by kernel_rfl
  i51 := by kernel_rfl
  i53 := by kernel_rfl
  i171 := by kernel_rfl
  i173 := by kernel_rfl
  i212 := by kernel_rfl
  i232 := by kernel_rfl
  i233 := by kernel_rfl
  m17 := by kernel_rfl
  m18 := by kernel_rfl
  m19 := by kernel_rfl }
open Go.RowKit Go.Sort Go.Lib in
/-- strconv.Itoa: "Itoa is equivalent to FormatInt(int64(i), 10).": i's DECIMAL NUMERAL ('Lib.itoa': a '-' where i is negative, then the digits), FOR EVERY int. The world behind the call: the world before it, new blocks behind the heap (the library's 'var a [24]byte'), draws. (LAID: no walk: one application.) -/
theorem Tryd.strconv_Itoa (n : Int) (h0 : -9223372036854775808 ≤ n) (h1 : n ≤ 9223372036854775807) (w : World) (htab : Lib.TabIs Tryd.prog w "internal/strconv.uint64pow10" .u64 Lib.pow10Tab) :
    Calls Tryd.prog 30 #[.int .i64 n] w fun e w' => e = .returned (.string ⟨(Lib.itoa n).toArray⟩) ∧ ∃ k os, w' = grow (w.drewN k) os := Any.strconv_Itoa Tryd.laysM171 n h0 h1 w htab
def Tryd.laysC172_ren : Go.Shelf.Ren := ⟨fun|172 => 60|244 => 82|245 => 83|247 => 102|279 => 103|280 => 104|281 => 105|282 => 106|287 => 124|316 => 125|171 => 30|205 => 126|321 => 130|322 => 131|243 => 58|246 => 81|283 => 98|284 => 99|285 => 100|286 => 101|129 => 120|317 => 119|318 => 121|319 => 122|320 => 123|337 => 128|338 => 129|n => n, fun|9 => 9|3 => 3|75 => 56|76 => 57|4 => 4|5 => 5|167 => 137|37 => 52|0 => 0|85 => 138|2 => 2|168 => 140|53 => 132|175 => 151|46 => 144|210 => 154|127 => 102|145 => 166|143 => 164|21 => 21|171 => 131|173 => 135|212 => 147|51 => 148|20 => 20|213 => 149|232 => 167|233 => 168|80 => 63|n => n, fun|15 => 2|16 => 3|17 => 1|18 => 6|19 => 7|n => n⟩
theorem Tryd.laysC172 : Go.Proofs.LaysC.n172 Tryd.prog Tryd.laysC172_ren := {
  mixed := by kernel_rfl
  f129 := Tryd.func120.trans (congrArg some (by kernel_rfl))
  f171 := Tryd.func30.trans (congrArg some (by kernel_rfl))
  f172 := Tryd.func60.trans (congrArg some (by kernel_rfl))
  f205 := Tryd.func126.trans (congrArg some (by kernel_rfl))
  f243 := Tryd.func58.trans (congrArg some (by kernel_rfl))
  f244 := Tryd.func82.trans (congrArg some (by kernel_rfl))
  f245 := Tryd.func83.trans (congrArg some (by kernel_rfl))
  f246 := Tryd.func81.trans (congrArg some (by kernel_rfl))
  f247 := Tryd.func102.trans (congrArg some (by kernel_rfl))
  f279 := Tryd.func103.trans (congrArg some (by kernel_rfl))
  f280 := Tryd.func104.trans (congrArg some (by kernel_rfl))
  f281 := Tryd.func105.trans (congrArg some (by kernel_rfl))
  f282 := Tryd.func106.trans (congrArg some (by kernel_rfl))
  f283 := Tryd.func98.trans (congrArg some (by kernel_rfl))
  f284 := Tryd.func99.trans (congrArg some (by kernel_rfl))
  f285 := Tryd.func100.trans (congrArg some (by kernel_rfl))
  f286 := Tryd.func101.trans (congrArg some (by kernel_rfl))
  f287 := Tryd.func124.trans (congrArg some (by kernel_rfl))
  f316 := Tryd.func125.trans (congrArg some (by kernel_rfl))
  f317 := Tryd.func119.trans (congrArg some (by kernel_rfl))
  f318 := Tryd.func121.trans (congrArg some (by kernel_rfl))
  f319 := Tryd.func122.trans (congrArg some (by kernel_rfl))
  f320 := Tryd.func123.trans (congrArg some (by kernel_rfl))
  f321 := Tryd.func130.trans (congrArg some (by kernel_rfl))
  f322 := Tryd.func131.trans (congrArg some (by kernel_rfl))
  f337 := Tryd.func128.trans (congrArg some (by kernel_rfl))
  f338 := Tryd.func129.trans (congrArg some (by kernel_rfl))
  t0 := Tryd.underlying0
  a0 := Tryd.isAgg0
  z0 := Tryd.sizeOf0
  v0 := Tryd.zeroValue0
  t2 := Tryd.underlying2
  a2 := Tryd.isAgg2
  z2 := Tryd.sizeOf2
  v2 := Tryd.zeroValue2
  t3 := Tryd.underlying3
  a3 := Tryd.isAgg3
  z3 := Tryd.sizeOf3
  v3 := Tryd.zeroValue3
  t4 := Tryd.underlying4
  a4 := Tryd.isAgg4
  z4 := Tryd.sizeOf4
  v4 := Tryd.zeroValue4
  t5 := Tryd.underlying5
  a5 := Tryd.isAgg5
  z5 := Tryd.sizeOf5
  v5 := Tryd.zeroValue5
  t9 := Tryd.underlying9
  a9 := Tryd.isAgg9
  z9 := Tryd.sizeOf9
  v9 := Tryd.zeroValue9
  t20 := Tryd.underlying20
  a20 := Tryd.isAgg20
  z20 := Tryd.sizeOf20
  v20 := Tryd.zeroValue20
  t21 := Tryd.underlying21
  a21 := Tryd.isAgg21
  z21 := Tryd.sizeOf21
  v21 := Tryd.zeroValue21
  t37 := Tryd.underlying52
  a37 := Tryd.isAgg52
  z37 := Tryd.sizeOf52
  v37 := Tryd.zeroValue52
  t46 := Tryd.underlying144
  a46 := Tryd.isAgg144
  z46 := Tryd.sizeOf144
  v46 := Tryd.zeroValue144
  t51 := Tryd.underlying148
  a51 := Tryd.isAgg148
  z51 := Tryd.sizeOf148
  v51 := Tryd.zeroValue148
  t53 := Tryd.underlying132
  a53 := Tryd.isAgg132
  z53 := Tryd.sizeOf132
  v53 := Tryd.zeroValue132
  t75 := Tryd.underlying56
  a75 := Tryd.isAgg56
  z75 := Tryd.sizeOf56
  v75 := Tryd.zeroValue56
  t76 := Tryd.underlying57
  a76 := Tryd.isAgg57
  z76 := Tryd.sizeOf57
  v76 := Tryd.zeroValue57
  t85 := Tryd.underlying138
  a85 := Tryd.isAgg138
  z85 := Tryd.sizeOf138
  v85 := Tryd.zeroValue138
  t127 := Tryd.underlying102
  a127 := Tryd.isAgg102
  z127 := Tryd.sizeOf102
  v127 := Tryd.zeroValue102
  t143 := Tryd.underlying164
  a143 := Tryd.isAgg164
  z143 := Tryd.sizeOf164
  v143 := Tryd.zeroValue164
  t145 := Tryd.underlying166
  a145 := Tryd.isAgg166
  z145 := Tryd.sizeOf166
  v145 := Tryd.zeroValue166
  t167 := Tryd.underlying137
  a167 := Tryd.isAgg137
  z167 := Tryd.sizeOf137
  v167 := Tryd.zeroValue137
  t168 := Tryd.underlying140
  a168 := Tryd.isAgg140
  z168 := Tryd.sizeOf140
  v168 := Tryd.zeroValue140
  t171 := Tryd.underlying131
  a171 := Tryd.isAgg131
  z171 := Tryd.sizeOf131
  v171 := Tryd.zeroValue131
  t173 := Tryd.underlying135
  a173 := Tryd.isAgg135
  z173 := Tryd.sizeOf135
  v173 := Tryd.zeroValue135
  t175 := Tryd.underlying151
  a175 := Tryd.isAgg151
  z175 := Tryd.sizeOf151
  v175 := Tryd.zeroValue151
  t210 := Tryd.underlying154
  a210 := Tryd.isAgg154
  z210 := Tryd.sizeOf154
  v210 := Tryd.zeroValue154
  t212 := Tryd.underlying147
  a212 := Tryd.isAgg147
  z212 := Tryd.sizeOf147
  v212 := Tryd.zeroValue147
  t213 := Tryd.underlying149
  a213 := Tryd.isAgg149
  z213 := Tryd.sizeOf149
  t232 := Tryd.underlying167
  a232 := Tryd.isAgg167
  z232 := Tryd.sizeOf167
  v232 := Tryd.zeroValue167
  t233 := Tryd.underlying168
  a233 := Tryd.isAgg168
  z233 := Tryd.sizeOf168
  v233 := Tryd.zeroValue168
  g15 := by kernel_rfl
  g16 := by kernel_rfl
  g17 := by kernel_rfl
  g18 := by kernel_rfl
  g19 := by kernel_rfl
  t80 := Tryd.underlying63
  a80 := Tryd.isAgg63
  z80 := Tryd.sizeOf63
  v80 := Tryd.zeroValue63
  i0 := by kernel_rfl
  i2 := by kernel_rfl
  i3 := by kernel_rfl
  i4 := by kernel_rfl
  i5 := by kernel_rfl
  i9 := by kernel_rfl
  i20 := by kernel_rfl
  i21 := by kernel_rfl
  i37 := by kernel_rfl
  i46 := by kernel_rfl
  i51 := by kernel_rfl
  i53 := by kernel_rfl
  i75 := by kernel_rfl
  i76 := by kernel_rfl
  i80 := by kernel_rfl
  i85 := by kernel_rfl
  i127 := by kernel_rfl
  i143 := by kernel_rfl
  i145 := by kernel_rfl
  i167 := by kernel_rfl
  i168 := by kernel_rfl
  i171 := by kernel_rfl
  i173 := by kernel_rfl
  i175 := by kernel_rfl
  i210 := by kernel_rfl
  i212 := by kernel_rfl
  i232 := by kernel_rfl
  i233 := by kernel_rfl
  m15 := by kernel_rfl
  m16 := by kernel_rfl
  m17 := by kernel_rfl
  m18 := by kernel_rfl
  m19 := by kernel_rfl
  c0 := by kernel_rfl
  c2 := by kernel_rfl
  c3 := by kernel_rfl
  c4 := by kernel_rfl
  c5 := by kernel_rfl
  c9 := by kernel_rfl
  c20 := by kernel_rfl
  c21 := by kernel_rfl
  c37 := by kernel_rfl
  c46 := by kernel_rfl
  c51 := by kernel_rfl
  c53 := by kernel_rfl
  c75 := by kernel_rfl
  c76 := by kernel_rfl
  c80 := by kernel_rfl
  c85 := by kernel_rfl
  c127 := by kernel_rfl
  c143 := by kernel_rfl
  c145 := by kernel_rfl
  c167 := by kernel_rfl
  c168 := by kernel_rfl
  c171 := by kernel_rfl
  c173 := by kernel_rfl
  c175 := by kernel_rfl
  c210 := by kernel_rfl
  c212 := by kernel_rfl
  c213 := by kernel_rfl
  c232 := by kernel_rfl
  c233 := by kernel_rfl }
open Go.RowKit in
/-- strconv.Atoi, AT EVERY STRING THAT SPELLS AN int ('Lib.atoiAll .. = .ok v'; of whatever length: leading zeros count): v, AND NO ERROR. The world: as it was, or with the one new row that '[]byte(..)' lays. (LAID: no walk: one application.) -/
theorem Tryd.strconv_Atoi_ok (s : ByteArray) (hmax : s.size ≤ 9223372036854775806) (v : Int) (h : Lib.atoiAll s.data.toList = .ok v) (w : World) :
    Calls Tryd.prog 60 #[.string s] w fun e w' => e = .returned (.tuple #[.int .i64 v, .nilIface]) ∧ (w' = w ∨ ∃ t, w' = Lib.bytesWorld w 5 t) := Any.strconv_Atoi_ok Tryd.laysC172 s hmax v h w
open Go.RowKit in
/-- strconv.Atoi, AT EVERY STRING THAT IS NO DECIMAL NUMERAL ('.syntax'): 0, AND AN ERROR THAT IS NOT nil: a *NumError in a new block N: {Func: "Atoi", Num: s's bytes, Err: what the variable ErrSyntax holds}. Of what was there nothing has turned. (LAID: no walk: one application.) -/
theorem Tryd.strconv_Atoi_syntax (s : ByteArray) (hlim : s.size ≤ 281474976710656) (h : Lib.atoiAll s.data.toList = Lib.NumEnd.syntax) (ev : Value) (w : World) (hv : w.cell? ⟨2, 0, none⟩ = some ev) (hev : ev = .nilIface ∨ ∃ te pe, ev = .iface te pe) :
    Calls Tryd.prog 60 #[.string s] w fun e w' => ∃ N, e = .returned (.tuple #[.int .i64 (0), .iface 140 (.pointer (some ⟨N, 0, none⟩))]) ∧ w.heap.size ≤ N ∧ w'.heap[N]? = some (.cells #[.string ⟨#[65, 116, 111, 105]⟩, .string s, ev] 154 (0, 0)) ∧ Below w.heap.size w w' := Any.strconv_Atoi_syntax Tryd.laysC172 s hlim h ev w hv hev
open Go.RowKit in
/-- strconv.Atoi, AT EVERY NUMERAL THAT NO int HOLDS ('.range'): THE GREATEST OR THE LEAST int, BY THE SIGN ('Lib.atoiSat'), AND AN ERROR THAT IS NOT nil: a *NumError in a new block N: {Func: "Atoi", Num: s's bytes, Err: what the variable ErrRange holds}. Of what was there nothing has turned. (LAID: no walk: one application.) -/
theorem Tryd.strconv_Atoi_range (s : ByteArray) (hlim : s.size ≤ 281474976710656) (h : Lib.atoiAll s.data.toList = .range) (ev : Value) (w : World) (hv : w.cell? ⟨3, 0, none⟩ = some ev) (hev : ev = .nilIface ∨ ∃ te pe, ev = .iface te pe) :
    Calls Tryd.prog 60 #[.string s] w fun e w' => ∃ N, e = .returned (.tuple #[.int .i64 (Lib.atoiSat s.data.toList), .iface 140 (.pointer (some ⟨N, 0, none⟩))]) ∧ w.heap.size ≤ N ∧ w'.heap[N]? = some (.cells #[.string ⟨#[65, 116, 111, 105]⟩, .string s, ev] 154 (0, 0)) ∧ Below w.heap.size w w' := Any.strconv_Atoi_range Tryd.laysC172 s hlim h ev w hv hev
def Tryd.lays219_ren : Go.Shelf.Ren := ⟨fun | 219 => 90 | 217 => 97 | 225 => 112 | 224 => 113 | 267 => 114 | 266 => 118 | 314 => 127 | n => n, fun | 9 => 9 | 3 => 3 | 4 => 4 | 5 => 5 | 46 => 144 | 146 => 156 | 51 => 148 | n => n, fun | 1 => 0 | n => n⟩
def Tryd.lays145_ren : Go.Shelf.Ren := ⟨fun | 145 => 48 | 220 => 68 | 219 => 90 | 217 => 97 | 225 => 112 | 224 => 113 | 267 => 114 | 266 => 118 | 314 => 127 | n => n, fun | 9 => 9 | 4 => 4 | 59 => 92 | 3 => 3 | 5 => 5 | 46 => 144 | 146 => 156 | 51 => 148 | n => n, fun | 1 => 0 | n => n⟩
theorem Tryd.lays145 : Go.Proofs.Lays.n145 Tryd.prog Tryd.lays145_ren := {
  mixed := by kernel_rfl
  f145 := Tryd.func48.trans (congrArg some (by kernel_rfl))
  f217 := Tryd.func97.trans (congrArg some (by kernel_rfl))
  f219 := Tryd.func90.trans (congrArg some (by kernel_rfl))
  f220 := Tryd.func68.trans (congrArg some (by kernel_rfl))
  f224 := Tryd.func113.trans (congrArg some (by kernel_rfl))
  f225 := Tryd.func112.trans (congrArg some (by kernel_rfl))
  f266 := Tryd.func118.trans (congrArg some (by kernel_rfl))
  f267 := Tryd.func114.trans (congrArg some (by kernel_rfl))
  f314 := Tryd.func127.trans (congrArg some (by kernel_rfl))
  t3 := Tryd.underlying3
  a3 := Tryd.isAgg3
  z3 := Tryd.sizeOf3
  v3 := Tryd.zeroValue3
  t4 := Tryd.underlying4
  a4 := Tryd.isAgg4
  z4 := Tryd.sizeOf4
  v4 := Tryd.zeroValue4
  t5 := Tryd.underlying5
  a5 := Tryd.isAgg5
  z5 := Tryd.sizeOf5
  v5 := Tryd.zeroValue5
  t9 := Tryd.underlying9
  a9 := Tryd.isAgg9
  z9 := Tryd.sizeOf9
  v9 := Tryd.zeroValue9
  t46 := Tryd.underlying144
  a46 := Tryd.isAgg144
  z46 := Tryd.sizeOf144
  v46 := Tryd.zeroValue144
  t51 := Tryd.underlying148
  a51 := Tryd.isAgg148
  z51 := Tryd.sizeOf148
  v51 := Tryd.zeroValue148
  t59 := Tryd.underlying92
  a59 := Tryd.isAgg92
  z59 := Tryd.sizeOf92
  v59 := Tryd.zeroValue92
  t146 := Tryd.underlying156
  a146 := Tryd.isAgg156
  z146 := Tryd.sizeOf156
  v146 := Tryd.zeroValue156
  g1 := by kernel_rfl }
open Go.RowKit Go.Lib in
/-- strings.Cut: "Cut slices s around the first instance of sep, returning the text before and after sep. The found result reports whether sep appears in s. If sep does not appear in s, cut returns s, "", false.": IT RETURNS 'Lib.cut s sep'; the world is as it was but for the count of draws. (LAID: no walk: one application.) -/
theorem Tryd.strings_Cut (s sep : ByteArray) (m : Int) (w : World) (hs : s.size < 4294967281) (hm : w.cell? ⟨0, 0, none⟩ = some (.int .i64 m)) :
    Calls Tryd.prog 48 #[.string s, .string sep] w fun e w' => e = .returned (.tuple #[.string ⟨(Lib.cut s.data.toList sep.data.toList).1.toArray⟩, .string ⟨(Lib.cut s.data.toList sep.data.toList).2.1.toArray⟩, .bool (Lib.cut s.data.toList sep.data.toList).2.2]) ∧ ∃ n, w' = w.drewN n := Any.strings_Cut Tryd.lays145 s sep m w hs hm
def Tryd.lays221_ren : Go.Shelf.Ren := ⟨fun|221 => 67|268 => 87|138 => 88|143 => 89|195 => 110|197 => 92|218 => 111|219 => 90|260 => 115|217 => 97|225 => 112|224 => 113|267 => 114|266 => 118|314 => 127|n => n, fun|9 => 9|3 => 3|31 => 89|4 => 4|0 => 0|105 => 127|21 => 21|5 => 5|46 => 144|119 => 158|139 => 161|138 => 160|146 => 156|51 => 148|n => n, fun|1 => 0|3 => 4|4 => 5|n => n⟩
def Tryd.lays146_ren : Go.Shelf.Ren := ⟨fun|146 => 47|221 => 67|268 => 87|138 => 88|143 => 89|195 => 110|197 => 92|218 => 111|219 => 90|260 => 115|217 => 97|225 => 112|224 => 113|267 => 114|266 => 118|314 => 127|n => n, fun|9 => 9|31 => 89|3 => 3|4 => 4|0 => 0|105 => 127|21 => 21|5 => 5|46 => 144|119 => 158|139 => 161|138 => 160|146 => 156|51 => 148|n => n, fun|1 => 0|3 => 4|4 => 5|n => n⟩
theorem Tryd.lays146 : Go.Proofs.Lays.n146 Tryd.prog Tryd.lays146_ren := {
  mixed := by kernel_rfl
  f138 := Tryd.func88.trans (congrArg some (by kernel_rfl))
  f143 := Tryd.func89.trans (congrArg some (by kernel_rfl))
  f146 := Tryd.func47.trans (congrArg some (by kernel_rfl))
  f195 := Tryd.func110.trans (congrArg some (by kernel_rfl))
  f197 := Tryd.func92.trans (congrArg some (by kernel_rfl))
  f217 := Tryd.func97.trans (congrArg some (by kernel_rfl))
  f218 := Tryd.func111.trans (congrArg some (by kernel_rfl))
  f219 := Tryd.func90.trans (congrArg some (by kernel_rfl))
  f221 := Tryd.func67.trans (congrArg some (by kernel_rfl))
  f224 := Tryd.func113.trans (congrArg some (by kernel_rfl))
  f225 := Tryd.func112.trans (congrArg some (by kernel_rfl))
  f260 := Tryd.func115.trans (congrArg some (by kernel_rfl))
  f266 := Tryd.func118.trans (congrArg some (by kernel_rfl))
  f267 := Tryd.func114.trans (congrArg some (by kernel_rfl))
  f268 := Tryd.func87.trans (congrArg some (by kernel_rfl))
  f314 := Tryd.func127.trans (congrArg some (by kernel_rfl))
  t0 := Tryd.underlying0
  a0 := Tryd.isAgg0
  z0 := Tryd.sizeOf0
  v0 := Tryd.zeroValue0
  t3 := Tryd.underlying3
  a3 := Tryd.isAgg3
  z3 := Tryd.sizeOf3
  v3 := Tryd.zeroValue3
  t4 := Tryd.underlying4
  a4 := Tryd.isAgg4
  z4 := Tryd.sizeOf4
  v4 := Tryd.zeroValue4
  t5 := Tryd.underlying5
  a5 := Tryd.isAgg5
  z5 := Tryd.sizeOf5
  v5 := Tryd.zeroValue5
  t9 := Tryd.underlying9
  a9 := Tryd.isAgg9
  z9 := Tryd.sizeOf9
  v9 := Tryd.zeroValue9
  t21 := Tryd.underlying21
  a21 := Tryd.isAgg21
  z21 := Tryd.sizeOf21
  v21 := Tryd.zeroValue21
  t31 := Tryd.underlying89
  a31 := Tryd.isAgg89
  z31 := Tryd.sizeOf89
  v31 := Tryd.zeroValue89
  t46 := Tryd.underlying144
  a46 := Tryd.isAgg144
  z46 := Tryd.sizeOf144
  v46 := Tryd.zeroValue144
  t51 := Tryd.underlying148
  a51 := Tryd.isAgg148
  z51 := Tryd.sizeOf148
  v51 := Tryd.zeroValue148
  t105 := Tryd.underlying127
  a105 := Tryd.isAgg127
  z105 := Tryd.sizeOf127
  v105 := Tryd.zeroValue127
  t119 := Tryd.underlying158
  a119 := Tryd.isAgg158
  z119 := Tryd.sizeOf158
  t138 := Tryd.underlying160
  a138 := Tryd.isAgg160
  z138 := Tryd.sizeOf160
  v138 := Tryd.zeroValue160
  t139 := Tryd.underlying161
  a139 := Tryd.isAgg161
  z139 := Tryd.sizeOf161
  v139 := Tryd.zeroValue161
  t146 := Tryd.underlying156
  a146 := Tryd.isAgg156
  z146 := Tryd.sizeOf156
  v146 := Tryd.zeroValue156
  g1 := by kernel_rfl
  g3 := by kernel_rfl
  g4 := by kernel_rfl }
open Go.RowKit Go.Lib in
/-- strings.Split. (LAID: no walk: one application.) -/
theorem Tryd.strings_Split (s sep : ByteArray) (m : Int) (w : World) (hs : s.size < 4294967281) (hm : w.cell? ⟨0, 0, none⟩ = some (.int .i64 m)) (h1 : 1 ≤ sep.size) :
    Calls Tryd.prog 47 #[.string s, .string sep] w fun e w' =>
      e = .returned (.slice (some ⟨w.heap.size, 0, none⟩) (Lib.countB s sep + 1) (Lib.countB s sep + 1)) ∧ w' = w.alloc (.cells ((Lib.splitB sep 0 (Lib.countB s sep) s).map Value.string).toArray 9) := Any.strings_Split Tryd.lays146 (by kernel_rfl) s sep m w hs hm h1
def Tryd.lays152_ren : Go.Shelf.Ren := ⟨fun | 152 => 95 | 137 => 79 | 119 => 117 | 224 => 113 | 225 => 112 | 217 => 97 | 266 => 118 | n => n, fun | 9 => 9 | 21 => 21 | 3 => 3 | 4 => 4 | 5 => 5 | 0 => 0 | 46 => 144 | n => n, fun | n => n⟩
theorem Tryd.lays152 : Go.Proofs.Lays.n152 Tryd.prog Tryd.lays152_ren := {
  mixed := by kernel_rfl
  f119 := Tryd.func117.trans (congrArg some (by kernel_rfl))
  f137 := Tryd.func79.trans (congrArg some (by kernel_rfl))
  f152 := Tryd.func95.trans (congrArg some (by kernel_rfl))
  f217 := Tryd.func97.trans (congrArg some (by kernel_rfl))
  f224 := Tryd.func113.trans (congrArg some (by kernel_rfl))
  f225 := Tryd.func112.trans (congrArg some (by kernel_rfl))
  f266 := Tryd.func118.trans (congrArg some (by kernel_rfl))
  t0 := Tryd.underlying0
  a0 := Tryd.isAgg0
  z0 := Tryd.sizeOf0
  v0 := Tryd.zeroValue0
  t3 := Tryd.underlying3
  a3 := Tryd.isAgg3
  z3 := Tryd.sizeOf3
  v3 := Tryd.zeroValue3
  t4 := Tryd.underlying4
  a4 := Tryd.isAgg4
  z4 := Tryd.sizeOf4
  v4 := Tryd.zeroValue4
  t5 := Tryd.underlying5
  a5 := Tryd.isAgg5
  z5 := Tryd.sizeOf5
  v5 := Tryd.zeroValue5
  t9 := Tryd.underlying9
  a9 := Tryd.isAgg9
  z9 := Tryd.sizeOf9
  v9 := Tryd.zeroValue9
  t21 := Tryd.underlying21
  a21 := Tryd.isAgg21
  z21 := Tryd.sizeOf21
  v21 := Tryd.zeroValue21
  t46 := Tryd.underlying144
  a46 := Tryd.isAgg144
  z46 := Tryd.sizeOf144
  v46 := Tryd.zeroValue144 }
open Go.RowKit Go.Lib in
theorem Tryd.strings_IndexRune_ascii (s : ByteArray) (r : Int) (w : World) (h0 : 0 ≤ r) (h1 : r < 128) :
    Calls Tryd.prog 95 #[.string s, .int .i32 r] w fun e w' => e = .returned (.int .i64 (Lib.indexByte s.data.toList r.toNat.toUInt8)) ∧ w' = w := Any.strings_IndexRune_ascii Tryd.lays152 s r w h0 h1
def Tryd.lays153_ren : Go.Shelf.Ren := ⟨fun | 153 => 76 | 152 => 95 | 226 => 96 | 227 => 70 | 228 => 91 | 137 => 79 | 119 => 117 | 224 => 113 | 225 => 112 | 217 => 97 | 266 => 118 | n => n, fun | 9 => 9 | 3 => 3 | 4 => 4 | 5 => 5 | 21 => 21 | 117 => 112 | 116 => 111 | 0 => 0 | 46 => 144 | 124 => 115 | n => n, fun | n => n⟩
theorem Tryd.lays153 : Go.Proofs.Lays.n153 Tryd.prog Tryd.lays153_ren := {
  mixed := by kernel_rfl
  f119 := Tryd.func117.trans (congrArg some (by kernel_rfl))
  f137 := Tryd.func79.trans (congrArg some (by kernel_rfl))
  f152 := Tryd.func95.trans (congrArg some (by kernel_rfl))
  f153 := Tryd.func76.trans (congrArg some (by kernel_rfl))
  f217 := Tryd.func97.trans (congrArg some (by kernel_rfl))
  f224 := Tryd.func113.trans (congrArg some (by kernel_rfl))
  f225 := Tryd.func112.trans (congrArg some (by kernel_rfl))
  f226 := Tryd.func96.trans (congrArg some (by kernel_rfl))
  f227 := Tryd.func70.trans (congrArg some (by kernel_rfl))
  f228 := Tryd.func91.trans (congrArg some (by kernel_rfl))
  f266 := Tryd.func118.trans (congrArg some (by kernel_rfl))
  t0 := Tryd.underlying0
  a0 := Tryd.isAgg0
  z0 := Tryd.sizeOf0
  v0 := Tryd.zeroValue0
  t3 := Tryd.underlying3
  a3 := Tryd.isAgg3
  z3 := Tryd.sizeOf3
  v3 := Tryd.zeroValue3
  t4 := Tryd.underlying4
  a4 := Tryd.isAgg4
  z4 := Tryd.sizeOf4
  v4 := Tryd.zeroValue4
  t5 := Tryd.underlying5
  a5 := Tryd.isAgg5
  z5 := Tryd.sizeOf5
  v5 := Tryd.zeroValue5
  t9 := Tryd.underlying9
  a9 := Tryd.isAgg9
  z9 := Tryd.sizeOf9
  v9 := Tryd.zeroValue9
  t21 := Tryd.underlying21
  a21 := Tryd.isAgg21
  z21 := Tryd.sizeOf21
  v21 := Tryd.zeroValue21
  t46 := Tryd.underlying144
  a46 := Tryd.isAgg144
  z46 := Tryd.sizeOf144
  v46 := Tryd.zeroValue144
  t116 := Tryd.underlying111
  a116 := Tryd.isAgg111
  z116 := Tryd.sizeOf111
  t117 := Tryd.underlying112
  a117 := Tryd.isAgg112
  z117 := Tryd.sizeOf112
  v117 := Tryd.zeroValue112
  t124 := Tryd.underlying115
  a124 := Tryd.isAgg115
  z124 := Tryd.sizeOf115
  v124 := Tryd.zeroValue115 }
open Go.RowKit Go.Lib in
theorem Tryd.strings_IndexAny_long (hv116 : ∀ w, (zeroValue 111).run Tryd.prog w = .ok (.agg (Array.replicate 256 (.bool false))) w) (s chars : ByteArray) (w : World) (h2 : 2 ≤ chars.size) (h8 : 8 < s.size) (hs : s.size < 4294967281) (hcs : chars.size < 4294967281) (hascii : ∀ (j : Nat) b, chars.data.toList[j]? = some b → b.toNat < 128) :
    Calls Tryd.prog 76 #[.string s, .string chars] w fun e w' => e = .returned (.int .i64 (Lib.indexAny s.data.toList chars.data.toList)) ∧ w' = ((w.alloc (.cells (Lib.setCells chars.data.toList) 111)).alloc (.cells (Lib.setCells chars.data.toList) 111)) := Any.strings_IndexAny_long Tryd.lays153 hv116 (by kernel_rfl) s chars w h2 h8 hs hcs hascii
end Go.Proofs

namespace Go.Proofs.YtnjolbnbpfjdiaaDoor.L
open Go Go.RowKit Go.Proofs
set_option linter.unusedVariables false
set_option linter.unusedSimpArgs false
set_option maxRecDepth 100000
attribute [local irreducible] AL QL AWp Thn InB RetQ ACalls LoopQ HL HO HW HQ NoG

noncomputable abbrev EE (w0 : World) (base : Nat) : Env := ⟨Tryd.prog, w0, base, 0⟩
/-- The one variable of the library's that is read: any number. -/
def Glob (w0 : World) (base : Nat) : Prop := 0 < base ∧ ∃ m, w0.cell? ⟨0, 0, none⟩ = some (.int .i64 m)

section
variable {w0 : World} {base : Nat}
theorem glob_at {I : Imm} {ν : Nu} {H : List AO} {w : World} (hG : Glob w0 base) (hh : HR (EE w0 base) I ν H w) : ∃ m, w.cell? ⟨0, 0, none⟩ = some (.int .i64 m) := by
  obtain ⟨h0, m, hm⟩ := hG
  exact ⟨m, (hh.below.cell h0).trans hm⟩
theorem below_drawn {w : World} : ∀ n, Below w.heap.size w (w.drewN n) := fun n => ⟨rfl, rfl, rfl, Nat.le_refl _, fun _ _ => rfl⟩

theorem s_cut {s p : List UInt8} (hG : Glob w0 base) (hs : s.length < 4294967281) : PCalls (EE w0 base) 48 [.str s, .str p] fun rv => rv = .tup [.str (Lib.cut s p).1, .str (Lib.cut s p).2.1, .bool (Lib.cut s p).2.2] := by
  refine pcalls_plain rfl fun I ν w vs hh hl hv => ?_
  match vs, hl with
  | [v1, v2], _ =>
  have e1 := (hv 0 _ v1 rfl rfl).str_inv
  have e2 := (hv 1 _ v2 rfl rfl).str_inv
  subst e1; subst e2
  obtain ⟨m, hm⟩ := glob_at hG hh
  refine ⟨_, fun w I => .tup _ [_, _, _] rfl (fun j x v h1 h2 => ?_), (Tryd.strings_Cut ⟨s.toArray⟩ ⟨p.toArray⟩ m w hs hm).mono fun e w' ⟨he, n, hw⟩ => ⟨he, by subst hw; exact below_drawn n⟩⟩
  match j, h1, h2 with
  | 0, h1, h2 => simp at h1 h2; subst h1; subst h2; exact .pure (.str _)
  | 1, h1, h2 => simp at h1 h2; subst h1; subst h2; exact .pure (.str _)
  | 2, h1, h2 => simp at h1 h2; subst h1; subst h2; exact .pure (.bool _)
  | j + 3, h1, h2 => simp at h1
theorem s_indexByte {s : List UInt8} {c : UInt8} : PCalls (EE w0 base) 79 [.str s, .int .u8 (c.toNat : Int)] fun rv => rv = .int .i64 (Lib.indexByte s c) := by
  refine pcalls_plain rfl fun I ν w vs hh hl hv => ?_
  match vs, hl with
  | [v1, v2], _ =>
  have e1 := (hv 0 _ v1 rfl rfl).str_inv
  have e2 := (hv 1 _ v2 rfl rfl).int_inv
  subst e1; subst e2
  have hc : ((c.toNat : Int).toNat).toUInt8 = c := by simp
  have := Tryd.strings_IndexByte ⟨s.toArray⟩ (c.toNat : Int) w
  rw [hc] at this
  exact ⟨_, fun w I => .pure (.int _ _), this.mono fun e w' ⟨he, hw⟩ => ⟨he, by subst hw; exact Below.refl _ _⟩⟩
theorem s_trim {s : List UInt8} (hs : s.length ≤ 9223372036854775807) : PCalls (EE w0 base) 50 [.str s, .str [32, 9]] fun rv => rv = .str (Lib.trimS s [32, 9]) := by
  refine pcalls_plain rfl fun I ν w vs hh hl hv => ?_
  match vs, hl with
  | [v1, v2], _ =>
  have e1 := (hv 0 _ v1 rfl rfl).str_inv
  have e2 := (hv 1 _ v2 rfl rfl).str_inv
  subst e1; subst e2
  exact ⟨_, fun w I => .pure (.str _), Any.strings_Trim_laid Tryd.lays160 (by kernel_rfl) ⟨s.toArray⟩ ⟨#[32, 9]⟩ w hs (by decide) (fun j b h => by
    match j, h with
    | 0, h => simp at h; subst h; decide
    | 1, h => simp at h; subst h; decide
    | j + 2, h => simp at h)⟩
/-! ### strings.Builder -/
theorem noEscape (x : Value) (w : World) : (callFunc 80 #[x]).run Tryd.prog w = .ok (.value x) w := by
  rw [run_callFunc_extern Tryd.func80 (by kernel_rfl) (by kernel_rfl) (by kernel_rfl) (e := Extern.AbiNoEscape.same) (by kernel_rfl)]
  rfl
theorem a_copyCheck {p x : AV} (hp : p = .nilp ∨ p = .op 0 0) {rest : List AO} : ACalls (EE w0 base) 57 [.op 0 0] (.box [p, x] (some 54) :: rest) fun rv os => rv = .tup [] ∧ os = .box [.op 0 0, x] (some 54) :: rest := by
  refine acalls_of Tryd.func57 rfl rfl rfl (.cons .nil) ?_
  rcases hp with rfl | rfl
  · repeat' (first|(first|(refine al_v (ov_nilCheck (n := 0) rfl rfl) rfl ?_)|(refine al_v (ov_peq_nn rfl rfl) rfl ?_)|(refine al_v (ov_conv_to rfl rfl (by decide) (by simp)) rfl ?_)|(refine k_call ?_;refine al_v (ov_same noEscape rfl) rfl ?_)|(refine al_v (ov_conv_from rfl rfl (by kernel_rfl)) rfl ?_))|(refine k_al ?_;first|(refine al_v (ov_move rfl) rfl ?_)|(refine al_v (ov_fieldAddr rfl rfl) rfl ?_)|(refine k_load ?_;first|(refine al_v (ov_load rfl rfl) rfl ?_))|(refine al_nil ?_)|(refine al_store rfl rfl rfl rfl rfl (by repeat constructor) (by repeat constructor) ?_))|(first|(refine thn_n ?_)|(refine k_awp ?_;first|(refine awp_seq (awp_region ?_))|(refine awp_seq ?_)|(refine awp_region ?_)|(refine k_cond ?_;first|(refine awp_cond_t' rfl (by with_reducible rfl) ?_)|(refine awp_cond_f' rfl (by with_reducible rfl) ?_))|(refine awp_skip ?_))))
    refine ret0 (by first | exact .inr rfl | exact .inl rfl) rfl ⟨rfl, rfl⟩
  · repeat' (first|(first|(refine al_v (ov_nilCheck (n := 0) rfl rfl) rfl ?_)|(refine al_v (ov_peq_pn rfl rfl rfl) rfl ?_)|(refine al_v (ov_pne_same rfl rfl) rfl ?_))|(refine k_al ?_;first|(refine al_v (ov_move rfl) rfl ?_)|(refine al_v (ov_fieldAddr rfl rfl) rfl ?_)|(refine k_load ?_;first|(refine al_v (ov_load rfl rfl) rfl ?_))|(refine al_nil ?_)|(refine al_store rfl rfl rfl rfl rfl (by repeat constructor) (by repeat constructor) ?_))|(first|(refine thn_n ?_)|(refine k_awp ?_;first|(refine awp_seq (awp_region ?_))|(refine awp_seq ?_)|(refine awp_region ?_)|(refine k_cond ?_;first|(refine awp_cond_t' rfl (by with_reducible rfl) ?_)|(refine awp_cond_f' rfl (by with_reducible rfl) ?_))|(refine awp_skip ?_))))
    refine ret0 (by first | exact .inr rfl | exact .inl rfl) rfl ⟨rfl, rfl⟩

/-- A builder's bytes. -/
def BldB (l : List UInt8) (ver : Nat) (o : AO) : Prop := o = .row 5 1 ver 0 (bytesAV l) ∨ ∃ wr, o = .arr 5 1 ver (bytesAV l) wr
abbrev bldBox (p : AV) (ver : Nat) : AO := .box [p, .os 1 ver] (some 54)
theorem a_writeString {p : AV} (hp : p = .nilp ∨ p = .op 0 0) {bs s : List UInt8} {ver : Nat} (hb : bs.length + s.length ≤ 140737488355328) : ACalls (EE w0 base) 29 [.op 0 0, .str s] [bldBox p ver, .row 5 1 ver 0 (bytesAV bs)]
    fun rv os => rv = .tup [.int .i64 (s.length : Int), .nilif] ∧ os = [bldBox (.op 0 0) (ver + 1), .row 5 1 (ver + 1) 0 (bytesAV (bs ++ s))] := by
  refine acalls_of Tryd.func29 rfl rfl rfl (.cons (.cons .nil)) ?_
  have hbl : (bytesAV bs).length = bs.length := List.length_map _
  have hsl : (bytesAV s).length = s.length := List.length_map _
  have hq := hp
  rcases hp with rfl | rfl
  all_goals
    repeat' (first|(first|(refine k_call ?_;refine al_acall [0, 1] rfl rfl (a_copyCheck (x := .os 1 ver) (rest := [.row 5 1 ver 0 (bytesAV bs)]) hq) (by repeat constructor) (by repeat constructor) rfl rfl ?_;rintro _ _ ⟨rfl, rfl⟩;refine ⟨_, _, by repeat constructor, by repeat constructor, ?_⟩)|(refine al_v (ov_nilCheck (n := 0) rfl rfl) rfl ?_)|(refine k_call ?_;refine al_append rfl rfl (by repeat constructor) src_str rfl (by decide) (by simp;omega) rfl ?_))|(refine k_al ?_;first|(refine al_v (ov_move rfl) rfl ?_)|(refine al_v (ov_fieldAddr rfl rfl) rfl ?_)|(refine k_load ?_;first|(refine al_v (ov_load rfl rfl) rfl ?_))|(refine al_v (ov_assign rfl) rfl ?_)|(refine k_call ?_;first|(refine al_v (ov_len_str rfl) rfl ?_))|(refine al_nil ?_)|(refine al_store rfl rfl rfl rfl rfl (by repeat constructor) (by repeat constructor) ?_))|(first|(refine thn_n ?_)|(refine k_awp ?_;first|(refine awp_seq (awp_region ?_))|(refine awp_seq ?_)|(refine awp_region ?_)|(refine awp_ret ?_))))
    refine ret2 (by first | exact .inr rfl | exact .inl rfl) rfl rfl rfl ?_
    exact ⟨rfl, by simp only [bytesAV, List.map_append]; rfl⟩
set_option maxHeartbeats 2000000 in
theorem a_string {p : AV} {l : List UInt8} {ver : Nat} {o : AO} (hp : p = .nilp ∨ p = .op 0 0) (ho : BldB l ver o) (hlen : l.length ≤ 9223372036854775807) : ACalls (EE w0 base) 32 [.op 0 0] [bldBox p ver, o] fun rv os => rv = .str l ∧ ∃ o', os = [bldBox p ver, o'] ∧ BldB l ver o' := by
  refine acalls_of Tryd.func32 rfl rfl rfl (.cons .nil) ?_
  have hbl : (bytesAV l).length = l.length := List.length_map _
  by_cases hne : l = []
  · subst hne
    rcases ho with rfl | ⟨wr, rfl⟩
    · repeat' (first|(first|(refine awp_held (id := 1) [] [⟨0, true, [], bl 12 992⟩, ⟨1, true, [], bl 12 993⟩, ⟨2, true, [], bl 12 995⟩, ⟨3, true, [], bl 12 999⟩, ⟨5, true, [], bl 12 31⟩, ⟨6, true, [], bl 12 63⟩, ⟨7, true, [], bl 12 127⟩, ⟨8, true, [], bl 12 255⟩, ⟨9, true, [], bl 12 511⟩, ⟨4, false, [], []⟩, ⟨10, false, [], []⟩, ⟨11, true, [], bl 12 2047⟩] (by kernel_rfl) (by kernel_rfl) rfl (by kernel_rfl) ?_)|(refine hw_v (ov_nilCheck (n := 0) rfl rfl) rfl ?_)|(refine hw_usd0 rfl rfl (.row _ _) (by repeat constructor) rfl rfl (fun pv hpv => ?_))|(refine al_v (ov_ustr0 rfl hpv rfl) rfl ?_))|(refine k_al ?_;first|(refine al_v (ov_move rfl) rfl ?_)|(refine al_v (ov_fieldAddr rfl rfl) rfl ?_)|(refine al_v (ov_assign rfl) rfl ?_)|(refine al_nil ?_))|(first|(refine thn_n ?_)|(refine k_awp ?_;first|(refine awp_seq (awp_region ?_))|(refine awp_seq ?_)|(refine awp_region ?_)|(refine awp_ret ?_)))|(first|(refine k_hw ?_;first|(refine hw_s rfl ?_)|(refine hw_v (ov_move rfl) rfl ?_)|(refine hw_v (ov_assign rfl) rfl ?_)|(refine hw_v (ov_fieldAddr rfl rfl) rfl ?_)|(refine hw_v (ov_load rfl rfl) rfl ?_)|(refine hw_v (ov_len_os rfl rfl rfl) rfl ?_))|(refine hl_op rfl ?_)|(refine k_ho ?_;first|(refine ho_n ?_))|(refine hl_nil ?_)|(refine hq_back ?_)))
      refine retq_wkn (.of (Wk'.drop (H := [_, _]) (sl' := [(2, _)]) (ex := [_]) (.cons rfl .nil) rfl (.cons (by rcases hp with rfl | rfl <;> rfl) (.cons trivial .nil)) rfl)) ?_
      refine ret1 (by first | exact .inr rfl | exact .inl rfl) rfl rfl ?_
      exact ⟨rfl, _, rfl, .inl rfl⟩
    · repeat' (first|(first|(refine awp_held (id := 1) [] [⟨0, true, [], bl 12 992⟩, ⟨1, true, [], bl 12 993⟩, ⟨2, true, [], bl 12 995⟩, ⟨3, true, [], bl 12 999⟩, ⟨5, true, [], bl 12 31⟩, ⟨6, true, [], bl 12 63⟩, ⟨7, true, [], bl 12 127⟩, ⟨8, true, [], bl 12 255⟩, ⟨9, true, [], bl 12 511⟩, ⟨4, false, [], []⟩, ⟨10, false, [], []⟩, ⟨11, true, [], bl 12 2047⟩] (by kernel_rfl) (by kernel_rfl) rfl (by kernel_rfl) ?_)|(refine hw_v (ov_nilCheck (n := 0) rfl rfl) rfl ?_)|(refine hw_v (ov_len_arr rfl rfl rfl) rfl ?_)|(refine hw_usd0 rfl rfl (.arr _ _) (by repeat constructor) rfl rfl (fun pv hpv => ?_))|(refine al_v (ov_ustr0 rfl hpv rfl) rfl ?_))|(refine k_al ?_;first|(refine al_v (ov_move rfl) rfl ?_)|(refine al_v (ov_fieldAddr rfl rfl) rfl ?_)|(refine al_v (ov_assign rfl) rfl ?_)|(refine al_nil ?_))|(first|(refine thn_n ?_)|(refine k_awp ?_;first|(refine awp_seq (awp_region ?_))|(refine awp_seq ?_)|(refine awp_region ?_)|(refine awp_ret ?_)))|(first|(refine k_hw ?_;first|(refine hw_s rfl ?_)|(refine hw_v (ov_move rfl) rfl ?_)|(refine hw_v (ov_assign rfl) rfl ?_)|(refine hw_v (ov_fieldAddr rfl rfl) rfl ?_)|(refine hw_v (ov_load rfl rfl) rfl ?_)|(refine hw_v (ov_len_os rfl rfl rfl) rfl ?_))|(refine hl_op rfl ?_)|(refine k_ho ?_;first|(refine ho_n ?_))|(refine hl_nil ?_)|(refine hq_back ?_)))
      refine retq_wkn (.of (Wk'.drop (H := [_, _]) (sl' := [(2, _)]) (ex := [_]) (.cons rfl .nil) rfl (.cons (by rcases hp with rfl | rfl <;> rfl) (.cons trivial .nil)) rfl)) ?_
      refine ret1 (by first | exact .inr rfl | exact .inl rfl) rfl rfl ?_
      exact ⟨rfl, _, rfl, .inr ⟨_, rfl⟩⟩
  · rcases ho with rfl | ⟨wr, rfl⟩
    · repeat' (first|(first|(refine awp_held (id := 1) [(10, [1])] [⟨0, true, [], bl 12 992⟩, ⟨1, true, [], bl 12 993⟩, ⟨2, true, [], bl 12 995⟩, ⟨3, true, [], bl 12 999⟩, ⟨4, true, [], bl 12 1007⟩, ⟨5, true, [], bl 12 31⟩, ⟨6, true, [], bl 12 63⟩, ⟨7, true, [], bl 12 127⟩, ⟨8, true, [], bl 12 255⟩, ⟨9, true, [], bl 12 511⟩, ⟨10, false, [], []⟩, ⟨11, true, [], bl 12 2047⟩] (by kernel_rfl) (by kernel_rfl) rfl (by kernel_rfl) ?_)|(refine hw_v (ov_nilCheck (n := 0) rfl rfl) rfl ?_)|(refine hw_v (ov_usd rfl rfl (.row _ _) hne) rfl ?_)|(refine al_wkn (.spell 12 (.int .i64 (l.length : Int)) rfl (by rw [hbl])) ?_;refine al_ustr (by kernel_rfl) rfl rfl (by repeat constructor) ⟨.inl rfl, rfl⟩ hne hlen rfl ?_))|(refine k_al ?_;first|(refine al_v (ov_move rfl) rfl ?_)|(refine al_v (ov_fieldAddr rfl rfl) rfl ?_)|(refine al_v (ov_assign rfl) rfl ?_)|(refine al_nil ?_))|(first|(refine thn_n ?_)|(refine k_awp ?_;first|(refine awp_seq (awp_region ?_))|(refine awp_seq ?_)|(refine awp_region ?_)|(refine awp_ret ?_)))|(first|(refine k_hw ?_;first|(refine hw_s rfl ?_)|(refine hw_v (ov_move rfl) rfl ?_)|(refine hw_v (ov_assign rfl) rfl ?_)|(refine hw_v (ov_fieldAddr rfl rfl) rfl ?_)|(refine hw_v (ov_load rfl rfl) rfl ?_)|(refine hw_v (ov_len_os rfl rfl rfl) rfl ?_))|(refine hl_op rfl ?_)|(refine k_ho ?_;first|(refine ho_n ?_))|(refine hl_nil ?_)|(refine hq_back ?_)))
      refine ret1 (by first | exact .inr rfl | exact .inl rfl) rfl rfl ?_
      exact ⟨rfl, _, rfl, .inr ⟨_, rfl⟩⟩
    · repeat' (first|(first|(refine awp_held (id := 1) [(10, [1])] [⟨0, true, [], bl 12 992⟩, ⟨1, true, [], bl 12 993⟩, ⟨2, true, [], bl 12 995⟩, ⟨3, true, [], bl 12 999⟩, ⟨4, true, [], bl 12 1007⟩, ⟨5, true, [], bl 12 31⟩, ⟨6, true, [], bl 12 63⟩, ⟨7, true, [], bl 12 127⟩, ⟨8, true, [], bl 12 255⟩, ⟨9, true, [], bl 12 511⟩, ⟨10, false, [], []⟩, ⟨11, true, [], bl 12 2047⟩] (by kernel_rfl) (by kernel_rfl) rfl (by kernel_rfl) ?_)|(refine hw_v (ov_nilCheck (n := 0) rfl rfl) rfl ?_)|(refine hw_v (ov_len_arr rfl rfl rfl) rfl ?_)|(refine hw_v (ov_usd rfl rfl (.arr _ _) hne) rfl ?_)|(refine al_wkn (.spell 12 (.int .i64 (l.length : Int)) rfl (by rw [hbl])) ?_;refine al_ustr (by kernel_rfl) rfl rfl (by repeat constructor) ⟨.inr ⟨_, rfl⟩, rfl⟩ hne hlen rfl ?_))|(refine k_al ?_;first|(refine al_v (ov_move rfl) rfl ?_)|(refine al_v (ov_fieldAddr rfl rfl) rfl ?_)|(refine al_v (ov_assign rfl) rfl ?_)|(refine al_nil ?_))|(first|(refine thn_n ?_)|(refine k_awp ?_;first|(refine awp_seq (awp_region ?_))|(refine awp_seq ?_)|(refine awp_region ?_)|(refine awp_ret ?_)))|(first|(refine k_hw ?_;first|(refine hw_s rfl ?_)|(refine hw_v (ov_move rfl) rfl ?_)|(refine hw_v (ov_assign rfl) rfl ?_)|(refine hw_v (ov_fieldAddr rfl rfl) rfl ?_)|(refine hw_v (ov_load rfl rfl) rfl ?_)|(refine hw_v (ov_len_os rfl rfl rfl) rfl ?_))|(refine hl_op rfl ?_)|(refine k_ho ?_;first|(refine ho_n ?_))|(refine hl_nil ?_)|(refine hq_back ?_)))
      refine ret1 (by first | exact .inr rfl | exact .inl rfl) rfl rfl ?_
      exact ⟨rfl, _, rfl, .inr ⟨_, rfl⟩⟩
end
end Go.Proofs.YtnjolbnbpfjdiaaDoor.L

namespace Go.Proofs.YtnjolbnbpfjdiaaDoor.L
open Go Go.RowKit Go.Proofs
set_option linter.unusedVariables false
set_option linter.unusedSimpArgs false

section
variable {E : Env} {N : Nat} {sl : Slots} {H : List AO}
end
end Go.Proofs.YtnjolbnbpfjdiaaDoor.L

namespace Go.Proofs.YtnjolbnbpfjdiaaDoor.L
open Go Go.RowKit
set_option linter.unusedVariables false
section
variable {E : Env} {sl : Slots} {H : List AO}
end
end Go.Proofs.YtnjolbnbpfjdiaaDoor.L

namespace Go.Proofs.YtnjolbnbpfjdiaaDoor.L
open Go Go.RowKit
set_option linter.unusedVariables false
set_option linter.unusedSimpArgs false

/-- The code behind a label. -/
def lblC (c : Code) (l : Nat) : Code := match findLabel c l with
  | some (.seq _ b) => b
  | _ => .skip
/-- As Q; at a jump: what holds at the label. -/
def JmpQ (E : Env) (N : Nat) {α : Type} (inv : α → St) (lab : α → Nat) (ok : α → Prop) (m : α → Nat) (b : Nat) (Q : Exit → St → Prop) : Exit → St → Prop
  | .goto l, σ => ∃ y, lab y = l ∧ ok y ∧ m y < b ∧ Wkn E N σ (inv y)
  | e, σ => Q e σ
def jmpW {ι : Type} (J : ι → Act → World → Prop) (lab : ι → Nat) (μ : ι → Nat) (B : Nat) (Q : Exit → Act → World → Prop) : Exit → Act → World → Prop
  | .goto l, a, w => ∃ x, lab x = l ∧ μ x < B ∧ J x a w
  | e, a, w => Q e a w
section
variable {E : Env} {N : Nat} {Q : Exit → St → Prop} {α : Type} {inv : α → St} {lab : α → Nat} {ok : α → Prop} {m : α → Nat} {b : Nat} {σ : St}
end
/-- Where a part of the code comes to its end normally: at one of the states J. -/
def MidQ (E : Env) (N : Nat) {ι : Type} (J : ι → St) (ok : ι → Prop) (Q : Exit → St → Prop) : Exit → St → Prop
  | .normal, σ => ∃ j, ok j ∧ Wkn E N σ (J j)
  | e, σ => Q e σ
section
variable {E : Env} {N : Nat} {Q : Exit → St → Prop} {ι : Type} {σ : St} {J : ι → St} {ok : ι → Prop}
end
section
variable {E : Env} {sl : Slots} {H : List AO}
end
end Go.Proofs.YtnjolbnbpfjdiaaDoor.L

namespace Go.Proofs.YtnjolbnbpfjdiaaDoor.L
open Go Go.RowKit
set_option linter.unusedVariables false
set_option linter.unusedSimpArgs false

def preOK (ops : Array Oper) (τ : List (Nat × List Nat)) (i j : Nat) (A B : List PS) : List Bool → List PS → Bool
  | L, [] => (Region.ready .any ops L.toArray == [i, j]) && (planOK ops τ (L.set i true) A && (planOK ops τ (L.set j true) B && Nat.beq A.length B.length))
  | L, p :: r => (p.q && qOK ops τ L p.R p.i p.G) && preOK ops τ i j A B (L.set p.i true) r
/-- A plan of what only looks, then either of two operations. -/
def HF (E : Env) (N : Nat) (ops : Array Oper) (τ : List (Nat × List Nat)) (Q : Exit → St → Prop) (i j : Nat) (A B pl : List PS) (σ : St) : Prop :=
  Region.noSelect ops = true → ∀ L : List Bool, L.length = ops.size → preOK ops τ i j A B L pl = true → ∀ I ν a w, SR E N I ν σ a w → ∀ w0 I0 ν0 o0, FR E.k w0 I0 ν0 o0 w I ν σ.objs →
    wpAnyP E.P .any ops (LN E N w0 I0 ν0 o0 Q) (SS τ L.toArray I ν σ.objs w) (pl.length + (A.length + 1)) L.toArray a w
section
variable {E : Env} {N : Nat} {ops : Array Oper} {τ : List (Nat × List Nat)} {Q : Exit → St → Prop} {i j : Nat} {A B : List PS} {p : PS} {pl : List PS} {sl : Slots} {H : List AO}
end
end Go.Proofs.YtnjolbnbpfjdiaaDoor.L

namespace Go.Proofs.YtnjolbnbpfjdiaaDoor.L
open Go Go.RowKit
set_option linter.unusedVariables false
set_option linter.unusedSimpArgs false

/-- Slots as they are called behind a renaming. -/
inductive SubR (r : Nat → Nat) (sl : Slots) : Slots → Prop where
  | nil : SubR r sl []
  | cons {t : Nat} {x y : AV} {s : Slots} (h : lk sl t = some y) (e : Rn r x y) (k : SubR r sl s) : SubR r sl ((t, x) :: s)
theorem SubR.get {r : Nat → Nat} {sl s : Slots} (h : SubR r sl s) : ∀ t x, lk s t = some x → ∃ y, lk sl t = some y ∧ Rn r x y := by
  induction h with
  | nil => intro t x h; simp [lk] at h
  | @cons t x y s h e k ih =>
    intro t' x' h'
    rw [lk_cons] at h'
    by_cases q : t = t'
    · subst q
      rw [if_pos rfl] at h'
      injection h' with h'
      subst h'
      exact ⟨y, h, e⟩
    · rw [if_neg q] at h'
      exact ih t' x' h'
/-- The first k ids keep their names. -/
def keeps (ρ : List Nat) : Nat → Bool
  | 0 => true
  | k + 1 => match ρ[k]? with
    | some j => Nat.beq j k && keeps ρ k
    | none => false
theorem keeps_get {ρ : List Nat} : ∀ {k : Nat}, keeps ρ k = true → ∀ i, i < k → ρ[i]? = some i := by
  intro k
  induction k with
  | zero => intro _ i h; exact absurd h (Nat.not_lt_zero _)
  | succ k ih =>
    intro h i hi
    rw [keeps] at h
    split at h
    · rename_i j hj
      rw [Bool.and_eq_true] at h
      have := Nat.eq_of_beq_eq_true h.1
      subst this
      rcases Nat.lt_or_ge i j with h2 | h2
      · exact ih h.2 i h2
      · obtain rfl : i = j := by omega
        exact hj
    · cases h
section
variable {E : Env} {N : Nat}
/-- Objects renamed; those that ρ does not name are forgotten. -/
theorem Wkn.pick (ρ : List Nat) {sl sl' : Slots} {H os : List AO} (hp : PickO (rn ρ H.length) H ρ os) (hn : ndup ρ = true) (hk : keeps ρ E.k = true) (hs' : SubR (rn ρ H.length) sl sl') : Wkn E N ⟨sl, H⟩ ⟨sl', os⟩ := by
  intro I ν a w hs
  obtain ⟨h1, h2⟩ := hr_A hs.hr hp hn
  obtain ⟨g1, g2⟩ := hp.get
  refine ⟨I, nuC ρ ν, ⟨HR.env (E := E.at 0) (F := E) rfl rfl h1, fun t x hx => ?_, hs.df, hs.nt⟩, ⟨ImmLe.refl _ _, Nat.le_refl _, fun _ _ h => .inl h, fun _ _ _ => rfl, fun b hb => ?_, fun id hi hn' => ?_, fun id hi hg => ?_⟩⟩
  · obtain ⟨y, hy, hxy⟩ := hs'.get t x hx
    exact rn_A hs.hr.n (hs.sl t y hy) hxy
  · obtain ⟨i, j, o', _, k2, k3⟩ := h2 b hb
    exact .inl ⟨j, o', k2, k3⟩
  · have hr := keeps_get hk id hi
    have hl : id < ρ.length := (List.getElem?_eq_some_iff.1 hr).1
    refine ⟨hl, ?_, fun ver _ => ?_⟩
    · simp only [nuC, hr, Option.getD_some]; exact Nat.le_refl _
    · simp only [nuC, hr, Option.getD_some]
  · have hr := keeps_get hk id hi
    have hl : id < ρ.length := (List.getElem?_eq_some_iff.1 hr).1
    have hos : id < os.length := by omega
    refine ⟨by simp only [nuC, hr, Option.getD_some], ?_⟩
    show os[id]? = some .gone
    obtain ⟨j, o', k1, k2, k3⟩ := g2 id (os[id]'hos) (List.getElem?_eq_getElem hos)
    rw [hr] at k1
    injection k1 with k1
    subst k1
    rw [List.getElem?_eq_getElem hos]
    have : o' = .gone := Option.some.inj (k2.symm.trans hg)
    subst this
    revert k3
    generalize os[id]'hos = q
    intro k3
    cases k3
    rfl
variable {sl : Slots} {H : List AO}
theorem ov_len_c {t e : Nat} {n b : Nat} {z : Value} [ti : TI E.P t (.slice e) n b z] {x : Operand} {xs : List (List AV)} (k : Nat) (hx : ev sl x = some (.rs xs)) (hk : xs.length = k) : OV E sl H (.call { callee := .builtin .len, args := #[x], argTypes := #[t] }) (.int .i64 (k : Int)) := by
  subst hk
  exact ov_len_rs hx
end
end Go.Proofs.YtnjolbnbpfjdiaaDoor.L

namespace Go.Proofs.YtnjolbnbpfjdiaaDoor.L
open Go Go.RowKit Go.Proofs
set_option linter.unusedVariables false
set_option linter.unusedSimpArgs false
set_option maxRecDepth 100000
attribute [local irreducible] AL QL AWp Thn InB RetQ ACalls LoopQ HL HO HW HQ NoG JmpQ MidQ HF

/-- Instructions: an operation, and its A. -/
abbrev Ins := List (Int × Int)
abbrev insC (p : Int × Int) : List AV := [.int .i64 p.1, .int .i64 p.2]
def insAV (l : Ins) : List (List AV) := l.map insC
theorem insAV_len (l : Ins) : (insAV l).length = l.length := List.length_map _
theorem insAV_row {l : Ins} {i : Nat} {p : Int × Int} (h : l[i]? = some p) : (insAV l)[((i : Nat) : Int).toNat]? = some [.int .i64 p.1, .int .i64 p.2] := by
  have : ((i : Nat) : Int).toNat = i := rfl
  rw [this]
  unfold insAV
  rw [List.getElem?_map, h]
  rfl
def mayP (n : Nat) (p : Int × Int) : Prop := p.1 = 1 ∨ (p.1 = 3 ∧ 0 ≤ p.2 ∧ p.2 < 64) ∨ ((p.1 = 20 ∨ p.1 = 21 ∨ p.1 = 22) ∧ 0 ≤ p.2 ∧ p.2 < n) ∨ (p.1 = 24 ∧ 1 ≤ p.2 ∧ p.2 ≤ 99) ∨
  ((p.1 ≠ 3 ∧ p.1 ≠ 20 ∧ p.1 ≠ 21 ∧ p.1 ≠ 22 ∧ p.1 ≠ 24) ∧ 1 ≤ p.1 ∧ p.1 ≤ 25 ∧ p.2 = 0)
instance (n : Nat) (p : Int × Int) : Decidable (mayP n p) := by unfold mayP; exact inferInstance
def firstBad (n : Nat) : Ins → Nat → Option Nat
  | [], _ => none
  | p :: r, k => if mayP n p then firstBad n r (k + 1) else some k
/-- Why instructions may not be, and where. -/
def checkI (l : Ins) : Int × Int := if l.length < 1 ∨ 1024 < l.length then (2, 0) else match firstBad l.length l 0 with
  | none => (0, 0)
  | some k => (130, (k : Int))
def hasAP (op : Int) : Prop := op = 1 ∨ op = 3 ∨ op = 20 ∨ op = 21 ∨ op = 22 ∨ op = 24
instance (op : Int) : Decidable (hasAP op) := by unfold hasAP; exact inferInstance
def nameL : List (List UInt8) := ["push", "pop", "dup", "swap", "add", "sub", "mul", "div", "rem", "and", "or", "xor", "shl", "shr", "eq", "less", "not", "load", "store", "jump", "if", "call", "ret", "trap", "halt"].map fun s => s.toUTF8.data.toList
/-- An operation's name. -/
def nmI (op : Int) : List UInt8 := nameL.getD (op - 1).toNat []
theorem nameL_len : nameL.length = 25 := rfl
theorem firstBad_step {n i : Nat} {l : Ins} {p : Int × Int} (h : l[i]? = some p) : firstBad n (l.drop i) i = if mayP n p then firstBad n (l.drop (i + 1)) (i + 1) else some i := by
  have hi : i < l.length := (List.getElem?_eq_some_iff.1 h).1
  have : l.drop i = p :: l.drop (i + 1) := by
    rw [List.drop_eq_getElem_cons hi]
    congr 1
    exact (List.getElem?_eq_some_iff.1 h).2
  rw [this, firstBad]
section
variable {w0 : World} {base : Nat}
set_option maxHeartbeats 2000000 in
theorem s_may {n : Nat} {p : Int × Int} : PCalls (EE w0 base) 42 [.agg (insC p), .int .i64 n] fun rv => rv = .bool (decide (mayP n p)) := by
  refine acalls_of Tryd.func42 rfl rfl rfl (.cons (.cons .nil)) ?_
  repeat' (first|(refine k_al ?_;first|(refine al_v (ov_move rfl) rfl ?_)|(refine k_g ?_;first|(refine al_gy' rfl rfl (by with_reducible rfl) ?_)|(refine al_gnt rfl rfl (by with_reducible rfl) rfl ?_)|(refine al_gsp rfl rfl (fun hc => ?_) (fun hc => ?_) <;> (try (exfalso;omega))))|(refine al_v (ov_fieldAddr rfl rfl) rfl ?_)|(refine k_load ?_;first|(refine al_v (ov_load rfl rfl) rfl ?_))|(refine k_bin ?_;first|(refine al_v (ov_cmp rfl rfl rfl) rfl ?_))|(refine k_pick ?_;first|(refine al_v (ov_pick_t' rfl (by with_reducible rfl) rfl) rfl ?_)|(refine al_v (ov_pick_f' rfl (by with_reducible rfl) rfl) rfl ?_))|(refine al_v (ov_assign rfl) rfl ?_)|(refine al_nil ?_)|(refine al_box rfl rfl rfl (by first|exact ln0) (by repeat constructor) rfl ?_))|(first|(refine thn_n ?_)|(refine k_awp ?_;first|(refine awp_seq (awp_region ?_))|(refine awp_seq ?_)|(refine awp_region ?_)|(refine k_cond ?_;first|(refine awp_cond_p rfl (fun hc => ?_) (fun hc => ?_) <;> (try (exfalso;omega))))|(refine awp_block ?_)|(refine awp_ret ?_)|(refine awp_skip ?_))|(refine thn_ret ?_)|(refine inb_n ?_)|(refine inb_ret ?_)))
  all_goals
    refine ret1 (by first | exact .inr rfl | exact .inl rfl) rfl rfl ?_
    refine ⟨congrArg AV.bool ?_, rfl⟩
    rw [Bool.eq_iff_iff]
    simp only [decide_eq_true_eq, true_iff, false_iff, Bool.false_eq_true]
    unfold mayP
    omega
set_option maxHeartbeats 2000000 in
theorem s_mayR {n : Nat} {p : Int × Int} : PCalls (EE w0 base) 43 [.agg (insC p), .int .i64 n] fun rv => rv = .bool (decide (mayP n p)) := by
  refine acalls_of Tryd.func43 rfl rfl rfl (.cons (.cons .nil)) ?_
  repeat' (first|(refine k_al ?_;first|(refine al_v (ov_move rfl) rfl ?_)|(refine k_g ?_;first|(refine al_gy' rfl rfl (by with_reducible rfl) ?_)|(refine al_gnt rfl rfl (by with_reducible rfl) rfl ?_)|(refine al_gnf rfl rfl (by with_reducible rfl) rfl ?_)|(refine al_gsp rfl rfl (fun hc => ?_) (fun hc => ?_) <;> (try (exfalso;omega))))|(refine al_v (ov_fieldAddr rfl rfl) rfl ?_)|(refine k_load ?_;first|(refine al_v (ov_load rfl rfl) rfl ?_))|(refine k_bin ?_;first|(refine al_v (ov_cmp rfl rfl rfl) rfl ?_))|(refine k_pick ?_;first|(refine al_v (ov_pick_t' rfl (by with_reducible rfl) rfl) rfl ?_)|(refine al_v (ov_pick_f' rfl (by with_reducible rfl) rfl) rfl ?_))|(refine al_v (ov_assign rfl) rfl ?_)|(refine al_nil ?_)|(refine al_box rfl rfl rfl (by first|exact ln0) (by repeat constructor) rfl ?_))|(first|(refine thn_n ?_)|(refine k_awp ?_;first|(refine awp_seq (awp_region ?_))|(refine awp_seq ?_)|(refine awp_region ?_)|(refine k_cond ?_;first|(refine awp_cond_t' rfl (by with_reducible rfl) ?_)|(refine awp_cond_p rfl (fun hc => ?_) (fun hc => ?_) <;> (try (exfalso;omega))))|(refine awp_block ?_)|(refine awp_ret ?_)|(refine awp_skip ?_))|(refine thn_ret ?_)|(refine inb_n ?_)|(refine inb_ret ?_)))
  all_goals
    refine ret1 (by first | exact .inr rfl | exact .inl rfl) rfl rfl ?_
    refine ⟨congrArg AV.bool ?_, rfl⟩
    rw [Bool.eq_iff_iff]
    simp only [decide_eq_true_eq, true_iff, false_iff, Bool.false_eq_true]
    unfold mayP
    omega
theorem a_notMay {l : Ins} {p : Int × Int} : ACalls (EE w0 base) 41 [.agg (insC p), .op 0 0] [.box [.rs (insAV l)]] fun rv os => rv = .bool (decide (¬ mayP l.length p)) ∧ os = [.box [.rs (insAV l)]] := by
  have hM := s_may (w0 := w0) (base := base) (n := l.length) (p := p)
  have hl := insAV_len l
  refine acalls_of Tryd.func41 rfl rfl rfl (.cons (.cons .nil)) ?_
  repeat' (first|(first|(refine k_call ?_;refine al_v (ov_len_c l.length rfl hl) rfl ?_)|(refine k_call ?_;refine al_call rfl rfl rfl rfl hM ?_;rintro _ rfl))|(refine k_al ?_;first|(refine k_load ?_;first|(refine al_v (ov_load rfl rfl) rfl ?_)|(refine al_v (ov_load_agg rfl rfl rfl) rfl ?_))|(refine al_v (ov_assign rfl) rfl ?_)|(refine al_nil ?_)|(refine al_box rfl rfl rfl (by first|exact ln1) (by repeat constructor) rfl ?_)|(refine al_v (ov_not_p rfl) rfl ?_))|(first|(refine thn_n ?_)|(refine k_awp ?_;first|(refine awp_seq (awp_region ?_))|(refine awp_seq ?_)|(refine awp_region ?_)|(refine awp_ret ?_))))
  refine retq_wkn (.of (Wk'.drop (H := [_]) (sl' := [(3, _)]) (ex := [_]) (.cons rfl .nil) rfl (by repeat constructor) rfl)) ?_
  refine ret1 (by first | exact .inr rfl | exact .inl rfl) rfl rfl ?_
  exact ⟨rfl, rfl⟩
theorem a_indexBad {l : Ins} (hl : l.length ≤ 140737488351232) : ACalls (EE w0 base) 40 [.rs (insAV l), .fn 41 [.op 0 0]] [.box [.rs (insAV l)]]
    fun rv os => rv = .int .i64 (match firstBad l.length l 0 with | none => -1 | some k => (k : Int)) ∧ os = [.box [.rs (insAV l)]] := by
  have hll := insAV_len l
  refine acalls_of Tryd.func40 rfl rfl rfl (.cons (.cons .nil)) ?_
  obtain ⟨T, hT⟩ : ∃ T, T = firstBad l.length l 0 := ⟨_, rfl⟩
  rw [← hT]
  repeat' (first|(refine k_al ?_;first|(refine al_v (ov_move rfl) rfl ?_)|(refine k_load ?_;first|(refine al_v (ov_load_agg rfl rfl rfl) rfl ?_))|(refine k_bin ?_;first|(refine al_v (ov_cmp rfl rfl rfl) rfl ?_)|(refine al_v (ov_add rfl rfl (by (first|exact w64 (by omega) (by omega)|rfl))) rfl ?_))|(refine al_v (ov_assign rfl) rfl ?_)|(refine k_call ?_;first|(refine al_v (ov_len_rs rfl) rfl ?_))|(refine al_nil ?_))|(first|(refine thn_n ?_)|(refine k_awp ?_;first|(refine awp_seq (awp_region ?_))|(refine awp_seq ?_)|(refine awp_region ?_)|(refine k_cond ?_;first|(refine awp_cond_t' rfl (by with_reducible rfl) ?_)|(refine awp_cond_f' rfl (by with_reducible rfl) ?_)|(refine awp_cond_p rfl (fun hc => ?_) (fun hc => ?_) <;> (try (exfalso;omega))))|(refine awp_block ?_)|(refine awp_ret ?_)|(refine awp_skip ?_)|(refine awp_exit ?_))|(refine thn_ret ?_)|(refine lq_exit ?_)|(refine lq_ret ?_)|(refine thn_exit ?_)|(refine inb_n ?_)|(refine inb_ret ?_)|(refine inb_here ?_)))
  refine awp_loopq (fun k : Nat => ⟨[(0, .rs (insAV l)), (1, .fn 41 [.op 0 0]), (7, .int .i64 ((insAV l).length : Int)), (8, .int .i64 k)], [.box [.rs (insAV l)]]⟩) (fun k => k ≤ l.length ∧ T = firstBad l.length (l.drop k) k) (fun k => l.length - k) 0 (.of (.same (by repeat constructor))) ⟨Nat.zero_le _, hT⟩ ?_
  rintro i ⟨hi, hTi⟩
  try dsimp only
  by_cases hlt : i < l.length
  · obtain ⟨p, hp⟩ : ∃ p, l[i]? = some p := ⟨_, List.getElem?_eq_getElem hlt⟩
    have hrow := insAV_row hp
    have hF := a_notMay (w0 := w0) (base := base) (l := l) (p := p)
    rw [firstBad_step hp] at hTi
    by_cases hm : mayP l.length p
    · rw [if_pos hm] at hTi
      rw [decide_eq_false (fun k => k hm)] at hF
      repeat' (first|(first|(refine al_v (ov_indexAddr rfl rfl (by omega) hrow rfl) rfl ?_)|(refine k_call ?_;refine al_acall [0] rfl rfl hF ?_ ?_ rfl rfl ?_;(focus ((repeat constructor);done));(focus ((repeat constructor);done));rintro _ _ ⟨rfl, rfl⟩;refine ⟨_, _, by repeat constructor, by repeat constructor, ?_⟩))|(refine k_al ?_;first|(refine al_v (ov_move rfl) rfl ?_)|(refine k_load ?_;first|(refine al_v (ov_load_agg rfl rfl rfl) rfl ?_))|(refine k_bin ?_;first|(refine al_v (ov_cmp rfl rfl rfl) rfl ?_)|(refine al_v (ov_add rfl rfl (by (first|exact w64 (by omega) (by omega)|rfl))) rfl ?_))|(refine al_v (ov_assign rfl) rfl ?_)|(refine k_call ?_;first|(refine al_v (ov_len_rs rfl) rfl ?_))|(refine al_nil ?_))|(first|(refine thn_n ?_)|(refine k_awp ?_;first|(refine awp_seq (awp_region ?_))|(refine awp_seq ?_)|(refine awp_region ?_)|(refine k_cond ?_;first|(refine awp_cond_t' rfl (by with_reducible rfl) ?_)|(refine awp_cond_f' rfl (by with_reducible rfl) ?_)|(refine awp_cond_p rfl (fun hc => ?_) (fun hc => ?_) <;> (try (exfalso;omega))))|(refine awp_block ?_)|(refine awp_ret ?_)|(refine awp_skip ?_)|(refine awp_exit ?_))|(refine thn_ret ?_)|(refine lq_exit ?_)|(refine lq_ret ?_)|(refine thn_exit ?_)|(refine inb_n ?_)|(refine inb_ret ?_)|(refine inb_here ?_)))
      first | refine lq_back (i + 1) (.of (.same (by repeat constructor))) ?_ ?_ | fail
      · exact ⟨by omega, hTi⟩
      · omega
    · rw [if_neg hm] at hTi
      rw [decide_eq_true hm] at hF
      repeat' (first|(first|(refine al_v (ov_indexAddr rfl rfl (by omega) hrow rfl) rfl ?_)|(refine k_call ?_;refine al_acall [0] rfl rfl hF ?_ ?_ rfl rfl ?_;(focus ((repeat constructor);done));(focus ((repeat constructor);done));rintro _ _ ⟨rfl, rfl⟩;refine ⟨_, _, by repeat constructor, by repeat constructor, ?_⟩))|(refine k_al ?_;first|(refine al_v (ov_move rfl) rfl ?_)|(refine k_load ?_;first|(refine al_v (ov_load_agg rfl rfl rfl) rfl ?_))|(refine k_bin ?_;first|(refine al_v (ov_cmp rfl rfl rfl) rfl ?_)|(refine al_v (ov_add rfl rfl (by (first|exact w64 (by omega) (by omega)|rfl))) rfl ?_))|(refine al_v (ov_assign rfl) rfl ?_)|(refine k_call ?_;first|(refine al_v (ov_len_rs rfl) rfl ?_))|(refine al_nil ?_))|(first|(refine thn_n ?_)|(refine k_awp ?_;first|(refine awp_seq (awp_region ?_))|(refine awp_seq ?_)|(refine awp_region ?_)|(refine k_cond ?_;first|(refine awp_cond_t' rfl (by with_reducible rfl) ?_)|(refine awp_cond_f' rfl (by with_reducible rfl) ?_)|(refine awp_cond_p rfl (fun hc => ?_) (fun hc => ?_) <;> (try (exfalso;omega))))|(refine awp_block ?_)|(refine awp_ret ?_)|(refine awp_skip ?_)|(refine awp_exit ?_))|(refine thn_ret ?_)|(refine lq_exit ?_)|(refine lq_ret ?_)|(refine thn_exit ?_)|(refine inb_n ?_)|(refine inb_ret ?_)|(refine inb_here ?_)))
      refine ret1 (by first | exact .inr rfl | exact .inl rfl) rfl rfl ?_
      exact ⟨by rw [hTi], rfl⟩
  · rw [List.drop_eq_nil_of_le (by omega), firstBad] at hTi
    repeat' (first|(refine k_al ?_;first|(refine al_v (ov_move rfl) rfl ?_)|(refine k_load ?_;first|(refine al_v (ov_load_agg rfl rfl rfl) rfl ?_))|(refine k_bin ?_;first|(refine al_v (ov_cmp rfl rfl rfl) rfl ?_)|(refine al_v (ov_add rfl rfl (by (first|exact w64 (by omega) (by omega)|rfl))) rfl ?_))|(refine al_v (ov_assign rfl) rfl ?_)|(refine k_call ?_;first|(refine al_v (ov_len_rs rfl) rfl ?_))|(refine al_nil ?_))|(first|(refine thn_n ?_)|(refine k_awp ?_;first|(refine awp_seq (awp_region ?_))|(refine awp_seq ?_)|(refine awp_region ?_)|(refine k_cond ?_;first|(refine awp_cond_t' rfl (by with_reducible rfl) ?_)|(refine awp_cond_f' rfl (by with_reducible rfl) ?_)|(refine awp_cond_p rfl (fun hc => ?_) (fun hc => ?_) <;> (try (exfalso;omega))))|(refine awp_block ?_)|(refine awp_ret ?_)|(refine awp_skip ?_)|(refine awp_exit ?_))|(refine thn_ret ?_)|(refine lq_exit ?_)|(refine lq_ret ?_)|(refine thn_exit ?_)|(refine inb_n ?_)|(refine inb_ret ?_)|(refine inb_here ?_)))
    refine ret1 (by first | exact .inr rfl | exact .inl rfl) rfl rfl ?_
    exact ⟨by rw [hTi], rfl⟩
set_option maxHeartbeats 1000000 in
theorem s_check {l : Ins} (hl : l.length ≤ 140737488351232) : PCalls (EE w0 base) 17 [.rs (insAV l)] fun rv => rv = .tup [.int .i64 (checkI l).1, .int .i64 (checkI l).2] := by
  have hll := insAV_len l
  have hF := a_indexBad (w0 := w0) (base := base) hl
  refine acalls_of Tryd.func17 rfl rfl rfl (.cons .nil) ?_
  unfold checkI
  by_cases hb : l.length < 1 ∨ 1024 < l.length
  · rw [if_pos hb]
    repeat' (first|((refine k_call ?_;refine al_v (ov_len_c l.length rfl hll) rfl ?_))|(refine k_al ?_;first|(refine al_v (ov_move rfl) rfl ?_)|(refine k_g ?_;first|(refine al_gy' rfl rfl (by with_reducible rfl) ?_)|(refine al_gnf rfl rfl (by with_reducible rfl) rfl ?_)|(refine al_gsp rfl rfl (fun hc => ?_) (fun hc => ?_) <;> (try (exfalso;omega))))|(refine k_load ?_;first|(refine al_v (ov_load rfl rfl) rfl ?_))|(refine k_bin ?_;first|(refine al_v (ov_cmp rfl rfl rfl) rfl ?_))|(refine k_pick ?_;first|(refine al_v (ov_pick_t' rfl (by with_reducible rfl) rfl) rfl ?_)|(refine al_v (ov_pick_f' rfl (by with_reducible rfl) rfl) rfl ?_))|(refine al_v (ov_assign rfl) rfl ?_)|(refine al_nil ?_)|(refine al_box rfl rfl rfl (by first|exact ln0) (by repeat constructor) rfl ?_))|(first|(refine thn_n ?_)|(refine k_awp ?_;first|(refine awp_seq (awp_region ?_))|(refine awp_seq ?_)|(refine awp_region ?_)|(refine k_cond ?_;first|(refine awp_cond_t' rfl (by with_reducible rfl) ?_)|(refine awp_cond_p rfl (fun hc => ?_) (fun hc => ?_) <;> (try (exfalso;omega))))|(refine awp_ret ?_)|(refine awp_skip ?_))|(refine thn_ret ?_)))
    all_goals
      refine ret2 (by first | exact .inr rfl | exact .inl rfl) rfl rfl rfl ?_
      exact ⟨rfl, rfl⟩
  · rw [if_neg hb]
    revert hF
    cases firstBad l.length l 0 with
    | none =>
      intro hF
      dsimp only at hF ⊢
      repeat' (first|(first|(refine k_call ?_;refine al_v (ov_len_c l.length rfl hll) rfl ?_)|(refine al_v (ov_makeFunc rfl) rfl ?_)|(refine k_call ?_;refine al_acall [0] rfl rfl hF ?_ ?_ rfl rfl ?_;(focus ((repeat constructor);done));(focus ((repeat constructor);done));rintro _ _ ⟨rfl, rfl⟩;refine ⟨_, _, by repeat constructor, by repeat constructor, ?_⟩))|(refine k_al ?_;first|(refine al_v (ov_move rfl) rfl ?_)|(refine k_g ?_;first|(refine al_gy' rfl rfl (by with_reducible rfl) ?_)|(refine al_gnf rfl rfl (by with_reducible rfl) rfl ?_)|(refine al_gsp rfl rfl (fun hc => ?_) (fun hc => ?_) <;> (try (exfalso;omega))))|(refine k_load ?_;first|(refine al_v (ov_load rfl rfl) rfl ?_))|(refine k_bin ?_;first|(refine al_v (ov_cmp rfl rfl rfl) rfl ?_))|(refine k_pick ?_;first|(refine al_v (ov_pick_t' rfl (by with_reducible rfl) rfl) rfl ?_)|(refine al_v (ov_pick_f' rfl (by with_reducible rfl) rfl) rfl ?_))|(refine al_v (ov_assign rfl) rfl ?_)|(refine al_nil ?_)|(refine al_box rfl rfl rfl (by first|exact ln0) (by repeat constructor) rfl ?_))|(first|(refine thn_n ?_)|(refine k_awp ?_;first|(refine awp_seq (awp_region ?_))|(refine awp_seq ?_)|(refine awp_region ?_)|(refine k_cond ?_;first|(refine awp_cond_t' rfl (by with_reducible rfl) ?_)|(refine awp_cond_p rfl (fun hc => ?_) (fun hc => ?_) <;> (try (exfalso;omega))))|(refine awp_ret ?_)|(refine awp_skip ?_))|(refine thn_ret ?_)))
      refine ret2 (by first | exact .inr rfl | exact .inl rfl) rfl rfl rfl ?_
      exact ⟨rfl, rfl⟩
    | some k =>
      intro hF
      dsimp only at hF ⊢
      repeat' (first|(first|(refine k_call ?_;refine al_v (ov_len_c l.length rfl hll) rfl ?_)|(refine al_v (ov_makeFunc rfl) rfl ?_)|(refine k_call ?_;refine al_acall [0] rfl rfl hF ?_ ?_ rfl rfl ?_;(focus ((repeat constructor);done));(focus ((repeat constructor);done));rintro _ _ ⟨rfl, rfl⟩;refine ⟨_, _, by repeat constructor, by repeat constructor, ?_⟩))|(refine k_al ?_;first|(refine al_v (ov_move rfl) rfl ?_)|(refine k_g ?_;first|(refine al_gy' rfl rfl (by with_reducible rfl) ?_)|(refine al_gnf rfl rfl (by with_reducible rfl) rfl ?_)|(refine al_gsp rfl rfl (fun hc => ?_) (fun hc => ?_) <;> (try (exfalso;omega))))|(refine k_load ?_;first|(refine al_v (ov_load rfl rfl) rfl ?_))|(refine k_bin ?_;first|(refine al_v (ov_cmp rfl rfl rfl) rfl ?_))|(refine k_pick ?_;first|(refine al_v (ov_pick_t' rfl (by with_reducible rfl) rfl) rfl ?_)|(refine al_v (ov_pick_f' rfl (by with_reducible rfl) rfl) rfl ?_))|(refine al_v (ov_assign rfl) rfl ?_)|(refine al_nil ?_)|(refine al_box rfl rfl rfl (by first|exact ln0) (by repeat constructor) rfl ?_))|(first|(refine thn_n ?_)|(refine k_awp ?_;first|(refine awp_seq (awp_region ?_))|(refine awp_seq ?_)|(refine awp_region ?_)|(refine k_cond ?_;first|(refine awp_cond_t' rfl (by with_reducible rfl) ?_)|(refine awp_cond_p rfl (fun hc => ?_) (fun hc => ?_) <;> (try (exfalso;omega))))|(refine awp_ret ?_)|(refine awp_skip ?_))|(refine thn_ret ?_)))
      refine ret2 (by first | exact .inr rfl | exact .inl rfl) rfl rfl rfl ?_
      exact ⟨rfl, rfl⟩
set_option maxHeartbeats 1000000 in
theorem s_checkR {l : Ins} (hl : l.length ≤ 140737488351232) : PCalls (EE w0 base) 18 [.rs (insAV l)] fun rv => rv = .tup [.int .i64 (checkI l).1, .int .i64 (checkI l).2] := by
  have hll := insAV_len l
  refine acalls_of Tryd.func18 rfl rfl rfl (.cons .nil) ?_
  unfold checkI
  by_cases hb : l.length < 1 ∨ 1024 < l.length
  · rw [if_pos hb]
    repeat' (first|((refine k_call ?_;refine al_v (ov_len_c l.length rfl hll) rfl ?_))|(refine k_al ?_;first|(refine al_v (ov_move rfl) rfl ?_)|(refine k_g ?_;first|(refine al_gy' rfl rfl (by with_reducible rfl) ?_)|(refine al_gnf rfl rfl (by with_reducible rfl) rfl ?_)|(refine al_gsp rfl rfl (fun hc => ?_) (fun hc => ?_) <;> (try (exfalso;omega))))|(refine k_load ?_;first|(refine al_v (ov_load_agg rfl rfl rfl) rfl ?_))|(refine k_bin ?_;first|(refine al_v (ov_cmp rfl rfl rfl) rfl ?_)|(refine al_v (ov_add rfl rfl (by (first|exact w64 (by omega) (by omega)|rfl))) rfl ?_))|(refine k_pick ?_;first|(refine al_v (ov_pick_t' rfl (by with_reducible rfl) rfl) rfl ?_)|(refine al_v (ov_pick_f' rfl (by with_reducible rfl) rfl) rfl ?_))|(refine al_v (ov_assign rfl) rfl ?_)|(refine al_nil ?_)|(refine al_v (ov_not_t rfl (by with_reducible rfl)) rfl ?_)|(refine al_v (ov_not_f rfl (by with_reducible rfl)) rfl ?_))|(first|(refine thn_n ?_)|(refine k_awp ?_;first|(refine awp_seq (awp_region ?_))|(refine awp_seq ?_)|(refine awp_region ?_)|(refine k_cond ?_;first|(refine awp_cond_t' rfl (by with_reducible rfl) ?_)|(refine awp_cond_f' rfl (by with_reducible rfl) ?_)|(refine awp_cond_p rfl (fun hc => ?_) (fun hc => ?_) <;> (try (exfalso;omega))))|(refine awp_block ?_)|(refine awp_ret ?_)|(refine awp_skip ?_)|(refine awp_exit ?_))|(refine thn_ret ?_)|(refine lq_exit ?_)|(refine lq_ret ?_)|(refine thn_exit ?_)|(refine inb_n ?_)|(refine inb_ret ?_)|(refine inb_here ?_)))
    all_goals
      refine ret2 (by first | exact .inr rfl | exact .inl rfl) rfl rfl rfl ?_
      exact ⟨rfl, rfl⟩
  · rw [if_neg hb]
    obtain ⟨T, hT⟩ : ∃ T, T = firstBad l.length l 0 := ⟨_, rfl⟩
    rw [← hT]
    repeat' (first|((refine k_call ?_;refine al_v (ov_len_c l.length rfl hll) rfl ?_))|(refine k_al ?_;first|(refine al_v (ov_move rfl) rfl ?_)|(refine k_g ?_;first|(refine al_gy' rfl rfl (by with_reducible rfl) ?_)|(refine al_gnf rfl rfl (by with_reducible rfl) rfl ?_)|(refine al_gsp rfl rfl (fun hc => ?_) (fun hc => ?_) <;> (try (exfalso;omega))))|(refine k_load ?_;first|(refine al_v (ov_load_agg rfl rfl rfl) rfl ?_))|(refine k_bin ?_;first|(refine al_v (ov_cmp rfl rfl rfl) rfl ?_)|(refine al_v (ov_add rfl rfl (by (first|exact w64 (by omega) (by omega)|rfl))) rfl ?_))|(refine k_pick ?_;first|(refine al_v (ov_pick_t' rfl (by with_reducible rfl) rfl) rfl ?_)|(refine al_v (ov_pick_f' rfl (by with_reducible rfl) rfl) rfl ?_))|(refine al_v (ov_assign rfl) rfl ?_)|(refine al_nil ?_)|(refine al_v (ov_not_t rfl (by with_reducible rfl)) rfl ?_)|(refine al_v (ov_not_f rfl (by with_reducible rfl)) rfl ?_))|(first|(refine thn_n ?_)|(refine k_awp ?_;first|(refine awp_seq (awp_region ?_))|(refine awp_seq ?_)|(refine awp_region ?_)|(refine k_cond ?_;first|(refine awp_cond_t' rfl (by with_reducible rfl) ?_)|(refine awp_cond_f' rfl (by with_reducible rfl) ?_)|(refine awp_cond_p rfl (fun hc => ?_) (fun hc => ?_) <;> (try (exfalso;omega))))|(refine awp_block ?_)|(refine awp_ret ?_)|(refine awp_skip ?_)|(refine awp_exit ?_))|(refine thn_ret ?_)|(refine lq_exit ?_)|(refine lq_ret ?_)|(refine thn_exit ?_)|(refine inb_n ?_)|(refine inb_ret ?_)|(refine inb_here ?_)))
    refine awp_loopq (fun k : Nat => ⟨[(0, .rs (insAV l)), (4, .int .i64 k)], []⟩) (fun k => k ≤ l.length ∧ T = firstBad l.length (l.drop k) k) (fun k => l.length - k) 0 (.of (.same (by repeat constructor))) ⟨Nat.zero_le _, hT⟩ ?_
    rintro i ⟨hi, hTi⟩
    try dsimp only
    by_cases hlt : i < l.length
    · obtain ⟨p, hp⟩ : ∃ p, l[i]? = some p := ⟨_, List.getElem?_eq_getElem hlt⟩
      have hrow := insAV_row hp
      have hM := s_mayR (w0 := w0) (base := base) (n := l.length) (p := p)
      rw [firstBad_step hp] at hTi
      by_cases hm : mayP l.length p
      · rw [if_pos hm] at hTi
        rw [decide_eq_true hm] at hM
        repeat' (first|(first|(refine al_v (ov_indexAddr rfl rfl (by omega) hrow rfl) rfl ?_)|(refine k_call ?_;refine al_v (ov_len_c l.length rfl hll) rfl ?_)|(refine k_call ?_;refine al_call rfl rfl rfl rfl hM ?_;rintro _ rfl))|(refine k_al ?_;first|(refine al_v (ov_move rfl) rfl ?_)|(refine k_g ?_;first|(refine al_gy' rfl rfl (by with_reducible rfl) ?_)|(refine al_gnf rfl rfl (by with_reducible rfl) rfl ?_)|(refine al_gsp rfl rfl (fun hc => ?_) (fun hc => ?_) <;> (try (exfalso;omega))))|(refine k_load ?_;first|(refine al_v (ov_load_agg rfl rfl rfl) rfl ?_))|(refine k_bin ?_;first|(refine al_v (ov_cmp rfl rfl rfl) rfl ?_)|(refine al_v (ov_add rfl rfl (by (first|exact w64 (by omega) (by omega)|rfl))) rfl ?_))|(refine k_pick ?_;first|(refine al_v (ov_pick_t' rfl (by with_reducible rfl) rfl) rfl ?_)|(refine al_v (ov_pick_f' rfl (by with_reducible rfl) rfl) rfl ?_))|(refine al_v (ov_assign rfl) rfl ?_)|(refine al_nil ?_)|(refine al_v (ov_not_t rfl (by with_reducible rfl)) rfl ?_)|(refine al_v (ov_not_f rfl (by with_reducible rfl)) rfl ?_))|(first|(refine thn_n ?_)|(refine k_awp ?_;first|(refine awp_seq (awp_region ?_))|(refine awp_seq ?_)|(refine awp_region ?_)|(refine k_cond ?_;first|(refine awp_cond_t' rfl (by with_reducible rfl) ?_)|(refine awp_cond_f' rfl (by with_reducible rfl) ?_)|(refine awp_cond_p rfl (fun hc => ?_) (fun hc => ?_) <;> (try (exfalso;omega))))|(refine awp_block ?_)|(refine awp_ret ?_)|(refine awp_skip ?_)|(refine awp_exit ?_))|(refine thn_ret ?_)|(refine lq_exit ?_)|(refine lq_ret ?_)|(refine thn_exit ?_)|(refine inb_n ?_)|(refine inb_ret ?_)|(refine inb_here ?_)))
        first | refine lq_back (i + 1) (.of (.same (by repeat constructor))) ?_ ?_ | fail
        · exact ⟨by omega, hTi⟩
        · omega
      · rw [if_neg hm] at hTi
        rw [decide_eq_false hm] at hM
        repeat' (first|(first|(refine al_v (ov_indexAddr rfl rfl (by omega) hrow rfl) rfl ?_)|(refine k_call ?_;refine al_v (ov_len_c l.length rfl hll) rfl ?_)|(refine k_call ?_;refine al_call rfl rfl rfl rfl hM ?_;rintro _ rfl))|(refine k_al ?_;first|(refine al_v (ov_move rfl) rfl ?_)|(refine k_g ?_;first|(refine al_gy' rfl rfl (by with_reducible rfl) ?_)|(refine al_gnf rfl rfl (by with_reducible rfl) rfl ?_)|(refine al_gsp rfl rfl (fun hc => ?_) (fun hc => ?_) <;> (try (exfalso;omega))))|(refine k_load ?_;first|(refine al_v (ov_load_agg rfl rfl rfl) rfl ?_))|(refine k_bin ?_;first|(refine al_v (ov_cmp rfl rfl rfl) rfl ?_)|(refine al_v (ov_add rfl rfl (by (first|exact w64 (by omega) (by omega)|rfl))) rfl ?_))|(refine k_pick ?_;first|(refine al_v (ov_pick_t' rfl (by with_reducible rfl) rfl) rfl ?_)|(refine al_v (ov_pick_f' rfl (by with_reducible rfl) rfl) rfl ?_))|(refine al_v (ov_assign rfl) rfl ?_)|(refine al_nil ?_)|(refine al_v (ov_not_t rfl (by with_reducible rfl)) rfl ?_)|(refine al_v (ov_not_f rfl (by with_reducible rfl)) rfl ?_))|(first|(refine thn_n ?_)|(refine k_awp ?_;first|(refine awp_seq (awp_region ?_))|(refine awp_seq ?_)|(refine awp_region ?_)|(refine k_cond ?_;first|(refine awp_cond_t' rfl (by with_reducible rfl) ?_)|(refine awp_cond_f' rfl (by with_reducible rfl) ?_)|(refine awp_cond_p rfl (fun hc => ?_) (fun hc => ?_) <;> (try (exfalso;omega))))|(refine awp_block ?_)|(refine awp_ret ?_)|(refine awp_skip ?_)|(refine awp_exit ?_))|(refine thn_ret ?_)|(refine lq_exit ?_)|(refine lq_ret ?_)|(refine thn_exit ?_)|(refine inb_n ?_)|(refine inb_ret ?_)|(refine inb_here ?_)))
        refine ret2 (by first | exact .inr rfl | exact .inl rfl) rfl rfl rfl ?_
        exact ⟨by rw [hTi], rfl⟩
    · rw [List.drop_eq_nil_of_le (by omega), firstBad] at hTi
      repeat' (first|((refine k_call ?_;refine al_v (ov_len_c l.length rfl hll) rfl ?_))|(refine k_al ?_;first|(refine al_v (ov_move rfl) rfl ?_)|(refine k_g ?_;first|(refine al_gy' rfl rfl (by with_reducible rfl) ?_)|(refine al_gnf rfl rfl (by with_reducible rfl) rfl ?_)|(refine al_gsp rfl rfl (fun hc => ?_) (fun hc => ?_) <;> (try (exfalso;omega))))|(refine k_load ?_;first|(refine al_v (ov_load_agg rfl rfl rfl) rfl ?_))|(refine k_bin ?_;first|(refine al_v (ov_cmp rfl rfl rfl) rfl ?_)|(refine al_v (ov_add rfl rfl (by (first|exact w64 (by omega) (by omega)|rfl))) rfl ?_))|(refine k_pick ?_;first|(refine al_v (ov_pick_t' rfl (by with_reducible rfl) rfl) rfl ?_)|(refine al_v (ov_pick_f' rfl (by with_reducible rfl) rfl) rfl ?_))|(refine al_v (ov_assign rfl) rfl ?_)|(refine al_nil ?_)|(refine al_v (ov_not_t rfl (by with_reducible rfl)) rfl ?_)|(refine al_v (ov_not_f rfl (by with_reducible rfl)) rfl ?_))|(first|(refine thn_n ?_)|(refine k_awp ?_;first|(refine awp_seq (awp_region ?_))|(refine awp_seq ?_)|(refine awp_region ?_)|(refine k_cond ?_;first|(refine awp_cond_t' rfl (by with_reducible rfl) ?_)|(refine awp_cond_f' rfl (by with_reducible rfl) ?_)|(refine awp_cond_p rfl (fun hc => ?_) (fun hc => ?_) <;> (try (exfalso;omega))))|(refine awp_block ?_)|(refine awp_ret ?_)|(refine awp_skip ?_)|(refine awp_exit ?_))|(refine thn_ret ?_)|(refine lq_exit ?_)|(refine lq_ret ?_)|(refine thn_exit ?_)|(refine inb_n ?_)|(refine inb_ret ?_)|(refine inb_here ?_)))
      refine ret2 (by first | exact .inr rfl | exact .inl rfl) rfl rfl rfl ?_
      exact ⟨by rw [hTi], rfl⟩
end
end Go.Proofs.YtnjolbnbpfjdiaaDoor.L

namespace Go.Proofs.YtnjolbnbpfjdiaaDoor.L
open Go Go.RowKit Go.Proofs
set_option linter.unusedVariables false
set_option linter.unusedSimpArgs false
set_option maxRecDepth 100000
attribute [local irreducible] AL QL AWp Thn InB RetQ ACalls LoopQ HL HO HW HQ NoG JmpQ MidQ HF

def txtAV (l : List (List UInt8)) : List (List AV) := l.map fun x => [.str x]
/-- What the library's variables hold: a number; the powers of ten. -/
structure Tabs (w0 : World) (base : Nat) : Prop where
  g : Glob w0 base
  lt : 4 ≤ base
  es : ∃ te pe, w0.cell? ⟨2, 0, none⟩ = some (.iface te pe)
  er : ∃ te pe, w0.cell? ⟨3, 0, none⟩ = some (.iface te pe)
  pow : Lib.TabIs Tryd.prog w0 "internal/strconv.uint64pow10" .u64 Lib.pow10Tab
theorem nmI_row {op : Int} (h1 : 1 ≤ op) (h2 : op ≤ 25) : (txtAV nameL)[(op - 1).toNat]? = some [.str (nmI op)] := by
  have hl : (op - 1).toNat < nameL.length := by rw [nameL_len]; omega
  unfold txtAV nmI
  rw [List.getElem?_map, List.getElem?_eq_getElem hl, List.getD_eq_getElem?_getD, List.getElem?_eq_getElem hl]
  rfl
/-- The text of an instruction. -/
def insS (p : Int × Int) : List UInt8 := nmI p.1 ++ ((if hasAP p.1 then 32 :: Lib.itoa p.2 else []) ++ [10])
def printI (l : Ins) : List UInt8 := l.flatMap insS
/-- Numbers that an int holds. -/
def InI (l : Ins) : Prop := ∀ p ∈ l, -9223372036854775808 ≤ p.2 ∧ p.2 ≤ 9223372036854775807
theorem nmI_len (op : Int) : (nmI op).length ≤ 5 := by
  unfold nmI
  rw [List.getD_eq_getElem?_getD]
  have : ∀ k : Fin 25, ((nameL[k.1]?).getD []).length ≤ 5 := by decide +kernel
  by_cases h : (op - 1).toNat < 25
  · exact this ⟨_, h⟩
  · rw [List.getElem?_eq_none (by rw [nameL_len]; omega)]; decide
theorem insS_len {p : Int × Int} (h : -9223372036854775808 ≤ p.2 ∧ p.2 ≤ 9223372036854775807) : (insS p).length ≤ 28 := by
  unfold insS
  have h1 := nmI_len p.1
  have h2 := Lib.itoa_length_le p.2 h.1 h.2
  rw [List.length_append, List.length_append]
  split
  · simp only [List.length_cons, List.length_nil]; omega
  · simp only [List.length_cons, List.length_nil]; omega
theorem printI_len : ∀ {l : Ins}, InI l → (printI l).length ≤ l.length * 28 := by
  intro l
  induction l with
  | nil => intro _; exact Nat.le_refl _
  | cons p l ih =>
    intro h
    have h1 := insS_len (h p (by simp))
    have h2 := ih fun q hq => h q (by simp [hq])
    unfold printI at h2 ⊢
    rw [List.flatMap_cons, List.length_append, List.length_cons]
    omega
theorem printI_next {l : Ins} {i : Nat} {p : Int × Int} (h : l[i]? = some p) : printI (l.take (i + 1)) = printI (l.take i) ++ insS p := by
  unfold printI
  rw [List.take_add_one, h]
  simp
section
variable {w0 : World} {base : Nat}
theorem s_names : PCalls (EE w0 base) 46 [] fun rv => rv = .rs (txtAV nameL) := by
  refine acalls_of Tryd.func46 rfl rfl rfl .nil ?_
  repeat' (first|(refine k_al ?_;first|(refine al_v (ov_assign rfl) rfl ?_)|(refine al_nil ?_)|(refine al_buildSlice (by rfl) (by rfl) (by rfl) (by rfl) (by decide) (by decide) (by rfl) (by rfl) (by repeat constructor) (by rfl) (by repeat constructor) (by rfl) (by first|exact ln0) (by repeat constructor) rfl ?_))|(first|(refine thn_n ?_)|(refine k_awp ?_;first|(refine awp_seq (awp_region ?_))|(refine awp_seq ?_)|(refine awp_region ?_)|(refine awp_ret ?_))))
  refine retq_wkn (.freeze 0 rfl (by repeat constructor)) ?_
  refine ret1 (by first | exact .inr rfl | exact .inl rfl) rfl rfl ?_
  exact ⟨rfl, rfl⟩
abbrev nmV (op : Int) : AV := .tup [.str (if 1 ≤ op ∧ op ≤ 25 then nmI op else []), .int .i64 (if 1 ≤ op ∧ op ≤ 25 then 0 else 3)]
theorem s_codeName {op : Int} : PCalls (EE w0 base) 21 [.int .i64 op] fun rv => rv = nmV op := by
  refine acalls_of Tryd.func21 rfl rfl rfl (.cons .nil) ?_
  unfold nmV
  by_cases h : 1 ≤ op ∧ op ≤ 25
  · rw [if_pos h, if_pos h]
    obtain ⟨h1, h2⟩ := h
    have hrow := nmI_row h1 h2
    repeat' (first|(first|(refine al_v (ov_indexAddr rfl rfl (by omega) hrow rfl) rfl ?_)|(refine k_call ?_;refine al_call rfl rfl rfl rfl s_names ?_;rintro _ rfl))|(refine k_al ?_;first|(refine al_v (ov_move rfl) rfl ?_)|(refine k_g ?_;first|(refine al_gy' rfl rfl (by with_reducible rfl) ?_)|(refine al_gnf rfl rfl (by with_reducible rfl) rfl ?_)|(refine al_gsp rfl rfl (fun hc => ?_) (fun hc => ?_) <;> (try (exfalso;omega))))|(refine k_load ?_;first|(refine al_v (ov_load rfl rfl) rfl ?_))|(refine k_bin ?_;first|(refine al_v (ov_cmp rfl rfl rfl) rfl ?_)|(refine al_v (ov_sub rfl rfl (by (first|exact w64 (by omega) (by omega)|rfl))) rfl ?_))|(refine k_pick ?_;first|(refine al_v (ov_pick_t' rfl (by with_reducible rfl) rfl) rfl ?_)|(refine al_v (ov_pick_f' rfl (by with_reducible rfl) rfl) rfl ?_))|(refine al_v (ov_assign rfl) rfl ?_)|(refine al_nil ?_))|(first|(refine thn_n ?_)|(refine k_awp ?_;first|(refine awp_seq (awp_region ?_))|(refine awp_seq ?_)|(refine awp_region ?_)|(refine k_cond ?_;first|(refine awp_cond_t' rfl (by with_reducible rfl) ?_)|(refine awp_cond_p rfl (fun hc => ?_) (fun hc => ?_) <;> (try (exfalso;omega))))|(refine awp_ret ?_)|(refine awp_skip ?_))|(refine thn_ret ?_)))
    refine ret2 (by first | exact .inr rfl | exact .inl rfl) rfl rfl rfl ?_
    exact ⟨rfl, rfl⟩
  · rw [if_neg h, if_neg h]
    repeat' (first|(refine k_al ?_;first|(refine al_v (ov_move rfl) rfl ?_)|(refine k_g ?_;first|(refine al_gy' rfl rfl (by with_reducible rfl) ?_)|(refine al_gnf rfl rfl (by with_reducible rfl) rfl ?_)|(refine al_gsp rfl rfl (fun hc => ?_) (fun hc => ?_) <;> (try (exfalso;omega))))|(refine k_load ?_;first|(refine al_v (ov_load rfl rfl) rfl ?_))|(refine k_bin ?_;first|(refine al_v (ov_cmp rfl rfl rfl) rfl ?_)|(refine al_v (ov_sub rfl rfl (by (first|exact w64 (by omega) (by omega)|rfl))) rfl ?_))|(refine k_pick ?_;first|(refine al_v (ov_pick_t' rfl (by with_reducible rfl) rfl) rfl ?_)|(refine al_v (ov_pick_f' rfl (by with_reducible rfl) rfl) rfl ?_))|(refine al_v (ov_assign rfl) rfl ?_)|(refine al_nil ?_))|(first|(refine thn_n ?_)|(refine k_awp ?_;first|(refine awp_seq (awp_region ?_))|(refine awp_seq ?_)|(refine awp_region ?_)|(refine k_cond ?_;first|(refine awp_cond_t' rfl (by with_reducible rfl) ?_)|(refine awp_cond_p rfl (fun hc => ?_) (fun hc => ?_) <;> (try (exfalso;omega))))|(refine awp_ret ?_)|(refine awp_skip ?_))|(refine thn_ret ?_)))
    all_goals
      refine ret2 (by first | exact .inr rfl | exact .inl rfl) rfl rfl rfl ?_
      exact ⟨rfl, rfl⟩
theorem s_nameR {op : Int} : PCalls (EE w0 base) 22 [.int .i64 op] fun rv => rv = nmV op := by
  refine acalls_of Tryd.func22 rfl rfl rfl (.cons .nil) ?_
  unfold nmV
  by_cases h : 1 ≤ op ∧ op ≤ 25
  · rw [if_pos h, if_pos h]
    obtain ⟨h1, h2⟩ := h
    have hrow := nmI_row h1 h2
    repeat' (first|(first|(refine al_wkn (.freeze 4 rfl (by repeat constructor)) ?_)|(refine al_v (ov_indexAddr (xs := txtAV nameL) rfl rfl (by omega) hrow rfl) rfl ?_))|(refine k_al ?_;first|(refine al_v (ov_move rfl) rfl ?_)|(refine k_g ?_;first|(refine al_gy' rfl rfl (by with_reducible rfl) ?_)|(refine al_gnf rfl rfl (by with_reducible rfl) rfl ?_)|(refine al_gsp rfl rfl (fun hc => ?_) (fun hc => ?_) <;> (try (exfalso;omega))))|(refine k_load ?_;first|(refine al_v (ov_load rfl rfl) rfl ?_))|(refine k_bin ?_;first|(refine al_v (ov_cmp rfl rfl rfl) rfl ?_)|(refine al_v (ov_sub rfl rfl (by (first|exact w64 (by omega) (by omega)|rfl))) rfl ?_))|(refine k_pick ?_;first|(refine al_v (ov_pick_t' rfl (by with_reducible rfl) rfl) rfl ?_)|(refine al_v (ov_pick_f' rfl (by with_reducible rfl) rfl) rfl ?_))|(refine al_v (ov_assign rfl) rfl ?_)|(refine al_nil ?_)|(refine al_buildSlice (by rfl) (by rfl) (by rfl) (by rfl) (by decide) (by decide) (by rfl) (by rfl) (by repeat constructor) (by rfl) (by repeat constructor) (by rfl) (by first|exact ln0) (by repeat constructor) rfl ?_))|(first|(refine thn_n ?_)|(refine k_awp ?_;first|(refine awp_seq (awp_region ?_))|(refine awp_seq ?_)|(refine awp_region ?_)|(refine k_cond ?_;first|(refine awp_cond_t' rfl (by with_reducible rfl) ?_)|(refine awp_cond_p rfl (fun hc => ?_) (fun hc => ?_) <;> (try (exfalso;omega))))|(refine awp_ret ?_)|(refine awp_skip ?_))|(refine thn_ret ?_)))
    refine ret2 (by first | exact .inr rfl | exact .inl rfl) rfl rfl rfl ?_
    exact ⟨rfl, rfl⟩
  · rw [if_neg h, if_neg h]
    repeat' (first|(refine k_al ?_;first|(refine al_v (ov_move rfl) rfl ?_)|(refine k_g ?_;first|(refine al_gy' rfl rfl (by with_reducible rfl) ?_)|(refine al_gnf rfl rfl (by with_reducible rfl) rfl ?_)|(refine al_gsp rfl rfl (fun hc => ?_) (fun hc => ?_) <;> (try (exfalso;omega))))|(refine k_load ?_;first|(refine al_v (ov_load rfl rfl) rfl ?_))|(refine k_bin ?_;first|(refine al_v (ov_cmp rfl rfl rfl) rfl ?_)|(refine al_v (ov_sub rfl rfl (by (first|exact w64 (by omega) (by omega)|rfl))) rfl ?_))|(refine k_pick ?_;first|(refine al_v (ov_pick_t' rfl (by with_reducible rfl) rfl) rfl ?_)|(refine al_v (ov_pick_f' rfl (by with_reducible rfl) rfl) rfl ?_))|(refine al_v (ov_assign rfl) rfl ?_)|(refine al_nil ?_)|(refine al_buildSlice (by rfl) (by rfl) (by rfl) (by rfl) (by decide) (by decide) (by rfl) (by rfl) (by repeat constructor) (by rfl) (by repeat constructor) (by rfl) (by first|exact ln0) (by repeat constructor) rfl ?_))|(first|(refine thn_n ?_)|(refine k_awp ?_;first|(refine awp_seq (awp_region ?_))|(refine awp_seq ?_)|(refine awp_region ?_)|(refine k_cond ?_;first|(refine awp_cond_t' rfl (by with_reducible rfl) ?_)|(refine awp_cond_p rfl (fun hc => ?_) (fun hc => ?_) <;> (try (exfalso;omega))))|(refine awp_ret ?_)|(refine awp_skip ?_))|(refine thn_ret ?_)))
    all_goals
      refine ret2 (by first | exact .inr rfl | exact .inl rfl) rfl rfl rfl ?_
      exact ⟨rfl, rfl⟩
theorem s_hasAR {op : Int} : PCalls (EE w0 base) 45 [.int .i64 op] fun rv => rv = .bool (decide (hasAP op)) := by
  refine acalls_of Tryd.func45 rfl rfl rfl (.cons .nil) ?_
  repeat' (first|(refine k_al ?_;first|(refine al_v (ov_move rfl) rfl ?_)|(refine k_g ?_;first|(refine al_gy' rfl rfl (by with_reducible rfl) ?_)|(refine al_gnf rfl rfl (by with_reducible rfl) rfl ?_)|(refine al_gsp rfl rfl (fun hc => ?_) (fun hc => ?_) <;> (try (exfalso;omega))))|(refine k_bin ?_;first|(refine al_v (ov_cmp rfl rfl rfl) rfl ?_))|(refine k_pick ?_;first|(refine al_v (ov_pick_t' rfl (by with_reducible rfl) rfl) rfl ?_)|(refine al_v (ov_pick_f' rfl (by with_reducible rfl) rfl) rfl ?_))|(refine al_v (ov_assign rfl) rfl ?_)|(refine al_nil ?_))|(first|(refine thn_n ?_)|(refine k_awp ?_;first|(refine awp_seq (awp_region ?_))|(refine awp_seq ?_)|(refine awp_region ?_)|(refine awp_ret ?_))))
  all_goals
    refine ret1 (by first | exact .inr rfl | exact .inl rfl) rfl rfl ?_
    refine ⟨congrArg AV.bool ?_, rfl⟩
    rw [Bool.eq_iff_iff]
    simp only [decide_eq_true_eq, true_iff, false_iff, Bool.false_eq_true]
    unfold hasAP
    omega
def takL : List Int := [1, 3, 20, 21, 22, 24]
abbrev numAV (l : List Int) : List (List AV) := l.map fun n => [.int .i64 n]
theorem s_indexN {xs : List Int} {v : Int} (hx : xs.length ≤ 140737488351232) : PCalls (EE w0 base) 86 [.rs (numAV xs), .int .i64 v] fun rv => ∃ k, rv = .int .i64 k ∧ (0 ≤ k ↔ v ∈ xs) := by
  have hl : (numAV xs).length = xs.length := List.length_map _
  refine acalls_of Tryd.func86 rfl rfl rfl (.cons (.cons .nil)) ?_
  repeat' (first|(refine k_al ?_;first|(refine al_v (ov_move rfl) rfl ?_)|(refine k_load ?_;first|(refine al_v (ov_load rfl rfl) rfl ?_))|(refine k_bin ?_;first|(refine al_v (ov_cmp rfl rfl rfl) rfl ?_)|(refine al_v (ov_add rfl rfl (by (first|exact w64 (by omega) (by omega)|rfl))) rfl ?_))|(refine al_v (ov_assign rfl) rfl ?_)|(refine k_call ?_;first|(refine al_v (ov_len_rs rfl) rfl ?_))|(refine al_nil ?_))|(first|(refine thn_n ?_)|(refine k_awp ?_;first|(refine awp_seq (awp_region ?_))|(refine awp_seq ?_)|(refine awp_region ?_)|(refine k_cond ?_;first|(refine awp_cond_p rfl (fun hc => ?_) (fun hc => ?_) <;> (try (exfalso;omega))))|(refine awp_block ?_)|(refine awp_ret ?_)|(refine awp_skip ?_)|(refine awp_exit ?_))|(refine thn_ret ?_)|(refine lq_exit ?_)|(refine lq_ret ?_)|(refine thn_exit ?_)|(refine inb_n ?_)|(refine inb_ret ?_)|(refine inb_here ?_)))
  refine awp_loopq (fun k : Nat => ⟨[(0, .rs (numAV xs)), (1, .int .i64 v), (7, .int .i64 ((numAV xs).length : Int)), (8, .int .i64 k)], []⟩) (fun k => k ≤ xs.length ∧ v ∉ xs.take k) (fun k => xs.length - k) 0 (.of (.same (by repeat constructor))) ⟨Nat.zero_le _, by simp⟩ ?_
  rintro i ⟨hi, hno⟩
  try dsimp only
  by_cases hlt : i < xs.length
  · obtain ⟨p, hp⟩ : ∃ p, xs[i]? = some p := ⟨_, List.getElem?_eq_getElem hlt⟩
    have hrow : (numAV xs)[((i : Nat) : Int).toNat]? = some [.int .i64 p] := by
      have : ((i : Nat) : Int).toNat = i := rfl
      rw [this, List.getElem?_map, hp]
      rfl
    repeat' (first|((refine al_v (ov_indexAddr rfl rfl (by omega) hrow rfl) rfl ?_))|(refine k_al ?_;first|(refine al_v (ov_move rfl) rfl ?_)|(refine k_load ?_;first|(refine al_v (ov_load rfl rfl) rfl ?_))|(refine k_bin ?_;first|(refine al_v (ov_cmp rfl rfl rfl) rfl ?_)|(refine al_v (ov_add rfl rfl (by (first|exact w64 (by omega) (by omega)|rfl))) rfl ?_))|(refine al_v (ov_assign rfl) rfl ?_)|(refine k_call ?_;first|(refine al_v (ov_len_rs rfl) rfl ?_))|(refine al_nil ?_))|(first|(refine thn_n ?_)|(refine k_awp ?_;first|(refine awp_seq (awp_region ?_))|(refine awp_seq ?_)|(refine awp_region ?_)|(refine k_cond ?_;first|(refine awp_cond_p rfl (fun hc => ?_) (fun hc => ?_) <;> (try (exfalso;omega))))|(refine awp_block ?_)|(refine awp_ret ?_)|(refine awp_skip ?_)|(refine awp_exit ?_))|(refine thn_ret ?_)|(refine lq_exit ?_)|(refine lq_ret ?_)|(refine thn_exit ?_)|(refine inb_n ?_)|(refine inb_ret ?_)|(refine inb_here ?_)))
    · rename_i hc
      refine ret1 (by first | exact .inr rfl | exact .inl rfl) rfl rfl ?_
      exact ⟨⟨_, rfl, ⟨fun _ => by rw [hc]; exact List.mem_of_getElem? hp, fun _ => by omega⟩⟩, rfl⟩
    · rename_i hc
      first | refine lq_back (i + 1) (.of (.same (by repeat constructor))) ?_ ?_ | fail
      · refine ⟨by omega, fun hm => ?_⟩
        rw [List.take_add_one, hp] at hm
        rcases List.mem_append.1 hm with hm | hm
        · exact hno hm
        · exact hc (by simpa using hm)
      · omega
  · rw [List.take_of_length_le (by omega)] at hno
    repeat' (first|(refine k_al ?_;first|(refine al_v (ov_move rfl) rfl ?_)|(refine k_load ?_;first|(refine al_v (ov_load rfl rfl) rfl ?_))|(refine k_bin ?_;first|(refine al_v (ov_cmp rfl rfl rfl) rfl ?_)|(refine al_v (ov_add rfl rfl (by (first|exact w64 (by omega) (by omega)|rfl))) rfl ?_))|(refine al_v (ov_assign rfl) rfl ?_)|(refine k_call ?_;first|(refine al_v (ov_len_rs rfl) rfl ?_))|(refine al_nil ?_))|(first|(refine thn_n ?_)|(refine k_awp ?_;first|(refine awp_seq (awp_region ?_))|(refine awp_seq ?_)|(refine awp_region ?_)|(refine k_cond ?_;first|(refine awp_cond_p rfl (fun hc => ?_) (fun hc => ?_) <;> (try (exfalso;omega))))|(refine awp_block ?_)|(refine awp_ret ?_)|(refine awp_skip ?_)|(refine awp_exit ?_))|(refine thn_ret ?_)|(refine lq_exit ?_)|(refine lq_ret ?_)|(refine thn_exit ?_)|(refine inb_n ?_)|(refine inb_ret ?_)|(refine inb_here ?_)))
    refine ret1 (by first | exact .inr rfl | exact .inl rfl) rfl rfl ?_
    exact ⟨⟨_, rfl, ⟨fun h => absurd h (by decide), fun h => absurd h hno⟩⟩, rfl⟩
theorem s_containsN {xs : List Int} {v : Int} (hx : xs.length ≤ 140737488351232) : PCalls (EE w0 base) 66 [.rs (numAV xs), .int .i64 v] fun rv => rv = .bool (decide (v ∈ xs)) := by
  refine acalls_of Tryd.func66 rfl rfl rfl (.cons (.cons .nil)) ?_
  repeat' (first|((refine k_call ?_;refine al_call rfl rfl rfl rfl (s_indexN hx) ?_;rintro _ ⟨n, rfl, hn⟩))|(refine k_al ?_;first|(refine al_v (ov_move rfl) rfl ?_)|(refine k_bin ?_;first|(refine al_v (ov_cmp rfl rfl rfl) rfl ?_))|(refine al_v (ov_assign rfl) rfl ?_)|(refine al_nil ?_))|(first|(refine thn_n ?_)|(refine k_awp ?_;first|(refine awp_seq (awp_region ?_))|(refine awp_seq ?_)|(refine awp_region ?_)|(refine awp_ret ?_))))
  refine ret1 (by first | exact .inr rfl | exact .inl rfl) rfl rfl ?_
  refine ⟨congrArg AV.bool ?_, rfl⟩
  rw [Bool.eq_iff_iff, decide_eq_true_eq, decide_eq_true_eq]
  exact hn
theorem s_takes {op : Int} : PCalls (EE w0 base) 44 [.int .i64 op] fun rv => rv = .bool (decide (hasAP op)) := by
  have hC := s_containsN (w0 := w0) (base := base) (xs := takL) (v := op) (by decide)
  have he : decide (op ∈ takL) = decide (hasAP op) := by
    rw [Bool.eq_iff_iff, decide_eq_true_eq, decide_eq_true_eq]
    unfold takL hasAP
    simp
  rw [he] at hC
  refine acalls_of Tryd.func44 rfl rfl rfl (.cons .nil) ?_
  repeat' (first|(first|(refine k_call ?_;refine al_wkn (.freeze 3 rfl (by repeat constructor)) ?_;refine al_call rfl rfl rfl rfl hC ?_;rintro _ rfl))|(refine k_al ?_;first|(refine al_v (ov_move rfl) rfl ?_)|(refine al_v (ov_assign rfl) rfl ?_)|(refine al_nil ?_)|(refine al_buildSlice (by rfl) (by rfl) (by rfl) (by rfl) (by decide) (by decide) (by rfl) (by rfl) (by repeat constructor) (by rfl) (by repeat constructor) (by rfl) (by first|exact ln0) (by repeat constructor) rfl ?_))|(first|(refine thn_n ?_)|(refine k_awp ?_;first|(refine awp_seq (awp_region ?_))|(refine awp_seq ?_)|(refine awp_region ?_)|(refine awp_ret ?_))))
  refine ret1 (by first | exact .inr rfl | exact .inl rfl) rfl rfl ?_
  exact ⟨rfl, rfl⟩
theorem tab_at {I : Imm} {ν : Nu} {H : List AO} {w : World} (hG : Tabs w0 base) (hh : HR (EE w0 base) I ν H w) : Lib.TabIs Tryd.prog w "internal/strconv.uint64pow10" .u64 Lib.pow10Tab := by
  have hp := hG.pow
  unfold Lib.TabIs World.var? at hp ⊢
  have hg : Tryd.prog.globalNamed "internal/strconv.uint64pow10" = some ((Tryd.prog.globalNamed "internal/strconv.uint64pow10").getD 0) := by kernel_rfl
  have hlt : (Tryd.prog.globalNamed "internal/strconv.uint64pow10").getD 0 < 4 := of_decide_eq_true (by kernel_rfl)
  rw [hg] at hp ⊢
  simp only [Option.bind_some] at hp ⊢
  rw [hh.below.block _ (Nat.lt_of_lt_of_le hlt hG.lt)]
  exact hp
theorem below_grow {w : World} (os : Array Obj) : Below w.heap.size w (Go.Sort.grow w os) :=
  ⟨rfl, rfl, rfl, by simp [Go.Sort.grow], fun k hk => by simp [Go.Sort.grow, Array.getElem?_append, hk]⟩
theorem s_itoaA {n : Int} (hG : Tabs w0 base) (h0 : -9223372036854775808 ≤ n) (h1 : n ≤ 9223372036854775807) : PCalls (EE w0 base) 30 [.int .i64 n] fun rv => rv = .str (Lib.itoa n) := by
  refine pcalls_plain rfl fun I ν w vs hh hl hv => ?_
  match vs, hl with
  | [v1], _ =>
  have e1 := (hv 0 _ v1 rfl rfl).int_inv
  subst e1
  exact ⟨_, fun w I => .pure (.str _), (Tryd.strconv_Itoa n h0 h1 w (tab_at hG hh)).mono fun e w' ⟨he, k, os, hw⟩ => ⟨he, by subst hw; exact (below_drawn k).trans (show Below w.heap.size (w.drewN k) _ from below_grow (w := w.drewN k) os)⟩⟩
end
end Go.Proofs.YtnjolbnbpfjdiaaDoor.L

namespace Go.Proofs.YtnjolbnbpfjdiaaDoor.L
open Go Go.RowKit Go.Proofs
set_option linter.unusedVariables false
set_option linter.unusedSimpArgs false
set_option maxRecDepth 100000
attribute [local irreducible] AL QL AWp Thn InB RetQ ACalls LoopQ HL HO HW HQ NoG JmpQ MidQ HF

theorem firstBad_none {n : Nat} : ∀ {l : Ins} {k : Nat}, firstBad n l k = none ↔ ∀ p ∈ l, mayP n p := by
  intro l
  induction l with
  | nil => intro k; simp [firstBad]
  | cons p l ih =>
    intro k
    rw [firstBad]
    by_cases h : mayP n p
    · rw [if_pos h, ih]
      simp [h]
    · rw [if_neg h]
      simp [h]
theorem check_ok {l : Ins} : (checkI l).1 = 0 ↔ (1 ≤ l.length ∧ l.length ≤ 1024) ∧ ∀ p ∈ l, mayP l.length p := by
  unfold checkI
  split
  · rename_i h
    constructor
    · intro k; exact absurd k (by decide)
    · intro k; omega
  · rename_i h
    rw [← firstBad_none (k := 0)]
    cases hb : firstBad l.length l 0 with
    | none => exact ⟨fun _ => ⟨by omega, rfl⟩, fun _ => rfl⟩
    | some k => exact ⟨fun k => absurd k (show ¬ (130 : Int) = 0 by decide), fun k => by cases k.2⟩
theorem check_two {l : Ins} (h : (checkI l).1 = 0) : checkI l = (0, 0) := by
  unfold checkI at h ⊢
  split at h
  · cases h
  · rename_i hb
    rw [if_neg hb]
    revert h
    cases firstBad l.length l 0 with
    | none => intro _; rfl
    | some k => intro h; cases h
theorem may_op {n : Nat} {p : Int × Int} (h : mayP n p) : 1 ≤ p.1 ∧ p.1 ≤ 25 := by
  unfold mayP at h
  omega
theorem insS_has {p : Int × Int} (l : List UInt8) (h : hasAP p.1) : ((l ++ nmI p.1) ++ ([32] ++ Lib.itoa p.2)) ++ [10] = l ++ insS p := by
  unfold insS
  rw [if_pos h]
  simp
theorem insS_not {p : Int × Int} (l : List UInt8) (h : ¬ hasAP p.1) : (l ++ nmI p.1) ++ [10] = l ++ insS p := by
  unfold insS
  rw [if_neg h]
  simp
theorem bld_rn {l : List UInt8} {ver : Nat} {o : AO} (h : BldB l ver o) {r : Nat → Nat} : RnO r o o := by
  rcases h with rfl | ⟨wr, rfl⟩
  · exact .row
  · exact .arr
section
variable {w0 : World} {base : Nat}
abbrev prnC (l : Ins) : AV := .tup [.str (if (checkI l).1 = 0 then printI l else []), .int .i64 (checkI l).1]
set_option maxHeartbeats 8000000 in
theorem s_codePrint {l : Ins} (hG : Tabs w0 base) (hl : l.length ≤ 140737488351232) (hI : InI l) : PCalls (EE w0 base) 19 [.rs (insAV l)] fun rv => rv = prnC l := by
  have hll := insAV_len l
  have hC := s_check (w0 := w0) (base := base) hl
  refine acalls_of Tryd.func19 rfl rfl rfl (.cons .nil) ?_
  unfold prnC
  by_cases h0 : (checkI l).1 = 0
  · rw [if_pos h0]
    obtain ⟨⟨hl1, hl2⟩, hmay⟩ := check_ok.1 h0
    rw [check_two h0] at hC ⊢
    repeat' (first|(first|(refine al_alloc_t rfl rfl rfl (by first|exact ln0|exact ln2) (by repeat constructor) rfl ?_)|(refine k_call ?_;refine al_v (ov_len_c l.length rfl hll) rfl ?_)|(refine k_call ?_;refine al_call rfl rfl rfl rfl hC ?_;rintro _ rfl))|(refine k_al ?_;first|(refine al_v (ov_move rfl) rfl ?_)|(refine al_v (ov_fieldAddr rfl rfl) rfl ?_)|(refine k_load ?_;first|(refine al_v (ov_load rfl rfl) rfl ?_)|(refine al_v (ov_load_agg rfl rfl rfl) rfl ?_))|(refine k_bin ?_;first|(refine al_v (ov_cmp rfl rfl rfl) rfl ?_)|(refine al_v (ov_cat rfl rfl (by first|omega|(simp only [List.length_append, List.length_cons, List.length_nil];omega)|(simp;omega))) rfl ?_)|(refine al_v (ov_add rfl rfl (by (first|exact w64 (by omega) (by omega)|rfl))) rfl ?_))|(refine al_v (ov_assign rfl) rfl ?_)|(refine al_v (ov_extract rfl rfl) rfl ?_)|(refine al_nil ?_)|(refine al_alloc rfl rfl rfl (by first|exact ln0|exact ln2) (by repeat constructor) rfl ?_)|(refine al_store rfl rfl rfl rfl rfl (by repeat constructor) (by repeat constructor) ?_))|(first|(refine thn_n ?_)|(refine k_awp ?_;first|(refine awp_seq (awp_region ?_))|(refine awp_seq ?_)|(refine awp_region ?_)|(refine k_cond ?_;first|(refine awp_cond_t' rfl (by with_reducible rfl) ?_)|(refine awp_cond_f' rfl (by with_reducible rfl) ?_)|(refine awp_cond_p rfl (fun hc => ?_) (fun hc => ?_) <;> (try (exfalso;omega))))|(refine awp_block ?_)|(refine awp_ret ?_)|(refine awp_skip ?_)|(refine awp_exit ?_))|(refine thn_ret ?_)|(refine lq_exit ?_)|(refine thn_exit ?_)|(refine inb_n ?_)|(refine inb_here ?_)))
    refine awp_wkn (.adoptBox (id := 0) (k := 1) (e := 5) (sz := 1) rfl rfl (by decide) rfl rfl rfl) ?_
    refine awp_loopq (fun q : Nat × AV × Nat => ⟨[(6, .op 0 0), (19, .rs (insAV l)), (20, .int .i64 l.length), (21, .int .i64 q.1)], [bldBox q.2.1 q.2.2, .row 5 1 q.2.2 0 (bytesAV (printI (l.take q.1)))]⟩) (fun q => q.1 ≤ l.length ∧ (q.2.1 = .nilp ∨ q.2.1 = .op 0 0)) (fun q => l.length - q.1) (0, .nilp, 0) (.of (.same (by repeat constructor))) ⟨Nat.zero_le _, .inl rfl⟩ ?_
    rintro ⟨i, pv, ver⟩ ⟨hi, hp⟩
    dsimp only at hi hp ⊢
    have hpl := printI_len (l := l.take i) (fun q hq => hI q (List.mem_of_mem_take hq))
    have htl : (l.take i).length = i := by rw [List.length_take]; omega
    obtain ⟨bs, hbs⟩ : ∃ bs, bs = printI (l.take i) := ⟨_, rfl⟩
    rw [← hbs] at hpl ⊢
    by_cases hlt : i < l.length
    · obtain ⟨p, hpi⟩ : ∃ p, l[i]? = some p := ⟨_, List.getElem?_eq_getElem hlt⟩
      have hrow := insAV_row hpi
      have hmem := List.mem_of_getElem? hpi
      have hop := may_op (hmay p hmem)
      have hin := hI p hmem
      have hN := s_codeName (w0 := w0) (base := base) (op := p.1)
      unfold nmV at hN
      rw [if_pos hop, if_pos hop] at hN
      have hT := s_takes (w0 := w0) (base := base) (op := p.1)
      have hIt := s_itoaA (w0 := w0) (base := base) hG hin.1 hin.2
      have hil := Lib.itoa_length_le p.2 hin.1 hin.2
      have hnl := nmI_len p.1
      have hnx := printI_next hpi
      have hq := hp
      by_cases hA : hasAP p.1
      · rw [decide_eq_true hA] at hT
        have e := insS_has bs hA
        rw [hbs, ← hnx] at e
        rw [← hbs] at e
        rcases hp with rfl | rfl
        all_goals
          have hW1 := a_writeString (w0 := w0) (base := base) hq (bs := bs) (s := nmI p.1) (ver := ver) (by omega)
          have hW2 := a_writeString (w0 := w0) (base := base) (.inr rfl) (bs := bs ++ nmI p.1) (s := [32] ++ Lib.itoa p.2) (ver := ver + 1) (by simp only [List.length_append, List.length_cons, List.length_nil]; omega)
          have hW3 := a_writeString (w0 := w0) (base := base) (.inr rfl) (bs := (bs ++ nmI p.1) ++ ([32] ++ Lib.itoa p.2)) (s := [10]) (ver := ver + 1 + 1) (by simp only [List.length_append, List.length_cons, List.length_nil]; omega)
          rw [e] at hW3
          repeat' (first|(first|(refine al_v (ov_indexAddr rfl rfl (by omega) hrow rfl) rfl ?_)|(refine k_call ?_;refine al_call rfl rfl rfl rfl hN ?_;rintro _ rfl)|(refine k_call ?_;refine al_call rfl rfl rfl rfl hT ?_;rintro _ rfl)|(refine k_call ?_;refine al_call rfl rfl rfl rfl hIt ?_;rintro _ rfl)|(refine k_call ?_;refine al_acall [0, 1] rfl rfl hW1 ?_ ?_ rfl rfl ?_;(focus ((repeat constructor);done));(focus ((repeat constructor);done));rintro _ _ ⟨rfl, rfl⟩;refine ⟨_, _, by repeat constructor, by repeat constructor, ?_⟩)|(refine k_call ?_;refine al_acall [0, 1] rfl rfl hW2 ?_ ?_ rfl rfl ?_;(focus ((repeat constructor);done));(focus ((repeat constructor);done));rintro _ _ ⟨rfl, rfl⟩;refine ⟨_, _, by repeat constructor, by repeat constructor, ?_⟩)|(refine k_call ?_;refine al_acall [0, 1] rfl rfl hW3 ?_ ?_ rfl rfl ?_;(focus ((repeat constructor);done));(focus ((repeat constructor);done));rintro _ _ ⟨rfl, rfl⟩;refine ⟨_, _, by repeat constructor, by repeat constructor, ?_⟩))|(refine k_al ?_;first|(refine al_v (ov_move rfl) rfl ?_)|(refine al_v (ov_fieldAddr rfl rfl) rfl ?_)|(refine k_load ?_;first|(refine al_v (ov_load rfl rfl) rfl ?_)|(refine al_v (ov_load_agg rfl rfl rfl) rfl ?_))|(refine k_bin ?_;first|(refine al_v (ov_cmp rfl rfl rfl) rfl ?_)|(refine al_v (ov_cat rfl rfl (by first|omega|(simp only [List.length_append, List.length_cons, List.length_nil];omega)|(simp;omega))) rfl ?_)|(refine al_v (ov_add rfl rfl (by (first|exact w64 (by omega) (by omega)|rfl))) rfl ?_))|(refine al_v (ov_assign rfl) rfl ?_)|(refine al_v (ov_extract rfl rfl) rfl ?_)|(refine al_nil ?_)|(refine al_alloc rfl rfl rfl (by first|exact ln0|exact ln2) (by repeat constructor) rfl ?_)|(refine al_store rfl rfl rfl rfl rfl (by repeat constructor) (by repeat constructor) ?_))|(first|(refine thn_n ?_)|(refine k_awp ?_;first|(refine awp_seq (awp_region ?_))|(refine awp_seq ?_)|(refine awp_region ?_)|(refine k_cond ?_;first|(refine awp_cond_t' rfl (by with_reducible rfl) ?_)|(refine awp_cond_f' rfl (by with_reducible rfl) ?_)|(refine awp_cond_p rfl (fun hc => ?_) (fun hc => ?_) <;> (try (exfalso;omega))))|(refine awp_block ?_)|(refine awp_ret ?_)|(refine awp_skip ?_)|(refine awp_exit ?_))|(refine thn_ret ?_)|(refine lq_exit ?_)|(refine thn_exit ?_)|(refine inb_n ?_)|(refine inb_here ?_)))
          first|refine lq_back (i + 1, .op 0 0, ver + 1 + 1 + 1) (.of (.same (by repeat constructor))) ?_ ?_|refine lq_back (i + 1, .op 0 0, ver + 1 + 1 + 1) (.of (wk_drop [_] rfl (by repeat constructor) rfl (by repeat constructor) rfl)) ?_ ?_|refine lq_back (i + 1, .op 0 0, ver + 1 + 1 + 1) (.of (wk_drop [_, _] rfl (by repeat constructor) rfl (by repeat constructor) rfl)) ?_ ?_|refine lq_back (i + 1, .op 0 0, ver + 1 + 1 + 1) (.of (wk_drop [_, _, _] rfl (by repeat constructor) rfl (by repeat constructor) rfl)) ?_ ?_
          · exact ⟨by dsimp only; omega, .inr rfl⟩
          · dsimp only; omega
      · rw [decide_eq_false hA] at hT
        have e := insS_not bs hA
        rw [hbs, ← hnx] at e
        rw [← hbs] at e
        rcases hp with rfl | rfl
        all_goals
          have hW1 := a_writeString (w0 := w0) (base := base) hq (bs := bs) (s := nmI p.1) (ver := ver) (by omega)
          have hW3 := a_writeString (w0 := w0) (base := base) (.inr rfl) (bs := bs ++ nmI p.1) (s := [10]) (ver := ver + 1) (by simp only [List.length_append, List.length_cons, List.length_nil]; omega)
          rw [e] at hW3
          repeat' (first|(first|(refine al_v (ov_indexAddr rfl rfl (by omega) hrow rfl) rfl ?_)|(refine k_call ?_;refine al_call rfl rfl rfl rfl hN ?_;rintro _ rfl)|(refine k_call ?_;refine al_call rfl rfl rfl rfl hT ?_;rintro _ rfl)|(refine k_call ?_;refine al_acall [0, 1] rfl rfl hW1 ?_ ?_ rfl rfl ?_;(focus ((repeat constructor);done));(focus ((repeat constructor);done));rintro _ _ ⟨rfl, rfl⟩;refine ⟨_, _, by repeat constructor, by repeat constructor, ?_⟩)|(refine k_call ?_;refine al_acall [0, 1] rfl rfl hW3 ?_ ?_ rfl rfl ?_;(focus ((repeat constructor);done));(focus ((repeat constructor);done));rintro _ _ ⟨rfl, rfl⟩;refine ⟨_, _, by repeat constructor, by repeat constructor, ?_⟩))|(refine k_al ?_;first|(refine al_v (ov_move rfl) rfl ?_)|(refine al_v (ov_fieldAddr rfl rfl) rfl ?_)|(refine k_load ?_;first|(refine al_v (ov_load rfl rfl) rfl ?_)|(refine al_v (ov_load_agg rfl rfl rfl) rfl ?_))|(refine k_bin ?_;first|(refine al_v (ov_cmp rfl rfl rfl) rfl ?_)|(refine al_v (ov_cat rfl rfl (by first|omega|(simp only [List.length_append, List.length_cons, List.length_nil];omega)|(simp;omega))) rfl ?_)|(refine al_v (ov_add rfl rfl (by (first|exact w64 (by omega) (by omega)|rfl))) rfl ?_))|(refine al_v (ov_assign rfl) rfl ?_)|(refine al_v (ov_extract rfl rfl) rfl ?_)|(refine al_nil ?_)|(refine al_alloc rfl rfl rfl (by first|exact ln0|exact ln2) (by repeat constructor) rfl ?_)|(refine al_store rfl rfl rfl rfl rfl (by repeat constructor) (by repeat constructor) ?_))|(first|(refine thn_n ?_)|(refine k_awp ?_;first|(refine awp_seq (awp_region ?_))|(refine awp_seq ?_)|(refine awp_region ?_)|(refine k_cond ?_;first|(refine awp_cond_t' rfl (by with_reducible rfl) ?_)|(refine awp_cond_f' rfl (by with_reducible rfl) ?_)|(refine awp_cond_p rfl (fun hc => ?_) (fun hc => ?_) <;> (try (exfalso;omega))))|(refine awp_block ?_)|(refine awp_ret ?_)|(refine awp_skip ?_)|(refine awp_exit ?_))|(refine thn_ret ?_)|(refine lq_exit ?_)|(refine thn_exit ?_)|(refine inb_n ?_)|(refine inb_here ?_)))
          first|refine lq_back (i + 1, .op 0 0, ver + 1 + 1) (.of (.same (by repeat constructor))) ?_ ?_|refine lq_back (i + 1, .op 0 0, ver + 1 + 1) (.of (wk_drop [_] rfl (by repeat constructor) rfl (by repeat constructor) rfl)) ?_ ?_|refine lq_back (i + 1, .op 0 0, ver + 1 + 1) (.of (wk_drop [_, _] rfl (by repeat constructor) rfl (by repeat constructor) rfl)) ?_ ?_|refine lq_back (i + 1, .op 0 0, ver + 1 + 1) (.of (wk_drop [_, _, _] rfl (by repeat constructor) rfl (by repeat constructor) rfl)) ?_ ?_
          · exact ⟨by dsimp only; omega, .inr rfl⟩
          · dsimp only; omega
    · have hie : l.take i = l := List.take_of_length_le (by omega)
      rw [hie] at hbs
      rw [← hbs]
      have hq := hp
      rcases hp with rfl | rfl
      all_goals
        repeat' (first|((refine k_call ?_;refine al_acall [0, 1] rfl rfl (a_string hq (l := bs) (ver := ver) (.inl rfl) (by omega)) (by repeat constructor) (by repeat (first|exact bld_rn ‹_›|constructor)) rfl rfl ?_;rintro _ _ ⟨rfl, o', rfl, hB⟩;refine ⟨_, _, by repeat constructor, (by repeat (first|exact bld_rn ‹_›|constructor)), ?_⟩))|(refine k_al ?_;first|(refine al_v (ov_move rfl) rfl ?_)|(refine al_v (ov_fieldAddr rfl rfl) rfl ?_)|(refine k_load ?_;first|(refine al_v (ov_load rfl rfl) rfl ?_)|(refine al_v (ov_load_agg rfl rfl rfl) rfl ?_))|(refine k_bin ?_;first|(refine al_v (ov_cmp rfl rfl rfl) rfl ?_)|(refine al_v (ov_cat rfl rfl (by first|omega|(simp only [List.length_append, List.length_cons, List.length_nil];omega)|(simp;omega))) rfl ?_)|(refine al_v (ov_add rfl rfl (by (first|exact w64 (by omega) (by omega)|rfl))) rfl ?_))|(refine al_v (ov_assign rfl) rfl ?_)|(refine al_v (ov_extract rfl rfl) rfl ?_)|(refine al_nil ?_)|(refine al_alloc rfl rfl rfl (by first|exact ln0|exact ln2) (by repeat constructor) rfl ?_)|(refine al_store rfl rfl rfl rfl rfl (by repeat constructor) (by repeat constructor) ?_))|(first|(refine thn_n ?_)|(refine k_awp ?_;first|(refine awp_seq (awp_region ?_))|(refine awp_seq ?_)|(refine awp_region ?_)|(refine k_cond ?_;first|(refine awp_cond_t' rfl (by with_reducible rfl) ?_)|(refine awp_cond_f' rfl (by with_reducible rfl) ?_)|(refine awp_cond_p rfl (fun hc => ?_) (fun hc => ?_) <;> (try (exfalso;omega))))|(refine awp_block ?_)|(refine awp_ret ?_)|(refine awp_skip ?_)|(refine awp_exit ?_))|(refine thn_ret ?_)|(refine lq_exit ?_)|(refine thn_exit ?_)|(refine inb_n ?_)|(refine inb_here ?_)))
        refine ret2 (by first | exact .inr rfl | exact .inl rfl) rfl rfl rfl ?_
        exact ⟨rfl, rfl⟩
  · rw [if_neg h0]
    repeat' (first|(first|(refine k_call ?_;refine al_call rfl rfl rfl rfl hC ?_;rintro _ rfl))|(refine k_al ?_;first|(refine al_v (ov_move rfl) rfl ?_)|(refine al_v (ov_fieldAddr rfl rfl) rfl ?_)|(refine k_load ?_;first|(refine al_v (ov_load rfl rfl) rfl ?_)|(refine al_v (ov_load_agg rfl rfl rfl) rfl ?_))|(refine k_bin ?_;first|(refine al_v (ov_cmp rfl rfl rfl) rfl ?_)|(refine al_v (ov_cat rfl rfl (by first|omega|(simp only [List.length_append, List.length_cons, List.length_nil];omega)|(simp;omega))) rfl ?_)|(refine al_v (ov_add rfl rfl (by (first|exact w64 (by omega) (by omega)|rfl))) rfl ?_))|(refine al_v (ov_assign rfl) rfl ?_)|(refine al_v (ov_extract rfl rfl) rfl ?_)|(refine al_nil ?_)|(refine al_alloc rfl rfl rfl (by first|exact ln0|exact ln2) (by repeat constructor) rfl ?_)|(refine al_store rfl rfl rfl rfl rfl (by repeat constructor) (by repeat constructor) ?_))|(first|(refine thn_n ?_)|(refine k_awp ?_;first|(refine awp_seq (awp_region ?_))|(refine awp_seq ?_)|(refine awp_region ?_)|(refine k_cond ?_;first|(refine awp_cond_t' rfl (by with_reducible rfl) ?_)|(refine awp_cond_f' rfl (by with_reducible rfl) ?_)|(refine awp_cond_p rfl (fun hc => ?_) (fun hc => ?_) <;> (try (exfalso;omega))))|(refine awp_block ?_)|(refine awp_ret ?_)|(refine awp_skip ?_)|(refine awp_exit ?_))|(refine thn_ret ?_)|(refine lq_exit ?_)|(refine thn_exit ?_)|(refine inb_n ?_)|(refine inb_here ?_)))
    refine ret2 (by first | exact .inr rfl | exact .inl rfl) rfl rfl rfl ?_
    exact ⟨rfl, rfl⟩
set_option maxHeartbeats 4000000 in
theorem s_codePrintR {l : Ins} (hG : Tabs w0 base) (hl : l.length ≤ 140737488351232) (hI : InI l) : PCalls (EE w0 base) 20 [.rs (insAV l)] fun rv => rv = prnC l := by
  have hll := insAV_len l
  have hC := s_checkR (w0 := w0) (base := base) hl
  refine acalls_of Tryd.func20 rfl rfl rfl (.cons .nil) ?_
  unfold prnC
  by_cases h0 : (checkI l).1 = 0
  · rw [if_pos h0]
    obtain ⟨⟨hl1, hl2⟩, hmay⟩ := check_ok.1 h0
    rw [check_two h0] at hC ⊢
    repeat' (first|(first|(refine k_call ?_;refine al_call rfl rfl rfl rfl hC ?_;rintro _ rfl))|(refine k_al ?_;first|(refine al_v (ov_move rfl) rfl ?_)|(refine al_v (ov_fieldAddr rfl rfl) rfl ?_)|(refine k_load ?_;first|(refine al_v (ov_load rfl rfl) rfl ?_))|(refine k_bin ?_;first|(refine al_v (ov_cmp rfl rfl rfl) rfl ?_)|(refine al_v (ov_cat rfl rfl (by first|omega|(simp only [List.length_append, List.length_cons, List.length_nil];omega)|(simp;omega))) rfl ?_)|(refine al_v (ov_add rfl rfl (by (first|exact w64 (by omega) (by omega)|rfl))) rfl ?_))|(refine al_v (ov_assign rfl) rfl ?_)|(refine al_v (ov_extract rfl rfl) rfl ?_)|(refine al_nil ?_))|(first|(refine thn_n ?_)|(refine k_awp ?_;first|(refine awp_seq (awp_region ?_))|(refine awp_seq ?_)|(refine awp_region ?_)|(refine k_cond ?_;first|(refine awp_cond_t' rfl (by with_reducible rfl) ?_)|(refine awp_cond_f' rfl (by with_reducible rfl) ?_)|(refine awp_cond_p rfl (fun hc => ?_) (fun hc => ?_) <;> (try (exfalso;omega))))|(refine awp_block ?_)|(refine awp_ret ?_)|(refine awp_skip ?_)|(refine awp_exit ?_))|(refine thn_ret ?_)|(refine lq_exit ?_)|(refine thn_exit ?_)|(refine inb_n ?_)|(refine inb_here ?_)))
    refine awp_loopq (fun i : Nat => ⟨[(0, .rs (insAV l)), (6, .str (printI (l.take i))), (7, .int .i64 i)], []⟩) (fun i => i ≤ l.length) (fun i => l.length - i) 0 (.of (.same (by repeat constructor))) (Nat.zero_le _) ?_
    intro i hi
    try dsimp only
    have hpl := printI_len (l := l.take i) (fun q hq => hI q (List.mem_of_mem_take hq))
    have htl : (l.take i).length = i := by rw [List.length_take]; omega
    obtain ⟨bs, hbs⟩ : ∃ bs, bs = printI (l.take i) := ⟨_, rfl⟩
    rw [← hbs] at hpl ⊢
    by_cases hlt : i < l.length
    · obtain ⟨p, hpi⟩ : ∃ p, l[i]? = some p := ⟨_, List.getElem?_eq_getElem hlt⟩
      have hrow := insAV_row hpi
      have hmem := List.mem_of_getElem? hpi
      have hop := may_op (hmay p hmem)
      have hin := hI p hmem
      have hN := s_nameR (w0 := w0) (base := base) (op := p.1)
      unfold nmV at hN
      rw [if_pos hop, if_pos hop] at hN
      have hT := s_hasAR (w0 := w0) (base := base) (op := p.1)
      have hIt := s_itoaA (w0 := w0) (base := base) hG hin.1 hin.2
      have hil := Lib.itoa_length_le p.2 hin.1 hin.2
      have hnl := nmI_len p.1
      have hnx := printI_next hpi
      by_cases hA : hasAP p.1
      · rw [decide_eq_true hA] at hT
        have e := insS_has bs hA
        rw [hbs, ← hnx] at e
        rw [← hbs] at e
        repeat' (first|(first|(refine k_call ?_;refine al_v (ov_len_c l.length rfl hll) rfl ?_)|(refine al_v (ov_indexAddr rfl rfl (by omega) hrow rfl) rfl ?_)|(refine k_call ?_;refine al_call rfl rfl rfl rfl hN ?_;rintro _ rfl)|(refine k_call ?_;refine al_call rfl rfl rfl rfl hT ?_;rintro _ rfl)|(refine k_call ?_;refine al_call rfl rfl rfl rfl hIt ?_;rintro _ rfl))|(refine k_al ?_;first|(refine al_v (ov_move rfl) rfl ?_)|(refine al_v (ov_fieldAddr rfl rfl) rfl ?_)|(refine k_load ?_;first|(refine al_v (ov_load rfl rfl) rfl ?_))|(refine k_bin ?_;first|(refine al_v (ov_cmp rfl rfl rfl) rfl ?_)|(refine al_v (ov_cat rfl rfl (by first|omega|(simp only [List.length_append, List.length_cons, List.length_nil];omega)|(simp;omega))) rfl ?_)|(refine al_v (ov_add rfl rfl (by (first|exact w64 (by omega) (by omega)|rfl))) rfl ?_))|(refine al_v (ov_assign rfl) rfl ?_)|(refine al_v (ov_extract rfl rfl) rfl ?_)|(refine al_nil ?_))|(first|(refine thn_n ?_)|(refine k_awp ?_;first|(refine awp_seq (awp_region ?_))|(refine awp_seq ?_)|(refine awp_region ?_)|(refine k_cond ?_;first|(refine awp_cond_t' rfl (by with_reducible rfl) ?_)|(refine awp_cond_f' rfl (by with_reducible rfl) ?_)|(refine awp_cond_p rfl (fun hc => ?_) (fun hc => ?_) <;> (try (exfalso;omega))))|(refine awp_block ?_)|(refine awp_ret ?_)|(refine awp_skip ?_)|(refine awp_exit ?_))|(refine thn_ret ?_)|(refine lq_exit ?_)|(refine thn_exit ?_)|(refine inb_n ?_)|(refine inb_here ?_)))
        refine lq_back (i + 1) ((Wkn.spell 6 (.str (printI (l.take (i + 1)))) rfl (congrArg AV.str (by rw [← e]; simp))).trans (.of (.same (by repeat constructor)))) ?_ ?_
        · omega
        · omega
      · rw [decide_eq_false hA] at hT
        have e := insS_not bs hA
        rw [hbs, ← hnx] at e
        rw [← hbs] at e
        repeat' (first|(first|(refine k_call ?_;refine al_v (ov_len_c l.length rfl hll) rfl ?_)|(refine al_v (ov_indexAddr rfl rfl (by omega) hrow rfl) rfl ?_)|(refine k_call ?_;refine al_call rfl rfl rfl rfl hN ?_;rintro _ rfl)|(refine k_call ?_;refine al_call rfl rfl rfl rfl hT ?_;rintro _ rfl))|(refine k_al ?_;first|(refine al_v (ov_move rfl) rfl ?_)|(refine al_v (ov_fieldAddr rfl rfl) rfl ?_)|(refine k_load ?_;first|(refine al_v (ov_load rfl rfl) rfl ?_))|(refine k_bin ?_;first|(refine al_v (ov_cmp rfl rfl rfl) rfl ?_)|(refine al_v (ov_cat rfl rfl (by first|omega|(simp only [List.length_append, List.length_cons, List.length_nil];omega)|(simp;omega))) rfl ?_)|(refine al_v (ov_add rfl rfl (by (first|exact w64 (by omega) (by omega)|rfl))) rfl ?_))|(refine al_v (ov_assign rfl) rfl ?_)|(refine al_v (ov_extract rfl rfl) rfl ?_)|(refine al_nil ?_))|(first|(refine thn_n ?_)|(refine k_awp ?_;first|(refine awp_seq (awp_region ?_))|(refine awp_seq ?_)|(refine awp_region ?_)|(refine k_cond ?_;first|(refine awp_cond_t' rfl (by with_reducible rfl) ?_)|(refine awp_cond_f' rfl (by with_reducible rfl) ?_)|(refine awp_cond_p rfl (fun hc => ?_) (fun hc => ?_) <;> (try (exfalso;omega))))|(refine awp_block ?_)|(refine awp_ret ?_)|(refine awp_skip ?_)|(refine awp_exit ?_))|(refine thn_ret ?_)|(refine lq_exit ?_)|(refine thn_exit ?_)|(refine inb_n ?_)|(refine inb_here ?_)))
        refine lq_back (i + 1) ((Wkn.spell 6 (.str (printI (l.take (i + 1)))) rfl (congrArg AV.str (by rw [← e]))).trans (.of (.same (by repeat constructor)))) ?_ ?_
        · omega
        · omega
    · have hie : l.take i = l := List.take_of_length_le (by omega)
      rw [hie] at hbs
      rw [← hbs]
      repeat' (first|((refine k_call ?_;refine al_v (ov_len_c l.length rfl hll) rfl ?_))|(refine k_al ?_;first|(refine al_v (ov_move rfl) rfl ?_)|(refine al_v (ov_fieldAddr rfl rfl) rfl ?_)|(refine k_load ?_;first|(refine al_v (ov_load rfl rfl) rfl ?_))|(refine k_bin ?_;first|(refine al_v (ov_cmp rfl rfl rfl) rfl ?_)|(refine al_v (ov_cat rfl rfl (by first|omega|(simp only [List.length_append, List.length_cons, List.length_nil];omega)|(simp;omega))) rfl ?_)|(refine al_v (ov_add rfl rfl (by (first|exact w64 (by omega) (by omega)|rfl))) rfl ?_))|(refine al_v (ov_assign rfl) rfl ?_)|(refine al_v (ov_extract rfl rfl) rfl ?_)|(refine al_nil ?_))|(first|(refine thn_n ?_)|(refine k_awp ?_;first|(refine awp_seq (awp_region ?_))|(refine awp_seq ?_)|(refine awp_region ?_)|(refine k_cond ?_;first|(refine awp_cond_t' rfl (by with_reducible rfl) ?_)|(refine awp_cond_f' rfl (by with_reducible rfl) ?_)|(refine awp_cond_p rfl (fun hc => ?_) (fun hc => ?_) <;> (try (exfalso;omega))))|(refine awp_block ?_)|(refine awp_ret ?_)|(refine awp_skip ?_)|(refine awp_exit ?_))|(refine thn_ret ?_)|(refine lq_exit ?_)|(refine thn_exit ?_)|(refine inb_n ?_)|(refine inb_here ?_)))
      refine ret2 (by first | exact .inr rfl | exact .inl rfl) rfl rfl rfl ?_
      exact ⟨rfl, rfl⟩
  · rw [if_neg h0]
    repeat' (first|(first|(refine k_call ?_;refine al_call rfl rfl rfl rfl hC ?_;rintro _ rfl))|(refine k_al ?_;first|(refine al_v (ov_move rfl) rfl ?_)|(refine al_v (ov_fieldAddr rfl rfl) rfl ?_)|(refine k_load ?_;first|(refine al_v (ov_load rfl rfl) rfl ?_))|(refine k_bin ?_;first|(refine al_v (ov_cmp rfl rfl rfl) rfl ?_)|(refine al_v (ov_cat rfl rfl (by first|omega|(simp only [List.length_append, List.length_cons, List.length_nil];omega)|(simp;omega))) rfl ?_)|(refine al_v (ov_add rfl rfl (by (first|exact w64 (by omega) (by omega)|rfl))) rfl ?_))|(refine al_v (ov_assign rfl) rfl ?_)|(refine al_v (ov_extract rfl rfl) rfl ?_)|(refine al_nil ?_))|(first|(refine thn_n ?_)|(refine k_awp ?_;first|(refine awp_seq (awp_region ?_))|(refine awp_seq ?_)|(refine awp_region ?_)|(refine k_cond ?_;first|(refine awp_cond_t' rfl (by with_reducible rfl) ?_)|(refine awp_cond_f' rfl (by with_reducible rfl) ?_)|(refine awp_cond_p rfl (fun hc => ?_) (fun hc => ?_) <;> (try (exfalso;omega))))|(refine awp_block ?_)|(refine awp_ret ?_)|(refine awp_skip ?_)|(refine awp_exit ?_))|(refine thn_ret ?_)|(refine lq_exit ?_)|(refine thn_exit ?_)|(refine inb_n ?_)|(refine inb_here ?_)))
    refine ret2 (by first | exact .inr rfl | exact .inl rfl) rfl rfl rfl ?_
    exact ⟨rfl, rfl⟩
end
end Go.Proofs.YtnjolbnbpfjdiaaDoor.L

namespace Go.Proofs.YtnjolbnbpfjdiaaDoor.L
open Go Go.RowKit Go.Proofs
set_option linter.unusedVariables false
set_option linter.unusedSimpArgs false
set_option maxRecDepth 100000
attribute [local irreducible] AL QL AWp Thn InB RetQ ACalls LoopQ HL HO HW HQ NoG

def hasBr (s : List UInt8) : Prop := 13 ∈ s ∨ 10 ∈ s
instance (s : List UInt8) : Decidable (hasBr s) := by unfold hasBr; infer_instance
section
variable {E : Env} {sl : Slots} {H : List AO}
theorem ov_itos_eq {src dst n b n' b' : Nat} {k k' : IntKind} {z z' : Value} [ts : TI E.P src (.int k) n b z] [td : TI E.P dst .string n' b' z'] {x : Operand} {m : Int} {s : List UInt8} (hx : ev sl x = some (.int k' m)) (h : (Utf8.encode m).data.toList = s) : OV E sl H (.convert src dst x) (.str s) := h ▸ ov_itos hx
end

section
variable {w0 : World} {base : Nat}
theorem s_should {n : Nat} : PCalls (EE w0 base) 96 [.int .i64 (n : Int)] fun rv => rv = .bool (decide ((n : Int) > 8)) := by
  refine acalls_of Tryd.func96 rfl rfl rfl (.cons .nil) ?_
  repeat' (first | (refine k_al ?_; first | (refine al_v (ov_move rfl) rfl ?_) | (refine k_bin ?_; first | (refine al_v (ov_cmp rfl rfl rfl) rfl ?_)) | (refine al_v (ov_assign rfl) rfl ?_) | (refine al_nil ?_)) | (first | (refine thn_n ?_) | (refine k_awp ?_; first | (refine awp_seq (awp_region ?_)) | (refine awp_seq ?_) | (refine awp_region ?_) | (refine awp_ret ?_))))
  refine ret1 (by first | exact .inr rfl | exact .inl rfl) rfl rfl ?_
  exact ⟨rfl, rfl⟩
theorem s_valid {c : Int} : PCalls (EE w0 base) 117 [.int .i32 c] fun rv => ∃ b, rv = .bool b := by
  refine acalls_of Tryd.func117 rfl rfl rfl (.cons .nil) ?_
  repeat' (first|(refine k_al ?_;first|(refine al_v (ov_move rfl) rfl ?_)|(refine k_g ?_;first|(refine al_gy' rfl rfl (by with_reducible rfl) ?_)|(refine al_gnt rfl rfl (by with_reducible rfl) rfl ?_)|(refine al_gsp rfl rfl (fun hc => ?_) (fun hc => ?_) <;> (try (exfalso;omega))))|(refine k_bin ?_;first|(refine al_v (ov_cmp rfl rfl rfl) rfl ?_))|(refine k_pick ?_;first|(refine al_v (ov_pick_t' rfl (by with_reducible rfl) rfl) rfl ?_)|(refine al_v (ov_pick_f' rfl (by with_reducible rfl) rfl) rfl ?_))|(refine al_v (ov_assign rfl) rfl ?_)|(refine al_nil ?_))|(first|(refine thn_n ?_)|(refine k_awp ?_;first|(refine awp_seq (awp_region ?_))|(refine awp_seq ?_)|(refine awp_region ?_)|(refine k_cond ?_;first|(refine awp_cond_f' rfl (by with_reducible rfl) ?_)|(refine awp_cond_p rfl (fun hc => ?_) (fun hc => ?_) <;> (try (exfalso;omega))))|(refine awp_block ?_)|(refine awp_ret ?_)|(refine awp_skip ?_))|(refine thn_ret ?_)|(refine inb_n ?_)|(refine inb_ret ?_)))
  all_goals
    refine ret1 (by first | exact .inr rfl | exact .inl rfl) rfl rfl ?_
    exact ⟨⟨_, rfl⟩, rfl⟩
end
end Go.Proofs.YtnjolbnbpfjdiaaDoor.L

namespace Go.Proofs.YtnjolbnbpfjdiaaDoor.L
open Go Go.RowKit Go.Proofs
set_option linter.unusedVariables false
set_option linter.unusedSimpArgs false
set_option maxRecDepth 100000
attribute [local irreducible] AL QL AWp Thn InB RetQ ACalls LoopQ HL HO HW HQ NoG

abbrev bI (b : UInt8) : AV := .int .u8 (b.toNat : Int)
theorem u8_all {P : UInt8 → Prop} (h : ∀ n : Fin 256, P (UInt8.ofNat n.1)) (b : UInt8) : P b := by
  have := h ⟨b.toNat, b.toNat_lt⟩
  simpa using this
def hexS : List UInt8 := [48, 49, 50, 51, 52, 53, 54, 55, 56, 57, 97, 98, 99, 100, 101, 102]
def hexI (b : UInt8) : Int := Lib.indexByte hexS (b ||| ((32 : UInt8) * ((b >>> 6) &&& 1)))
def signs : List UInt8 := [33, 35, 36, 37, 38, 39, 42, 43, 45, 46, 94, 95, 96, 124, 126]
def pOdd (b : UInt8) : Bool := decide (b.toNat < 33) || decide (126 < b.toNat) || decide (b.toNat = 35)
def pVis (b : UInt8) : Bool := decide (33 ≤ b.toNat) && decide (b.toNat ≤ 126)
def pLoose (b : UInt8) : Bool := pVis b || decide (b.toNat = 32) || decide (b.toNat = 9)
def pLarge (b : UInt8) : Bool := decide (65 ≤ b.toNat) && decide (b.toNat ≤ 90)
def pDigit (b : UInt8) : Bool := decide (48 ≤ b.toNat) && decide (b.toNat ≤ 57)
def pToken (b : UInt8) : Bool := pLarge b || (decide (97 ≤ b.toNat) && decide (b.toNat ≤ 122)) || pDigit b || decide (0 ≤ Lib.indexByte signs b)

section
variable {w0 : World} {base : Nat}
end
end Go.Proofs.YtnjolbnbpfjdiaaDoor.L

namespace Go.Proofs.YtnjolbnbpfjdiaaDoor.L
open Go Go.RowKit Go.Proofs
set_option linter.unusedVariables false
set_option linter.unusedSimpArgs false
set_option maxRecDepth 100000
attribute [local irreducible] AL QL AWp Thn InB RetQ ACalls LoopQ HL HO HW HQ NoG

def decOk : List UInt8 → Bool
  | [] => true
  | b :: r => if b = 37 then (match r with
    | x :: y :: r' => decide (0 ≤ hexI x) && (decide (0 ≤ hexI y) && decOk r')
    | _ => false) else decOk r
abbrev bAt (s : List UInt8) (m : Int) : UInt8 := s.getD m.toNat 0
theorem byteAt_eq (s : List UInt8) (m : Int) : byteAt s m = ((bAt s m).toNat : Int) := rfl
/-- The byte of two hexadecimal digits. -/
def decB (x y : UInt8) : UInt8 := UInt8.ofNat (16 * (hexI x).toNat + (hexI y).toNat)
/-- A text without its percent signs. -/
def decT (plus : Bool) : List UInt8 → List UInt8
  | [] => []
  | b :: r => if b = 37 then (match r with
    | x :: y :: r' => decB x y :: decT plus r'
    | _ => []) else (if plus && decide (b = 43) then 32 else b) :: decT plus r
section
variable {w0 : World} {base : Nat}
def DecR (s : List UInt8) (plus : Bool) (rv : AV) : Prop := ∃ l e k, rv = .tup [.str l, .int .i64 e, .int .i64 k] ∧ (e = 0 ↔ decOk s = true) ∧ (e = 0 ∨ e = 60) ∧ 0 ≤ k ∧ k ≤ s.length ∧ (e = 0 → l = decT plus s)
end
end Go.Proofs.YtnjolbnbpfjdiaaDoor.L

namespace Go.Proofs.YtnjolbnbpfjdiaaDoor.L
open Go Go.RowKit Go.Proofs
set_option linter.unusedVariables false
set_option linter.unusedSimpArgs false
set_option maxRecDepth 100000
attribute [local irreducible] AL QL AWp Thn InB RetQ ACalls LoopQ HL HO HW HQ NoG

section
variable {w0 : World} {base : Nat}
end
end Go.Proofs.YtnjolbnbpfjdiaaDoor.L

namespace Go.Proofs.YtnjolbnbpfjdiaaDoor.L
open Go Go.RowKit Go.Proofs
set_option linter.unusedVariables false
set_option linter.unusedSimpArgs false
set_option maxRecDepth 100000

theorem ib_at {s : List UInt8} {c : UInt8} {k : Nat} (h : s[k]? = some c) (hn : ∀ j, j < k → s[j]? ≠ some c) : Lib.indexByte s c = k := by
  have hge := Lib.indexByte_ge s c
  by_cases h1 : Lib.indexByte s c = -1
  · exact absurd h (Lib.indexByte_none h1 k)
  · obtain ⟨o, ho⟩ : ∃ o : Nat, Lib.indexByte s c = o := ⟨(Lib.indexByte s c).toNat, by omega⟩
    obtain ⟨g1, g2⟩ := Lib.indexByte_some ho
    rcases Nat.lt_trichotomy o k with h2 | h2 | h2
    · exact absurd g1 (hn o h2)
    · rw [ho, h2]
    · exact absurd h (g2 k h2)
theorem ib_no {s : List UInt8} {c : UInt8} (hn : ∀ j : Nat, s[j]? ≠ some c) : Lib.indexByte s c = -1 := by
  have hge := Lib.indexByte_ge s c
  by_cases h1 : Lib.indexByte s c = -1
  · exact h1
  · obtain ⟨o, ho⟩ : ∃ o : Nat, Lib.indexByte s c = o := ⟨(Lib.indexByte s c).toNat, by omega⟩
    exact absurd (Lib.indexByte_some ho).1 (hn o)
theorem cut1_at {s : List UInt8} {c : UInt8} {k : Nat} (h : s[k]? = some c) (hn : ∀ j, j < k → s[j]? ≠ some c) : Lib.cut s [c] = (s.take k, s.drop (k + 1), true) := by
  unfold Lib.cut
  rw [Lib.index_one, ib_at h hn, if_pos (by omega)]
  simp
theorem cut1_no {s : List UInt8} {c : UInt8} (hn : ∀ j : Nat, s[j]? ≠ some c) : Lib.cut s [c] = (s, [], false) := by
  unfold Lib.cut
  rw [Lib.index_one, ib_no hn, if_neg (by omega)]
def prAV (p : List UInt8 × List UInt8) : List AV := [.str p.1, .str p.2]
/-- A part of a form, as a name and a value. -/
def pairP (p : List UInt8) : List UInt8 × List UInt8 := (decT true (Lib.cut p [61]).1, decT true (Lib.cut p [61]).2.1)
def pairOk (p : List UInt8) : Bool := decOk (Lib.cut p [61]).1 && decOk (Lib.cut p [61]).2.1
def splitB (c : UInt8) : List UInt8 → List (List UInt8)
  | [] => [[]]
  | b :: r => if b = c then [] :: splitB c r else (b :: (splitB c r).headD []) :: (splitB c r).tail
theorem splitB_ne (c : UInt8) (l : List UInt8) : splitB c l ≠ [] := by
  cases l with
  | nil => simp [splitB]
  | cons b r => unfold splitB; split <;> simp
theorem splitB_no {c : UInt8} : ∀ {p : List UInt8}, c ∉ p → splitB c p = [p]
  | [], _ => rfl
  | b :: r, h => by
    have h1 : ¬ b = c := fun e => h (by simp [e])
    have h2 : c ∉ r := fun e => h (by simp [e])
    rw [splitB, if_neg h1, splitB_no h2]
    rfl
theorem splitB_at {c : UInt8} : ∀ {p r : List UInt8}, c ∉ p → splitB c (p ++ c :: r) = p :: splitB c r
  | [], r, _ => by rw [List.nil_append, splitB, if_pos rfl]
  | b :: p, r, h => by
    have h1 : ¬ b = c := fun e => h (by simp [e])
    have h2 : c ∉ p := fun e => h (by simp [e])
    rw [List.cons_append, splitB, if_neg h1, splitB_at h2]
    rfl
def nz (l : List UInt8) : List (List UInt8) := (splitB 38 l).filter (fun p => !p.isEmpty)
def one (p : List UInt8) : List (List UInt8) := if p = [] then [] else [p]
def formOk (s : List UInt8) : Bool := (nz s).all pairOk && decide ((nz s).length ≤ 32)
def tgtOk (s : List UInt8) : Bool := decide (s.length ≤ 1024) && (decide (s.head? = some 47) && (s.all (fun b => !pOdd b) && (decOk (Lib.cut s [63]).1 && (!(Lib.cut s [63]).2.2 || formOk (Lib.cut s [63]).2.1))))
/-- The pairs of a form; a target's path and query. -/
def formP (s : List UInt8) : List (List UInt8 × List UInt8) := (nz s).map pairP
def tgtP (s : List UInt8) : List UInt8 := decT false (Lib.cut s [63]).1
def tgtQ (s : List UInt8) : List (List UInt8 × List UInt8) := if (Lib.cut s [63]).2.2 then formP (Lib.cut s [63]).2.1 else []
theorem mem_bAt {s : List UInt8} {c : UInt8} (h : c ∈ s) : ∃ i : Nat, i < s.length ∧ s[i]? = some c := by
  obtain ⟨i, hi, he⟩ := List.getElem_of_mem h
  exact ⟨i, hi, by rw [List.getElem?_eq_getElem hi, he]⟩
theorem get_bAt {s : List UInt8} {i : Nat} (h : i < s.length) : s[i]? = some (bAt s (i : Int)) := by
  simp [bAt, List.getD_eq_getElem?_getD, h]
end Go.Proofs.YtnjolbnbpfjdiaaDoor.L

namespace Go.Proofs.YtnjolbnbpfjdiaaDoor.L
open Go Go.RowKit Go.Proofs
set_option linter.unusedVariables false
set_option linter.unusedSimpArgs false
set_option maxRecDepth 100000
attribute [local irreducible] AL QL AWp Thn InB RetQ ACalls LoopQ HL HO HW HQ NoG JmpQ MidQ HF

section
variable {E : Env} {sl : Slots} {H : List AO}
theorem VR.nilif_inv {w : World} {I : Imm} {ν : Nu} {v : Value} (h : VR w I ν .nilif v) : v = .nilIface := by
  cases h with
  | pure h => cases h; rfl
theorem VR.iface_inv {w : World} {I : Imm} {ν : Nu} {v : Value} (h : VR w I ν .iface v) : ∃ t u, v = .iface t u := by
  cases h with
  | pure h => cases h; exact ⟨_, _, rfl⟩
theorem ov_ieq_nn {t t' : Nat} {ms : Array (String × TypeId)} (hu : E.P.underlying t = some (.interface ms)) {x : Operand} (hx : ev sl x = some .nilif) : OV E sl H (.binOp .eql t x (.const .nilIface) t') (.bool true) := by
  intro I ν a w hh hs
  have e1 := (ev_ok hs hx).nilif_inv
  have e2 : a.eval (.const .nilIface) = .nilIface := rfl
  refine ⟨_, .pure (.bool true), fun o w' ho _ => ?_⟩
  have h : ∀ d : Nat, (Op.equalIn (d + 1) t .nilIface .nilIface).run E.P w' = .ok true w' := fun d => by simp [Op.equalIn, run_underlying hu]
  simp [execOp, ho, e1, e2, eqGuard, binOp, Op.equal, Op.maxDepth, h 9999]
theorem ov_ieq_in {t t' : Nat} {ms : Array (String × TypeId)} (hu : E.P.underlying t = some (.interface ms)) {x y : Operand} (hx : ev sl x = some .iface) (hy : ev sl y = some .nilif) : OV E sl H (.binOp .eql t x y t') (.bool false) := by
  intro I ν a w hh hs
  obtain ⟨q, u, e1⟩ := (ev_ok hs hx).iface_inv
  have e2 := (ev_ok hs hy).nilif_inv
  refine ⟨_, .pure (.bool false), fun o w' ho _ => ?_⟩
  have h : ∀ d : Nat, (Op.equalIn (d + 1) t (.iface q u) .nilIface).run E.P w' = .ok false w' := fun d => by simp [Op.equalIn, run_underlying hu]
  simp [execOp, ho, e1, e2, eqGuard, binOp, Op.equal, Op.maxDepth, h 9999]
end
def blank (b : UInt8) : Prop := b = 32 ∨ b = 9
instance (b : UInt8) : Decidable (blank b) := by unfold blank; exact inferInstance
theorem indexByte_bl (c : UInt8) : 0 ≤ Lib.indexByte [32, 9] c ↔ blank c := by
  unfold Lib.indexByte Lib.indexByte Lib.indexByte blank
  by_cases h1 : (32 : UInt8) == c
  · rw [if_pos h1]
    have := eq_of_beq h1
    simp [← this]
  · rw [if_neg h1]
    have n1 : c ≠ 32 := fun e => h1 (by simp [e])
    by_cases h2 : (9 : UInt8) == c
    · rw [if_pos h2]
      have := eq_of_beq h2
      simp [← this]
    · rw [if_neg h2]
      have n2 : c ≠ 9 := fun e => h2 (by simp [e])
      simp [n1, n2]
theorem contains_bl (b : UInt8) : ([32, 9] : List UInt8).contains b = true ↔ blank b := by unfold blank; simp
theorem indexAny_first : ∀ {s : List UInt8} {i : Nat} {b : UInt8}, (∀ (j : Nat) (c : UInt8), j < i → s[j]? = some c → ¬ blank c) → s[i]? = some b → blank b → Lib.indexAny s [32, 9] = (i : Int) := by
  intro s
  induction s with
  | nil => intro i b _ h; simp at h
  | cons c s ih =>
    intro i b hno hi hb
    unfold Lib.indexAny
    cases i with
    | zero =>
      simp only [List.getElem?_cons_zero, Option.some.injEq] at hi
      subst hi
      exact if_pos ((contains_bl c).2 hb)
    | succ i =>
      have hc : ¬ blank c := hno 0 c (by omega) rfl
      rw [if_neg fun k => hc ((contains_bl c).1 k)]
      have := ih (i := i) (fun j x hj hx => hno (j + 1) x (by omega) (by simpa using hx)) (by simpa using hi) hb
      rw [this]
      have : ¬ (((i : Nat) : Int) == -1) = true := by
        intro k
        have := eq_of_beq k
        omega
      rw [if_neg this]
      rfl
theorem indexAny_none : ∀ {s : List UInt8}, (∀ (j : Nat) (c : UInt8), s[j]? = some c → ¬ blank c) → Lib.indexAny s [32, 9] = -1 := by
  intro s
  induction s with
  | nil => intro _; rfl
  | cons c s ih =>
    intro hno
    unfold Lib.indexAny
    have hc : ¬ blank c := hno 0 c rfl
    rw [if_neg fun k => hc ((contains_bl c).1 k), ih (fun j x hx => hno (j + 1) x (by simpa using hx))]
    rfl
section
variable {w0 : World} {base : Nat}
theorem s_runeBl_ascii {c : Nat} (h : c < 128) : PCalls (EE w0 base) 95 [.str [32, 9], .int .i32 (c : Int)] fun rv => rv = .int .i64 (Lib.indexByte [32, 9] c.toUInt8) := by
  refine pcalls_plain rfl fun I ν w vs hh hl hv => ?_
  match vs, hl with
  | [v1, v2], _ =>
  have e1 := (hv 0 _ v1 rfl rfl).str_inv
  have e2 := (hv 1 _ v2 rfl rfl).int_inv
  subst e1; subst e2
  have := Tryd.strings_IndexRune_ascii ⟨#[32, 9]⟩ (c : Int) w (by omega) (by omega)
  exact ⟨_, fun w I => .pure (.int _ _), this.mono fun e w' ⟨he, hw⟩ => ⟨he, by subst hw; exact Below.refl _ _⟩⟩
theorem s_runeBl_big {c : Nat} (h : 128 ≤ c) : PCalls (EE w0 base) 95 [.str [32, 9], .int .i32 (c : Int)] fun rv => rv = .int .i64 (-1) := by
  obtain ⟨nd, l, b, he, hnd, h1, h3, hb⟩ : ∃ (nd l : List UInt8) (b : UInt8), (Utf8.encode (c : Int)).data.toList = nd ∧ nd = l ++ [b] ∧ 1 ≤ l.length ∧ l.length ≤ 3 ∧ 128 ≤ b.toNat := by
    obtain ⟨l, b, he, h⟩ := encode_big h
    exact ⟨_, l, b, he, rfl, h⟩
  have hlen : nd.length = l.length + 1 := by simp [hnd]
  have hlast : nd[l.length]? = some b := by simp [hnd]
  refine acalls_of Tryd.func95 rfl rfl rfl (.cons (.cons .nil)) ?_
  repeat' (first|(first|(refine al_range_str rfl (by first|exact ln0) (by repeat constructor) rfl ?_)|(refine k_call ?_;refine al_call rfl rfl rfl rfl s_valid ?_;rintro _ ⟨bv, rfl⟩)|(refine al_v (ov_itos_eq rfl he) rfl ?_))|(refine k_al ?_;first|(refine al_v (ov_move rfl) rfl ?_)|(refine k_g ?_;first|(refine al_gy' rfl rfl (by with_reducible rfl) ?_)|(refine al_gsp rfl rfl (fun hc => ?_) (fun hc => ?_) <;> (try (exfalso;omega))))|(refine k_bin ?_;first|(refine al_v (ov_cmp rfl rfl rfl) rfl ?_)|(refine al_v (ov_add rfl rfl (by (first|exact w64 (by omega) (by omega)|rfl))) rfl ?_)|(refine al_v (ov_sub rfl rfl (by (first|exact w64 (by omega) (by omega)|rfl))) rfl ?_))|(refine k_pick ?_;first|(refine al_v (ov_pick_t' rfl (by with_reducible rfl) rfl) rfl ?_))|(refine al_v (ov_assign rfl) rfl ?_)|(refine k_call ?_;first|(refine al_v (ov_len_str rfl) rfl ?_))|(refine al_v (ov_extract rfl rfl) rfl ?_)|(refine al_nil ?_)|(refine al_v (ov_not rfl rfl) rfl ?_)|(refine al_v (ov_index rfl rfl (by omega) (by omega)) rfl ?_))|(first|(refine thn_n ?_)|(refine k_awp ?_;first|(refine awp_seq (awp_region ?_))|(refine awp_seq ?_)|(refine awp_region ?_)|(refine k_cond ?_;first|(refine awp_cond_t' rfl (by with_reducible rfl) ?_)|(refine awp_cond_f' rfl (by with_reducible rfl) ?_)|(refine awp_cond_p rfl (fun hc => ?_) (fun hc => ?_) <;> (try (exfalso;omega)))|(refine awp_cond_b rfl (fun hc => ?_) (fun hc => ?_) <;> (try (exact absurd hc (by decide)))))|(refine awp_block ?_)|(refine awp_scope ?_)|(refine awp_ret ?_)|(refine awp_skip ?_)|(refine awp_exit ?_))|(refine thn_ret ?_)|(refine lq_exit ?_)|(refine lq_ret ?_)|(refine thn_exit ?_)|(refine inb_n ?_)|(refine inb_ret ?_)|(refine inb_here ?_)|(refine nog_ret ?_)))
  · refine awp_loopq (fun p : Nat => ⟨[(0, .str [32, 9]), (175, .op 0 0)], [.siter [32, 9] p]⟩) (fun p => p ≤ 2) (fun p => 2 - p) 0 (.of (.same (by repeat constructor))) (by decide) ?_
    intro p hp
    try dsimp only
    repeat' (first|((refine al_next_str rfl rfl (fun wd => by repeat constructor) rfl (fun hle => ?_) (fun c wd hlt hd => ?_)))|(refine k_al ?_;first|(refine al_v (ov_move rfl) rfl ?_)|(refine k_g ?_;first|(refine al_gy' rfl rfl (by with_reducible rfl) ?_)|(refine al_gsp rfl rfl (fun hc => ?_) (fun hc => ?_) <;> (try (exfalso;omega))))|(refine k_bin ?_;first|(refine al_v (ov_cmp rfl rfl rfl) rfl ?_)|(refine al_v (ov_add rfl rfl (by (first|exact w64 (by omega) (by omega)|rfl))) rfl ?_)|(refine al_v (ov_sub rfl rfl (by (first|exact w64 (by omega) (by omega)|rfl))) rfl ?_))|(refine k_pick ?_;first|(refine al_v (ov_pick_t' rfl (by with_reducible rfl) rfl) rfl ?_))|(refine al_v (ov_assign rfl) rfl ?_)|(refine k_call ?_;first|(refine al_v (ov_len_str rfl) rfl ?_))|(refine al_v (ov_extract rfl rfl) rfl ?_)|(refine al_nil ?_)|(refine al_v (ov_not rfl rfl) rfl ?_)|(refine al_v (ov_index rfl rfl (by omega) (by omega)) rfl ?_))|(first|(refine thn_n ?_)|(refine k_awp ?_;first|(refine awp_seq (awp_region ?_))|(refine awp_seq ?_)|(refine awp_region ?_)|(refine k_cond ?_;first|(refine awp_cond_t' rfl (by with_reducible rfl) ?_)|(refine awp_cond_f' rfl (by with_reducible rfl) ?_)|(refine awp_cond_p rfl (fun hc => ?_) (fun hc => ?_) <;> (try (exfalso;omega)))|(refine awp_cond_b rfl (fun hc => ?_) (fun hc => ?_) <;> (try (exact absurd hc (by decide)))))|(refine awp_block ?_)|(refine awp_scope ?_)|(refine awp_ret ?_)|(refine awp_skip ?_)|(refine awp_exit ?_))|(refine thn_ret ?_)|(refine lq_exit ?_)|(refine lq_ret ?_)|(refine thn_exit ?_)|(refine inb_n ?_)|(refine inb_ret ?_)|(refine inb_here ?_)|(refine nog_ret ?_)))
    · refine ret1 (by first | exact .inr rfl | exact .inl rfl) rfl rfl ?_
      exact ⟨rfl, rfl⟩
    all_goals
      obtain ⟨hwd1, hk⟩ := hd
      have hc2 : c < 128 ∧ wd = 1 := by
        rcases hk with ⟨b, h1, h2, rfl, h4⟩ | ⟨h1, h2⟩
        · exact ⟨h2, h4⟩
        · exfalso
          match p, hlt with
          | 0, _ => exact absurd (h2 0 32 (by omega) rfl) (by decide)
          | 1, _ => exact absurd (h2 0 9 (by omega) rfl) (by decide)
      obtain ⟨hc2, rfl⟩ := hc2
      simp only [List.length_cons, List.length_nil] at hlt
    · exfalso; omega
    · first | refine lq_back (p + 1) (.of (.same (by repeat constructor))) ?_ ?_ | fail
      · omega
      · omega
  · refine ret1 (by first | exact .inr rfl | exact .inl rfl) rfl rfl ?_
    exact ⟨rfl, rfl⟩
  · refine awp_loopq (fun _ : Unit => ⟨[(0, .str [32, 9]), (7, .str nd), (8, .int .i64 ((nd.length : Int) - 1)), (9, .int .i64 ((nd.length : Int) - 1))], []⟩) (fun _ => True) (fun _ => 0) () (.of (.same (by repeat constructor))) trivial ?_
    intro _ _
    try dsimp only
    repeat' (first|(refine k_al ?_;first|(refine al_v (ov_move rfl) rfl ?_)|(refine k_g ?_;first|(refine al_gy' rfl rfl (by with_reducible rfl) ?_)|(refine al_gsp rfl rfl (fun hc => ?_) (fun hc => ?_) <;> (try (exfalso;omega))))|(refine k_bin ?_;first|(refine al_v (ov_cmp rfl rfl rfl) rfl ?_)|(refine al_v (ov_add rfl rfl (by (first|exact w64 (by omega) (by omega)|rfl))) rfl ?_)|(refine al_v (ov_sub rfl rfl (by (first|exact w64 (by omega) (by omega)|rfl))) rfl ?_))|(refine k_pick ?_;first|(refine al_v (ov_pick_t' rfl (by with_reducible rfl) rfl) rfl ?_))|(refine al_v (ov_assign rfl) rfl ?_)|(refine k_call ?_;first|(refine al_v (ov_len_str rfl) rfl ?_))|(refine al_v (ov_extract rfl rfl) rfl ?_)|(refine al_nil ?_)|(refine al_v (ov_not rfl rfl) rfl ?_)|(refine al_v (ov_index rfl rfl (by omega) (by omega)) rfl ?_))|(first|(refine thn_n ?_)|(refine k_awp ?_;first|(refine awp_seq (awp_region ?_))|(refine awp_seq ?_)|(refine awp_region ?_)|(refine k_cond ?_;first|(refine awp_cond_t' rfl (by with_reducible rfl) ?_)|(refine awp_cond_f' rfl (by with_reducible rfl) ?_)|(refine awp_cond_p rfl (fun hc => ?_) (fun hc => ?_) <;> (try (exfalso;omega)))|(refine awp_cond_b rfl (fun hc => ?_) (fun hc => ?_) <;> (try (exact absurd hc (by decide)))))|(refine awp_block ?_)|(refine awp_scope ?_)|(refine awp_ret ?_)|(refine awp_skip ?_)|(refine awp_exit ?_))|(refine thn_ret ?_)|(refine lq_exit ?_)|(refine lq_ret ?_)|(refine thn_exit ?_)|(refine inb_n ?_)|(refine inb_ret ?_)|(refine inb_here ?_)|(refine nog_ret ?_)))
    · rename_i hc
      have hc' : nd.length = 2 := by
        simp only [List.length_cons, List.length_nil] at hc
        omega
      have e1 : ((nd.length : Int) - 1) = 1 := by omega
      have hl1 : l.length = 1 := by omega
      rw [hl1] at hlast
      have hA : byteAt [32, 9] ((nd.length : Int) - 1) = 9 := by rw [e1]; rfl
      have hB : byteAt nd ((nd.length : Int) - 1) = (b.toNat : Int) := by rw [e1]; simp [byteAt, hlast]
      have hL : ([32, 9] : List UInt8).length = 2 := rfl
      have hcall : PCalls (EE w0 base) 79 [.str (([32, 9] : List UInt8).drop ((nd.length : Int) - 1 + 1).toNat), .int .u8 (byteAt nd ((nd.length : Int) - 1))] fun rv => rv = .int .i64 (-1) := by
        rw [e1]
        exact s_indexByte
      repeat' (first|(first|(refine ql_call rfl rfl rfl rfl hcall rfl ?_)|(refine ql_v (ov_slice_lo rfl rfl (by omega) (by omega)) rfl ?_))|(refine k_al ?_;first|(refine al_v (ov_move rfl) rfl ?_)|(refine k_g ?_;first|(refine al_gy' rfl rfl (by with_reducible rfl) ?_)|(refine al_gsp rfl rfl (fun hc => ?_) (fun hc => ?_) <;> (try (exfalso;omega))))|(refine k_bin ?_;first|(refine al_v (ov_cmp rfl rfl rfl) rfl ?_)|(refine al_v (ov_add rfl rfl (by (first|exact w64 (by omega) (by omega)|rfl))) rfl ?_)|(refine al_v (ov_sub rfl rfl (by (first|exact w64 (by omega) (by omega)|rfl))) rfl ?_))|(refine k_pick ?_;first|(refine al_v (ov_pick_t' rfl (by with_reducible rfl) rfl) rfl ?_))|(refine al_v (ov_assign rfl) rfl ?_)|(refine k_call ?_;first|(refine al_v (ov_len_str rfl) rfl ?_))|(refine al_v (ov_extract rfl rfl) rfl ?_)|(refine al_nil ?_)|(refine al_v (ov_not rfl rfl) rfl ?_)|(refine al_v (ov_index rfl rfl (by omega) (by omega)) rfl ?_))|(first|(refine thn_n ?_)|(refine k_awp ?_;first|(refine awp_seq (awp_region ?_))|(refine awp_seq ?_)|(refine awp_region ?_)|(refine k_cond ?_;first|(refine awp_cond_t' rfl (by with_reducible rfl) ?_)|(refine awp_cond_f' rfl (by with_reducible rfl) ?_)|(refine awp_cond_p rfl (fun hc => ?_) (fun hc => ?_) <;> (try (exfalso;omega)))|(refine awp_cond_b rfl (fun hc => ?_) (fun hc => ?_) <;> (try (exact absurd hc (by decide)))))|(refine awp_block ?_)|(refine awp_scope ?_)|(refine awp_ret ?_)|(refine awp_skip ?_)|(refine awp_exit ?_))|(refine thn_ret ?_)|(refine lq_exit ?_)|(refine lq_ret ?_)|(refine thn_exit ?_)|(refine inb_n ?_)|(refine inb_ret ?_)|(refine inb_here ?_)|(refine nog_ret ?_))|(refine awp_draw (by kernel_rfl) (by kernel_rfl) ?_)|(first|(refine ql_v (ov_move rfl) rfl ?_)|(refine ql_v (ov_assign rfl) rfl ?_)|(refine ql_v (ov_cmp rfl rfl rfl) rfl ?_)|(refine ql_v (ov_pick_t' rfl (by with_reducible rfl) rfl) rfl ?_)|(refine ql_v (ov_len_str rfl) rfl ?_)|(refine ql_v (ov_extract rfl rfl) rfl ?_)|(refine ql_v (ov_index rfl rfl (by omega) (by omega)) rfl ?_)|(refine ql_v (ov_add rfl rfl (by (first|exact w64 (by omega) (by omega)|rfl))) rfl ?_)|(refine ql_v (ov_sub rfl rfl (by (first|exact w64 (by omega) (by omega)|rfl))) rfl ?_)|(refine ql_v (ov_not rfl rfl) rfl ?_)|(refine ql_nil ?_)))
      all_goals first | (exfalso; omega) | (refine ret1 (by first | exact .inr rfl | exact .inl rfl) rfl rfl ?_; exact ⟨rfl, rfl⟩)
    · refine ret1 (by first | exact .inr rfl | exact .inl rfl) rfl rfl ?_
      exact ⟨rfl, rfl⟩

set_option maxHeartbeats 2000000 in
theorem s_indexBl_short {s : List UInt8} (h8 : s.length ≤ 8) : PCalls (EE w0 base) 76 [.str s, .str [32, 9]] fun rv => rv = .int .i64 (Lib.indexAny s [32, 9]) := by
  refine acalls_of Tryd.func76 rfl rfl rfl (.cons (.cons .nil)) ?_
  repeat' (first|(first|(refine al_range_str rfl (by first|exact ln0) (by repeat constructor) rfl ?_)|(refine k_call ?_;refine al_call rfl rfl rfl rfl s_should ?_;rintro _ rfl))|(refine k_al ?_;first|(refine al_v (ov_move rfl) rfl ?_)|(refine k_bin ?_;first|(refine al_v (ov_cmp rfl rfl rfl) rfl ?_)|(refine al_v (ov_seq rfl rfl) rfl ?_))|(refine al_v (ov_assign rfl) rfl ?_)|(refine k_call ?_;first|(refine al_v (ov_len_str rfl) rfl ?_))|(refine al_v (ov_extract rfl rfl) rfl ?_)|(refine al_nil ?_)|(refine al_v (ov_index rfl rfl (by omega) (by omega)) rfl ?_))|(first|(refine thn_n ?_)|(refine k_awp ?_;first|(refine awp_seq (awp_region ?_))|(refine awp_seq ?_)|(refine awp_region ?_)|(refine k_cond ?_;first|(refine awp_cond_t' rfl (by with_reducible rfl) ?_)|(refine awp_cond_f' rfl (by with_reducible rfl) ?_)|(refine awp_cond_p rfl (fun hc => ?_) (fun hc => ?_) <;> (try (exfalso;omega))))|(refine awp_block ?_)|(refine awp_ret ?_)|(refine awp_skip ?_)|(refine awp_exit ?_))|(refine thn_ret ?_)|(refine lq_exit ?_)|(refine lq_ret ?_)|(refine thn_exit ?_)|(refine inb_n ?_)|(refine inb_ret ?_)|(refine inb_here ?_)))
  · exact absurd ‹_› (by decide)
  · exact absurd ‹_› (by decide)
  refine awp_loopq (fun p : Nat => ⟨[(0, .str s), (1, .str [32, 9]), (45, .op 0 0)], [.siter s p]⟩) (fun p => ∀ (i : Nat) (b : UInt8), i < p → s[i]? = some b → ¬ blank b) (fun p => s.length - p) 0 (.of (.same (by repeat constructor))) (fun i b h => absurd h (Nat.not_lt_zero _)) ?_
  intro p hp
  try dsimp only
  repeat' (first|((refine al_next_str rfl rfl (fun wd => by repeat constructor) rfl (fun hle => ?_) (fun c wd hlt hd => ?_)))|(refine k_al ?_;first|(refine al_v (ov_move rfl) rfl ?_)|(refine k_bin ?_;first|(refine al_v (ov_cmp rfl rfl rfl) rfl ?_)|(refine al_v (ov_seq rfl rfl) rfl ?_))|(refine al_v (ov_assign rfl) rfl ?_)|(refine k_call ?_;first|(refine al_v (ov_len_str rfl) rfl ?_))|(refine al_v (ov_extract rfl rfl) rfl ?_)|(refine al_nil ?_)|(refine al_v (ov_index rfl rfl (by omega) (by omega)) rfl ?_))|(first|(refine thn_n ?_)|(refine k_awp ?_;first|(refine awp_seq (awp_region ?_))|(refine awp_seq ?_)|(refine awp_region ?_)|(refine k_cond ?_;first|(refine awp_cond_t' rfl (by with_reducible rfl) ?_)|(refine awp_cond_f' rfl (by with_reducible rfl) ?_)|(refine awp_cond_p rfl (fun hc => ?_) (fun hc => ?_) <;> (try (exfalso;omega))))|(refine awp_block ?_)|(refine awp_ret ?_)|(refine awp_skip ?_)|(refine awp_exit ?_))|(refine thn_ret ?_)|(refine lq_exit ?_)|(refine lq_ret ?_)|(refine thn_exit ?_)|(refine inb_n ?_)|(refine inb_ret ?_)|(refine inb_here ?_)))
  · refine ret1 (by first | exact .inr rfl | exact .inl rfl) rfl rfl ?_
    exact ⟨congrArg (AV.int .i64) (indexAny_none fun j c hj => hp j c (by have := (List.getElem?_eq_some_iff.1 hj).1; omega) hj).symm, rfl⟩
  · rcases hd.kind with ⟨b, h1, h2, rfl, rfl⟩ | ⟨h1, h2⟩
    · have hb : b.toNat.toUInt8 = b := by simp
      have hx := indexByte_bl b
      repeat' (first|((refine k_call ?_;refine al_call rfl rfl rfl rfl (s_runeBl_ascii h2) ?_;rintro _ rfl))|(refine k_al ?_;first|(refine al_v (ov_move rfl) rfl ?_)|(refine k_bin ?_;first|(refine al_v (ov_cmp rfl rfl rfl) rfl ?_)|(refine al_v (ov_seq rfl rfl) rfl ?_))|(refine al_v (ov_assign rfl) rfl ?_)|(refine k_call ?_;first|(refine al_v (ov_len_str rfl) rfl ?_))|(refine al_v (ov_extract rfl rfl) rfl ?_)|(refine al_nil ?_)|(refine al_v (ov_index rfl rfl (by omega) (by omega)) rfl ?_))|(first|(refine thn_n ?_)|(refine k_awp ?_;first|(refine awp_seq (awp_region ?_))|(refine awp_seq ?_)|(refine awp_region ?_)|(refine k_cond ?_;first|(refine awp_cond_t' rfl (by with_reducible rfl) ?_)|(refine awp_cond_f' rfl (by with_reducible rfl) ?_)|(refine awp_cond_p rfl (fun hc => ?_) (fun hc => ?_) <;> (try (exfalso;omega))))|(refine awp_block ?_)|(refine awp_ret ?_)|(refine awp_skip ?_)|(refine awp_exit ?_))|(refine thn_ret ?_)|(refine lq_exit ?_)|(refine lq_ret ?_)|(refine thn_exit ?_)|(refine inb_n ?_)|(refine inb_ret ?_)|(refine inb_here ?_)))
      · rename_i hc
        rw [hb] at hc
        refine ret1 (by first | exact .inr rfl | exact .inl rfl) rfl rfl ?_
        exact ⟨congrArg (AV.int .i64) (indexAny_first hp h1 (hx.1 hc)).symm, rfl⟩
      · rename_i hc
        rw [hb] at hc
        have hn := mt hx.2 hc
        first | refine lq_back (p + 1) (.of (.same (by repeat constructor))) ?_ ?_ | fail
        · intro i b' hi hb'
          rcases Nat.lt_or_ge i p with h | h
          · exact hp i b' h hb'
          · obtain rfl : i = p := by omega
            rw [h1] at hb'
            injection hb' with hb'
            subst hb'
            exact hn
        · omega
    · repeat' (first|((refine k_call ?_;refine al_call rfl rfl rfl rfl (s_runeBl_big h1) ?_;rintro _ rfl))|(refine k_al ?_;first|(refine al_v (ov_move rfl) rfl ?_)|(refine k_bin ?_;first|(refine al_v (ov_cmp rfl rfl rfl) rfl ?_)|(refine al_v (ov_seq rfl rfl) rfl ?_))|(refine al_v (ov_assign rfl) rfl ?_)|(refine k_call ?_;first|(refine al_v (ov_len_str rfl) rfl ?_))|(refine al_v (ov_extract rfl rfl) rfl ?_)|(refine al_nil ?_)|(refine al_v (ov_index rfl rfl (by omega) (by omega)) rfl ?_))|(first|(refine thn_n ?_)|(refine k_awp ?_;first|(refine awp_seq (awp_region ?_))|(refine awp_seq ?_)|(refine awp_region ?_)|(refine k_cond ?_;first|(refine awp_cond_t' rfl (by with_reducible rfl) ?_)|(refine awp_cond_f' rfl (by with_reducible rfl) ?_)|(refine awp_cond_p rfl (fun hc => ?_) (fun hc => ?_) <;> (try (exfalso;omega))))|(refine awp_block ?_)|(refine awp_ret ?_)|(refine awp_skip ?_)|(refine awp_exit ?_))|(refine thn_ret ?_)|(refine lq_exit ?_)|(refine lq_ret ?_)|(refine thn_exit ?_)|(refine inb_n ?_)|(refine inb_ret ?_)|(refine inb_here ?_)))
      have hw := hd.wd1
      first | refine lq_back (p + wd) (.of (.same (by repeat constructor))) ?_ ?_ | fail
      · intro i b' hi hb'
        rcases Nat.lt_or_ge i p with h | h
        · exact hp i b' h hb'
        · have := h2 (i - p) b' (by omega) (by rw [← hb']; congr 1; omega)
          rintro (rfl | rfl) <;> exact absurd this (by decide)
      · omega
theorem hvSet : ∀ w, (zeroValue 111).run Tryd.prog w = .ok (.agg (Array.replicate 256 (.bool false))) w := fun w => by kernel_rfl
theorem s_indexBl {s : List UInt8} (hs : s.length < 4294967281) : PCalls (EE w0 base) 76 [.str s, .str [32, 9]] fun rv => rv = .int .i64 (Lib.indexAny s [32, 9]) := by
  rcases Nat.lt_or_ge 8 s.length with h8 | h8
  · refine pcalls_plain rfl fun I ν w vs hh hl hv => ?_
    match vs, hl with
    | [v1, v2], _ =>
    have e1 := (hv 0 _ v1 rfl rfl).str_inv
    have e2 := (hv 1 _ v2 rfl rfl).str_inv
    subst e1; subst e2
    have := Tryd.strings_IndexAny_long hvSet ⟨s.toArray⟩ ⟨#[32, 9]⟩ w (by decide) h8 hs (by decide) (fun j b h => by
      match j, h with
      | 0, h => simp at h; subst h; decide
      | 1, h => simp at h; subst h; decide
      | j + 2, h => simp at h)
    exact ⟨_, fun w I => .pure (.int _ _), this.mono fun e w' ⟨he, hw⟩ => ⟨he, by subst hw; exact ((Below.refl _ w).alloc (Nat.le_refl _) _).alloc (by simp) _⟩⟩
  · exact s_indexBl_short h8
theorem s_trimLeft {s : List UInt8} : PCalls (EE w0 base) 49 [.str s, .str [32, 9]] fun rv => rv = .str (Lib.trimLeftS s [32, 9]) := by
  refine pcalls_plain rfl fun I ν w vs hh hl hv => ?_
  match vs, hl with
  | [v1, v2], _ =>
  have e1 := (hv 0 _ v1 rfl rfl).str_inv
  have e2 := (hv 1 _ v2 rfl rfl).str_inv
  subst e1; subst e2
  exact ⟨_, fun w I => .pure (.str _), Any.strings_TrimLeft_laid Tryd.lays161 (by kernel_rfl) ⟨s.toArray⟩ ⟨#[32, 9]⟩ w (by decide) (fun j b h => by
    match j, h with
    | 0, h => simp at h; subst h; decide
    | 1, h => simp at h; subst h; decide
    | j + 2, h => simp at h)⟩
theorem var_at {g : Nat} {I : Imm} {ν : Nu} {H : List AO} {w : World} {v : Value} (hg : g < base) (hv : w0.cell? ⟨g, 0, none⟩ = some v) (hh : HR (EE w0 base) I ν H w) : w.cell? ⟨g, 0, none⟩ = some v := (hh.below.cell hg).trans hv
/-- How strconv.Atoi ends. -/
def AtoiR (l : List UInt8) (rv : AV) : Prop := (∃ v, Lib.atoiAll l = .ok v ∧ rv = .tup [.int .i64 v, .nilif]) ∨ ((∀ v, Lib.atoiAll l ≠ .ok v) ∧ ∃ n, rv = .tup [.int .i64 n, .iface])
theorem tup_iface {w : World} {I : Imm} {ν : Nu} (n : Int) (t : TypeId) (u : Value) : VR w I ν (.tup [.int .i64 n, .iface]) (.tuple #[.int .i64 n, .iface t u]) := by
  refine .tup _ [_, _] rfl (fun j x v h1 h2 => ?_)
  match j, h1, h2 with
  | 0, h1, h2 => simp at h1 h2; subst h1; subst h2; exact .pure (.int _ _)
  | 1, h1, h2 => simp at h1 h2; subst h1; subst h2; exact .pure (.iface _ _)
  | j + 2, h1, h2 => simp at h1
theorem s_atoiA {l : List UInt8} (hG : Tabs w0 base) (hl : l.length ≤ 281474976710656) : PCalls (EE w0 base) 60 [.str l] (AtoiR l) := by
  refine pcalls_real fun I ν w vs hh hlen hv => ?_
  match vs, hlen with
  | [v1], _ =>
  have e1 := (hv 0 _ v1 rfl rfl).str_inv
  subst e1
  have hlt := hG.lt
  obtain ⟨te, pe, hes⟩ := hG.es
  obtain ⟨tr, pr, her⟩ := hG.er
  have hes := var_at (Nat.lt_of_lt_of_le (by decide) hlt) hes hh
  have her := var_at (Nat.lt_of_lt_of_le (by decide) hlt) her hh
  cases hx : Lib.atoiAll l with
  | ok v =>
    refine (Tryd.strconv_Atoi_ok ⟨l.toArray⟩ (by rw [size_mk]; omega) v (by simpa using hx) w).mono fun e w' ⟨he, hw⟩ => ⟨_, _, .inl ⟨v, hx, rfl⟩, rfl, he, ?_, ?_⟩
    · rcases hw with rfl | ⟨t, rfl⟩
      · exact Below.refl _ _
      · exact Lib.bytesWorld_below _ _ _
    · refine .tup _ [_, _] rfl (fun j x v h1 h2 => ?_)
      match j, h1, h2 with
      | 0, h1, h2 => simp at h1 h2; subst h1; subst h2; exact .pure (.int _ _)
      | 1, h1, h2 => simp at h1 h2; subst h1; subst h2; exact .pure .nilif
      | j + 2, h1, h2 => simp at h1
  | range =>
    refine (Tryd.strconv_Atoi_range ⟨l.toArray⟩ (by rw [size_mk]; omega) (by simpa using hx) _ w her (.inr ⟨_, _, rfl⟩)).mono fun e w' ⟨N, he, _, _, hb⟩ => ⟨_, _, .inr ⟨fun v k => (by rw [hx] at k; cases k), _, rfl⟩, rfl, he, hb, tup_iface _ _ _⟩
  | _ =>
    refine (Tryd.strconv_Atoi_syntax ⟨l.toArray⟩ (by rw [size_mk]; omega) (by simpa using hx) _ w hes (.inr ⟨_, _, rfl⟩)).mono fun e w' ⟨N, he, _, _, hb⟩ => ⟨_, _, .inr ⟨fun v k => (by rw [hx] at k; cases k), _, rfl⟩, rfl, he, hb, tup_iface _ _ _⟩
end
end Go.Proofs.YtnjolbnbpfjdiaaDoor.L

namespace Go.Proofs.YtnjolbnbpfjdiaaDoor.L
open Go Go.RowKit Go.Proofs
set_option linter.unusedVariables false
set_option linter.unusedSimpArgs false
set_option maxRecDepth 100000
attribute [local irreducible] AL QL AWp Thn InB RetQ ACalls LoopQ HL HO HW HQ NoG JmpQ MidQ HF

theorem splitK_one (c : UInt8) : ∀ (n : Nat) (s : List UInt8), s.length = n → Lib.splitK [c] 0 (Lib.count s [c]) s = splitB c s := by
  intro n
  induction n using Nat.strongRecOn with
  | _ n ih =>
    intro s hn
    rcases Lib.index_spec s [c] with ⟨h1, h2⟩ | ⟨i, h1, h2, h3, h4⟩
    · rw [Lib.count_miss h1]
      have hno : c ∉ s := by
        intro hm
        obtain ⟨j, hj, hjc⟩ := mem_bAt hm
        have := h2 j (by omega)
        have ho : Lib.occAt s [c] j = true := by
          unfold Lib.occAt
          rw [List.isPrefixOf_iff_prefix]
          refine ⟨s.drop (j + 1), ?_⟩
          have := List.getElem?_eq_some_iff.1 hjc
          rw [List.drop_eq_getElem_cons hj, this.2]
          rfl
        rw [ho] at this
        cases this
      rw [splitB_no hno]
      rfl
    · have hroom : i < s.length := by
        have := Lib.occAt_room h3
        simp at this
        omega
      have hc := Lib.occAt_head (t := []) rfl h3
      have hno : c ∉ s.take i := by
        intro hm
        obtain ⟨j, hj, hjc⟩ := mem_bAt hm
        rw [List.length_take] at hj
        have hji : j < i := by omega
        rw [List.getElem?_take, if_pos hji] at hjc
        have := h4 j hji
        have ho : Lib.occAt s [c] j = true := by
          unfold Lib.occAt
          rw [List.isPrefixOf_iff_prefix]
          refine ⟨s.drop (j + 1), ?_⟩
          have h6 := List.getElem?_eq_some_iff.1 hjc
          rw [List.drop_eq_getElem_cons (show j < s.length by omega), h6.2]
          rfl
        rw [ho] at this
        cases this
      rw [Lib.count_hit (by simp) h1, Nat.add_comm, Lib.splitK]
      have hne : (Lib.index s [c] == -1) = false := by rw [beq_eq_false_iff_ne, h1]; omega
      rw [hne, h1]
      have hs : s = s.take i ++ c :: s.drop (i + 1) := by
        have h6 := List.getElem?_eq_some_iff.1 hc
        conv => lhs; rw [← List.take_append_drop i s, List.drop_eq_getElem_cons hroom, h6.2]
      have hd := ih (s.drop (i + 1)).length (by rw [List.length_drop]; omega) (s.drop (i + 1)) rfl
      have hsp : splitB c s = s.take i :: splitB c (s.drop (i + 1)) := by
        conv => lhs; rw [hs]
        exact splitB_at hno
      rw [hsp, ← hd]
      simp

def firstEq (v : List UInt8) : List (List UInt8) → Nat → Option Nat
  | [], _ => none
  | x :: r, k => if v = x then some k else firstEq v r (k + 1)
theorem firstEq_step {v x : List UInt8} {l : List (List UInt8)} {i : Nat} (h : l[i]? = some x) : firstEq v (l.drop i) i = if v = x then some i else firstEq v (l.drop (i + 1)) (i + 1) := by
  have hi : i < l.length := (List.getElem?_eq_some_iff.1 h).1
  have : l.drop i = x :: l.drop (i + 1) := by
    rw [List.drop_eq_getElem_cons hi]
    congr 1
    exact (List.getElem?_eq_some_iff.1 h).2
  rw [this, firstEq]
theorem firstEq_lt {v : List UInt8} : ∀ {l : List (List UInt8)} {k a : Nat}, firstEq v l k = some a → k ≤ a ∧ a < k + l.length := by
  intro l
  induction l with
  | nil => intro k a h; cases h
  | cons x l ih =>
    intro k a h
    rw [firstEq] at h
    split at h
    · injection h with h; simp only [List.length_cons]; omega
    · have := ih h; simp only [List.length_cons]; omega
theorem txtAV_row {a : List (List UInt8)} {i : Nat} {p : List UInt8} (h : a[i]? = some p) : (txtAV a)[((i : Nat) : Int).toNat]? = some [.str p] := by
  have : ((i : Nat) : Int).toNat = i := rfl
  rw [this]
  unfold txtAV
  rw [List.getElem?_map, h]
  rfl
theorem txtAV_len (a : List (List UInt8)) : (txtAV a).length = a.length := List.length_map _
/-- The number of a text that is written as numbers are. -/
def numI (s : List UInt8) : Option Int := match Lib.atoiAll s with
  | .ok v => if Lib.itoa v = s then some v else none
  | _ => none
theorem atoi_range {s : List UInt8} {v : Int} (h : Lib.atoiAll s = .ok v) : -9223372036854775808 ≤ v ∧ v ≤ 9223372036854775807 := by
  unfold Lib.atoiAll at h
  split at h
  · cases h
  · dsimp only at h
    split at h
    · cases h
    · cases h
    · split at h
      · cases h
      · split at h
        · cases h
        · rename_i h1 h2
          injection h with h
          split at h <;> omega
def wordI (s : List UInt8) : List UInt8 := if 0 ≤ Lib.indexAny s [32, 9] then s.take (Lib.indexAny s [32, 9]).toNat else s
def restI (s : List UInt8) : List UInt8 := if 0 ≤ Lib.indexAny s [32, 9] then Lib.trimS (s.drop (Lib.indexAny s [32, 9]).toNat) [32, 9] else []
/-- A line's instruction. -/
def readI (s : List UInt8) : Option (Int × Int) := match firstEq (wordI s) nameL 0 with
  | none => none
  | some a => if hasAP ((a : Int) + 1) then (match numI (restI s) with
      | some n => some ((a : Int) + 1, n)
      | none => none)
    else if restI s = [] then some ((a : Int) + 1, 0) else none
def ReadR (s : List UInt8) (rv : AV) : Prop := ∃ i : Int × Int, rv = .tup [.agg (insC i), .bool (readI s).isSome] ∧ ∀ x, readI s = some x → i = x
theorem numI_nil : numI [] = none := rfl
theorem indexAny_le : ∀ (s : List UInt8), Lib.indexAny s [32, 9] < (s.length : Int) ∨ Lib.indexAny s [32, 9] = -1 := by
  intro s
  induction s with
  | nil => exact .inr rfl
  | cons b s ih =>
    unfold Lib.indexAny
    split
    · left; simp only [List.length_cons]; omega
    · split
      · exact .inr rfl
      · rename_i hne
        left
        rcases ih with ih | ih
        · simp only [List.length_cons]; omega
        · rw [ih] at hne; exact absurd rfl hne
section
variable {w0 : World} {base : Nat}
theorem s_split {s : List UInt8} (hG : Glob w0 base) (hs : s.length < 4294967281) : PCalls (EE w0 base) 47 [.str s, .str [10]] fun rv => rv = .rs (txtAV (splitB 10 s)) := by
  refine pcalls_real fun I ν w vs hh hl hv => ?_
  match vs, hl with
  | [v1, v2], _ =>
  have e1 := (hv 0 _ v1 rfl rfl).str_inv
  have e2 := (hv 1 _ v2 rfl rfl).str_inv
  subst e1; subst e2
  obtain ⟨m, hm⟩ := glob_at hG hh
  obtain ⟨ps, hps⟩ : ∃ ps, ps = Lib.splitB ⟨#[10]⟩ 0 (Lib.countB ⟨s.toArray⟩ ⟨#[10]⟩) ⟨s.toArray⟩ := ⟨_, rfl⟩
  have hpl : ps.length = Lib.countB ⟨s.toArray⟩ ⟨#[10]⟩ + 1 := by rw [hps]; exact Lib.splitB_all _ (by decide) 0 _ _ rfl
  have hpm : ps.map (fun p => p.data.toList) = splitB 10 s := by
    rw [hps, Lib.splitB_data]
    exact splitK_one 10 s.length s rfl
  refine (Tryd.strings_Split ⟨s.toArray⟩ ⟨#[10]⟩ m w hs hm (by decide)).mono fun e w' ⟨he, hw⟩ => ⟨_, _, rfl, rfl, he, ?_, ?_⟩
  · subst hw; exact (Below.refl _ _).alloc (Nat.le_refl _) _
  · rw [← hps] at hw
    have hlen : (txtAV (splitB 10 s)).length = Lib.countB ⟨s.toArray⟩ ⟨#[10]⟩ + 1 := by rw [← hpl, ← hpm]; simp [txtAV]
    have hcell : ∀ j, j < ps.length → w'.cell? ⟨w.heap.size, 0 + j, none⟩ = some (((ps.map Value.string)[j]?).getD (.bool false)) := by
      intro j hj
      rw [hw]
      have hb : (w.alloc (.cells (ps.map Value.string).toArray 9)).heap[w.heap.size]? = some (.cells (ps.map Value.string).toArray 9) := halloc_new _ _
      unfold World.cell?
      rw [hb]
      simp [hj]
    rw [← hlen]
    refine .pure (.rs (txtAV (splitB 10 s)) 1 w.heap.size 0 _ (fun j => ((ps.map Value.string)[j]?).getD (.bool false)) (by omega) (Nat.le_refl _) ?_ ?_ ?_ ?_)
    · rw [hlen, ← hpl]
      have := Lib.splitB_length_le ⟨#[10]⟩ 0 (Lib.countB ⟨s.toArray⟩ ⟨#[10]⟩) ⟨s.toArray⟩
      have hc : Lib.countB ⟨s.toArray⟩ ⟨#[10]⟩ ≤ s.length + 1 := Lib.count_le _ _
      simp only [maxLen]
      omega
    · intro i row hi
      unfold txtAV at hi
      rw [List.getElem?_map] at hi
      obtain ⟨x, _, rfl⟩ := Option.map_eq_some_iff.1 hi
      rfl
    · intro j hj
      have h1 := hcell j (by omega)
      exact ⟨h1, .inr ⟨Nat.le_refl _, _, h1⟩⟩
    · intro i j row x hi hj
      unfold txtAV at hi
      rw [← hpm, List.map_map, List.getElem?_map] at hi
      obtain ⟨p, hp, rfl⟩ := Option.map_eq_some_iff.1 hi
      cases j with
      | succ j => simp at hj
      | zero =>
        simp at hj
        subst hj
        have : (ps.map Value.string)[i * 1 + 0]? = some (.string p) := by
          rw [List.getElem?_map, Nat.mul_one, Nat.add_zero, hp]
          rfl
        rw [this]
        simpa using VP.str (w := w') (I := immNew w w' I) p.data.toList

theorem s_indexT {xs : List (List UInt8)} {v : List UInt8} (hx : xs.length ≤ 140737488351232) : PCalls (EE w0 base) 77 [.rs (txtAV xs), .str v] fun rv => rv = .int .i64 (match firstEq v xs 0 with | none => -1 | some k => (k : Int)) := by
  have hl := txtAV_len xs
  refine acalls_of Tryd.func77 rfl rfl rfl (.cons (.cons .nil)) ?_
  obtain ⟨T, hT⟩ : ∃ T, T = firstEq v xs 0 := ⟨_, rfl⟩
  rw [← hT]
  repeat' (first|(refine k_al ?_;first|(refine al_v (ov_move rfl) rfl ?_)|(refine k_load ?_;first|(refine al_v (ov_load rfl rfl) rfl ?_))|(refine k_bin ?_;first|(refine al_v (ov_cmp rfl rfl rfl) rfl ?_)|(refine al_v (ov_add rfl rfl (by (first|exact w64 (by omega) (by omega)|rfl))) rfl ?_)|(refine al_v (ov_seq rfl rfl) rfl ?_))|(refine al_v (ov_assign rfl) rfl ?_)|(refine k_call ?_;first|(refine al_v (ov_len_rs rfl) rfl ?_))|(refine al_nil ?_))|(first|(refine thn_n ?_)|(refine k_awp ?_;first|(refine awp_seq (awp_region ?_))|(refine awp_seq ?_)|(refine awp_region ?_)|(refine k_cond ?_;first|(refine awp_cond_p rfl (fun hc => ?_) (fun hc => ?_) <;> (try (exfalso;omega))))|(refine awp_block ?_)|(refine awp_ret ?_)|(refine awp_skip ?_)|(refine awp_exit ?_))|(refine thn_ret ?_)|(refine lq_exit ?_)|(refine lq_ret ?_)|(refine thn_exit ?_)|(refine inb_n ?_)|(refine inb_ret ?_)|(refine inb_here ?_)))
  refine awp_loopq (fun k : Nat => ⟨[(0, .rs (txtAV xs)), (1, .str v), (7, .int .i64 ((txtAV xs).length : Int)), (8, .int .i64 k)], []⟩) (fun k => k ≤ xs.length ∧ T = firstEq v (xs.drop k) k) (fun k => xs.length - k) 0 (.of (.same (by repeat constructor))) ⟨Nat.zero_le _, hT⟩ ?_
  rintro i ⟨hi, hTi⟩
  try dsimp only
  by_cases hlt : i < xs.length
  · obtain ⟨p, hp⟩ : ∃ p, xs[i]? = some p := ⟨_, List.getElem?_eq_getElem hlt⟩
    have hrow := txtAV_row hp
    rw [firstEq_step hp] at hTi
    repeat' (first|((refine al_v (ov_indexAddr rfl rfl (by omega) hrow rfl) rfl ?_))|(refine k_al ?_;first|(refine al_v (ov_move rfl) rfl ?_)|(refine k_load ?_;first|(refine al_v (ov_load rfl rfl) rfl ?_))|(refine k_bin ?_;first|(refine al_v (ov_cmp rfl rfl rfl) rfl ?_)|(refine al_v (ov_add rfl rfl (by (first|exact w64 (by omega) (by omega)|rfl))) rfl ?_)|(refine al_v (ov_seq rfl rfl) rfl ?_))|(refine al_v (ov_assign rfl) rfl ?_)|(refine k_call ?_;first|(refine al_v (ov_len_rs rfl) rfl ?_))|(refine al_nil ?_))|(first|(refine thn_n ?_)|(refine k_awp ?_;first|(refine awp_seq (awp_region ?_))|(refine awp_seq ?_)|(refine awp_region ?_)|(refine k_cond ?_;first|(refine awp_cond_p rfl (fun hc => ?_) (fun hc => ?_) <;> (try (exfalso;omega))))|(refine awp_block ?_)|(refine awp_ret ?_)|(refine awp_skip ?_)|(refine awp_exit ?_))|(refine thn_ret ?_)|(refine lq_exit ?_)|(refine lq_ret ?_)|(refine thn_exit ?_)|(refine inb_n ?_)|(refine inb_ret ?_)|(refine inb_here ?_)))
    · rename_i hc
      rw [if_pos hc] at hTi
      refine ret1 (by first | exact .inr rfl | exact .inl rfl) rfl rfl ?_
      exact ⟨by rw [hTi], rfl⟩
    · rename_i hc
      rw [if_neg hc] at hTi
      first | refine lq_back (i + 1) (.of (.same (by repeat constructor))) ?_ ?_ | fail
      · exact ⟨by omega, hTi⟩
      · omega
  · rw [List.drop_eq_nil_of_le (by omega), firstEq] at hTi
    repeat' (first|(refine k_al ?_;first|(refine al_v (ov_move rfl) rfl ?_)|(refine k_load ?_;first|(refine al_v (ov_load rfl rfl) rfl ?_))|(refine k_bin ?_;first|(refine al_v (ov_cmp rfl rfl rfl) rfl ?_)|(refine al_v (ov_add rfl rfl (by (first|exact w64 (by omega) (by omega)|rfl))) rfl ?_)|(refine al_v (ov_seq rfl rfl) rfl ?_))|(refine al_v (ov_assign rfl) rfl ?_)|(refine k_call ?_;first|(refine al_v (ov_len_rs rfl) rfl ?_))|(refine al_nil ?_))|(first|(refine thn_n ?_)|(refine k_awp ?_;first|(refine awp_seq (awp_region ?_))|(refine awp_seq ?_)|(refine awp_region ?_)|(refine k_cond ?_;first|(refine awp_cond_p rfl (fun hc => ?_) (fun hc => ?_) <;> (try (exfalso;omega))))|(refine awp_block ?_)|(refine awp_ret ?_)|(refine awp_skip ?_)|(refine awp_exit ?_))|(refine thn_ret ?_)|(refine lq_exit ?_)|(refine lq_ret ?_)|(refine thn_exit ?_)|(refine inb_n ?_)|(refine inb_ret ?_)|(refine inb_here ?_)))
    refine ret1 (by first | exact .inr rfl | exact .inl rfl) rfl rfl ?_
    exact ⟨by rw [hTi], rfl⟩
end
end Go.Proofs.YtnjolbnbpfjdiaaDoor.L
