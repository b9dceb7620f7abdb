/- Part 3 of the texts behind the theorem of this claim: The logic, part 24: pointers held against nil; bytes and texts; arrays that a conversion made; strings.Builder's ways; The logic, part 25: arrays; the text over a row of bytes; a nil row in a box is taken for an own one; The logic, part 26: a text over a row of bytes; a nil row in a box is taken for an own one; The logic, part 27: a range over a text; a scope that is not jumped in; DERIVED: THE SHELF's CONTRACTS AT THIS DUMP, IN PLAIN WORDS (tools/lay-plain.mjs out of 'TryzShelf.lean', which tools/lay-shelf.mjs wrote): THE SAME DECLARATIONS UNDER THE SAME NAMES: 'import', 'namespace', 'open', 'def', 'theorem' AND NOTHING ELSE: no command of the shelf's: FOR A HAND-IN. Each laying: the table of numbers ('.._ren') and one theorem, a field a fact of the dump's own or the kernel's comparison; each contract: ONE APPLICATION; Layer 7 (head): what the library answers: strings.Cut, HasPrefix, IndexByte, Trim, strconv.Itoa; strings.Builder; Layer 7 (head): strings.ContainsAny at "\r\n", of any bytes; Layer 7 (head): the bytes: digits, letters, signs; Layer 6 (uri): which texts' percent signs can be read; Layer 6 (uri): the document's Decode; Layer 6 (uri): which targets can be read: plain; Layer 6 (uri): the program's Form and Target; Layer 6 (uri): the document's pair, Form and Target; Layer 6 (uri): the document's Target -/
import Derived.Test.YtffcgpkbibijpaaGreatDoorQd2
import Derived.LaidEqlPtr
import Derived.Laws.Externs
import Derived.Laws.IdiomStrings
import Derived.Lib.ConvBytes
import Derived.Lib.UnsafeStr
import Derived.Lib.Builder
import Derived.Scope
import Derived.Laws.RangeString
import Derived.Shelf.Strings.Builder1
import Derived.Shelf.Strings.Trim
import Derived.Shelf.Small.Utf8
import Derived.Shelf.Small.Strs
import Derived.Shelf.Strings.BuilderF
import Derived.Shelf.Strings.BuilderK
import Derived.Shelf.Strconv.Atoi
import Derived.Shelf.Strconv.Itoa0
import Derived.Shelf.Strconv.Itoa1
import Derived.Shelf.LaysM
import Derived.Shelf.Strconv.Itoa2
import Derived.Shelf.Strconv.Itoa3
import Derived.Shelf.Strconv.AtoiErrFast
import Derived.Shelf.Strconv.ParseIntEmpty
import Derived.Shelf.Strconv.AtoiFail
import Derived.Shelf.Strconv.Clone
import Derived.Shelf.Strconv.SyntaxError
import Derived.Shelf.LaysC
import Derived.Shelf.Strconv.ToError
import Derived.Shelf.Strconv.Lower
import Derived.Shelf.Strconv.ParseUint10
import Derived.Shelf.Strconv.ParseUint10Empty
import Derived.Shelf.Strconv.ParseUint10Any
import Derived.Shelf.Strconv.ParseInt10
import Derived.Shelf.Strconv.AtoiLong
import Derived.Shelf.Strconv.AtoiInnerAll
import Derived.Shelf.Strconv.RangeError
import Derived.Shelf.Strconv.ToErrorRange
import Derived.Shelf.Strconv.AtoiAll
import Derived.Shelf.Strings.Search1
import Derived.Shelf.Strings.Search2
import Derived.Shelf.Strings.Search3
import Derived.Shelf.Strings.Cut
import Derived.Shelf.Strings.Count
import Derived.Shelf.Strings.Shaped
import Derived.Shelf.Strings.Prefix
import Derived.Shelf.Strings.Split
import Derived.Shelf.Unicode.Decode
import Derived.Shelf.Strings.Runes
import Derived.Shelf.Strings.RuneCount
import Derived.Shelf.Strings.IndexAny
import Derived.Shelf.Strings.AsciiSet
import Derived.Shelf.Strings.IndexAnyAll
import Derived.Shelf.Strings.Explode
import Derived.Shelf.Unicode.DecodeSlow
import Derived.Shelf.Unicode.DecodeAny
import Derived.Shelf.Unicode.DecodeLast
import Derived.Shelf.Strings.BuilderCap
import Derived.Test.YtffcgpkbibijpaaGreatDoorProg
import Derived.Shelf.Strings.SlTrimAscii
set_option linter.unusedVariables false
set_option linter.unusedSimpArgs false
namespace Go.Proofs.YtffcgpkbibijpaaGreatDoor.L
open Go Go.RowKit
set_option linter.unusedVariables false
set_option linter.unusedSimpArgs false

abbrev bytesAV (l : List UInt8) : List (List AV) := l.map fun b => [.int .u8 (b.toNat : Int)]
def isPtr : AV → Bool
  | .op _ _ => true
  | .rp _ => true
  | .er _ _ _ _ _ => true
  | _ => false
theorem VR.ptr {w : World} {I : Imm} {ν : Nu} {x : AV} {v : Value} (h : VR w I ν x v) (hp : isPtr x = true) : ∃ a : Addr, v = .pointer (some a) := by
  cases h with
  | op id off b hi h => exact ⟨_, rfl⟩
  | er id ver sz i off g n c hi hv h => exact ⟨_, rfl⟩
  | pure h => cases h <;> first | exact ⟨_, rfl⟩ | simp [isPtr] at hp
  | _ => simp [isPtr] at hp

section
variable {E : Env} {N : Nat} {ops : Array Oper} {Q : Exit → St → Prop} {rest : List Oper} {sl : Slots} {H H' : List AO}
theorem VR.nilp_inv {w : World} {I : Imm} {ν : Nu} {v : Value} (h : VR w I ν .nilp v) : v = .pointer none := by
  cases h with
  | pure h => cases h; rfl
theorem ov_peq_nn {t t' e : Nat} {n b : Nat} {z : Value} [ti : TI E.P t (.pointer e) n b z] {x y : Operand} (hx : ev sl x = some .nilp) (hy : ev sl y = some .nilp) : OV E sl H (.binOp .eql t x y t') (.bool true) := by
  intro I ν a w hh hs
  have e1 := (ev_ok hs hx).nilp_inv
  have e2 := (ev_ok hs hy).nilp_inv
  refine ⟨_, .pure (.bool true), fun o w' ho _ => ?_⟩
  have h : ∀ d : Nat, (Op.equalIn (d + 1) t (.pointer none) (.pointer none)).run E.P w' = .ok true w' := fun d => by simp [Op.equalIn, run_underlying ti.u]
  simp [execOp, ho, e1, e2, eqGuard, binOp, Op.equal, Op.maxDepth, h 9999]
theorem ov_peq_pn {t t' e : Nat} {n b : Nat} {z : Value} [ti : TI E.P t (.pointer e) n b z] {x y : Operand} {pv : AV} (hx : ev sl x = some pv) (hp : isPtr pv = true) (hy : ev sl y = some .nilp) : OV E sl H (.binOp .eql t x y t') (.bool false) := by
  intro I ν a w hh hs
  obtain ⟨p, e1⟩ := (ev_ok hs hx).ptr hp
  have e2 := (ev_ok hs hy).nilp_inv
  refine ⟨_, .pure (.bool false), fun o w' ho _ => ?_⟩
  have h : ∀ d : Nat, (Op.equalIn (d + 1) t (.pointer (some p)) (.pointer none)).run E.P w' = .ok false w' := fun d => by simp [Op.equalIn, run_underlying ti.u]
  simp [execOp, ho, e1, e2, eqGuard, binOp, Op.equal, Op.maxDepth, h 9999]
theorem ov_pne_same {t t' e : Nat} {n b n' b' : Nat} {z z' : Value} {dd : Bool} [ti : TI E.P t (.pointer e) n b z] [te : TZ E.P e dd n' b' z'] {x y : Operand} {id off : Nat} (hx : ev sl x = some (.op id off)) (hy : ev sl y = some (.op id off)) : OV E sl H (.binOp .neq t x y t') (.bool false) := by
  intro I ν a w hh hs
  have e1 := ev_ok hs hx
  have e2 := ev_ok hs hy
  obtain ⟨v1, h1⟩ : ∃ v, a.eval x = v := ⟨_, rfl⟩
  obtain ⟨v2, h2⟩ : ∃ v, a.eval y = v := ⟨_, rfl⟩
  rw [h1] at e1
  rw [h2] at e2
  obtain ⟨j, hj, _⟩ := te.bytes
  cases e1 with
  | pure h => cases h
  | op _ _ b1 hi1 hb1 =>
    cases e2 with
    | pure h => cases h
    | op _ _ b2 hi2 hb2 =>
      rw [hb1] at hb2
      injection hb2 with hb2; injection hb2 with hb2; injection hb2 with hb2
      subst hb2
      refine ⟨_, .pure (.bool false), fun o w' ho _ => ?_⟩
      have := Lib.run_neq_ptr_same (P := E.P) (w := w') (tp := t) ⟨b1, off, none⟩ ti.u hj
      simp [execOp, ho, h1, h2, eqGuard, this]

theorem box_shape {I : Imm} {ν : Nu} {w : World} (hh : HR E I ν H w) {id T : Nat} {cells : List AV} (hH : H[id]? = some (.box cells (some T))) {off : Nat} {v : Value} (hv : VR w I ν (.op id off) v) : ∃ b, v = .pointer (some ⟨b, off, none⟩) ∧ ∀ w', Still ν H I w w' → w'.shape? b = some (T, cells.length) := by
  cases hv with
  | pure h => cases h
  | op _ _ b hi hb =>
    cases hh.obj id _ hH with
    | box _ _ b' vs ty hv' hbase hheap hl hx hI hty =>
      rw [hb] at hv'
      injection hv' with e; injection e with e; injection e with e
      subst e
      have hT := hty T rfl
      subst hT
      refine ⟨b, rfl, fun w' hw => ?_⟩
      have := (hw.obj id _ b hH (by simp only [OB, hb])).trans hheap
      simp [World.shape?, this, hl]
theorem ov_conv_to {src dst t n b n' b' n2 b2 : Nat} {z z' z2 : Value} {dd : Bool} [ts : TI E.P src (.pointer t) n b z] [td : TI E.P dst .unsafePointer n' b' z'] [te : TZ E.P t dd n2 b2 z2] {x : Operand} {id off T : Nat} {cells : List AV} (hx : ev sl x = some (.op id off)) (hH : H[id]? = some (.box cells (some T))) (hn : n2 ≠ 0) (ho : off < cells.length) :
    OV E sl H (.convert src dst x) (.op id off) := by
  intro I ν a w hh hs
  obtain ⟨bk, hv, hsh⟩ := box_shape hh hH (ev_ok hs hx)
  obtain ⟨j, hj1, hj2, hj3, _⟩ := te.bytes
  refine ⟨_, ev_ok hs hx, fun o w' ho' hw => ?_⟩
  have := Lib.run_to_unsafe (P := E.P) (w := w') (src := src) (dst := dst) ⟨bk, off, none⟩ ts.u td.u hj1 (by omega) (hsh w' hw) ho
  simp [execOp, ho', hv, this]
theorem ov_conv_from {src dst u n b n' b' n2 b2 : Nat} {z z' z2 : Value} {dd : Bool} [ts : TI E.P src .unsafePointer n b z] [td : TI E.P dst (.pointer u) n' b' z'] [te : TZ E.P u dd n2 b2 z2] {x : Operand} {id off T : Nat} {cells : List AV} (hx : ev sl x = some (.op id off)) (hH : H[id]? = some (.box cells (some T))) (hl : liesAt E.P E.P.depth T (cells.length / E.P.cellsOf T) off u 1 = true) :
    OV E sl H (.convert src dst x) (.op id off) := by
  intro I ν a w hh hs
  obtain ⟨bk, hv, hsh⟩ := box_shape hh hH (ev_ok hs hx)
  obtain ⟨j, hj1, _⟩ := te.bytes
  refine ⟨_, ev_ok hs hx, fun o w' ho' hw => ?_⟩
  have := Lib.run_from_unsafe (P := E.P) (w := w') (src := src) (dst := dst) ⟨bk, off, none⟩ ts.u td.u hj1 (hsh w' hw) hl
  simp [execOp, ho', hv, this]
/-- A function of the model's own that hands back what it was given. -/
theorem ov_same {g : Nat} (hf : ∀ x w, (callFunc g #[x]).run E.P w = .ok (.value x) w) {x : Operand} {xv : AV} (hx : ev sl x = some xv) {tys : Array TypeId} : OV E sl H (.call { callee := .value (.func g), args := #[x], argTypes := tys }) xv := by
  intro I ν a w hh hs
  refine ⟨_, ev_ok hs hx, fun o w' ho _ => ?_⟩
  have e1 : a.eval (.func g) = .func (.func g) #[] #[] := rfl
  simp [execOp, ho, resolve, e1, Deferred.ofValue, invoke, hf]

/-! ### bytes and texts -/
theorem bytes_get {l : List UInt8} {i : Nat} {row : List AV} (h : (bytesAV l)[i]? = some row) : ∃ b, l[i]? = some b ∧ row = [.int .u8 (b.toNat : Int)] := by
  rw [List.getElem?_map] at h
  obtain ⟨z, h1, h2⟩ := Option.map_eq_some_iff.1 h
  exact ⟨z, h1, h2.symm⟩
theorem bytes_row {l : List UInt8} : ∀ (i : Nat) row, (bytesAV l)[i]? = some row → row.length = 1 := fun i row h => by
  obtain ⟨z, _, rfl⟩ := bytes_get h
  rfl
theorem rowRel_bytes {w : World} {I : Imm} {l : List UInt8} : RowRel w I 1 (bytesAV l) (l.map fun b => Value.int .u8 (b.toNat : Int)) := by
  refine ⟨by simp, fun i c hc => ?_⟩
  obtain ⟨z, h1, rfl⟩ := bytes_get hc
  refine ⟨rfl, fun j x hj => ?_⟩
  cases j with
  | zero =>
    simp at hj
    subst hj
    exact ⟨_, by simp [h1], .int .u8 _⟩
  | succ j => simp at hj
theorem bytes_rowRel {w : World} {I : Imm} {l : List UInt8} {inner : List Value} (h : RowRel w I 1 (bytesAV l) inner) : inner = l.map fun b => Value.int .u8 (b.toNat : Int) := by
  refine List.ext_getElem? fun i => ?_
  rw [List.getElem?_map]
  rcases Nat.lt_or_ge i l.length with hi | hi
  · obtain ⟨u, h1, h2⟩ := (h.2 i [.int .u8 (l[i].toNat : Int)] (by simp [hi])).2 0 _ rfl
    rw [Nat.mul_one, Nat.add_zero] at h1
    rw [h1, List.getElem?_eq_getElem hi]
    cases h2
    rfl
  · rw [List.getElem?_eq_none (by rw [h.1]; simpa using hi), List.getElem?_eq_none hi]
    rfl

/-- Is this object a list of bytes? -/
inductive IsBytes (l : List UInt8) (ver : Nat) : AO → Prop where
  | row (e fz : Nat) : IsBytes l ver (.row e 1 ver fz (bytesAV l))
  | arr (e : Nat) (wr : Bool) : IsBytes l ver (.arr e 1 ver (bytesAV l) wr)
/-- Where a list of bytes of the call's own lies. -/
theorem bytes_obj {I : Imm} {ν : Nu} {w : World} (hh : HR E I ν H w) {id ver : Nat} {l : List UInt8} {o : AO} (hH : H[id]? = some o) (hb : IsBytes l ver o) {v : Value} (hv : VR w I ν (.os id ver) v) :
    v = ν.val id ver ∧ ((v = .slice none 0 0 ∧ l = []) ∨ ∃ g c cur e fr, v = .slice (some ⟨g, 0, none⟩) l.length c ∧ l.length ≤ c ∧ OB ν id o = some g ∧ w.heap[g]? = some (.cells cur e fr) ∧ l.length ≤ cur.size ∧ cur.toList.take l.length = l.map fun b => Value.int .u8 (b.toNat : Int)) := by
  cases hv with
  | pure h => cases h
  | os _ _ A n c hi hver hs =>
  refine ⟨hs.symm, ?_⟩
  cases hb with
  | row e fz =>
    cases hh.obj id _ hH with
    | row _ _ _ _ _ inner ht h0 ho hr hf hI =>
      have hin := bytes_rowRel hr
      subst hin
      rw [hs] at ho
      have hbl : (bytesAV l).length = l.length := List.length_map _
      rcases ho.2 with ⟨h1, h2⟩ | ⟨g, cap, cur, h1, h2, h3, h4, h5, h6, h7⟩
      · exact .inl ⟨h1, List.eq_nil_of_length_eq_zero (by omega)⟩
      · rw [Nat.mul_one] at h6 h7
        refine .inr ⟨g, cap, cur, e, _, by rw [h1, hbl], by omega, by simp only [OB, hs, h1, Value.ownBlock], h3, by omega, by rw [← hbl]; exact h7⟩
  | arr e wr =>
    cases hh.obj id _ hH with
    | arr _ _ _ _ _ g c' cur fr ht h0 hv hb hheap hfr hl hcc hr hI =>
      have hin := bytes_rowRel hr
      have hbl : (bytesAV l).length = l.length := List.length_map _
      rw [Nat.mul_one, hbl] at hin hl
      rw [hs] at hv
      exact .inr ⟨g, c', cur, e, fr, by rw [hv, hbl], by omega, by simp only [OB, hs, hv, Value.ownBlock], hheap, hl, hin⟩

theorem bytes_cell {w : World} {g : Nat} {cur : Array Value} {e : TypeId} {fr : Nat × Nat} {l : List UInt8} (h : w.heap[g]? = some (.cells cur e fr)) (ht : cur.toList.take l.length = l.map fun b => Value.int .u8 (b.toNat : Int)) {j : Nat} {x : UInt8} (hj : l[j]? = some x) : w.cell? ((⟨g, 0, none⟩ : Addr).add j) = some (.int .u8 (x.toNat : Int)) := by
  rw [add_none]
  have h1 : (cur.toList.take l.length)[j]? = some (.int .u8 (x.toNat : Int)) := by rw [ht]; simp [hj]
  rw [List.getElem?_take] at h1
  split at h1
  · simp only [World.cell?, h, Nat.zero_add]
    simpa using h1
  · cases h1

/-- string(b), of bytes of the call's own. -/
theorem ov_conv_bytes {src dst e n b n' b' n2 b2 : Nat} {z z' z2 : Value} [ts : TI E.P src (.slice e) n b z] [td : TI E.P dst .string n' b' z'] [te : TI E.P e (.int .u8) n2 b2 z2] {x : Operand} {id ver : Nat} {l : List UInt8} {o : AO} (hx : ev sl x = some (.os id ver)) (hH : H[id]? = some o) (hb : IsBytes l ver o) :
    OV E sl H (.convert src dst x) (.str l) := by
  intro I ν a w hh hs
  obtain ⟨_, hv⟩ := bytes_obj hh hH hb (ev_ok hs hx)
  refine ⟨_, .pure (.str l), fun o' w' ho hw => ?_⟩
  rcases hv with ⟨hv, rfl⟩ | ⟨g, c, cur, e', fr, hv, hlc, hob, hheap, hl, ht⟩
  · have := run_convert_bytes_string (P := E.P) w' src dst e none 0 0 ts.u te.u td.u
    simp [execOp, ho, hv, this, Conv.bytesToString]
    rfl
  · have hheap' := (hw.obj id _ g hH hob).trans hheap
    have := run_convert_bytes_back (P := E.P) w' src dst e ⟨g, 0, none⟩ c l ts.u te.u td.u (fun j hj => bytes_cell hheap' ht (List.getElem?_eq_getElem hj))
    simp [execOp, ho, hv, this]

/-- []byte(s): an array of the call's own. -/
theorem al_conv_str {src dst e n b n' b' n2 b2 : Nat} {z z' z2 : Value} [ts : TI E.P src .string n b z] [td : TI E.P dst (.slice e) n' b' z'] [te : TI E.P e (.int .u8) n2 b2 z2] {x : Operand} {s : List UInt8} {ty : TypeId} {pos : String} {after : Array Edge} {d m : Nat} (hx : ev sl x = some (.str s)) (hm : H.length = m) (hH : Snoc H (.arr e 1 0 (bytesAV s) true) H') (hd : Nat.blt d N = true)
    (h : AL E N ops Q rest ⟨(d, .os m 0) :: sl, H'⟩) : AL E N ops Q (⟨some d, .convert src dst x, ty, pos, after, none⟩ :: rest) ⟨sl, H⟩ := by
  subst hm
  rw [hH.eq] at h
  refine al_mem hd (fun I ν a w hh hs => ?_) h
  have e1 := (ev_ok hs hx).str_inv
  obtain ⟨w', hw'⟩ : ∃ w', w' = Lib.bytesWorld w e ⟨s.toArray⟩ := ⟨_, rfl⟩
  have hrun := Lib.run_convert_string_bytes (P := E.P) w src dst e ⟨s.toArray⟩ ts.u td.u te.u
  rw [← hw'] at hrun
  have hold : ∀ k, k < w.heap.size → w'.heap[k]? = w.heap[k]? := fun k hk => by rw [hw']; exact Lib.bytesWorld_at_old w e _ k hk
  have hnew : w'.heap[w.heap.size]? = some (.cells (Lib.bytesCells w e ⟨s.toArray⟩) e ((Lib.bytesCells w e ⟨s.toArray⟩).size, (Lib.bytesCells w e ⟨s.toArray⟩).size + 1)) := by rw [hw']; exact Lib.bytesWorld_at_new w e _
  have hbs : s.length ≤ (Lib.bytesCells w e ⟨s.toArray⟩).size := by simp [Lib.bytesCells]
  have hbel : Below E.base E.w0 w' := by
    refine hh.below.trans ⟨?_, ?_, ?_, ?_, fun k hk => hold k (Nat.lt_of_lt_of_le hk hh.base)⟩
    all_goals rw [hw']
    · simp [Lib.bytesWorld, World.freeze, World.alloc, World.drew, -World.alloc_eq, -World.drew_eq]
    · simp [Lib.bytesWorld, World.freeze, World.alloc, World.drew, -World.alloc_eq, -World.drew_eq]
    · simp [Lib.bytesWorld, World.freeze, World.alloc, World.drew, -World.alloc_eq, -World.drew_eq]
    · rw [Lib.bytesWorld_size]; omega
  have hbl : (bytesAV s).length = s.length := List.length_map _
  have hp := hh.push (o := .arr e 1 0 (bytesAV s) true) (t := 0) (f := fun _ => .slice (some ⟨w.heap.size, 0, none⟩) s.length (grownCap w s.length 0 e)) (w' := w') hbel (by rw [hw', Lib.bytesWorld_size]; omega) hold
    (.arr e 1 0 (bytesAV s) true w.heap.size _ _ _ (Nat.zero_le _) (by decide) (by simp [Nu.add]; rfl) hh.base hnew (fun _ => by rw [hbl]; simpa using hbs) (by rw [hbl]; simpa using hbs) (by rw [hbl]; exact grownCap_ge w s.length 0 e) (by
      rw [hbl, Nat.mul_one]
      have : (Lib.bytesCells w e ⟨s.toArray⟩).toList.take s.length = s.map fun b => Value.int .u8 (b.toNat : Int) := by
        simp only [Lib.bytesCells, Array.toList_append]
        rw [List.take_append_of_le_length (by simp)]
        rw [List.take_of_length_le (by simp)]
        simp
      rw [this]
      exact rowRel_bytes) (fun o ho => by
        obtain ⟨v, hv⟩ := hh.imm _ _ ho
        have := World.block_lt_of_cell? w _ hv
        simp at this))
    (fun b hb => by simp [OB, Nu.add, Value.ownBlock] at hb; omega)
  refine ⟨_, _, _, fun o ho => ?_, hp.1, hp.2.1, ν.add_le _ _, .os _ 0 (some ⟨w.heap.size, 0, none⟩) s.length (grownCap w s.length 0 e) (by simp [Nu.add, hh.n]) (by simp [Nu.add, hh.n]) (by simp [Nu.add, hh.n])⟩
  simp [execOp, ho, e1, hrun]
  exact ⟨rfl, rfl⟩
end
end Go.Proofs.YtffcgpkbibijpaaGreatDoor.L

namespace Go.Proofs.YtffcgpkbibijpaaGreatDoor.L
open Go Go.RowKit
set_option linter.unusedVariables false
set_option linter.unusedSimpArgs false

section
variable {E : Env} {N : Nat} {ops : Array Oper} {Q : Exit → St → Prop} {rest : List Oper} {sl : Slots} {H H' : List AO}
theorem arr_inv {I : Imm} {ν : Nu} {w : World} (hh : HR E I ν H w) {id ver sz e : Nat} {wr : Bool} {xs : List (List AV)} (hH : H[id]? = some (.arr e sz ver xs wr)) {v : Value} (hv : VR w I ν (.os id ver) v) :
    ∃ g c, v = .slice (some ⟨g, 0, none⟩) xs.length c ∧ ν.val id ver = v ∧ id < ν.n ∧ ver ≤ ν.top id := by
  cases hv with
  | pure h => cases h
  | os _ _ A n c hi hver hs =>
    cases hh.obj id _ hH with
    | arr _ _ _ _ _ g c' cur fr ht h0 hv hb hheap hfr hl hcc hr hI =>
      rw [hs] at hv
      exact ⟨g, c', hv, hs, hi, hver⟩
theorem ov_indexAddr_arr {t e : Nat} {n b n' b' : Nat} {z z' : Value} {d' : Bool} [ti : TI E.P t (.slice e) n b z] [te : TZ E.P e d' n' b' z'] {x i : Operand} {id ver ver' sz e' : Nat} {wr : Bool} {xs : List (List AV)} {k : IntKind} {m : Int}
    (hx : ev sl x = some (.os id ver)) (hi : ev sl i = some (.int k m)) (hH : H[id]? = some (.arr e' sz ver' xs wr)) (hver : ver = ver') (hsz : sz = n') (h0 : 0 ≤ m) (h1 : m < (xs.length : Int)) : OV E sl H (.indexAddr t x i) (.er id ver sz m.toNat 0) := by
  intro I ν a w hh hs
  have hi' := (ev_ok hs hi).int_inv
  subst hver; subst hsz
  obtain ⟨g, c, hv, hval, hid, hle⟩ := arr_inv hh hH (ev_ok hs hx)
  refine ⟨.pointer (some ⟨g, m.toNat * sz + 0, none⟩), .er id ver sz m.toNat 0 g xs.length c hid hle (hval.trans hv), fun o w' ho hb => ?_⟩
  simp [execOp, ho, hv, hi', Instr.indexAt, asIntOf, ti.und, h0, h1, te.size, add_none]
theorem ov_len_arr {t e : Nat} {n b : Nat} {z : Value} [ti : TI E.P t (.slice e) n b z] {x : Operand} {id ver ver' sz e' : Nat} {wr : Bool} {xs : List (List AV)} (hx : ev sl x = some (.os id ver)) (hH : H[id]? = some (.arr e' sz ver' xs wr)) (hver : ver = ver') :
    OV E sl H (.call { callee := .builtin .len, args := #[x], argTypes := #[t] }) (.int .i64 (xs.length : Int)) := by
  intro I ν a w hh hs
  subst hver
  obtain ⟨g, c, hv, hval, hid, hle⟩ := arr_inv hh hH (ev_ok hs hx)
  refine ⟨_, .pure (.int .i64 _), fun o w' ho hb => ?_⟩
  simp [execOp, ho, hv, resolve, invoke, builtin, Builtin.len_, ti.und, goInt]

/-- A store into an array's element of one cell. -/
theorem al_store_arr {t : Nat} {dd : Bool} {b : Nat} {z : Value} [ti : TZ E.P t dd 1 b z] {p x : Operand} {id ver ver' e i : Nat} {xs xs' : List (List AV)} {c : List AV} {xv : AV} {ty : TypeId} {pos : String} {after : Array Edge}
    (hp : ev sl p = some (.er id ver 1 i 0)) (hx : ev sl x = some xv) (hpu : xv.pu = true) (hce : xv.cell = true)
    (hU : Upd id H (.arr e 1 ver' xs true) (.arr e 1 ver' xs' true) H') (hv : ver = ver') (hi : xs[i]? = some c) (hxs : xs' = xs.set i [xv])
    (h : AL E N ops Q rest ⟨sl, H'⟩) : AL E N ops Q (⟨none, .store t p x, ty, pos, after, none⟩ :: rest) ⟨sl, H⟩ := by
  obtain ⟨hid, hset⟩ := hU.eq
  subst hset; subst hv
  refine al_mem0 (fun I ν a w hh hs => ?_) h
  have hxv := ev_ok hs hx
  obtain ⟨hcv, hone⟩ := hxv.cell1 hce
  have hxp := hxv.pu hpu
  have hp' := ev_ok hs hp
  obtain ⟨pv, hpv⟩ : ∃ v, a.eval p = v := ⟨_, rfl⟩
  rw [hpv] at hp'
  cases hp' with
  | pure hp' => cases hp'
  | er _ _ _ _ _ g nn cc hidl hver hval =>
  cases hh.obj id _ hid with
  | arr _ _ _ _ _ g' c' cur fr ht h0 hv' hb hheap hfr hl hcc hr hI =>
  rw [hval] at hv'
  injection hv' with e1 e2 e3
  injection e1 with e1
  injection e1 with e1
  subst e1
  rw [Nat.mul_one] at hl hfr hr
  have hil := (List.getElem?_eq_some_iff.1 hi).1
  obtain ⟨u, hu⟩ : ∃ u, a.eval x = u := ⟨_, rfl⟩
  rw [hu] at hxp hcv hone hxv
  have hcl : c = [c.getD 0 .any] := by
    have := (hr.2 i c hi).1
    match c, this with
    | [y], _ => rfl
  have hP : PutN 0 c [xv] [xv] := by rw [hcl]; exact .here .done
  obtain ⟨w', hw'⟩ : ∃ w', w' = w.setCell ⟨g, i, none⟩ u := ⟨_, rfl⟩
  have hcell : w.cell? ⟨g, i, none⟩ = some (cur[i]'(by omega)) := by simp [World.cell?, hheap]
  have hfz : w.frozen? ⟨g, i, none⟩ = false := by
    have := hfr rfl
    simp [World.frozen?, hheap]
    intro h
    omega
  have hst := run_store E.P w ⟨g, i, none⟩ u .plain hone
  rw [hcell] at hst
  simp only [hfz, Bool.false_eq_true, if_false] at hst
  rw [← hw'] at hst
  have hheap' : w'.heap[g]? = some (.cells (cur.setIfInBounds i u) e fr) := by
    rw [hw']
    simp [World.setCell, Array.getElem?_modify, hheap]
  have hfar : ∀ k, k ≠ g → w'.heap[k]? = w.heap[k]? := fun k hk => by
    rw [hw']
    simp [World.setCell, Array.getElem?_modify, Ne.symm hk]
  have hsz : w'.heap.size = w.heap.size := by rw [hw']; simp [World.setCell]
  have hIm : ImmLe w I w' I := ImmLe.heap hh fun k _ ⟨o, ho⟩ => hfar k fun e => hI o (e ▸ ho)
  obtain ⟨hrel, hin⟩ := rowRel_put (w' := w') (vs := [u]) hr hi hP hxs rfl hIm (fun j y v h1 h2 => by
    cases j with
    | zero => simp at h1 h2; subst h1; subst h2; exact hxp
    | succ j => simp at h1)
  rw [Nat.mul_one, Nat.add_zero] at hrel
  have htake : (cur.setIfInBounds i u).toList.take xs'.length = (cur.toList.take xs.length).take i ++ [u] ++ (cur.toList.take xs.length).drop (i + [u].length) := by
    have hlx : xs'.length = xs.length := by rw [hxs]; simp
    rw [hlx]
    refine List.ext_getElem? fun k => ?_
    rw [List.getElem?_take, Array.getElem?_toList, Array.getElem?_setIfInBounds]
    by_cases k1 : k < i
    · rw [List.append_assoc, List.getElem?_append_left (by simp; omega), List.getElem?_take_of_lt k1, List.getElem?_take_of_lt (by omega), if_pos (by omega), if_neg (by omega), Array.getElem?_toList]
    · by_cases k2 : k = i
      · subst k2
        rw [if_pos hil, if_pos rfl, if_pos (by omega), List.append_assoc, List.getElem?_append_right (by simp; omega)]
        simp only [List.length_take, Array.length_toList, List.singleton_append]
        rw [show k - min k (min xs.length cur.size) = 0 by omega]
        rfl
      · rw [List.getElem?_append_right (by simp; omega)]
        have e : ((cur.toList.take xs.length).take i ++ [u]).length = i + 1 := by simp; omega
        rw [e, List.getElem?_drop, show i + [u].length + (k - (i + 1)) = k by simp; omega, List.getElem?_take, if_neg (Ne.symm k2), Array.getElem?_toList]
  have hlx : xs'.length = xs.length := by rw [hxs]; simp
  have hOB : OB ν id (.arr e 1 ver xs true) = some g := by simp only [OB, hval, Value.ownBlock]
  have hbel : Below E.base E.w0 w' := by
    refine hh.below.trans ⟨?_, ?_, ?_, by omega, fun k hk => hfar k (by omega)⟩
    all_goals rw [hw']; rfl
  have := hh.set (o' := .arr e 1 ver xs' true) (w' := w') hid (fun e => by cases e) (Nu.le.refl ν) rfl (fun _ _ => rfl) hbel (by omega) (fun k _ hk => hfar k (fun e => hk (by rw [hOB, e]))) hIm
    (.arr e 1 ver xs' true g c' (cur.setIfInBounds i u) fr ht (by decide) (by rw [hval, hlx, e2, e3]) hb hheap' (fun _ => by rw [hlx, Nat.mul_one]; exact hfr rfl) (by rw [hlx, Nat.mul_one]; simpa using hl) (by omega) (by rw [Nat.mul_one, htake]; exact hrel) hI)
    (fun b' hb' => by simp only [OB, hval, Value.ownBlock, Option.some.injEq] at hb'; exact .inl (by rw [hOB, ← hb']))
  refine ⟨w', ν, fun o ho => ?_, this.1, this.2, Nu.le.refl ν⟩
  simp [execOp, ho, Instr.storeAt, Instr.sureAddr, hpv, storeVar, hu, hcv, ti.size, storeCells, Addr.add, hst]

/-! ### unsafe.SliceData, unsafe.String -/
theorem VR.os_id {w : World} {I : Imm} {ν : Nu} {id ver : Nat} {v : Value} (h : VR w I ν (.os id ver) v) : id < ν.n ∧ ver ≤ ν.top id := by
  cases h with
  | pure h => cases h
  | os _ _ A n c hi hver hs => exact ⟨hi, hver⟩
theorem ov_usd {x : Operand} {id ver : Nat} {l : List UInt8} {o : AO} {tys : Array TypeId} (hx : ev sl x = some (.os id ver)) (hH : H[id]? = some o) (hb : IsBytes l ver o) (hne : l ≠ []) :
    OV E sl H (.call { callee := .builtin .unsafeSliceData, args := #[x], argTypes := tys }) (.er id ver 1 0 0) := by
  intro I ν a w hh hs
  have hos := ev_ok hs hx
  obtain ⟨hval, hv⟩ := bytes_obj hh hH hb hos
  rcases hv with ⟨_, e⟩ | ⟨g, c, cur, e', fr, hv, hlc, hob, hheap, hl, ht⟩
  · exact absurd e hne
  have hlp : 0 < l.length := List.length_pos_iff.2 hne
  obtain ⟨hid, hle⟩ := hos.os_id
  refine ⟨.pointer (some ⟨g, 0 * 1 + 0, none⟩), .er id ver 1 0 0 g l.length c hid hle (by rw [← hval, hv]), fun o' w' ho hw => ?_⟩
  have := Lib.run_unsafeSliceData_row (P := E.P) (w := w') tys o'.type ⟨g, 0, none⟩ l.length c (by omega)
  simp [execOp, ho, hv, resolve, invoke, builtin, this]
/-- Of no byte: some pointer or none. -/
theorem usd0_run {I : Imm} {ν : Nu} {a : Act} {w : World} {x : Operand} {id ver e : Nat} {n b : Nat} {z : Value} {o : AO} {tys : Array TypeId} {ty : TypeId} [ti : TI E.P ty (.pointer e) n b z] (hh : HR E I ν H w) (hs : SlR w I ν sl a) (hx : ev sl x = some (.os id ver)) (hH : H[id]? = some o) (hb : IsBytes [] ver o) (d : Option Nat) (pos : String) (after : Array Edge) (g : Option (Nat × Bool)) :
    ∃ w' q, (execOp a.eval ⟨d, .call { callee := .builtin .unsafeSliceData, args := #[x], argTypes := tys }, ty, pos, after, g⟩).run E.P w = .ok (.value (.pointer q)) w' ∧ Below w.heap.size w w' ∧ ∀ A, q = some A → ∃ g, A = ⟨g, 0, none⟩ := by
  obtain ⟨hval, hv⟩ := bytes_obj hh hH hb (ev_ok hs hx)
  rcases hv with ⟨hv, _⟩ | ⟨g, c, cur, e', fr, hv, hlc, hob, hheap, hl, ht⟩
  · have := Lib.run_unsafeSliceData_nil (P := E.P) (w := w) tys ty 0 0
    exact ⟨w, none, by simp [execOp, hv, resolve, invoke, builtin, this], Below.refl _ _, fun A h => by cases h⟩
  · by_cases hc : c = 0
    · subst hc
      have := Lib.run_unsafeSliceData_zero (P := E.P) (w := w) tys ty e ti.u ⟨g, 0, none⟩ 0 (e', cur.size) (by simp [World.shape?, hheap])
      exact ⟨w.alloc (.view ⟨g, 0, none⟩ e), some ⟨w.heap.size, 0, none⟩, by simp [execOp, hv, resolve, invoke, builtin, this], Below.alloc (Below.refl _ _) (Nat.le_refl _) _, fun A h => ⟨_, by injection h with h; exact h.symm⟩⟩
    · have := Lib.run_unsafeSliceData_row (P := E.P) (w := w) tys ty ⟨g, 0, none⟩ 0 c hc
      exact ⟨w, some ⟨g, 0, none⟩, by simp [execOp, hv, resolve, invoke, builtin, this], Below.refl _ _, fun A h => ⟨_, by injection h with h; exact h.symm⟩⟩
/-- What such a pointer is taken for. -/
theorem usd0_push {I : Imm} {ν : Nu} {w w' : World} {q : Option Addr} (hh : HR E I ν H w) (hb : Below w.heap.size w w') (hq : ∀ A, q = some A → ∃ g, A = ⟨g, 0, none⟩) : ∃ ν' pv, (isPtr pv = true ∨ pv = .nilp) ∧ HR E I ν' (H ++ [AO.gone]) w' ∧ FR E.k w I ν H w' I ν' (H ++ [AO.gone]) ∧ ν.le ν' ∧ VR w' I ν' pv (.pointer q) := by
  have hp := hh.push (o := .gone) (t := 0) (f := fun _ => .pointer q) (w' := w') (hh.below.trans (hb.mono hh.base)) hb.size (fun k hk => hb.block k hk) .gone (fun b h => by simp [OB] at h)
  cases q with
  | none => exact ⟨_, .nilp, .inr rfl, hp.1, hp.2.1, ν.add_le _ _, .pure .nilp⟩
  | some A =>
    obtain ⟨g, rfl⟩ := hq A rfl
    exact ⟨_, .op H.length 0, .inl rfl, hp.1, hp.2.1, ν.add_le _ _, .op _ 0 g (by simp [Nu.add, hh.n]) (by simp [Nu.add, hh.n])⟩
theorem hw_usd0 {τ : List (Nat × List Nat)} {p : PS} {pl : List PS} {x : Operand} {id ver e : Nat} {n b : Nat} {z : Value} {o : AO} {tys : Array TypeId} {ty : TypeId} [ti : TI E.P ty (.pointer e) n b z] {pos : String} {after : Array Edge} {d : Nat} (hx : ev sl x = some (.os id ver)) (hH : H[id]? = some o) (hb : IsBytes [] ver o) (hS : Snoc H .gone H') (hd : Nat.blt d N = true) (hq : p.q = false)
    (h : ∀ pv, isPtr pv = true ∨ pv = .nilp → HL E N ops τ Q pl ⟨(d, pv) :: sl, H'⟩) : HW E N ops τ Q p pl (some d) (.call { callee := .builtin .unsafeSliceData, args := #[x], argTypes := tys }) ty pos after ⟨sl, H⟩ := by
  rw [hS.eq] at h
  intro g hg hi hns L hL hp I ν a w hs w0 I0 ν0 o0 hf
  refine hl_one hL hns hp hq hi hs hf ?_
  obtain ⟨w', q, hrun, hbel, hqq⟩ := usd0_run (tys := tys) (ty := ty) hs.hr hs.sl hx hH hb (some d) pos after g
  obtain ⟨ν', pv, hpv, p1, p2, p3, p4⟩ := usd0_push hs.hr hbel hqq
  refine wpOp_do hi (hg I ν a w hs) ?_
  unfold Oper.wp
  rw [hrun]
  refine ⟨⟨(d, pv) :: sl, H ++ [AO.gone]⟩, I, ν', h pv hpv, ⟨p1, (hs.sl.mono p2.imm p3).put d p4 (by rw [hs.nt]; simpa [Nat.blt_eq] using hd), hs.df, by simp [Act.put, hs.nt]⟩, p2, fun id o b h1 _ h2 => ⟨hbel.block b (OB_lt (hs.hr.obj id o h1) h2).1, ?_, ?_⟩⟩
  · exact (List.getElem?_append_left (List.getElem?_eq_some_iff.1 h1).1).trans h1
  · exact (OB_same (hs.hr.obj id o h1) p3 (hs.hr.idlt h1)).trans h2
theorem ov_ustr0 {p n : Operand} {pv : AV} {pt it : Nat} (hp : ev sl p = some pv) (hpp : isPtr pv = true ∨ pv = .nilp) (hn : ev sl n = some (.int .i64 0)) :
    OV E sl H (.call { callee := .builtin .unsafeString, args := #[p, n], argTypes := #[pt, it] }) (.str []) := by
  intro I ν a w hh hs
  have e2 := (ev_ok hs hn).int_inv
  obtain ⟨q, e1⟩ : ∃ q, a.eval p = .pointer q := by
    rcases hpp with h | rfl
    · obtain ⟨A, hA⟩ := (ev_ok hs hp).ptr h
      exact ⟨_, hA⟩
    · exact ⟨_, (ev_ok hs hp).nilp_inv⟩
  refine ⟨_, .pure (.str []), fun o w' ho hw => ?_⟩
  have := Lib.run_unsafeString_none (P := E.P) (w := w') pt it o.type q
  simp [execOp, ho, e1, e2, resolve, invoke, builtin, this]
  rfl

/-- Which array is left of a list of bytes that a text shares. -/
inductive Shares (l : List UInt8) (ver : Nat) : AO → AO → Prop where
  | row (e : Nat) : Shares l ver (.row e 1 ver 0 (bytesAV l)) (.arr e 1 ver (bytesAV l) false)
  | arr (e : Nat) (wr : Bool) : Shares l ver (.arr e 1 ver (bytesAV l) wr) (.arr e 1 ver (bytesAV l) false)
end
end Go.Proofs.YtffcgpkbibijpaaGreatDoor.L

namespace Go.Proofs.YtffcgpkbibijpaaGreatDoor.L
open Go Go.RowKit
set_option linter.unusedVariables false
set_option linter.unusedSimpArgs false

theorem freeze_at {w : World} {g n : Nat} {cur : Array Value} {e : TypeId} {fr : Nat × Nat} (h : w.heap[g]? = some (.cells cur e fr)) : ∃ fr', (w.freeze ⟨g, 0, none⟩ n).heap[g]? = some (.cells cur e fr') := by
  unfold World.freeze
  split
  · exact ⟨fr, h⟩
  · simp only [Array.getElem?_modify, if_true, h, Option.map_some]
    exact ⟨_, rfl⟩
theorem freeze_far {w : World} {g n k : Nat} (hk : k ≠ g) : (w.freeze ⟨g, 0, none⟩ n).heap[k]? = w.heap[k]? := by
  unfold World.freeze
  split
  · rfl
  · simp only [Array.getElem?_modify]
    rw [if_neg (Ne.symm hk)]
theorem freeze_size {w : World} {g n : Nat} : (w.freeze ⟨g, 0, none⟩ n).heap.size = w.heap.size := by
  unfold World.freeze
  split
  · rfl
  · simp
section
variable {E : Env} {N : Nat} {ops : Array Oper} {Q : Exit → St → Prop} {rest : List Oper} {sl : Slots} {H H' : List AO}
theorem al_ustr {p n : Operand} {id ver e : Nat} {l : List UInt8} {o o' : AO} {pt it : Nat} {nn b : Nat} {z : Value} [ti : TI E.P pt (.pointer e) nn b z] {ty : TypeId} {pos : String} {after : Array Edge} {d : Nat} (hce : E.P.cellsOf e = 1)
    (hp : ev sl p = some (.er id ver 1 0 0)) (hn : ev sl n = some (.int .i64 (l.length : Int))) (hU : Upd id H o o' H') (hsh : (o = .row e 1 ver 0 (bytesAV l) ∨ ∃ wr, o = .arr e 1 ver (bytesAV l) wr) ∧ o' = .arr e 1 ver (bytesAV l) false) (hne : l ≠ []) (hlen : l.length ≤ 9223372036854775807) (hd : Nat.blt d N = true)
    (h : AL E N ops Q rest ⟨(d, .str l) :: sl, H'⟩) : AL E N ops Q (⟨some d, .call { callee := .builtin .unsafeString, args := #[p, n], argTypes := #[pt, it] }, ty, pos, after, none⟩ :: rest) ⟨sl, H⟩ := by
  obtain ⟨hid, hset⟩ := hU.eq
  subst hset
  obtain ⟨ho, rfl⟩ := hsh
  refine al_mem hd (fun I ν a w hh hs => ?_) h
  have e2 := (ev_ok hs hn).int_inv
  have hp' := ev_ok hs hp
  obtain ⟨pv, hpv⟩ : ∃ v, a.eval p = v := ⟨_, rfl⟩
  rw [hpv] at hp'
  have hbl : (bytesAV l).length = l.length := List.length_map _
  have hlp : 0 < l.length := List.length_pos_iff.2 hne
  cases hp' with
  | pure hp' => cases hp'
  | er _ _ _ _ _ g n2 c hidl hver hval =>
  have key : ∃ cur fr, w.heap[g]? = some (.cells cur e fr) ∧ l.length ≤ cur.size ∧ n2 = l.length ∧ l.length ≤ c ∧ cur.toList.take l.length = (l.map fun b => Value.int .u8 (b.toNat : Int)) ∧ (∀ o, ¬ I g o) ∧ OB ν id o = some g ∧ o ≠ .gone ∧ E.base ≤ g := by
    rcases ho with rfl | ⟨wr, rfl⟩
    · cases hh.obj id _ hid with
      | row _ _ _ _ _ inner ht h0 hown hr hf hI =>
        have hin := bytes_rowRel hr
        subst hin
        rw [hval] at hown hI
        rcases hown.2 with ⟨e1, e2⟩ | ⟨g', cap, cur, h1, h2, h3, h4, h5, h6, h7⟩
        · cases e1
        · injection h1 with h1 h1b h1c
          injection h1 with h1; injection h1 with h1
          subst h1
          rw [Nat.mul_one] at h6 h7
          refine ⟨cur, _, h3, by omega, by omega, by omega, by rw [← hbl]; exact h7, fun o hio => ?_, by simp only [OB, hval, Value.ownBlock], (fun e => by cases e), h2⟩
          have := hI g o rfl hio
          omega
    · cases hh.obj id _ hid with
      | arr _ _ _ _ _ g' c' cur fr ht h0 hv' hb hheap hfr hl hcc hr hI =>
        rw [hval] at hv'
        injection hv' with e1 e2 e3
        injection e1 with e1
        injection e1 with e1
        subst e1
        have hin := bytes_rowRel hr
        rw [Nat.mul_one, hbl] at hl hin
        exact ⟨cur, fr, hheap, hl, by omega, by omega, hin, hI, by simp only [OB, hval, Value.ownBlock], (fun e => by cases e), hb⟩
  obtain ⟨cur, fr, hheap, hl, hn2, hlc, ht, hI, hOB, hng, hbase⟩ := key
  obtain ⟨w', hw'⟩ : ∃ w', w' = w.freeze ⟨g, 0, none⟩ l.length := ⟨_, rfl⟩
  obtain ⟨fr', hheap'⟩ := freeze_at (n := l.length) hheap
  rw [← hw'] at hheap'
  have hfar : ∀ k, k ≠ g → w'.heap[k]? = w.heap[k]? := fun k hk => by rw [hw']; exact freeze_far hk
  have hsz : w'.heap.size = w.heap.size := by rw [hw']; exact freeze_size
  have hIm : ImmLe w I w' I := ImmLe.heap hh fun k _ ⟨o, ho⟩ => hfar k fun e => hI o (e ▸ ho)
  have hrun := Lib.run_unsafeString_row (P := E.P) (w := w) pt it ty e ti.u hce g cur.size (by simp [World.shape?, hheap]) l hne hl hlen (fun j x hj => bytes_cell hheap ht hj)
  rw [← hw'] at hrun
  have hbel : Below E.base E.w0 w' := by rw [hw']; exact Lib.below_freeze hh.below hbase _
  have htop : ver ≤ ν.top id := hver
  have := hh.set (o' := .arr e 1 ver (bytesAV l) false) (w' := w') hid hng (Nu.le.refl ν) rfl (fun _ _ => rfl) hbel (by omega) (fun k _ hk => hfar k (fun e => hk (by rw [hOB, e]))) hIm
    (.arr e 1 ver (bytesAV l) false g c cur fr' htop (by decide) (by rw [hval, hn2, hbl]) hbase hheap' (fun h => by cases h) (by rw [hbl, Nat.mul_one]; exact hl) (by rw [hbl]; exact hlc) (by rw [hbl, Nat.mul_one, ht]; exact rowRel_bytes) hI)
    (fun b' hb' => by simp only [OB, hval, Value.ownBlock, Option.some.injEq] at hb'; exact .inl (by rw [hOB, ← hb']))
  refine ⟨_, w', ν, fun o ho => ?_, this.1, this.2, Nu.le.refl ν, .pure (.str l)⟩
  have hz : (⟨g, 0 * 1 + 0, none⟩ : Addr) = ⟨g, 0, none⟩ := rfl
  have : (Builtin.unsafeString_ #[pt, it] o.type #[.pointer (some ⟨g, 0 * 1 + 0, none⟩), .int .i64 l.length]).run E.P w = .ok (.string ⟨l.toArray⟩) w' := hrun
  simp [execOp, ho, hpv, e2, resolve, invoke, builtin]
  simp at this
  rw [this]
  rfl

/-- A nil row in a box is taken for an own one. -/
theorem adoptBox_sr {I : Imm} {ν : Nu} {a : Act} {w : World} {id k e sz : Nat} {cells : List AV} {tyo : Option Nat} (hs : SR E N I ν ⟨sl, H⟩ a w) (hH : H[id]? = some (.box cells tyo)) (hk : cells[k]? = some .nilsl) (h0 : 0 < sz) :
    ∃ ν', SR E N I ν' ⟨sl, (H ++ [AO.row e sz 0 0 []]).set id (.box (cells.set k (.os H.length 0)) tyo)⟩ a w ∧ FR E.k w I ν H w I ν' ((H ++ [AO.row e sz 0 0 []]).set id (.box (cells.set k (.os H.length 0)) tyo)) := by
  have hh := hs.hr
  obtain ⟨ν', p1, p2, p3, p4⟩ := row_push (w' := w) hh (xs := []) (v := .slice none 0 0) (inner := []) (e := e) (n := 0) h0 rfl (World.ownsRow_nil w E.base e sz) ⟨by simp, fun i c h => by simp at h⟩ hh.below (Nat.le_refl _) (fun _ _ => rfl) (fun b hb => by simp [Value.ownBlock] at hb)
  have hlt : id < H.length := (List.getElem?_eq_some_iff.1 hH).1
  have hH' : (H ++ [AO.row e sz 0 0 []])[id]? = some (.box cells tyo) := by rw [List.getElem?_append_left hlt]; exact hH
  have hset := (show HR E I ν' ((H ++ [AO.row e sz 0 0 []]).set id (.box (cells.set k (.os H.length 0)) tyo)) w ∧ FR E.k w I ν' (H ++ [AO.row e sz 0 0 []]) w I ν' ((H ++ [AO.row e sz 0 0 []]).set id (.box (cells.set k (.os H.length 0)) tyo)) by
    cases p1.obj id _ hH' with
    | box _ _ b vs ty hv hb hheap hl hx hI hty =>
      have hOB : OB ν' id (.box cells tyo) = some b := by simp only [OB, hv]
      have hkl : k < cells.length := (List.getElem?_eq_some_iff.1 hk).1
      refine p1.set (o' := .box (cells.set k (.os H.length 0)) tyo) hH' (fun e => by cases e) (Nu.le.refl ν') rfl (fun _ _ => rfl) p1.below (Nat.le_refl _) (fun _ _ _ => rfl) (ImmLe.refl _ _)
        (.box _ tyo b vs ty hv hb hheap (by simpa using hl) (fun j x v h1 h2 => ?_) hI hty) (fun b' hb' => by simp only [OB, hv, Option.some.injEq] at hb'; exact .inl (by rw [hOB, ← hb']))
      by_cases e1 : j = k
      · subst e1
        rw [List.getElem?_set_self hkl] at h1
        injection h1 with h1
        subst h1
        have := (hx j .nilsl v hk h2).nilsl_inv
        rw [this]
        exact p4
      · rw [List.getElem?_set_ne (Ne.symm e1)] at h1
        exact hx j x v h1 h2)
  exact ⟨ν', ⟨hset.1, hs.sl.mono p2.imm p3, hs.df, hs.nt⟩, p2.trans hset.2⟩
theorem Wkn.adoptBox {id k e sz m : Nat} {cells cells' : List AV} {tyo : Option Nat} {H1 : List AO} (hH : H[id]? = some (.box cells tyo)) (hk : cells[k]? = some .nilsl) (h0 : 0 < sz) (hm : H.length = m) (hc : cells' = cells.set k (.os m 0)) (h1 : H1 = (H ++ [AO.row e sz 0 0 []]).set id (.box cells' tyo)) : Wkn E N ⟨sl, H⟩ ⟨sl, H1⟩ := fun I ν a w hs => by
  subst hm; subst hc; subst h1
  obtain ⟨ν', h2, h3⟩ := adoptBox_sr (e := e) (sz := sz) hs hH hk h0
  exact ⟨I, ν', h2, h3⟩
end
end Go.Proofs.YtffcgpkbibijpaaGreatDoor.L

namespace Go.Proofs.YtffcgpkbibijpaaGreatDoor.L
open Go Go.RowKit
set_option linter.unusedVariables false
set_option linter.unusedSimpArgs false

def NoG (Q : Exit → St → Prop) : Exit → St → Prop
  | .goto _, _ => False
  | e, σ => Q e σ
section
variable {E : Env} {N : Nat} {ops : Array Oper} {Q : Exit → St → Prop} {rest : List Oper} {sl : Slots} {H H' : List AO}
theorem awp_scope {c : Code} {σ : St} (h : AWp E N c (NoG Q) σ) : AWp E N (.scope c) Q σ := by
  intro I ν a w hs
  refine wp_scope_straight (Code.wp_mono (fun e a' w' hk => ?_) (h I ν a w hs))
  obtain ⟨σ', I', ν', hq, hs', hf⟩ := hk
  cases e with
  | goto l => exact hq.elim
  | normal => exact ⟨σ', I', ν', hq, hs', hf⟩
  | exit id => exact ⟨σ', I', ν', hq, hs', hf⟩
  | ret => exact ⟨σ', I', ν', hq, hs', hf⟩
  | panic ch => exact ⟨σ', I', ν', hq, hs', hf⟩
  | outgrown => exact ⟨σ', I', ν', hq, hs', hf⟩
theorem nog_ret {σ : St} (h : Q .ret σ) : NoG Q .ret σ := h
/-- What a step of a range over a text finds. -/
structure DecF (s : List UInt8) (pos c wd : Nat) : Prop where
  wd1 : 1 ≤ wd
  kind : (∃ b : UInt8, s[pos]? = some b ∧ b.toNat < 128 ∧ c = b.toNat ∧ wd = 1) ∨ (128 ≤ c ∧ ∀ (k : Nat) (b : UInt8), k < wd → s[pos + k]? = some b → 128 ≤ b.toNat)
theorem get!_mk (s : List UInt8) (i : Nat) (b : UInt8) (h : s[i]? = some b) : (ByteArray.mk s.toArray).get! i = b := by
  have hlt := (List.getElem?_eq_some_iff.1 h).1
  have h2 := (List.getElem?_eq_some_iff.1 h).2
  show s.toArray[i]! = b
  simp [hlt, h2]
theorem decF (s : List UInt8) (pos : Nat) (h : pos < s.length) : DecF s pos (Utf8.decode ⟨s.toArray⟩ pos).1 (Utf8.decode ⟨s.toArray⟩ pos).2 := by
  have hb : s[pos]? = some s[pos] := List.getElem?_eq_getElem h
  have e0 := get!_mk s pos _ hb
  have hsz : (ByteArray.mk s.toArray).size = s.length := rfl
  have cont : ∀ (k : Nat) (b : UInt8), s[pos + k]? = some b → ((ByteArray.mk s.toArray).get! (pos + k)).toNat = b.toNat := fun k b hk => by rw [get!_mk s _ b hk]
  obtain ⟨b0, hb0⟩ : ∃ b, s[pos] = b := ⟨_, rfl⟩
  rw [hb0] at hb e0
  have big : ¬ b0.toNat < 128 → 128 ≤ b0.toNat := fun h => by omega
  have one : ¬ b0.toNat < 128 → ∀ (k : Nat) (b : UInt8), k < 1 → s[pos + k]? = some b → 128 ≤ b.toNat := fun hn k b hk hbk => by
    obtain rfl : k = 0 := by omega
    rw [Nat.add_zero, hb] at hbk
    injection hbk with hbk
    subst hbk
    omega
  unfold Utf8.decode
  simp only [Nat.add_zero, e0, hsz]
  have re : (128 : Nat) ≤ Utf8.runeError := by decide
  split
  · rename_i h1
    exact ⟨Nat.le_refl _, .inl ⟨b0, hb, h1, rfl, rfl⟩⟩
  rename_i h1
  split
  · rename_i h2
    simp only [Bool.and_eq_true, decide_eq_true_eq, beq_iff_eq] at h2
    split
    · rename_i h3
      refine ⟨by dsimp only; omega, .inr ⟨h3, fun k b hk hbk => ?_⟩⟩
      rcases (show k = 0 ∨ k = 1 by omega) with rfl | rfl
      · exact one h1 0 b (by decide) hbk
      · have := cont 1 b hbk; omega
    · exact ⟨Nat.le_refl _, .inr ⟨re, one h1⟩⟩
  · split
    · rename_i h2
      simp only [Bool.and_eq_true, decide_eq_true_eq, beq_iff_eq] at h2
      split
      · rename_i h3
        simp only [Bool.and_eq_true, decide_eq_true_eq] at h3
        refine ⟨by dsimp only; omega, .inr ⟨by omega, fun k b hk hbk => ?_⟩⟩
        rcases (show k = 0 ∨ k = 1 ∨ k = 2 by omega) with rfl | rfl | rfl
        · exact one h1 0 b (by decide) hbk
        · have := cont 1 b hbk; omega
        · have := cont 2 b hbk; omega
      · exact ⟨Nat.le_refl _, .inr ⟨re, one h1⟩⟩
    · split
      · rename_i h2
        simp only [Bool.and_eq_true, decide_eq_true_eq, beq_iff_eq] at h2
        split
        · rename_i h3
          simp only [Bool.and_eq_true, decide_eq_true_eq] at h3
          refine ⟨by dsimp only; omega, .inr ⟨by omega, fun k b hk hbk => ?_⟩⟩
          rcases (show k = 0 ∨ k = 1 ∨ k = 2 ∨ k = 3 by omega) with rfl | rfl | rfl | rfl
          · exact one h1 0 b (by decide) hbk
          · have := cont 1 b hbk; omega
          · have := cont 2 b hbk; omega
          · have := cont 3 b hbk; omega
        · exact ⟨Nat.le_refl _, .inr ⟨re, one h1⟩⟩
      · exact ⟨Nat.le_refl _, .inr ⟨re, one h1⟩⟩

theorem al_range_str {t : Nat} {n b : Nat} {z : Value} [ti : TI E.P t .string n b z] {x : Operand} {s : List UInt8} {m : Nat} {ty : TypeId} {pos : String} {after : Array Edge} {d : Nat} (hx : ev sl x = some (.str s)) (hm : H.length = m) (hS : Snoc H (.siter s 0) H') (hd : Nat.blt d N = true)
    (h : AL E N ops Q rest ⟨(d, .op m 0) :: sl, H'⟩) : AL E N ops Q (⟨some d, .range t x, ty, pos, after, none⟩ :: rest) ⟨sl, H⟩ := by
  subst hm
  rw [hS.eq] at h
  refine al_mem hd (fun I ν a w hh hs => ?_) h
  have e1 := (ev_ok hs hx).str_inv
  have := hh.push (o := .siter s 0) (t := 0) (f := fun _ => .pointer (some ⟨w.heap.size, 0, none⟩)) (w' := w.iter ⟨s.toArray⟩ 0) (hh.below.alloc hh.base _) (by simp [World.iter]) (fun k hk => Below.heap_alloc w _ k hk)
    (.siter s 0 w.heap.size (by simp [Nu.add]) hh.base (World.iter_heap w _ 0)) (fun b hb => by simp [OB, Nu.add] at hb; omega)
  refine ⟨_, _, _, fun o ho => ?_, this.1, this.2.1, ν.add_le _ _, .op _ 0 w.heap.size (by simp [Nu.add, hh.n]) (by simp [Nu.add, hh.n])⟩
  have hrun := run_range_string (P := E.P) w t ⟨s.toArray⟩ ti.u
  simp [execOp, ho, e1, hrun]

theorem al_next_str {it : Operand} {id pos : Nat} {s : List UInt8} {ty : TypeId} {p : String} {after : Array Edge} {d : Nat} {Hf : Nat → List AO} (hit : ev sl it = some (.op id 0)) (hI : H[id]? = some (.siter s pos)) (hU : ∀ wd, Upd id H (.siter s pos) (.siter s (pos + wd)) (Hf wd)) (hd : Nat.blt d N = true)
    (h0 : s.length ≤ pos → AL E N ops Q rest ⟨(d, .tup [.bool false]) :: sl, H⟩) (h1 : ∀ c wd, pos < s.length → DecF s pos c wd → AL E N ops Q rest ⟨(d, .tup [.bool true, .int .i64 (pos : Int), .int .i32 (c : Int)]) :: sl, Hf wd⟩) :
    AL E N ops Q (⟨some d, .next it true, ty, p, after, none⟩ :: rest) ⟨sl, H⟩ := by
  intro I ν a w hs w0 I0 ν0 o0 hf0
  have hh := hs.hr
  have hit' := ev_ok hs.sl hit
  obtain ⟨iv, hiv⟩ : ∃ v, a.eval it = v := ⟨_, rfl⟩
  rw [hiv] at hit'
  cases hit' with
  | pure h => cases h
  | op _ _ r hi hval =>
  cases hh.obj id _ hI with
  | siter _ _ r' hv hb hheap =>
  rw [hval] at hv
  injection hv with e; injection e with e; injection e with e
  subst e
  refine wpList_plain rfl fun K hK => ?_
  unfold Oper.wp
  have hsz : (ByteArray.mk s.toArray).size = s.length := rfl
  by_cases hp : pos < s.length
  · obtain ⟨w', hw'⟩ : ∃ w', w' = { w with heap := w.heap.setIfInBounds r (.stringIter ⟨s.toArray⟩ (pos + (Utf8.decode ⟨s.toArray⟩ pos).2)) } := ⟨_, rfl⟩
    have hrl : r < w.heap.size := (Array.getElem?_eq_some_iff.1 hheap).1
    have hrun : (execOp a.eval ⟨some d, .next it true, ty, p, after, none⟩).run E.P w = .ok (.value (.tuple #[.bool true, .int .i64 (pos : Int), .int .i32 ((Utf8.decode ⟨s.toArray⟩ pos).1 : Int)])) w' := by
      have hr : w.heap[r] = .stringIter ⟨s.toArray⟩ pos := (Array.getElem?_eq_some_iff.1 hheap).2
      simp [execOp, hiv, Instr.next, getObj, setObj, Sem.run, hheap, hsz, hp, goInt, hw']
    rw [hrun]
    have hnew : w'.heap[r]? = some (.stringIter ⟨s.toArray⟩ (pos + (Utf8.decode ⟨s.toArray⟩ pos).2)) := by rw [hw']; simp [hrl]
    have hfar : ∀ k, k ≠ r → w'.heap[k]? = w.heap[k]? := fun k hk => by rw [hw']; simp [Array.getElem?_setIfInBounds, Ne.symm hk]
    have hszw : w'.heap.size = w.heap.size := by rw [hw']; simp
    have hOB : OB ν id (.siter s pos) = some r := by simp only [OB, hval]
    obtain ⟨hid, hset⟩ := (hU (Utf8.decode ⟨s.toArray⟩ pos).2).eq
    have hnoI : ∀ o, ¬ I r o := fun o ho => by
      obtain ⟨v, hv⟩ := hh.imm r o ho
      simp [World.cell?, hheap] at hv
    have hIm : ImmLe w I w' I := ImmLe.heap hh fun k _ ⟨o, ho⟩ => hfar k fun e => hnoI o (e ▸ ho)
    have hbel : Below E.base E.w0 w' := by
      refine hh.below.trans ⟨?_, ?_, ?_, by omega, fun k hk => hfar k (by omega)⟩
      all_goals rw [hw']
    have := hh.set (o' := .siter s (pos + (Utf8.decode ⟨s.toArray⟩ pos).2)) (w' := w') hid (fun e => by cases e) (Nu.le.refl ν) rfl (fun _ _ => rfl) hbel (by omega) (fun k _ hk => hfar k (fun e => hk (by rw [hOB, e]))) hIm
      (.siter _ _ r hval hb hnew) (fun b' hb' => by simp only [OB, hval, Option.some.injEq] at hb'; exact .inl (by rw [hOB, ← hb']))
    have hal := h1 _ _ hp (decF s pos hp)
    rw [hset] at hal
    exact hK _ _ (hal I ν _ w' ⟨this.1, (hs.sl.mono hIm (Nu.le.refl ν)).put d (.tup [.bool true, .int .i64 (pos : Int), .int .i32 ((Utf8.decode ⟨s.toArray⟩ pos).1 : Int)] [.bool true, .int .i64 (pos : Int), .int .i32 ((Utf8.decode ⟨s.toArray⟩ pos).1 : Int)] rfl (fun j x v k1 k2 => by
      match j, k1, k2 with
      | 0, k1, k2 => simp at k1 k2; subst k1; subst k2; exact .pure (.bool _)
      | 1, k1, k2 => simp at k1 k2; subst k1; subst k2; exact .pure (.int _ _)
      | 2, k1, k2 => simp at k1 k2; subst k1; subst k2; exact .pure (.int _ _)
      | j + 3, k1, k2 => simp at k1)) (by rw [hs.nt]; simpa [Nat.blt_eq] using hd), hs.df, by simp [Act.put, hs.nt]⟩ w0 I0 ν0 o0 (hf0.trans this.2))
  · have hrun : (execOp a.eval ⟨some d, .next it true, ty, p, after, none⟩).run E.P w = .ok (.value (.tuple #[.bool false])) w := by
      simp [execOp, hiv, Instr.next, getObj, Sem.run, hheap, hsz, hp]
    rw [hrun]
    exact hK _ _ (h0 (by omega) I ν _ w ⟨hh, hs.sl.put d (.tup [.bool false] [.bool false] rfl (fun j x v k1 k2 => by
      match j, k1, k2 with
      | 0, k1, k2 => simp at k1 k2; subst k1; subst k2; exact .pure (.bool _)
      | j + 1, k1, k2 => simp at k1)) (by rw [hs.nt]; simpa [Nat.blt_eq] using hd), hs.df, by simp [Act.put, hs.nt]⟩ w0 I0 ν0 o0 hf0)

/-- The text of a rune. -/
theorem ov_itos {src dst n b n' b' : Nat} {k k' : IntKind} {z z' : Value} [ts : TI E.P src (.int k) n b z] [td : TI E.P dst .string n' b' z'] {x : Operand} {m : Int} (hx : ev sl x = some (.int k' m)) : OV E sl H (.convert src dst x) (.str (Utf8.encode m).data.toList) := by
  intro I ν a w hh hs
  have e1 := (ev_ok hs hx).int_inv
  refine ⟨_, .pure (.str _), fun o w' ho hw => ?_⟩
  simp [execOp, ho, e1, convert, run_underlying ts.u, run_underlying td.u, Conv.intToString]
theorem encode_big {c : Nat} (h : 128 ≤ c) : ∃ (l : List UInt8) (b : UInt8), (Utf8.encode (c : Int)).data.toList = l ++ [b] ∧ 1 ≤ l.length ∧ l.length ≤ 3 ∧ 128 ≤ b.toNat := by
  unfold Utf8.encode
  obtain ⟨d, hd⟩ : ∃ d, d = if Utf8.valid (c : Int) = true then (c : Int).toNat else Utf8.runeError := ⟨_, rfl⟩
  have hd' : 128 ≤ d := by
    rw [hd]
    split
    · simpa using h
    · decide
  simp only [← hd]
  have key : 128 ≤ (UInt8.ofNat (128 + d % 64)).toNat := by
    rw [UInt8.toNat_ofNat']
    omega
  rw [if_neg (by omega)]
  split
  · exact ⟨[_], _, rfl, by simp, by simp, key⟩
  · split
    · exact ⟨[_, _], _, rfl, by simp, by simp, key⟩
    · exact ⟨[_, _, _], _, rfl, by simp, by simp, key⟩
end
end Go.Proofs.YtffcgpkbibijpaaGreatDoor.L

namespace Go.Proofs
open Go.Shelf
def Tryz.lays160_ren : Go.Shelf.Ren := ⟨fun|160 => 44|232 => 68|231 => 67|227 => 69|234 => 71|233 => 70|236 => 73|235 => 72|228 => 100|271 => 103|151 => 102|197 => 101|120 => 135|152 => 134|260 => 133|137 => 136|119 => 143|224 => 112|225 => 111|217 => 110|266 => 138|n => n, fun|9 => 9|4 => 4|3 => 3|5 => 5|117 => 104|116 => 103|0 => 0|124 => 107|21 => 21|105 => 132|46 => 92|119 => 163|139 => 166|138 => 165|n => n, fun|3 => 3|4 => 4|n => n⟩
theorem Tryz.lays160 : Go.Proofs.Lays.n160 Tryz.prog Tryz.lays160_ren := {
  mixed := by kernel_rfl
  f119 := Tryz.func143.trans (congrArg some (by kernel_rfl))
  f120 := Tryz.func135.trans (congrArg some (by kernel_rfl))
  f137 := Tryz.func136.trans (congrArg some (by kernel_rfl))
  f151 := Tryz.func102.trans (congrArg some (by kernel_rfl))
  f152 := Tryz.func134.trans (congrArg some (by kernel_rfl))
  f160 := Tryz.func44.trans (congrArg some (by kernel_rfl))
  f197 := Tryz.func101.trans (congrArg some (by kernel_rfl))
  f217 := Tryz.func110.trans (congrArg some (by kernel_rfl))
  f224 := Tryz.func112.trans (congrArg some (by kernel_rfl))
  f225 := Tryz.func111.trans (congrArg some (by kernel_rfl))
  f227 := Tryz.func69.trans (congrArg some (by kernel_rfl))
  f228 := Tryz.func100.trans (congrArg some (by kernel_rfl))
  f231 := Tryz.func67.trans (congrArg some (by kernel_rfl))
  f232 := Tryz.func68.trans (congrArg some (by kernel_rfl))
  f233 := Tryz.func70.trans (congrArg some (by kernel_rfl))
  f234 := Tryz.func71.trans (congrArg some (by kernel_rfl))
  f235 := Tryz.func72.trans (congrArg some (by kernel_rfl))
  f236 := Tryz.func73.trans (congrArg some (by kernel_rfl))
  f260 := Tryz.func133.trans (congrArg some (by kernel_rfl))
  f266 := Tryz.func138.trans (congrArg some (by kernel_rfl))
  f271 := Tryz.func103.trans (congrArg some (by kernel_rfl))
  t0 := Tryz.underlying0
  a0 := Tryz.isAgg0
  z0 := Tryz.sizeOf0
  v0 := Tryz.zeroValue0
  t3 := Tryz.underlying3
  a3 := Tryz.isAgg3
  z3 := Tryz.sizeOf3
  v3 := Tryz.zeroValue3
  t4 := Tryz.underlying4
  a4 := Tryz.isAgg4
  z4 := Tryz.sizeOf4
  v4 := Tryz.zeroValue4
  t5 := Tryz.underlying5
  a5 := Tryz.isAgg5
  z5 := Tryz.sizeOf5
  v5 := Tryz.zeroValue5
  t9 := Tryz.underlying9
  a9 := Tryz.isAgg9
  z9 := Tryz.sizeOf9
  v9 := Tryz.zeroValue9
  t21 := Tryz.underlying21
  a21 := Tryz.isAgg21
  z21 := Tryz.sizeOf21
  v21 := Tryz.zeroValue21
  t46 := Tryz.underlying92
  a46 := Tryz.isAgg92
  z46 := Tryz.sizeOf92
  v46 := Tryz.zeroValue92
  t105 := Tryz.underlying132
  a105 := Tryz.isAgg132
  z105 := Tryz.sizeOf132
  v105 := Tryz.zeroValue132
  t116 := Tryz.underlying103
  a116 := Tryz.isAgg103
  z116 := Tryz.sizeOf103
  t117 := Tryz.underlying104
  a117 := Tryz.isAgg104
  z117 := Tryz.sizeOf104
  v117 := Tryz.zeroValue104
  t119 := Tryz.underlying163
  a119 := Tryz.isAgg163
  z119 := Tryz.sizeOf163
  t124 := Tryz.underlying107
  a124 := Tryz.isAgg107
  z124 := Tryz.sizeOf107
  v124 := Tryz.zeroValue107
  t138 := Tryz.underlying165
  a138 := Tryz.isAgg165
  z138 := Tryz.sizeOf165
  v138 := Tryz.zeroValue165
  t139 := Tryz.underlying166
  a139 := Tryz.isAgg166
  z139 := Tryz.sizeOf166
  v139 := Tryz.zeroValue166
  g3 := by kernel_rfl
  g4 := by kernel_rfl }
def Tryz.lays137_ren : Go.Shelf.Ren := ⟨fun | 137 => 136 | 217 => 110 | 266 => 138 | n => n, fun | 9 => 9 | 5 => 5 | 3 => 3 | n => n, fun | n => n⟩
theorem Tryz.lays137 : Go.Proofs.Lays.n137 Tryz.prog Tryz.lays137_ren := {
  mixed := by kernel_rfl
  f137 := Tryz.func136.trans (congrArg some (by kernel_rfl))
  f217 := Tryz.func110.trans (congrArg some (by kernel_rfl))
  f266 := Tryz.func138.trans (congrArg some (by kernel_rfl))
  t3 := Tryz.underlying3
  a3 := Tryz.isAgg3
  z3 := Tryz.sizeOf3
  v3 := Tryz.zeroValue3
  t5 := Tryz.underlying5
  a5 := Tryz.isAgg5
  z5 := Tryz.sizeOf5
  v5 := Tryz.zeroValue5
  t9 := Tryz.underlying9
  a9 := Tryz.isAgg9
  z9 := Tryz.sizeOf9
  v9 := Tryz.zeroValue9 }
open Go.RowKit in
/-- strings.IndexByte: "IndexByte returns the index of the first instance of c in s, or -1 if c is not present in s.": IT RETURNS 'Lib.indexByte s c'; the world is as it was. (LAID: no walk: one application.) -/
theorem Tryz.strings_IndexByte (s : ByteArray) (c : Int) (w : World) :
    Calls Tryz.prog 136 #[.string s, .int .u8 c] w fun e w' => e = .returned (.int .i64 (Lib.indexByte s.data.toList c.toNat.toUInt8)) ∧ w' = w := Any.strings_IndexByte Tryz.lays137 s c w
def Tryz.lays172_ren : Go.Shelf.Ren := ⟨fun|172 => 40|244 => 64|245 => 65|247 => 93|279 => 94|280 => 95|281 => 96|282 => 97|287 => 127|316 => 128|171 => 130|205 => 129|321 => 140|322 => 141|243 => 142|246 => 144|283 => 145|284 => 146|285 => 147|286 => 148|129 => 150|317 => 149|318 => 151|319 => 152|320 => 153|337 => 154|338 => 155|n => n, fun|9 => 9|3 => 3|75 => 73|76 => 74|4 => 4|5 => 5|167 => 125|37 => 55|0 => 0|85 => 126|2 => 2|168 => 128|53 => 148|175 => 149|46 => 92|210 => 152|127 => 124|145 => 162|143 => 160|21 => 21|171 => 169|173 => 172|212 => 175|51 => 156|20 => 20|213 => 176|232 => 179|233 => 180|80 => 94|n => n, fun|15 => 1|16 => 2|17 => 5|18 => 6|19 => 7|n => n⟩
theorem Tryz.lays172 : Go.Proofs.Lays.n172 Tryz.prog Tryz.lays172_ren := {
  mixed := by kernel_rfl
  f129 := Tryz.func150.trans (congrArg some (by kernel_rfl))
  f171 := Tryz.func130.trans (congrArg some (by kernel_rfl))
  f172 := Tryz.func40.trans (congrArg some (by kernel_rfl))
  f205 := Tryz.func129.trans (congrArg some (by kernel_rfl))
  f243 := Tryz.func142.trans (congrArg some (by kernel_rfl))
  f244 := Tryz.func64.trans (congrArg some (by kernel_rfl))
  f245 := Tryz.func65.trans (congrArg some (by kernel_rfl))
  f246 := Tryz.func144.trans (congrArg some (by kernel_rfl))
  f247 := Tryz.func93.trans (congrArg some (by kernel_rfl))
  f279 := Tryz.func94.trans (congrArg some (by kernel_rfl))
  f280 := Tryz.func95.trans (congrArg some (by kernel_rfl))
  f281 := Tryz.func96.trans (congrArg some (by kernel_rfl))
  f282 := Tryz.func97.trans (congrArg some (by kernel_rfl))
  f283 := Tryz.func145.trans (congrArg some (by kernel_rfl))
  f284 := Tryz.func146.trans (congrArg some (by kernel_rfl))
  f285 := Tryz.func147.trans (congrArg some (by kernel_rfl))
  f286 := Tryz.func148.trans (congrArg some (by kernel_rfl))
  f287 := Tryz.func127.trans (congrArg some (by kernel_rfl))
  f316 := Tryz.func128.trans (congrArg some (by kernel_rfl))
  f317 := Tryz.func149.trans (congrArg some (by kernel_rfl))
  f318 := Tryz.func151.trans (congrArg some (by kernel_rfl))
  f319 := Tryz.func152.trans (congrArg some (by kernel_rfl))
  f320 := Tryz.func153.trans (congrArg some (by kernel_rfl))
  f321 := Tryz.func140.trans (congrArg some (by kernel_rfl))
  f322 := Tryz.func141.trans (congrArg some (by kernel_rfl))
  f337 := Tryz.func154.trans (congrArg some (by kernel_rfl))
  f338 := Tryz.func155.trans (congrArg some (by kernel_rfl))
  t0 := Tryz.underlying0
  a0 := Tryz.isAgg0
  z0 := Tryz.sizeOf0
  v0 := Tryz.zeroValue0
  t2 := Tryz.underlying2
  a2 := Tryz.isAgg2
  z2 := Tryz.sizeOf2
  v2 := Tryz.zeroValue2
  t3 := Tryz.underlying3
  a3 := Tryz.isAgg3
  z3 := Tryz.sizeOf3
  v3 := Tryz.zeroValue3
  t4 := Tryz.underlying4
  a4 := Tryz.isAgg4
  z4 := Tryz.sizeOf4
  v4 := Tryz.zeroValue4
  t5 := Tryz.underlying5
  a5 := Tryz.isAgg5
  z5 := Tryz.sizeOf5
  v5 := Tryz.zeroValue5
  t9 := Tryz.underlying9
  a9 := Tryz.isAgg9
  z9 := Tryz.sizeOf9
  v9 := Tryz.zeroValue9
  t20 := Tryz.underlying20
  a20 := Tryz.isAgg20
  z20 := Tryz.sizeOf20
  v20 := Tryz.zeroValue20
  t21 := Tryz.underlying21
  a21 := Tryz.isAgg21
  z21 := Tryz.sizeOf21
  v21 := Tryz.zeroValue21
  t37 := Tryz.underlying55
  a37 := Tryz.isAgg55
  z37 := Tryz.sizeOf55
  v37 := Tryz.zeroValue55
  t46 := Tryz.underlying92
  a46 := Tryz.isAgg92
  z46 := Tryz.sizeOf92
  v46 := Tryz.zeroValue92
  t51 := Tryz.underlying156
  a51 := Tryz.isAgg156
  z51 := Tryz.sizeOf156
  v51 := Tryz.zeroValue156
  t53 := Tryz.underlying148
  a53 := Tryz.isAgg148
  z53 := Tryz.sizeOf148
  v53 := Tryz.zeroValue148
  t75 := Tryz.underlying73
  a75 := Tryz.isAgg73
  z75 := Tryz.sizeOf73
  v75 := Tryz.zeroValue73
  t76 := Tryz.underlying74
  a76 := Tryz.isAgg74
  z76 := Tryz.sizeOf74
  v76 := Tryz.zeroValue74
  t85 := Tryz.underlying126
  a85 := Tryz.isAgg126
  z85 := Tryz.sizeOf126
  v85 := Tryz.zeroValue126
  t127 := Tryz.underlying124
  a127 := Tryz.isAgg124
  z127 := Tryz.sizeOf124
  v127 := Tryz.zeroValue124
  t143 := Tryz.underlying160
  a143 := Tryz.isAgg160
  z143 := Tryz.sizeOf160
  v143 := Tryz.zeroValue160
  t145 := Tryz.underlying162
  a145 := Tryz.isAgg162
  z145 := Tryz.sizeOf162
  v145 := Tryz.zeroValue162
  t167 := Tryz.underlying125
  a167 := Tryz.isAgg125
  z167 := Tryz.sizeOf125
  v167 := Tryz.zeroValue125
  t168 := Tryz.underlying128
  a168 := Tryz.isAgg128
  z168 := Tryz.sizeOf128
  v168 := Tryz.zeroValue128
  t171 := Tryz.underlying169
  a171 := Tryz.isAgg169
  z171 := Tryz.sizeOf169
  v171 := Tryz.zeroValue169
  t173 := Tryz.underlying172
  a173 := Tryz.isAgg172
  z173 := Tryz.sizeOf172
  v173 := Tryz.zeroValue172
  t175 := Tryz.underlying149
  a175 := Tryz.isAgg149
  z175 := Tryz.sizeOf149
  v175 := Tryz.zeroValue149
  t210 := Tryz.underlying152
  a210 := Tryz.isAgg152
  z210 := Tryz.sizeOf152
  v210 := Tryz.zeroValue152
  t212 := Tryz.underlying175
  a212 := Tryz.isAgg175
  z212 := Tryz.sizeOf175
  v212 := Tryz.zeroValue175
  t213 := Tryz.underlying176
  a213 := Tryz.isAgg176
  z213 := Tryz.sizeOf176
  t232 := Tryz.underlying179
  a232 := Tryz.isAgg179
  z232 := Tryz.sizeOf179
  v232 := Tryz.zeroValue179
  t233 := Tryz.underlying180
  a233 := Tryz.isAgg180
  z233 := Tryz.sizeOf180
  v233 := Tryz.zeroValue180
  g15 := by kernel_rfl
  g16 := by kernel_rfl
  g17 := by kernel_rfl
  g18 := by kernel_rfl
  g19 := by kernel_rfl }
open Go.RowKit in
/-- strconv.Atoi: "Atoi is equivalent to ParseInt(s, 10, 0), converted to type int.": AT A DECIMAL NUMERAL OF AT MOST 18 BYTES: its value, and a nil error. The world behind the call: the one new row that the library's '[]byte(s)' lays. (LAID: no walk: one application.) -/
theorem Tryz.strconv_Atoi (s : ByteArray) (n : Int) (hl : s.size ≤ 18) (h : Lib.atoi s.data.toList = some n) (w : World) :
    Calls Tryz.prog 40 #[.string s] w fun e w' => e = .returned (.tuple #[.int .i64 n, .nilIface]) ∧ ∃ t, w' = Lib.bytesWorld w 5 t := Any.strconv_Atoi Tryz.lays172 s n hl h w
def Tryz.lays219_ren : Go.Shelf.Ren := ⟨fun | 219 => 79 | 217 => 110 | 225 => 111 | 224 => 112 | 267 => 113 | 266 => 138 | 314 => 139 | n => n, fun | 9 => 9 | 3 => 3 | 4 => 4 | 5 => 5 | 46 => 92 | 146 => 157 | 51 => 156 | n => n, fun | 1 => 0 | n => n⟩
def Tryz.lays143_ren : Go.Shelf.Ren := ⟨fun | 143 => 49 | 219 => 79 | 217 => 110 | 225 => 111 | 224 => 112 | 267 => 113 | 266 => 138 | 314 => 139 | n => n, fun | 9 => 9 | 3 => 3 | 4 => 4 | 5 => 5 | 46 => 92 | 146 => 157 | 51 => 156 | n => n, fun | 1 => 0 | n => n⟩
theorem Tryz.lays143 : Go.Proofs.Lays.n143 Tryz.prog Tryz.lays143_ren := {
  mixed := by kernel_rfl
  f143 := Tryz.func49.trans (congrArg some (by kernel_rfl))
  f217 := Tryz.func110.trans (congrArg some (by kernel_rfl))
  f219 := Tryz.func79.trans (congrArg some (by kernel_rfl))
  f224 := Tryz.func112.trans (congrArg some (by kernel_rfl))
  f225 := Tryz.func111.trans (congrArg some (by kernel_rfl))
  f266 := Tryz.func138.trans (congrArg some (by kernel_rfl))
  f267 := Tryz.func113.trans (congrArg some (by kernel_rfl))
  f314 := Tryz.func139.trans (congrArg some (by kernel_rfl))
  t3 := Tryz.underlying3
  a3 := Tryz.isAgg3
  z3 := Tryz.sizeOf3
  v3 := Tryz.zeroValue3
  t4 := Tryz.underlying4
  a4 := Tryz.isAgg4
  z4 := Tryz.sizeOf4
  v4 := Tryz.zeroValue4
  t5 := Tryz.underlying5
  a5 := Tryz.isAgg5
  z5 := Tryz.sizeOf5
  v5 := Tryz.zeroValue5
  t9 := Tryz.underlying9
  a9 := Tryz.isAgg9
  z9 := Tryz.sizeOf9
  v9 := Tryz.zeroValue9
  t46 := Tryz.underlying92
  a46 := Tryz.isAgg92
  z46 := Tryz.sizeOf92
  v46 := Tryz.zeroValue92
  t51 := Tryz.underlying156
  a51 := Tryz.isAgg156
  z51 := Tryz.sizeOf156
  v51 := Tryz.zeroValue156
  t146 := Tryz.underlying157
  a146 := Tryz.isAgg157
  z146 := Tryz.sizeOf157
  v146 := Tryz.zeroValue157
  g1 := by kernel_rfl }
open Go.RowKit Go.Lib in
/-- strings.Index: "Index returns the index of the first instance of substr in s, or -1 if substr is not present in s.": IT RETURNS 'Lib.index s substr'; the world is as it was. (LAID: no walk: one application.) -/
theorem Tryz.strings_Index (s sub : ByteArray) (m : Int) (w : World) (hs : s.size < 4294967281) (hm : w.cell? ⟨0, 0, none⟩ = some (.int .i64 m)) :
    Calls Tryz.prog 49 #[.string s, .string sub] w fun e w' => e = .returned (.int .i64 (Lib.index s.data.toList sub.data.toList)) ∧ w' = w := Any.strings_Index Tryz.lays143 s sub m w hs hm
def Tryz.lays145_ren : Go.Shelf.Ren := ⟨fun | 145 => 77 | 220 => 108 | 219 => 79 | 217 => 110 | 225 => 111 | 224 => 112 | 267 => 113 | 266 => 138 | 314 => 139 | n => n, fun | 9 => 9 | 4 => 4 | 59 => 113 | 3 => 3 | 5 => 5 | 46 => 92 | 146 => 157 | 51 => 156 | n => n, fun | 1 => 0 | n => n⟩
theorem Tryz.lays145 : Go.Proofs.Lays.n145 Tryz.prog Tryz.lays145_ren := {
  mixed := by kernel_rfl
  f145 := Tryz.func77.trans (congrArg some (by kernel_rfl))
  f217 := Tryz.func110.trans (congrArg some (by kernel_rfl))
  f219 := Tryz.func79.trans (congrArg some (by kernel_rfl))
  f220 := Tryz.func108.trans (congrArg some (by kernel_rfl))
  f224 := Tryz.func112.trans (congrArg some (by kernel_rfl))
  f225 := Tryz.func111.trans (congrArg some (by kernel_rfl))
  f266 := Tryz.func138.trans (congrArg some (by kernel_rfl))
  f267 := Tryz.func113.trans (congrArg some (by kernel_rfl))
  f314 := Tryz.func139.trans (congrArg some (by kernel_rfl))
  t3 := Tryz.underlying3
  a3 := Tryz.isAgg3
  z3 := Tryz.sizeOf3
  v3 := Tryz.zeroValue3
  t4 := Tryz.underlying4
  a4 := Tryz.isAgg4
  z4 := Tryz.sizeOf4
  v4 := Tryz.zeroValue4
  t5 := Tryz.underlying5
  a5 := Tryz.isAgg5
  z5 := Tryz.sizeOf5
  v5 := Tryz.zeroValue5
  t9 := Tryz.underlying9
  a9 := Tryz.isAgg9
  z9 := Tryz.sizeOf9
  v9 := Tryz.zeroValue9
  t46 := Tryz.underlying92
  a46 := Tryz.isAgg92
  z46 := Tryz.sizeOf92
  v46 := Tryz.zeroValue92
  t51 := Tryz.underlying156
  a51 := Tryz.isAgg156
  z51 := Tryz.sizeOf156
  v51 := Tryz.zeroValue156
  t59 := Tryz.underlying113
  a59 := Tryz.isAgg113
  z59 := Tryz.sizeOf113
  v59 := Tryz.zeroValue113
  t146 := Tryz.underlying157
  a146 := Tryz.isAgg157
  z146 := Tryz.sizeOf157
  v146 := Tryz.zeroValue157
  g1 := by kernel_rfl }
open Go.RowKit Go.Lib in
/-- strings.Cut: "Cut slices s around the first instance of sep, returning the text before and after sep. The found result reports whether sep appears in s. If sep does not appear in s, cut returns s, "", false.": IT RETURNS 'Lib.cut s sep'; the world is as it was but for the count of draws. (LAID: no walk: one application.) -/
theorem Tryz.strings_Cut (s sep : ByteArray) (m : Int) (w : World) (hs : s.size < 4294967281) (hm : w.cell? ⟨0, 0, none⟩ = some (.int .i64 m)) :
    Calls Tryz.prog 77 #[.string s, .string sep] w fun e w' => e = .returned (.tuple #[.string ⟨(Lib.cut s.data.toList sep.data.toList).1.toArray⟩, .string ⟨(Lib.cut s.data.toList sep.data.toList).2.1.toArray⟩, .bool (Lib.cut s.data.toList sep.data.toList).2.2]) ∧ ∃ n, w' = w.drewN n := Any.strings_Cut Tryz.lays145 s sep m w hs hm
def Tryz.lays206_ren : Go.Shelf.Ren := ⟨fun | 206 => 114 | n => n, fun | 9 => 9 | 4 => 4 | 3 => 3 | n => n, fun | n => n⟩
def Tryz.lays99_ren : Go.Shelf.Ren := ⟨fun | 99 => 80 | 206 => 114 | n => n, fun | 9 => 9 | 4 => 4 | 3 => 3 | n => n, fun | n => n⟩
theorem Tryz.lays99 : Go.Proofs.Lays.n99 Tryz.prog Tryz.lays99_ren := {
  mixed := by kernel_rfl
  f99 := Tryz.func80.trans (congrArg some (by kernel_rfl))
  f206 := Tryz.func114.trans (congrArg some (by kernel_rfl))
  t3 := Tryz.underlying3
  a3 := Tryz.isAgg3
  z3 := Tryz.sizeOf3
  v3 := Tryz.zeroValue3
  t4 := Tryz.underlying4
  a4 := Tryz.isAgg4
  z4 := Tryz.sizeOf4
  v4 := Tryz.zeroValue4
  t9 := Tryz.underlying9
  a9 := Tryz.isAgg9
  z9 := Tryz.sizeOf9
  v9 := Tryz.zeroValue9 }
open Go.RowKit Go.Lib in
/-- strings.HasPrefix: "HasPrefix reports whether the string s begins with prefix.": IT RETURNS 'Lib.hasPrefix s prefix'; the world is as it was. (LAID: no walk: one application.) -/
theorem Tryz.strings_HasPrefix (s p : ByteArray) (w : World) :
    Calls Tryz.prog 80 #[.string s, .string p] w fun e w' => e = .returned (.bool (Lib.hasPrefix s.data.toList p.data.toList)) ∧ w' = w := Any.strings_HasPrefix Tryz.lays99 s p w
def Tryz.lays221_ren : Go.Shelf.Ren := ⟨fun|221 => 66|268 => 98|138 => 99|143 => 49|195 => 131|197 => 101|218 => 132|219 => 79|260 => 133|217 => 110|225 => 111|224 => 112|267 => 113|266 => 138|314 => 139|n => n, fun|9 => 9|3 => 3|31 => 48|4 => 4|0 => 0|105 => 132|21 => 21|5 => 5|46 => 92|119 => 163|139 => 166|138 => 165|146 => 157|51 => 156|n => n, fun|1 => 0|3 => 3|4 => 4|n => n⟩
def Tryz.lays146_ren : Go.Shelf.Ren := ⟨fun|146 => 43|221 => 66|268 => 98|138 => 99|143 => 49|195 => 131|197 => 101|218 => 132|219 => 79|260 => 133|217 => 110|225 => 111|224 => 112|267 => 113|266 => 138|314 => 139|n => n, fun|9 => 9|31 => 48|3 => 3|4 => 4|0 => 0|105 => 132|21 => 21|5 => 5|46 => 92|119 => 163|139 => 166|138 => 165|146 => 157|51 => 156|n => n, fun|1 => 0|3 => 3|4 => 4|n => n⟩
theorem Tryz.lays146 : Go.Proofs.Lays.n146 Tryz.prog Tryz.lays146_ren := {
  mixed := by kernel_rfl
  f138 := Tryz.func99.trans (congrArg some (by kernel_rfl))
  f143 := Tryz.func49.trans (congrArg some (by kernel_rfl))
  f146 := Tryz.func43.trans (congrArg some (by kernel_rfl))
  f195 := Tryz.func131.trans (congrArg some (by kernel_rfl))
  f197 := Tryz.func101.trans (congrArg some (by kernel_rfl))
  f217 := Tryz.func110.trans (congrArg some (by kernel_rfl))
  f218 := Tryz.func132.trans (congrArg some (by kernel_rfl))
  f219 := Tryz.func79.trans (congrArg some (by kernel_rfl))
  f221 := Tryz.func66.trans (congrArg some (by kernel_rfl))
  f224 := Tryz.func112.trans (congrArg some (by kernel_rfl))
  f225 := Tryz.func111.trans (congrArg some (by kernel_rfl))
  f260 := Tryz.func133.trans (congrArg some (by kernel_rfl))
  f266 := Tryz.func138.trans (congrArg some (by kernel_rfl))
  f267 := Tryz.func113.trans (congrArg some (by kernel_rfl))
  f268 := Tryz.func98.trans (congrArg some (by kernel_rfl))
  f314 := Tryz.func139.trans (congrArg some (by kernel_rfl))
  t0 := Tryz.underlying0
  a0 := Tryz.isAgg0
  z0 := Tryz.sizeOf0
  v0 := Tryz.zeroValue0
  t3 := Tryz.underlying3
  a3 := Tryz.isAgg3
  z3 := Tryz.sizeOf3
  v3 := Tryz.zeroValue3
  t4 := Tryz.underlying4
  a4 := Tryz.isAgg4
  z4 := Tryz.sizeOf4
  v4 := Tryz.zeroValue4
  t5 := Tryz.underlying5
  a5 := Tryz.isAgg5
  z5 := Tryz.sizeOf5
  v5 := Tryz.zeroValue5
  t9 := Tryz.underlying9
  a9 := Tryz.isAgg9
  z9 := Tryz.sizeOf9
  v9 := Tryz.zeroValue9
  t21 := Tryz.underlying21
  a21 := Tryz.isAgg21
  z21 := Tryz.sizeOf21
  v21 := Tryz.zeroValue21
  t31 := Tryz.underlying48
  a31 := Tryz.isAgg48
  z31 := Tryz.sizeOf48
  v31 := Tryz.zeroValue48
  t46 := Tryz.underlying92
  a46 := Tryz.isAgg92
  z46 := Tryz.sizeOf92
  v46 := Tryz.zeroValue92
  t51 := Tryz.underlying156
  a51 := Tryz.isAgg156
  z51 := Tryz.sizeOf156
  v51 := Tryz.zeroValue156
  t105 := Tryz.underlying132
  a105 := Tryz.isAgg132
  z105 := Tryz.sizeOf132
  v105 := Tryz.zeroValue132
  t119 := Tryz.underlying163
  a119 := Tryz.isAgg163
  z119 := Tryz.sizeOf163
  t138 := Tryz.underlying165
  a138 := Tryz.isAgg165
  z138 := Tryz.sizeOf165
  v138 := Tryz.zeroValue165
  t139 := Tryz.underlying166
  a139 := Tryz.isAgg166
  z139 := Tryz.sizeOf166
  v139 := Tryz.zeroValue166
  t146 := Tryz.underlying157
  a146 := Tryz.isAgg157
  z146 := Tryz.sizeOf157
  v146 := Tryz.zeroValue157
  g1 := by kernel_rfl
  g3 := by kernel_rfl
  g4 := by kernel_rfl }
open Go.RowKit Go.Lib in
/-- strings.Split. (LAID: no walk: one application.) -/
theorem Tryz.strings_Split (s sep : ByteArray) (m : Int) (w : World) (hs : s.size < 4294967281) (hm : w.cell? ⟨0, 0, none⟩ = some (.int .i64 m)) (h1 : 1 ≤ sep.size) :
    Calls Tryz.prog 43 #[.string s, .string sep] w fun e w' =>
      e = .returned (.slice (some ⟨w.heap.size, 0, none⟩) (Lib.countB s sep + 1) (Lib.countB s sep + 1)) ∧ w' = w.alloc (.cells ((Lib.splitB sep 0 (Lib.countB s sep) s).map Value.string).toArray 9) := Any.strings_Split Tryz.lays146 (by kernel_rfl) s sep m w hs hm h1
def Tryz.lays152_ren : Go.Shelf.Ren := ⟨fun | 152 => 134 | 137 => 136 | 119 => 143 | 224 => 112 | 225 => 111 | 217 => 110 | 266 => 138 | n => n, fun | 9 => 9 | 21 => 21 | 3 => 3 | 4 => 4 | 5 => 5 | 0 => 0 | 46 => 92 | n => n, fun | n => n⟩
theorem Tryz.lays152 : Go.Proofs.Lays.n152 Tryz.prog Tryz.lays152_ren := {
  mixed := by kernel_rfl
  f119 := Tryz.func143.trans (congrArg some (by kernel_rfl))
  f137 := Tryz.func136.trans (congrArg some (by kernel_rfl))
  f152 := Tryz.func134.trans (congrArg some (by kernel_rfl))
  f217 := Tryz.func110.trans (congrArg some (by kernel_rfl))
  f224 := Tryz.func112.trans (congrArg some (by kernel_rfl))
  f225 := Tryz.func111.trans (congrArg some (by kernel_rfl))
  f266 := Tryz.func138.trans (congrArg some (by kernel_rfl))
  t0 := Tryz.underlying0
  a0 := Tryz.isAgg0
  z0 := Tryz.sizeOf0
  v0 := Tryz.zeroValue0
  t3 := Tryz.underlying3
  a3 := Tryz.isAgg3
  z3 := Tryz.sizeOf3
  v3 := Tryz.zeroValue3
  t4 := Tryz.underlying4
  a4 := Tryz.isAgg4
  z4 := Tryz.sizeOf4
  v4 := Tryz.zeroValue4
  t5 := Tryz.underlying5
  a5 := Tryz.isAgg5
  z5 := Tryz.sizeOf5
  v5 := Tryz.zeroValue5
  t9 := Tryz.underlying9
  a9 := Tryz.isAgg9
  z9 := Tryz.sizeOf9
  v9 := Tryz.zeroValue9
  t21 := Tryz.underlying21
  a21 := Tryz.isAgg21
  z21 := Tryz.sizeOf21
  v21 := Tryz.zeroValue21
  t46 := Tryz.underlying92
  a46 := Tryz.isAgg92
  z46 := Tryz.sizeOf92
  v46 := Tryz.zeroValue92 }
open Go.RowKit Go.Lib in
theorem Tryz.strings_IndexRune_ascii (s : ByteArray) (r : Int) (w : World) (h0 : 0 ≤ r) (h1 : r < 128) :
    Calls Tryz.prog 134 #[.string s, .int .i32 r] w fun e w' => e = .returned (.int .i64 (Lib.indexByte s.data.toList r.toNat.toUInt8)) ∧ w' = w := Any.strings_IndexRune_ascii Tryz.lays152 s r w h0 h1
def Tryz.lays153_ren : Go.Shelf.Ren := ⟨fun | 153 => 109 | 152 => 134 | 226 => 137 | 227 => 69 | 228 => 100 | 137 => 136 | 119 => 143 | 224 => 112 | 225 => 111 | 217 => 110 | 266 => 138 | n => n, fun | 9 => 9 | 3 => 3 | 4 => 4 | 5 => 5 | 21 => 21 | 117 => 104 | 116 => 103 | 0 => 0 | 46 => 92 | 124 => 107 | n => n, fun | n => n⟩
theorem Tryz.lays153 : Go.Proofs.Lays.n153 Tryz.prog Tryz.lays153_ren := {
  mixed := by kernel_rfl
  f119 := Tryz.func143.trans (congrArg some (by kernel_rfl))
  f137 := Tryz.func136.trans (congrArg some (by kernel_rfl))
  f152 := Tryz.func134.trans (congrArg some (by kernel_rfl))
  f153 := Tryz.func109.trans (congrArg some (by kernel_rfl))
  f217 := Tryz.func110.trans (congrArg some (by kernel_rfl))
  f224 := Tryz.func112.trans (congrArg some (by kernel_rfl))
  f225 := Tryz.func111.trans (congrArg some (by kernel_rfl))
  f226 := Tryz.func137.trans (congrArg some (by kernel_rfl))
  f227 := Tryz.func69.trans (congrArg some (by kernel_rfl))
  f228 := Tryz.func100.trans (congrArg some (by kernel_rfl))
  f266 := Tryz.func138.trans (congrArg some (by kernel_rfl))
  t0 := Tryz.underlying0
  a0 := Tryz.isAgg0
  z0 := Tryz.sizeOf0
  v0 := Tryz.zeroValue0
  t3 := Tryz.underlying3
  a3 := Tryz.isAgg3
  z3 := Tryz.sizeOf3
  v3 := Tryz.zeroValue3
  t4 := Tryz.underlying4
  a4 := Tryz.isAgg4
  z4 := Tryz.sizeOf4
  v4 := Tryz.zeroValue4
  t5 := Tryz.underlying5
  a5 := Tryz.isAgg5
  z5 := Tryz.sizeOf5
  v5 := Tryz.zeroValue5
  t9 := Tryz.underlying9
  a9 := Tryz.isAgg9
  z9 := Tryz.sizeOf9
  v9 := Tryz.zeroValue9
  t21 := Tryz.underlying21
  a21 := Tryz.isAgg21
  z21 := Tryz.sizeOf21
  v21 := Tryz.zeroValue21
  t46 := Tryz.underlying92
  a46 := Tryz.isAgg92
  z46 := Tryz.sizeOf92
  v46 := Tryz.zeroValue92
  t116 := Tryz.underlying103
  a116 := Tryz.isAgg103
  z116 := Tryz.sizeOf103
  t117 := Tryz.underlying104
  a117 := Tryz.isAgg104
  z117 := Tryz.sizeOf104
  v117 := Tryz.zeroValue104
  t124 := Tryz.underlying107
  a124 := Tryz.isAgg107
  z124 := Tryz.sizeOf107
  v124 := Tryz.zeroValue107 }
open Go.RowKit Go.Lib in
theorem Tryz.strings_IndexAny_long (hv116 : ∀ w, (zeroValue 103).run Tryz.prog w = .ok (.agg (Array.replicate 256 (.bool false))) w) (s chars : ByteArray) (w : World) (h2 : 2 ≤ chars.size) (h8 : 8 < s.size) (hs : s.size < 4294967281) (hcs : chars.size < 4294967281) (hascii : ∀ (j : Nat) b, chars.data.toList[j]? = some b → b.toNat < 128) :
    Calls Tryz.prog 109 #[.string s, .string chars] w fun e w' => e = .returned (.int .i64 (Lib.indexAny s.data.toList chars.data.toList)) ∧ w' = ((w.alloc (.cells (Lib.setCells chars.data.toList) 103)).alloc (.cells (Lib.setCells chars.data.toList) 103)) := Any.strings_IndexAny_long Tryz.lays153 hv116 (by kernel_rfl) s chars w h2 h8 hs hcs hascii
end Go.Proofs

namespace Go.Proofs.YtffcgpkbibijpaaGreatDoor.L
open Go Go.RowKit Go.Proofs
set_option linter.unusedVariables false
set_option linter.unusedSimpArgs false
set_option maxRecDepth 100000
attribute [local irreducible] AL QL AWp Thn InB RetQ ACalls LoopQ HL HO HW HQ NoG

noncomputable abbrev EE (w0 : World) (base : Nat) : Env := ⟨Tryz.prog, w0, base, 0⟩
/-- The one variable of the library's that is read: any number. -/
def Glob (w0 : World) (base : Nat) : Prop := 0 < base ∧ ∃ m, w0.cell? ⟨0, 0, none⟩ = some (.int .i64 m)

section
variable {w0 : World} {base : Nat}
theorem glob_at {I : Imm} {ν : Nu} {H : List AO} {w : World} (hG : Glob w0 base) (hh : HR (EE w0 base) I ν H w) : ∃ m, w.cell? ⟨0, 0, none⟩ = some (.int .i64 m) := by
  obtain ⟨h0, m, hm⟩ := hG
  exact ⟨m, (hh.below.cell h0).trans hm⟩
theorem below_drawn {w : World} : ∀ n, Below w.heap.size w (w.drewN n) := fun n => ⟨rfl, rfl, rfl, Nat.le_refl _, fun _ _ => rfl⟩

theorem s_cut {s p : List UInt8} (hG : Glob w0 base) (hs : s.length < 4294967281) : PCalls (EE w0 base) 77 [.str s, .str p] fun rv => rv = .tup [.str (Lib.cut s p).1, .str (Lib.cut s p).2.1, .bool (Lib.cut s p).2.2] := by
  refine pcalls_plain rfl fun I ν w vs hh hl hv => ?_
  match vs, hl with
  | [v1, v2], _ =>
  have e1 := (hv 0 _ v1 rfl rfl).str_inv
  have e2 := (hv 1 _ v2 rfl rfl).str_inv
  subst e1; subst e2
  obtain ⟨m, hm⟩ := glob_at hG hh
  refine ⟨_, fun w I => .tup _ [_, _, _] rfl (fun j x v h1 h2 => ?_), (Tryz.strings_Cut ⟨s.toArray⟩ ⟨p.toArray⟩ m w hs hm).mono fun e w' ⟨he, n, hw⟩ => ⟨he, by subst hw; exact below_drawn n⟩⟩
  match j, h1, h2 with
  | 0, h1, h2 => simp at h1 h2; subst h1; subst h2; exact .pure (.str _)
  | 1, h1, h2 => simp at h1 h2; subst h1; subst h2; exact .pure (.str _)
  | 2, h1, h2 => simp at h1 h2; subst h1; subst h2; exact .pure (.bool _)
  | j + 3, h1, h2 => simp at h1
theorem s_hasPrefix {s p : List UInt8} : PCalls (EE w0 base) 80 [.str s, .str p] fun rv => rv = .bool (Lib.hasPrefix s p) := by
  refine pcalls_plain rfl fun I ν w vs hh hl hv => ?_
  match vs, hl with
  | [v1, v2], _ =>
  have e1 := (hv 0 _ v1 rfl rfl).str_inv
  have e2 := (hv 1 _ v2 rfl rfl).str_inv
  subst e1; subst e2
  exact ⟨_, fun w I => .pure (.bool _), (Tryz.strings_HasPrefix ⟨s.toArray⟩ ⟨p.toArray⟩ w).mono fun e w' ⟨he, hw⟩ => ⟨he, by subst hw; exact Below.refl _ _⟩⟩
theorem s_indexByte {s : List UInt8} {c : UInt8} : PCalls (EE w0 base) 136 [.str s, .int .u8 (c.toNat : Int)] fun rv => rv = .int .i64 (Lib.indexByte s c) := by
  refine pcalls_plain rfl fun I ν w vs hh hl hv => ?_
  match vs, hl with
  | [v1, v2], _ =>
  have e1 := (hv 0 _ v1 rfl rfl).str_inv
  have e2 := (hv 1 _ v2 rfl rfl).int_inv
  subst e1; subst e2
  have hc : ((c.toNat : Int).toNat).toUInt8 = c := by simp
  have := Tryz.strings_IndexByte ⟨s.toArray⟩ (c.toNat : Int) w
  rw [hc] at this
  exact ⟨_, fun w I => .pure (.int _ _), this.mono fun e w' ⟨he, hw⟩ => ⟨he, by subst hw; exact Below.refl _ _⟩⟩
theorem s_trim {s : List UInt8} (hs : s.length ≤ 9223372036854775807) : PCalls (EE w0 base) 44 [.str s, .str [32, 9]] fun rv => rv = .str (Lib.trimS s [32, 9]) := by
  refine pcalls_plain rfl fun I ν w vs hh hl hv => ?_
  match vs, hl with
  | [v1, v2], _ =>
  have e1 := (hv 0 _ v1 rfl rfl).str_inv
  have e2 := (hv 1 _ v2 rfl rfl).str_inv
  subst e1; subst e2
  exact ⟨_, fun w I => .pure (.str _), Any.strings_Trim_laid Tryz.lays160 (by kernel_rfl) ⟨s.toArray⟩ ⟨#[32, 9]⟩ w hs (by decide) (fun j b h => by
    match j, h with
    | 0, h => simp at h; subst h; decide
    | 1, h => simp at h; subst h; decide
    | j + 2, h => simp at h)⟩
/-! ### strings.Builder -/
theorem noEscape (x : Value) (w : World) : (callFunc 122 #[x]).run Tryz.prog w = .ok (.value x) w := by
  rw [run_callFunc_extern Tryz.func122 (by kernel_rfl) (by kernel_rfl) (by kernel_rfl) (e := Extern.AbiNoEscape.same) (by kernel_rfl)]
  rfl
theorem a_copyCheck {p x : AV} (hp : p = .nilp ∨ p = .op 0 0) {rest : List AO} : ACalls (EE w0 base) 89 [.op 0 0] (.box [p, x] (some 90) :: rest) fun rv os => rv = .tup [] ∧ os = .box [.op 0 0, x] (some 90) :: rest := by
  refine acalls_of Tryz.func89 rfl rfl rfl (.cons .nil) ?_
  rcases hp with rfl | rfl
  · repeat' (first|(first|(refine al_v (ov_nilCheck (n := 0) rfl rfl) rfl ?_)|(refine al_v (ov_peq_nn rfl rfl) rfl ?_)|(refine al_v (ov_conv_to rfl rfl (by decide) (by simp)) rfl ?_)|(refine k_call ?_;refine al_v (ov_same noEscape rfl) rfl ?_)|(refine al_v (ov_conv_from rfl rfl (by kernel_rfl)) rfl ?_))|(refine k_al ?_;first|(refine al_v (ov_move rfl) rfl ?_)|(refine al_v (ov_fieldAddr rfl rfl) rfl ?_)|(refine k_load ?_;first|(refine al_v (ov_load rfl rfl) rfl ?_))|(refine al_nil ?_)|(refine al_store rfl rfl rfl rfl rfl (by repeat constructor) (by repeat constructor) ?_))|(first|(refine thn_n ?_)|(refine k_awp ?_;first|(refine awp_seq (awp_region ?_))|(refine awp_seq ?_)|(refine awp_region ?_)|(refine k_cond ?_;first|(refine awp_cond_t' rfl (by with_reducible rfl) ?_)|(refine awp_cond_f' rfl (by with_reducible rfl) ?_))|(refine awp_skip ?_))))
    refine ret0 (by first | exact .inr rfl | exact .inl rfl) rfl ⟨rfl, rfl⟩
  · repeat' (first|(first|(refine al_v (ov_nilCheck (n := 0) rfl rfl) rfl ?_)|(refine al_v (ov_peq_pn rfl rfl rfl) rfl ?_)|(refine al_v (ov_pne_same rfl rfl) rfl ?_))|(refine k_al ?_;first|(refine al_v (ov_move rfl) rfl ?_)|(refine al_v (ov_fieldAddr rfl rfl) rfl ?_)|(refine k_load ?_;first|(refine al_v (ov_load rfl rfl) rfl ?_))|(refine al_nil ?_)|(refine al_store rfl rfl rfl rfl rfl (by repeat constructor) (by repeat constructor) ?_))|(first|(refine thn_n ?_)|(refine k_awp ?_;first|(refine awp_seq (awp_region ?_))|(refine awp_seq ?_)|(refine awp_region ?_)|(refine k_cond ?_;first|(refine awp_cond_t' rfl (by with_reducible rfl) ?_)|(refine awp_cond_f' rfl (by with_reducible rfl) ?_))|(refine awp_skip ?_))))
    refine ret0 (by first | exact .inr rfl | exact .inl rfl) rfl ⟨rfl, rfl⟩

/-- A builder's bytes. -/
def BldB (l : List UInt8) (ver : Nat) (o : AO) : Prop := o = .row 5 1 ver 0 (bytesAV l) ∨ ∃ wr, o = .arr 5 1 ver (bytesAV l) wr
abbrev bldBox (p : AV) (ver : Nat) : AO := .box [p, .os 1 ver] (some 90)
theorem a_writeString {p : AV} (hp : p = .nilp ∨ p = .op 0 0) {bs s : List UInt8} {ver : Nat} (hb : bs.length + s.length ≤ 140737488355328) : ACalls (EE w0 base) 57 [.op 0 0, .str s] [bldBox p ver, .row 5 1 ver 0 (bytesAV bs)]
    fun rv os => rv = .tup [.int .i64 (s.length : Int), .nilif] ∧ os = [bldBox (.op 0 0) (ver + 1), .row 5 1 (ver + 1) 0 (bytesAV (bs ++ s))] := by
  refine acalls_of Tryz.func57 rfl rfl rfl (.cons (.cons .nil)) ?_
  have hbl : (bytesAV bs).length = bs.length := List.length_map _
  have hsl : (bytesAV s).length = s.length := List.length_map _
  have hq := hp
  rcases hp with rfl | rfl
  all_goals
    repeat' (first|(first|(refine k_call ?_;refine al_acall [0, 1] rfl rfl (a_copyCheck (x := .os 1 ver) (rest := [.row 5 1 ver 0 (bytesAV bs)]) hq) (by repeat constructor) (by repeat constructor) rfl rfl ?_;rintro _ _ ⟨rfl, rfl⟩;refine ⟨_, _, by repeat constructor, by repeat constructor, ?_⟩)|(refine al_v (ov_nilCheck (n := 0) rfl rfl) rfl ?_)|(refine k_call ?_;refine al_append rfl rfl (by repeat constructor) src_str rfl (by decide) (by simp;omega) rfl ?_))|(refine k_al ?_;first|(refine al_v (ov_move rfl) rfl ?_)|(refine al_v (ov_fieldAddr rfl rfl) rfl ?_)|(refine k_load ?_;first|(refine al_v (ov_load rfl rfl) rfl ?_))|(refine al_v (ov_assign rfl) rfl ?_)|(refine k_call ?_;first|(refine al_v (ov_len_str rfl) rfl ?_))|(refine al_nil ?_)|(refine al_store rfl rfl rfl rfl rfl (by repeat constructor) (by repeat constructor) ?_))|(first|(refine thn_n ?_)|(refine k_awp ?_;first|(refine awp_seq (awp_region ?_))|(refine awp_seq ?_)|(refine awp_region ?_)|(refine awp_ret ?_))))
    refine ret2 (by first | exact .inr rfl | exact .inl rfl) rfl rfl rfl ?_
    exact ⟨rfl, by simp only [bytesAV, List.map_append]; rfl⟩
theorem a_writeByte {p : AV} (hp : p = .nilp ∨ p = .op 0 0) {bs : List UInt8} {c : UInt8} {ver : Nat} (hb : bs.length + 1 ≤ 140737488355328) : ACalls (EE w0 base) 116 [.op 0 0, .int .u8 (c.toNat : Int)] [bldBox p ver, .row 5 1 ver 0 (bytesAV bs)]
    fun rv os => rv = .nilif ∧ os = [bldBox (.op 0 0) (ver + 1), .row 5 1 (ver + 1) 0 (bytesAV (bs ++ [c]))] := by
  refine acalls_of Tryz.func116 rfl rfl rfl (.cons (.cons .nil)) ?_
  have hbl : (bytesAV bs).length = bs.length := List.length_map _
  have hq := hp
  rcases hp with rfl | rfl
  all_goals
    repeat' (first|(first|(refine k_call ?_;refine al_acall [0, 1] rfl rfl (a_copyCheck (x := .os 1 ver) (rest := [.row 5 1 ver 0 (bytesAV bs)]) hq) (by repeat constructor) (by repeat constructor) rfl rfl ?_;rintro _ _ ⟨rfl, rfl⟩;refine ⟨_, _, by repeat constructor, by repeat constructor, ?_⟩)|(refine al_v (ov_nilCheck (n := 0) rfl rfl) rfl ?_)|(refine k_call ?_;refine al_append rfl rfl (by repeat constructor) (src_os rfl rfl) rfl (by decide) (by simp;omega) rfl ?_))|(refine k_al ?_;first|(refine al_v (ov_move rfl) rfl ?_)|(refine al_v (ov_fieldAddr rfl rfl) rfl ?_)|(refine k_load ?_;first|(refine al_v (ov_load rfl rfl) rfl ?_))|(refine al_v (ov_assign rfl) rfl ?_)|(refine al_nil ?_)|(refine al_store rfl rfl rfl rfl rfl (by repeat constructor) (by repeat constructor) ?_)|(refine al_buildSlice (by rfl) (by rfl) (by rfl) (by rfl) (by decide) (by decide) (by rfl) (by rfl) (by repeat constructor) (by rfl) (by repeat constructor) (by rfl) (by first|exact ln2) (by repeat constructor) rfl ?_))|(first|(refine thn_n ?_)|(refine k_awp ?_;first|(refine awp_seq (awp_region ?_))|(refine awp_seq ?_)|(refine awp_region ?_)|(refine awp_ret ?_))))
    refine retq_wkn (.of (Wk'.drop (H := [_, _]) (sl' := [(4, _)]) (ex := [_]) (.cons rfl .nil) rfl (by repeat constructor) rfl)) ?_
    refine ret1 (by first | exact .inr rfl | exact .inl rfl) rfl rfl ?_
    exact ⟨rfl, by simp only [bytesAV, List.map_append]; rfl⟩
set_option maxHeartbeats 2000000 in
theorem a_string {p : AV} {l : List UInt8} {ver : Nat} {o : AO} (hp : p = .nilp ∨ p = .op 0 0) (ho : BldB l ver o) (hlen : l.length ≤ 9223372036854775807) : ACalls (EE w0 base) 58 [.op 0 0] [bldBox p ver, o] fun rv os => rv = .str l ∧ ∃ o', os = [bldBox p ver, o'] ∧ BldB l ver o' := by
  refine acalls_of Tryz.func58 rfl rfl rfl (.cons .nil) ?_
  have hbl : (bytesAV l).length = l.length := List.length_map _
  by_cases hne : l = []
  · subst hne
    rcases ho with rfl | ⟨wr, rfl⟩
    · repeat' (first|(first|(refine awp_held (id := 1) [] [⟨0, true, [], bl 12 992⟩, ⟨1, true, [], bl 12 993⟩, ⟨2, true, [], bl 12 995⟩, ⟨3, true, [], bl 12 999⟩, ⟨5, true, [], bl 12 31⟩, ⟨6, true, [], bl 12 63⟩, ⟨7, true, [], bl 12 127⟩, ⟨8, true, [], bl 12 255⟩, ⟨9, true, [], bl 12 511⟩, ⟨4, false, [], []⟩, ⟨10, false, [], []⟩, ⟨11, true, [], bl 12 2047⟩] (by kernel_rfl) (by kernel_rfl) rfl (by kernel_rfl) ?_)|(refine hw_v (ov_nilCheck (n := 0) rfl rfl) rfl ?_)|(refine hw_usd0 rfl rfl (.row _ _) (by repeat constructor) rfl rfl (fun pv hpv => ?_))|(refine al_v (ov_ustr0 rfl hpv rfl) rfl ?_))|(refine k_al ?_;first|(refine al_v (ov_move rfl) rfl ?_)|(refine al_v (ov_fieldAddr rfl rfl) rfl ?_)|(refine al_v (ov_assign rfl) rfl ?_)|(refine al_nil ?_))|(first|(refine thn_n ?_)|(refine k_awp ?_;first|(refine awp_seq (awp_region ?_))|(refine awp_seq ?_)|(refine awp_region ?_)|(refine awp_ret ?_)))|(first|(refine k_hw ?_;first|(refine hw_s rfl ?_)|(refine hw_v (ov_move rfl) rfl ?_)|(refine hw_v (ov_assign rfl) rfl ?_)|(refine hw_v (ov_fieldAddr rfl rfl) rfl ?_)|(refine hw_v (ov_load rfl rfl) rfl ?_)|(refine hw_v (ov_len_os rfl rfl rfl) rfl ?_))|(refine hl_op rfl ?_)|(refine k_ho ?_;first|(refine ho_n ?_))|(refine hl_nil ?_)|(refine hq_back ?_)))
      refine retq_wkn (.of (Wk'.drop (H := [_, _]) (sl' := [(2, _)]) (ex := [_]) (.cons rfl .nil) rfl (.cons (by rcases hp with rfl | rfl <;> rfl) (.cons trivial .nil)) rfl)) ?_
      refine ret1 (by first | exact .inr rfl | exact .inl rfl) rfl rfl ?_
      exact ⟨rfl, _, rfl, .inl rfl⟩
    · repeat' (first|(first|(refine awp_held (id := 1) [] [⟨0, true, [], bl 12 992⟩, ⟨1, true, [], bl 12 993⟩, ⟨2, true, [], bl 12 995⟩, ⟨3, true, [], bl 12 999⟩, ⟨5, true, [], bl 12 31⟩, ⟨6, true, [], bl 12 63⟩, ⟨7, true, [], bl 12 127⟩, ⟨8, true, [], bl 12 255⟩, ⟨9, true, [], bl 12 511⟩, ⟨4, false, [], []⟩, ⟨10, false, [], []⟩, ⟨11, true, [], bl 12 2047⟩] (by kernel_rfl) (by kernel_rfl) rfl (by kernel_rfl) ?_)|(refine hw_v (ov_nilCheck (n := 0) rfl rfl) rfl ?_)|(refine hw_v (ov_len_arr rfl rfl rfl) rfl ?_)|(refine hw_usd0 rfl rfl (.arr _ _) (by repeat constructor) rfl rfl (fun pv hpv => ?_))|(refine al_v (ov_ustr0 rfl hpv rfl) rfl ?_))|(refine k_al ?_;first|(refine al_v (ov_move rfl) rfl ?_)|(refine al_v (ov_fieldAddr rfl rfl) rfl ?_)|(refine al_v (ov_assign rfl) rfl ?_)|(refine al_nil ?_))|(first|(refine thn_n ?_)|(refine k_awp ?_;first|(refine awp_seq (awp_region ?_))|(refine awp_seq ?_)|(refine awp_region ?_)|(refine awp_ret ?_)))|(first|(refine k_hw ?_;first|(refine hw_s rfl ?_)|(refine hw_v (ov_move rfl) rfl ?_)|(refine hw_v (ov_assign rfl) rfl ?_)|(refine hw_v (ov_fieldAddr rfl rfl) rfl ?_)|(refine hw_v (ov_load rfl rfl) rfl ?_)|(refine hw_v (ov_len_os rfl rfl rfl) rfl ?_))|(refine hl_op rfl ?_)|(refine k_ho ?_;first|(refine ho_n ?_))|(refine hl_nil ?_)|(refine hq_back ?_)))
      refine retq_wkn (.of (Wk'.drop (H := [_, _]) (sl' := [(2, _)]) (ex := [_]) (.cons rfl .nil) rfl (.cons (by rcases hp with rfl | rfl <;> rfl) (.cons trivial .nil)) rfl)) ?_
      refine ret1 (by first | exact .inr rfl | exact .inl rfl) rfl rfl ?_
      exact ⟨rfl, _, rfl, .inr ⟨_, rfl⟩⟩
  · rcases ho with rfl | ⟨wr, rfl⟩
    · repeat' (first|(first|(refine awp_held (id := 1) [(10, [1])] [⟨0, true, [], bl 12 992⟩, ⟨1, true, [], bl 12 993⟩, ⟨2, true, [], bl 12 995⟩, ⟨3, true, [], bl 12 999⟩, ⟨4, true, [], bl 12 1007⟩, ⟨5, true, [], bl 12 31⟩, ⟨6, true, [], bl 12 63⟩, ⟨7, true, [], bl 12 127⟩, ⟨8, true, [], bl 12 255⟩, ⟨9, true, [], bl 12 511⟩, ⟨10, false, [], []⟩, ⟨11, true, [], bl 12 2047⟩] (by kernel_rfl) (by kernel_rfl) rfl (by kernel_rfl) ?_)|(refine hw_v (ov_nilCheck (n := 0) rfl rfl) rfl ?_)|(refine hw_v (ov_usd rfl rfl (.row _ _) hne) rfl ?_)|(refine al_wkn (.spell 12 (.int .i64 (l.length : Int)) rfl (by rw [hbl])) ?_;refine al_ustr (by kernel_rfl) rfl rfl (by repeat constructor) ⟨.inl rfl, rfl⟩ hne hlen rfl ?_))|(refine k_al ?_;first|(refine al_v (ov_move rfl) rfl ?_)|(refine al_v (ov_fieldAddr rfl rfl) rfl ?_)|(refine al_v (ov_assign rfl) rfl ?_)|(refine al_nil ?_))|(first|(refine thn_n ?_)|(refine k_awp ?_;first|(refine awp_seq (awp_region ?_))|(refine awp_seq ?_)|(refine awp_region ?_)|(refine awp_ret ?_)))|(first|(refine k_hw ?_;first|(refine hw_s rfl ?_)|(refine hw_v (ov_move rfl) rfl ?_)|(refine hw_v (ov_assign rfl) rfl ?_)|(refine hw_v (ov_fieldAddr rfl rfl) rfl ?_)|(refine hw_v (ov_load rfl rfl) rfl ?_)|(refine hw_v (ov_len_os rfl rfl rfl) rfl ?_))|(refine hl_op rfl ?_)|(refine k_ho ?_;first|(refine ho_n ?_))|(refine hl_nil ?_)|(refine hq_back ?_)))
      refine ret1 (by first | exact .inr rfl | exact .inl rfl) rfl rfl ?_
      exact ⟨rfl, _, rfl, .inr ⟨_, rfl⟩⟩
    · repeat' (first|(first|(refine awp_held (id := 1) [(10, [1])] [⟨0, true, [], bl 12 992⟩, ⟨1, true, [], bl 12 993⟩, ⟨2, true, [], bl 12 995⟩, ⟨3, true, [], bl 12 999⟩, ⟨4, true, [], bl 12 1007⟩, ⟨5, true, [], bl 12 31⟩, ⟨6, true, [], bl 12 63⟩, ⟨7, true, [], bl 12 127⟩, ⟨8, true, [], bl 12 255⟩, ⟨9, true, [], bl 12 511⟩, ⟨10, false, [], []⟩, ⟨11, true, [], bl 12 2047⟩] (by kernel_rfl) (by kernel_rfl) rfl (by kernel_rfl) ?_)|(refine hw_v (ov_nilCheck (n := 0) rfl rfl) rfl ?_)|(refine hw_v (ov_len_arr rfl rfl rfl) rfl ?_)|(refine hw_v (ov_usd rfl rfl (.arr _ _) hne) rfl ?_)|(refine al_wkn (.spell 12 (.int .i64 (l.length : Int)) rfl (by rw [hbl])) ?_;refine al_ustr (by kernel_rfl) rfl rfl (by repeat constructor) ⟨.inr ⟨_, rfl⟩, rfl⟩ hne hlen rfl ?_))|(refine k_al ?_;first|(refine al_v (ov_move rfl) rfl ?_)|(refine al_v (ov_fieldAddr rfl rfl) rfl ?_)|(refine al_v (ov_assign rfl) rfl ?_)|(refine al_nil ?_))|(first|(refine thn_n ?_)|(refine k_awp ?_;first|(refine awp_seq (awp_region ?_))|(refine awp_seq ?_)|(refine awp_region ?_)|(refine awp_ret ?_)))|(first|(refine k_hw ?_;first|(refine hw_s rfl ?_)|(refine hw_v (ov_move rfl) rfl ?_)|(refine hw_v (ov_assign rfl) rfl ?_)|(refine hw_v (ov_fieldAddr rfl rfl) rfl ?_)|(refine hw_v (ov_load rfl rfl) rfl ?_)|(refine hw_v (ov_len_os rfl rfl rfl) rfl ?_))|(refine hl_op rfl ?_)|(refine k_ho ?_;first|(refine ho_n ?_))|(refine hl_nil ?_)|(refine hq_back ?_)))
      refine ret1 (by first | exact .inr rfl | exact .inl rfl) rfl rfl ?_
      exact ⟨rfl, _, rfl, .inr ⟨_, rfl⟩⟩
end
end Go.Proofs.YtffcgpkbibijpaaGreatDoor.L

namespace Go.Proofs.YtffcgpkbibijpaaGreatDoor.L
open Go Go.RowKit Go.Proofs
set_option linter.unusedVariables false
set_option linter.unusedSimpArgs false
set_option maxRecDepth 100000
attribute [local irreducible] AL QL AWp Thn InB RetQ ACalls LoopQ HL HO HW HQ NoG

def hasBr (s : List UInt8) : Prop := 13 ∈ s ∨ 10 ∈ s
instance (s : List UInt8) : Decidable (hasBr s) := by unfold hasBr; infer_instance
theorem indexByte_br (c : UInt8) : 0 ≤ Lib.indexByte [13, 10] c ↔ c = 13 ∨ c = 10 := by
  unfold Lib.indexByte Lib.indexByte Lib.indexByte
  by_cases h1 : (13 : UInt8) == c
  · rw [if_pos h1]
    have := eq_of_beq h1
    simp [← this]
  · rw [if_neg h1]
    have n1 : c ≠ 13 := fun e => h1 (by simp [e])
    by_cases h2 : (10 : UInt8) == c
    · rw [if_pos h2]
      have := eq_of_beq h2
      simp [← this]
    · rw [if_neg h2]
      have n2 : c ≠ 10 := fun e => h2 (by simp [e])
      simp [n1, n2]
theorem indexAny_br : ∀ s : List UInt8, 0 ≤ Lib.indexAny s [13, 10] ↔ hasBr s := by
  intro s
  induction s with
  | nil => simp [Lib.indexAny, hasBr]
  | cons b s ih =>
    unfold Lib.indexAny
    have hc : ([13, 10] : List UInt8).contains b = true ↔ b = 13 ∨ b = 10 := by simp
    have hge := Lib.indexAny_ge [13, 10] s
    unfold hasBr at ih ⊢
    simp only [List.mem_cons]
    by_cases h : ([13, 10] : List UInt8).contains b = true
    · rw [if_pos h]
      rcases hc.1 h with rfl | rfl <;> simp
    · rw [if_neg h]
      have h13 : ¬ (13 : UInt8) = b := fun e => h (hc.2 (.inl e.symm))
      have h10 : ¬ (10 : UInt8) = b := fun e => h (hc.2 (.inr e.symm))
      simp only [h13, h10, false_or]
      rw [← ih]
      by_cases h2 : Lib.indexAny s [13, 10] == -1
      · have := eq_of_beq h2
        rw [if_pos h2]; omega
      · have : Lib.indexAny s [13, 10] ≠ -1 := fun e => h2 (by simp [e])
        rw [if_neg h2]; omega

section
variable {E : Env} {sl : Slots} {H : List AO}
theorem ov_itos_eq {src dst n b n' b' : Nat} {k k' : IntKind} {z z' : Value} [ts : TI E.P src (.int k) n b z] [td : TI E.P dst .string n' b' z'] {x : Operand} {m : Int} {s : List UInt8} (hx : ev sl x = some (.int k' m)) (h : (Utf8.encode m).data.toList = s) : OV E sl H (.convert src dst x) (.str s) := h ▸ ov_itos hx
end

section
variable {w0 : World} {base : Nat}
theorem s_should {n : Nat} : PCalls (EE w0 base) 137 [.int .i64 (n : Int)] fun rv => rv = .bool (decide ((n : Int) > 8)) := by
  refine acalls_of Tryz.func137 rfl rfl rfl (.cons .nil) ?_
  repeat' (first | (refine k_al ?_; first | (refine al_v (ov_move rfl) rfl ?_) | (refine k_bin ?_; first | (refine al_v (ov_cmp rfl rfl rfl) rfl ?_)) | (refine al_v (ov_assign rfl) rfl ?_) | (refine al_nil ?_)) | (first | (refine thn_n ?_) | (refine k_awp ?_; first | (refine awp_seq (awp_region ?_)) | (refine awp_seq ?_) | (refine awp_region ?_) | (refine awp_ret ?_))))
  refine ret1 (by first | exact .inr rfl | exact .inl rfl) rfl rfl ?_
  exact ⟨rfl, rfl⟩
theorem s_valid {c : Int} : PCalls (EE w0 base) 143 [.int .i32 c] fun rv => ∃ b, rv = .bool b := by
  refine acalls_of Tryz.func143 rfl rfl rfl (.cons .nil) ?_
  repeat' (first|(refine k_al ?_;first|(refine al_v (ov_move rfl) rfl ?_)|(refine k_g ?_;first|(refine al_gy' rfl rfl (by with_reducible rfl) ?_)|(refine al_gnt rfl rfl (by with_reducible rfl) rfl ?_)|(refine al_gsp rfl rfl (fun hc => ?_) (fun hc => ?_) <;> (try (exfalso;omega))))|(refine k_bin ?_;first|(refine al_v (ov_cmp rfl rfl rfl) rfl ?_))|(refine k_pick ?_;first|(refine al_v (ov_pick_t' rfl (by with_reducible rfl) rfl) rfl ?_)|(refine al_v (ov_pick_f' rfl (by with_reducible rfl) rfl) rfl ?_))|(refine al_v (ov_assign rfl) rfl ?_)|(refine al_nil ?_))|(first|(refine thn_n ?_)|(refine k_awp ?_;first|(refine awp_seq (awp_region ?_))|(refine awp_seq ?_)|(refine awp_region ?_)|(refine k_cond ?_;first|(refine awp_cond_f' rfl (by with_reducible rfl) ?_)|(refine awp_cond_p rfl (fun hc => ?_) (fun hc => ?_) <;> (try (exfalso;omega))))|(refine awp_block ?_)|(refine awp_ret ?_)|(refine awp_skip ?_))|(refine thn_ret ?_)|(refine inb_n ?_)|(refine inb_ret ?_)))
  all_goals
    refine ret1 (by first | exact .inr rfl | exact .inl rfl) rfl rfl ?_
    exact ⟨⟨_, rfl⟩, rfl⟩
theorem s_rune_ascii {c : Nat} (h : c < 128) : PCalls (EE w0 base) 134 [.str [13, 10], .int .i32 (c : Int)] fun rv => rv = .int .i64 (Lib.indexByte [13, 10] c.toUInt8) := by
  refine pcalls_plain rfl fun I ν w vs hh hl hv => ?_
  match vs, hl with
  | [v1, v2], _ =>
  have e1 := (hv 0 _ v1 rfl rfl).str_inv
  have e2 := (hv 1 _ v2 rfl rfl).int_inv
  subst e1; subst e2
  have := Tryz.strings_IndexRune_ascii ⟨#[13, 10]⟩ (c : Int) w (by omega) (by omega)
  exact ⟨_, fun w I => .pure (.int _ _), this.mono fun e w' ⟨he, hw⟩ => ⟨he, by subst hw; exact Below.refl _ _⟩⟩
theorem s_rune_big {c : Nat} (h : 128 ≤ c) : PCalls (EE w0 base) 134 [.str [13, 10], .int .i32 (c : Int)] fun rv => rv = .int .i64 (-1) := by
  obtain ⟨nd, l, b, he, hnd, h1, h3, hb⟩ : ∃ (nd l : List UInt8) (b : UInt8), (Utf8.encode (c : Int)).data.toList = nd ∧ nd = l ++ [b] ∧ 1 ≤ l.length ∧ l.length ≤ 3 ∧ 128 ≤ b.toNat := by
    obtain ⟨l, b, he, h⟩ := encode_big h
    exact ⟨_, l, b, he, rfl, h⟩
  have hlen : nd.length = l.length + 1 := by simp [hnd]
  have hlast : nd[l.length]? = some b := by simp [hnd]
  refine acalls_of Tryz.func134 rfl rfl rfl (.cons (.cons .nil)) ?_
  repeat' (first|(first|(refine al_range_str rfl (by first|exact ln0) (by repeat constructor) rfl ?_)|(refine k_call ?_;refine al_call rfl rfl rfl rfl s_valid ?_;rintro _ ⟨bv, rfl⟩)|(refine al_v (ov_itos_eq rfl he) rfl ?_))|(refine k_al ?_;first|(refine al_v (ov_move rfl) rfl ?_)|(refine k_g ?_;first|(refine al_gy' rfl rfl (by with_reducible rfl) ?_)|(refine al_gsp rfl rfl (fun hc => ?_) (fun hc => ?_) <;> (try (exfalso;omega))))|(refine k_bin ?_;first|(refine al_v (ov_cmp rfl rfl rfl) rfl ?_)|(refine al_v (ov_add rfl rfl (by (first|exact w64 (by omega) (by omega)|rfl))) rfl ?_)|(refine al_v (ov_sub rfl rfl (by (first|exact w64 (by omega) (by omega)|rfl))) rfl ?_))|(refine k_pick ?_;first|(refine al_v (ov_pick_t' rfl (by with_reducible rfl) rfl) rfl ?_))|(refine al_v (ov_assign rfl) rfl ?_)|(refine k_call ?_;first|(refine al_v (ov_len_str rfl) rfl ?_))|(refine al_v (ov_extract rfl rfl) rfl ?_)|(refine al_nil ?_)|(refine al_v (ov_not rfl rfl) rfl ?_)|(refine al_v (ov_index rfl rfl (by omega) (by omega)) rfl ?_))|(first|(refine thn_n ?_)|(refine k_awp ?_;first|(refine awp_seq (awp_region ?_))|(refine awp_seq ?_)|(refine awp_region ?_)|(refine k_cond ?_;first|(refine awp_cond_t' rfl (by with_reducible rfl) ?_)|(refine awp_cond_f' rfl (by with_reducible rfl) ?_)|(refine awp_cond_p rfl (fun hc => ?_) (fun hc => ?_) <;> (try (exfalso;omega)))|(refine awp_cond_b rfl (fun hc => ?_) (fun hc => ?_) <;> (try (exact absurd hc (by decide)))))|(refine awp_block ?_)|(refine awp_scope ?_)|(refine awp_ret ?_)|(refine awp_skip ?_)|(refine awp_exit ?_))|(refine thn_ret ?_)|(refine lq_exit ?_)|(refine lq_ret ?_)|(refine thn_exit ?_)|(refine inb_n ?_)|(refine inb_ret ?_)|(refine inb_here ?_)|(refine nog_ret ?_)))
  · refine awp_loopq (fun p : Nat => ⟨[(0, .str [13, 10]), (175, .op 0 0)], [.siter [13, 10] p]⟩) (fun p => p ≤ 2) (fun p => 2 - p) 0 (.of (.same (by repeat constructor))) (by decide) ?_
    intro p hp
    try dsimp only
    repeat' (first|((refine al_next_str rfl rfl (fun wd => by repeat constructor) rfl (fun hle => ?_) (fun c wd hlt hd => ?_)))|(refine k_al ?_;first|(refine al_v (ov_move rfl) rfl ?_)|(refine k_g ?_;first|(refine al_gy' rfl rfl (by with_reducible rfl) ?_)|(refine al_gsp rfl rfl (fun hc => ?_) (fun hc => ?_) <;> (try (exfalso;omega))))|(refine k_bin ?_;first|(refine al_v (ov_cmp rfl rfl rfl) rfl ?_)|(refine al_v (ov_add rfl rfl (by (first|exact w64 (by omega) (by omega)|rfl))) rfl ?_)|(refine al_v (ov_sub rfl rfl (by (first|exact w64 (by omega) (by omega)|rfl))) rfl ?_))|(refine k_pick ?_;first|(refine al_v (ov_pick_t' rfl (by with_reducible rfl) rfl) rfl ?_))|(refine al_v (ov_assign rfl) rfl ?_)|(refine k_call ?_;first|(refine al_v (ov_len_str rfl) rfl ?_))|(refine al_v (ov_extract rfl rfl) rfl ?_)|(refine al_nil ?_)|(refine al_v (ov_not rfl rfl) rfl ?_)|(refine al_v (ov_index rfl rfl (by omega) (by omega)) rfl ?_))|(first|(refine thn_n ?_)|(refine k_awp ?_;first|(refine awp_seq (awp_region ?_))|(refine awp_seq ?_)|(refine awp_region ?_)|(refine k_cond ?_;first|(refine awp_cond_t' rfl (by with_reducible rfl) ?_)|(refine awp_cond_f' rfl (by with_reducible rfl) ?_)|(refine awp_cond_p rfl (fun hc => ?_) (fun hc => ?_) <;> (try (exfalso;omega)))|(refine awp_cond_b rfl (fun hc => ?_) (fun hc => ?_) <;> (try (exact absurd hc (by decide)))))|(refine awp_block ?_)|(refine awp_scope ?_)|(refine awp_ret ?_)|(refine awp_skip ?_)|(refine awp_exit ?_))|(refine thn_ret ?_)|(refine lq_exit ?_)|(refine lq_ret ?_)|(refine thn_exit ?_)|(refine inb_n ?_)|(refine inb_ret ?_)|(refine inb_here ?_)|(refine nog_ret ?_)))
    · refine ret1 (by first | exact .inr rfl | exact .inl rfl) rfl rfl ?_
      exact ⟨rfl, rfl⟩
    all_goals
      obtain ⟨hwd1, hk⟩ := hd
      have hc2 : c < 128 ∧ wd = 1 := by
        rcases hk with ⟨b, h1, h2, rfl, h4⟩ | ⟨h1, h2⟩
        · exact ⟨h2, h4⟩
        · exfalso
          match p, hlt with
          | 0, _ => exact absurd (h2 0 13 (by omega) rfl) (by decide)
          | 1, _ => exact absurd (h2 0 10 (by omega) rfl) (by decide)
      obtain ⟨hc2, rfl⟩ := hc2
      simp only [List.length_cons, List.length_nil] at hlt
    · exfalso; omega
    · first | refine lq_back (p + 1) (.of (.same (by repeat constructor))) ?_ ?_ | fail
      · omega
      · omega
  · refine ret1 (by first | exact .inr rfl | exact .inl rfl) rfl rfl ?_
    exact ⟨rfl, rfl⟩
  · refine awp_loopq (fun _ : Unit => ⟨[(0, .str [13, 10]), (7, .str nd), (8, .int .i64 ((nd.length : Int) - 1)), (9, .int .i64 ((nd.length : Int) - 1))], []⟩) (fun _ => True) (fun _ => 0) () (.of (.same (by repeat constructor))) trivial ?_
    intro _ _
    try dsimp only
    repeat' (first|(refine k_al ?_;first|(refine al_v (ov_move rfl) rfl ?_)|(refine k_g ?_;first|(refine al_gy' rfl rfl (by with_reducible rfl) ?_)|(refine al_gsp rfl rfl (fun hc => ?_) (fun hc => ?_) <;> (try (exfalso;omega))))|(refine k_bin ?_;first|(refine al_v (ov_cmp rfl rfl rfl) rfl ?_)|(refine al_v (ov_add rfl rfl (by (first|exact w64 (by omega) (by omega)|rfl))) rfl ?_)|(refine al_v (ov_sub rfl rfl (by (first|exact w64 (by omega) (by omega)|rfl))) rfl ?_))|(refine k_pick ?_;first|(refine al_v (ov_pick_t' rfl (by with_reducible rfl) rfl) rfl ?_))|(refine al_v (ov_assign rfl) rfl ?_)|(refine k_call ?_;first|(refine al_v (ov_len_str rfl) rfl ?_))|(refine al_v (ov_extract rfl rfl) rfl ?_)|(refine al_nil ?_)|(refine al_v (ov_not rfl rfl) rfl ?_)|(refine al_v (ov_index rfl rfl (by omega) (by omega)) rfl ?_))|(first|(refine thn_n ?_)|(refine k_awp ?_;first|(refine awp_seq (awp_region ?_))|(refine awp_seq ?_)|(refine awp_region ?_)|(refine k_cond ?_;first|(refine awp_cond_t' rfl (by with_reducible rfl) ?_)|(refine awp_cond_f' rfl (by with_reducible rfl) ?_)|(refine awp_cond_p rfl (fun hc => ?_) (fun hc => ?_) <;> (try (exfalso;omega)))|(refine awp_cond_b rfl (fun hc => ?_) (fun hc => ?_) <;> (try (exact absurd hc (by decide)))))|(refine awp_block ?_)|(refine awp_scope ?_)|(refine awp_ret ?_)|(refine awp_skip ?_)|(refine awp_exit ?_))|(refine thn_ret ?_)|(refine lq_exit ?_)|(refine lq_ret ?_)|(refine thn_exit ?_)|(refine inb_n ?_)|(refine inb_ret ?_)|(refine inb_here ?_)|(refine nog_ret ?_)))
    · rename_i hc
      have hc' : nd.length = 2 := by
        simp only [List.length_cons, List.length_nil] at hc
        omega
      have e1 : ((nd.length : Int) - 1) = 1 := by omega
      have hl1 : l.length = 1 := by omega
      rw [hl1] at hlast
      have hA : byteAt [13, 10] ((nd.length : Int) - 1) = 10 := by rw [e1]; rfl
      have hB : byteAt nd ((nd.length : Int) - 1) = (b.toNat : Int) := by rw [e1]; simp [byteAt, hlast]
      have hL : ([13, 10] : List UInt8).length = 2 := rfl
      have hcall : PCalls (EE w0 base) 136 [.str (([13, 10] : List UInt8).drop ((nd.length : Int) - 1 + 1).toNat), .int .u8 (byteAt nd ((nd.length : Int) - 1))] fun rv => rv = .int .i64 (-1) := by
        rw [e1]
        exact s_indexByte
      repeat' (first|(first|(refine ql_call rfl rfl rfl rfl hcall rfl ?_)|(refine ql_v (ov_slice_lo rfl rfl (by omega) (by omega)) rfl ?_))|(refine k_al ?_;first|(refine al_v (ov_move rfl) rfl ?_)|(refine k_g ?_;first|(refine al_gy' rfl rfl (by with_reducible rfl) ?_)|(refine al_gsp rfl rfl (fun hc => ?_) (fun hc => ?_) <;> (try (exfalso;omega))))|(refine k_bin ?_;first|(refine al_v (ov_cmp rfl rfl rfl) rfl ?_)|(refine al_v (ov_add rfl rfl (by (first|exact w64 (by omega) (by omega)|rfl))) rfl ?_)|(refine al_v (ov_sub rfl rfl (by (first|exact w64 (by omega) (by omega)|rfl))) rfl ?_))|(refine k_pick ?_;first|(refine al_v (ov_pick_t' rfl (by with_reducible rfl) rfl) rfl ?_))|(refine al_v (ov_assign rfl) rfl ?_)|(refine k_call ?_;first|(refine al_v (ov_len_str rfl) rfl ?_))|(refine al_v (ov_extract rfl rfl) rfl ?_)|(refine al_nil ?_)|(refine al_v (ov_not rfl rfl) rfl ?_)|(refine al_v (ov_index rfl rfl (by omega) (by omega)) rfl ?_))|(first|(refine thn_n ?_)|(refine k_awp ?_;first|(refine awp_seq (awp_region ?_))|(refine awp_seq ?_)|(refine awp_region ?_)|(refine k_cond ?_;first|(refine awp_cond_t' rfl (by with_reducible rfl) ?_)|(refine awp_cond_f' rfl (by with_reducible rfl) ?_)|(refine awp_cond_p rfl (fun hc => ?_) (fun hc => ?_) <;> (try (exfalso;omega)))|(refine awp_cond_b rfl (fun hc => ?_) (fun hc => ?_) <;> (try (exact absurd hc (by decide)))))|(refine awp_block ?_)|(refine awp_scope ?_)|(refine awp_ret ?_)|(refine awp_skip ?_)|(refine awp_exit ?_))|(refine thn_ret ?_)|(refine lq_exit ?_)|(refine lq_ret ?_)|(refine thn_exit ?_)|(refine inb_n ?_)|(refine inb_ret ?_)|(refine inb_here ?_)|(refine nog_ret ?_))|(refine awp_draw (by kernel_rfl) (by kernel_rfl) ?_)|(first|(refine ql_v (ov_move rfl) rfl ?_)|(refine ql_v (ov_assign rfl) rfl ?_)|(refine ql_v (ov_cmp rfl rfl rfl) rfl ?_)|(refine ql_v (ov_pick_t' rfl (by with_reducible rfl) rfl) rfl ?_)|(refine ql_v (ov_len_str rfl) rfl ?_)|(refine ql_v (ov_extract rfl rfl) rfl ?_)|(refine ql_v (ov_index rfl rfl (by omega) (by omega)) rfl ?_)|(refine ql_v (ov_add rfl rfl (by (first|exact w64 (by omega) (by omega)|rfl))) rfl ?_)|(refine ql_v (ov_sub rfl rfl (by (first|exact w64 (by omega) (by omega)|rfl))) rfl ?_)|(refine ql_v (ov_not rfl rfl) rfl ?_)|(refine ql_nil ?_)))
      all_goals first | (exfalso; omega) | (refine ret1 (by first | exact .inr rfl | exact .inl rfl) rfl rfl ?_; exact ⟨rfl, rfl⟩)
    · refine ret1 (by first | exact .inr rfl | exact .inl rfl) rfl rfl ?_
      exact ⟨rfl, rfl⟩
theorem hv80 : ∀ w, (zeroValue 103).run Tryz.prog w = .ok (.agg (Array.replicate 256 (.bool false))) w := fun w => by kernel_rfl
theorem s_indexAny_short {s : List UInt8} (h8 : s.length ≤ 8) : PCalls (EE w0 base) 109 [.str s, .str [13, 10]] fun rv => ∃ n, rv = .int .i64 n ∧ (0 ≤ n ↔ hasBr s) := by
  refine acalls_of Tryz.func109 rfl rfl rfl (.cons (.cons .nil)) ?_
  repeat' (first|(first|(refine al_range_str rfl (by first|exact ln0) (by repeat constructor) rfl ?_)|(refine k_call ?_;refine al_call rfl rfl rfl rfl s_should ?_;rintro _ rfl))|(refine k_al ?_;first|(refine al_v (ov_move rfl) rfl ?_)|(refine k_bin ?_;first|(refine al_v (ov_cmp rfl rfl rfl) rfl ?_)|(refine al_v (ov_seq rfl rfl) rfl ?_))|(refine al_v (ov_assign rfl) rfl ?_)|(refine k_call ?_;first|(refine al_v (ov_len_str rfl) rfl ?_))|(refine al_v (ov_extract rfl rfl) rfl ?_)|(refine al_nil ?_)|(refine al_v (ov_index rfl rfl (by omega) (by omega)) rfl ?_))|(first|(refine thn_n ?_)|(refine k_awp ?_;first|(refine awp_seq (awp_region ?_))|(refine awp_seq ?_)|(refine awp_region ?_)|(refine k_cond ?_;first|(refine awp_cond_t' rfl (by with_reducible rfl) ?_)|(refine awp_cond_f' rfl (by with_reducible rfl) ?_)|(refine awp_cond_p rfl (fun hc => ?_) (fun hc => ?_) <;> (try (exfalso;omega))))|(refine awp_block ?_)|(refine awp_ret ?_)|(refine awp_skip ?_)|(refine awp_exit ?_))|(refine thn_ret ?_)|(refine lq_exit ?_)|(refine lq_ret ?_)|(refine thn_exit ?_)|(refine inb_n ?_)|(refine inb_ret ?_)|(refine inb_here ?_)))
  · exact absurd ‹_› (by decide)
  · exact absurd ‹_› (by decide)
  refine awp_loopq (fun p : Nat => ⟨[(0, .str s), (1, .str [13, 10]), (45, .op 0 0)], [.siter s p]⟩) (fun p => ∀ (i : Nat) (b : UInt8), i < p → s[i]? = some b → b ≠ 13 ∧ b ≠ 10) (fun p => s.length - p) 0 (.of (.same (by repeat constructor))) (fun i b h => absurd h (Nat.not_lt_zero _)) ?_
  intro p hp
  try dsimp only
  repeat' (first|((refine al_next_str rfl rfl (fun wd => by repeat constructor) rfl (fun hle => ?_) (fun c wd hlt hd => ?_)))|(refine k_al ?_;first|(refine al_v (ov_move rfl) rfl ?_)|(refine k_bin ?_;first|(refine al_v (ov_cmp rfl rfl rfl) rfl ?_)|(refine al_v (ov_seq rfl rfl) rfl ?_))|(refine al_v (ov_assign rfl) rfl ?_)|(refine k_call ?_;first|(refine al_v (ov_len_str rfl) rfl ?_))|(refine al_v (ov_extract rfl rfl) rfl ?_)|(refine al_nil ?_)|(refine al_v (ov_index rfl rfl (by omega) (by omega)) rfl ?_))|(first|(refine thn_n ?_)|(refine k_awp ?_;first|(refine awp_seq (awp_region ?_))|(refine awp_seq ?_)|(refine awp_region ?_)|(refine k_cond ?_;first|(refine awp_cond_t' rfl (by with_reducible rfl) ?_)|(refine awp_cond_f' rfl (by with_reducible rfl) ?_)|(refine awp_cond_p rfl (fun hc => ?_) (fun hc => ?_) <;> (try (exfalso;omega))))|(refine awp_block ?_)|(refine awp_ret ?_)|(refine awp_skip ?_)|(refine awp_exit ?_))|(refine thn_ret ?_)|(refine lq_exit ?_)|(refine lq_ret ?_)|(refine thn_exit ?_)|(refine inb_n ?_)|(refine inb_ret ?_)|(refine inb_here ?_)))
  · refine ret1 (by first | exact .inr rfl | exact .inl rfl) rfl rfl ?_
    refine ⟨⟨_, rfl, ?_⟩, rfl⟩
    refine ⟨fun h => absurd h (by decide), fun h => ?_⟩
    exfalso
    rcases h with h | h
    all_goals
      obtain ⟨i, hi, he⟩ := List.getElem_of_mem h
      have := hp i _ (by omega) (List.getElem?_eq_getElem hi)
      simp [he] at this
  · rcases hd.kind with ⟨b, h1, h2, rfl, rfl⟩ | ⟨h1, h2⟩
    · have hb : b.toNat.toUInt8 = b := by simp
      have hx := indexByte_br b
      repeat' (first|((refine k_call ?_;refine al_call rfl rfl rfl rfl (s_rune_ascii h2) ?_;rintro _ rfl))|(refine k_al ?_;first|(refine al_v (ov_move rfl) rfl ?_)|(refine k_bin ?_;first|(refine al_v (ov_cmp rfl rfl rfl) rfl ?_)|(refine al_v (ov_seq rfl rfl) rfl ?_))|(refine al_v (ov_assign rfl) rfl ?_)|(refine k_call ?_;first|(refine al_v (ov_len_str rfl) rfl ?_))|(refine al_v (ov_extract rfl rfl) rfl ?_)|(refine al_nil ?_)|(refine al_v (ov_index rfl rfl (by omega) (by omega)) rfl ?_))|(first|(refine thn_n ?_)|(refine k_awp ?_;first|(refine awp_seq (awp_region ?_))|(refine awp_seq ?_)|(refine awp_region ?_)|(refine k_cond ?_;first|(refine awp_cond_t' rfl (by with_reducible rfl) ?_)|(refine awp_cond_f' rfl (by with_reducible rfl) ?_)|(refine awp_cond_p rfl (fun hc => ?_) (fun hc => ?_) <;> (try (exfalso;omega))))|(refine awp_block ?_)|(refine awp_ret ?_)|(refine awp_skip ?_)|(refine awp_exit ?_))|(refine thn_ret ?_)|(refine lq_exit ?_)|(refine lq_ret ?_)|(refine thn_exit ?_)|(refine inb_n ?_)|(refine inb_ret ?_)|(refine inb_here ?_)))
      · rename_i hc
        rw [hb] at hc
        refine ret1 (by first | exact .inr rfl | exact .inl rfl) rfl rfl ?_
        refine ⟨⟨_, rfl, ?_⟩, rfl⟩
        refine ⟨fun _ => ?_, fun _ => by omega⟩
        have hm := List.mem_of_getElem? h1
        rcases hx.1 hc with rfl | rfl
        · exact .inl hm
        · exact .inr hm
      · rename_i hc
        rw [hb] at hc
        have hn := mt hx.2 hc
        first | refine lq_back (p + 1) (.of (.same (by repeat constructor))) ?_ ?_ | fail
        · intro i b' hi hb'
          rcases Nat.lt_or_ge i p with h | h
          · exact hp i b' h hb'
          · obtain rfl : i = p := by omega
            rw [h1] at hb'
            injection hb' with hb'
            subst hb'
            exact ⟨fun e => hn (.inl e), fun e => hn (.inr e)⟩
        · omega
    · repeat' (first|((refine k_call ?_;refine al_call rfl rfl rfl rfl (s_rune_big h1) ?_;rintro _ rfl))|(refine k_al ?_;first|(refine al_v (ov_move rfl) rfl ?_)|(refine k_bin ?_;first|(refine al_v (ov_cmp rfl rfl rfl) rfl ?_)|(refine al_v (ov_seq rfl rfl) rfl ?_))|(refine al_v (ov_assign rfl) rfl ?_)|(refine k_call ?_;first|(refine al_v (ov_len_str rfl) rfl ?_))|(refine al_v (ov_extract rfl rfl) rfl ?_)|(refine al_nil ?_)|(refine al_v (ov_index rfl rfl (by omega) (by omega)) rfl ?_))|(first|(refine thn_n ?_)|(refine k_awp ?_;first|(refine awp_seq (awp_region ?_))|(refine awp_seq ?_)|(refine awp_region ?_)|(refine k_cond ?_;first|(refine awp_cond_t' rfl (by with_reducible rfl) ?_)|(refine awp_cond_f' rfl (by with_reducible rfl) ?_)|(refine awp_cond_p rfl (fun hc => ?_) (fun hc => ?_) <;> (try (exfalso;omega))))|(refine awp_block ?_)|(refine awp_ret ?_)|(refine awp_skip ?_)|(refine awp_exit ?_))|(refine thn_ret ?_)|(refine lq_exit ?_)|(refine lq_ret ?_)|(refine thn_exit ?_)|(refine inb_n ?_)|(refine inb_ret ?_)|(refine inb_here ?_)))
      have hw := hd.wd1
      first | refine lq_back (p + wd) (.of (.same (by repeat constructor))) ?_ ?_ | fail
      · intro i b' hi hb'
        rcases Nat.lt_or_ge i p with h | h
        · exact hp i b' h hb'
        · have := h2 (i - p) b' (by omega) (by rw [← hb']; congr 1; omega)
          constructor <;> (rintro rfl; exact absurd this (by decide))
      · omega
theorem s_indexAny_long {s : List UInt8} (h8 : 8 < s.length) (hs : s.length < 4294967281) : PCalls (EE w0 base) 109 [.str s, .str [13, 10]] fun rv => rv = .int .i64 (Lib.indexAny s [13, 10]) := by
  refine pcalls_plain rfl fun I ν w vs hh hl hv => ?_
  match vs, hl with
  | [v1, v2], _ =>
  have e1 := (hv 0 _ v1 rfl rfl).str_inv
  have e2 := (hv 1 _ v2 rfl rfl).str_inv
  subst e1; subst e2
  have := Tryz.strings_IndexAny_long hv80 ⟨s.toArray⟩ ⟨#[13, 10]⟩ w (by decide) h8 hs (by decide) (fun j b h => by
    match j, h with
    | 0, h => simp at h; subst h; decide
    | 1, h => simp at h; subst h; decide
    | j + 2, h => simp at h)
  exact ⟨_, fun w I => .pure (.int _ _), this.mono fun e w' ⟨he, hw⟩ => ⟨he, by subst hw; exact ((Below.refl _ w).alloc (Nat.le_refl _) _).alloc (by simp) _⟩⟩
theorem s_indexAny {s : List UInt8} (hs : s.length < 4294967281) : PCalls (EE w0 base) 109 [.str s, .str [13, 10]] fun rv => ∃ n, rv = .int .i64 n ∧ (0 ≤ n ↔ hasBr s) := by
  rcases Nat.lt_or_ge 8 s.length with h | h
  · exact acalls_mono (s_indexAny_long h hs) fun rv _ hr => ⟨⟨_, hr.1, indexAny_br s⟩, hr.2⟩
  · exact s_indexAny_short h
theorem s_containsAny {s : List UInt8} (hs : s.length < 4294967281) : PCalls (EE w0 base) 78 [.str s, .str [13, 10]] fun rv => rv = .bool (decide (hasBr s)) := by
  refine acalls_of Tryz.func78 rfl rfl rfl (.cons (.cons .nil)) ?_
  repeat' (first|((refine k_call ?_;refine al_call rfl rfl rfl rfl (s_indexAny hs) ?_;rintro _ ⟨n, rfl, hn⟩))|(refine k_al ?_;first|(refine al_v (ov_move rfl) rfl ?_)|(refine k_bin ?_;first|(refine al_v (ov_cmp rfl rfl rfl) rfl ?_))|(refine al_v (ov_assign rfl) rfl ?_)|(refine al_nil ?_))|(first|(refine thn_n ?_)|(refine k_awp ?_;first|(refine awp_seq (awp_region ?_))|(refine awp_seq ?_)|(refine awp_region ?_)|(refine awp_ret ?_))))
  refine ret1 (by first | exact .inr rfl | exact .inl rfl) rfl rfl ?_
  refine ⟨congrArg AV.bool ?_, rfl⟩
  exact decide_eq_decide.2 hn
end
end Go.Proofs.YtffcgpkbibijpaaGreatDoor.L

namespace Go.Proofs.YtffcgpkbibijpaaGreatDoor.L
open Go Go.RowKit Go.Proofs
set_option linter.unusedVariables false
set_option linter.unusedSimpArgs false
set_option maxRecDepth 100000
attribute [local irreducible] AL QL AWp Thn InB RetQ ACalls LoopQ HL HO HW HQ NoG

abbrev bI (b : UInt8) : AV := .int .u8 (b.toNat : Int)
theorem u8_all {P : UInt8 → Prop} (h : ∀ n : Fin 256, P (UInt8.ofNat n.1)) (b : UInt8) : P b := by
  have := h ⟨b.toNat, b.toNat_lt⟩
  simpa using this
def hexS : List UInt8 := [48, 49, 50, 51, 52, 53, 54, 55, 56, 57, 97, 98, 99, 100, 101, 102]
def hexI (b : UInt8) : Int := Lib.indexByte hexS (b ||| ((32 : UInt8) * ((b >>> 6) &&& 1)))
theorem hexI_hi : ∀ b, hexI b ≤ 15 := u8_all (by decide +kernel)
theorem hexI_R : ∀ b : UInt8, hexI b = if 48 ≤ b.toNat ∧ b.toNat ≤ 57 then (b.toNat : Int) - 48 else if 97 ≤ b.toNat ∧ b.toNat ≤ 102 then (b.toNat : Int) - 97 + 10 else if 65 ≤ b.toNat ∧ b.toNat ≤ 70 then (b.toNat : Int) - 65 + 10 else -1 := u8_all (by decide +kernel)
def signs : List UInt8 := [33, 35, 36, 37, 38, 39, 42, 43, 45, 46, 94, 95, 96, 124, 126]
def pOdd (b : UInt8) : Bool := decide (b.toNat < 33) || decide (126 < b.toNat) || decide (b.toNat = 35)
def pVis (b : UInt8) : Bool := decide (33 ≤ b.toNat) && decide (b.toNat ≤ 126)
def pLoose (b : UInt8) : Bool := pVis b || decide (b.toNat = 32) || decide (b.toNat = 9)
def pLarge (b : UInt8) : Bool := decide (65 ≤ b.toNat) && decide (b.toNat ≤ 90)
def pDigit (b : UInt8) : Bool := decide (48 ≤ b.toNat) && decide (b.toNat ≤ 57)
def pToken (b : UInt8) : Bool := pLarge b || (decide (97 ≤ b.toNat) && decide (b.toNat ≤ 122)) || pDigit b || decide (0 ≤ Lib.indexByte signs b)

section
variable {w0 : World} {base : Nat}
theorem hex_bits (b : UInt8) : bits .or .u8 (b.toNat : Int) (IntKind.u8.wrap (32 * bits .and .u8 ((b.toNat : Int).fdiv (2 ^ (min (6 : Int).toNat IntKind.u8.bits))) 1)) = ((b ||| ((32 : UInt8) * ((b >>> 6) &&& 1))).toNat : Int) := by
  revert b
  exact u8_all (by decide +kernel)
theorem s_hexI {b : UInt8} : PCalls (EE w0 base) 115 [bI b] fun rv => rv = .int .i64 (hexI b) := by
  refine acalls_of Tryz.func115 rfl rfl rfl (.cons .nil) ?_
  repeat' (first|(first|(refine al_v (ov_shr rfl rfl (by decide) rfl) rfl ?_)|(refine al_v (ov_bits rfl rfl (.inl rfl) rfl) rfl ?_)|(refine al_v (ov_mul rfl rfl rfl) rfl ?_)|(refine al_v (ov_bits rfl rfl (.inr (.inl rfl)) (hex_bits b)) rfl ?_)|(refine k_call ?_;refine al_call rfl rfl rfl rfl s_indexByte ?_;rintro _ rfl))|(refine k_al ?_;first|(refine al_v (ov_move rfl) rfl ?_)|(refine al_v (ov_assign rfl) rfl ?_)|(refine al_nil ?_))|(first|(refine thn_n ?_)|(refine k_awp ?_;first|(refine awp_seq (awp_region ?_))|(refine awp_seq ?_)|(refine awp_region ?_)|(refine awp_ret ?_))))
  refine ret1 (by first | exact .inr rfl | exact .inl rfl) rfl rfl ?_
  exact ⟨rfl, rfl⟩
theorem s_hexR {b : UInt8} : PCalls (EE w0 base) 125 [bI b] fun rv => rv = .int .i64 (hexI b) := by
  refine acalls_of Tryz.func125 rfl rfl rfl (.cons .nil) ?_
  have hb := b.toNat_lt
  repeat' (first|(first|(refine al_v (ov_conv_int rfl (by (first|exact w64 (by omega) (by omega)|exact w8 (by omega) (by omega)|rfl))) rfl ?_))|(refine k_al ?_;first|(refine al_v (ov_move rfl) rfl ?_)|(refine k_g ?_;first|(refine al_gy' rfl rfl (by with_reducible rfl) ?_)|(refine al_gnt rfl rfl (by with_reducible rfl) rfl ?_)|(refine al_gsp rfl rfl (fun hc => ?_) (fun hc => ?_) <;> (try (exfalso;omega))))|(refine k_bin ?_;first|(refine al_v (ov_cmp rfl rfl rfl) rfl ?_)|(refine al_v (ov_add rfl rfl (by (first|exact w64 (by omega) (by omega)|exact w8 (by omega) (by omega)|rfl))) rfl ?_)|(refine al_v (ov_sub rfl rfl (by (first|exact w64 (by omega) (by omega)|exact w8 (by omega) (by omega)|rfl))) rfl ?_))|(refine k_pick ?_;first|(refine al_v (ov_pick_t' rfl (by with_reducible rfl) rfl) rfl ?_)|(refine al_v (ov_pick_f' rfl (by with_reducible rfl) rfl) rfl ?_))|(refine al_v (ov_assign rfl) rfl ?_)|(refine al_nil ?_))|(first|(refine thn_n ?_)|(refine k_awp ?_;first|(refine awp_seq (awp_region ?_))|(refine awp_seq ?_)|(refine awp_region ?_)|(refine k_cond ?_;first|(refine awp_cond_f' rfl (by with_reducible rfl) ?_)|(refine awp_cond_p rfl (fun hc => ?_) (fun hc => ?_) <;> (try (exfalso;omega))))|(refine awp_ret ?_)|(refine awp_skip ?_))|(refine thn_ret ?_)))
  all_goals
    refine ret1 (by first | exact .inr rfl | exact .inl rfl) rfl rfl ?_
    refine ⟨congrArg (AV.int .i64) ?_, rfl⟩
    rw [hexI_R]
    (repeat' split) <;> omega
theorem s_odd {b : UInt8} : PCalls (EE w0 base) 81 [bI b] fun rv => rv = .bool (pOdd b) := by
  refine acalls_of Tryz.func81 rfl rfl rfl (.cons .nil) ?_
  repeat' (first|(refine k_al ?_;first|(refine al_v (ov_move rfl) rfl ?_)|(refine k_g ?_;first|(refine al_gy' rfl rfl (by with_reducible rfl) ?_)|(refine al_gnf rfl rfl (by with_reducible rfl) rfl ?_)|(refine al_gsp rfl rfl (fun hc => ?_) (fun hc => ?_) <;> (try (exfalso;omega))))|(refine k_bin ?_;first|(refine al_v (ov_cmp rfl rfl rfl) rfl ?_))|(refine k_pick ?_;first|(refine al_v (ov_pick_t' rfl (by with_reducible rfl) rfl) rfl ?_)|(refine al_v (ov_pick_f' rfl (by with_reducible rfl) rfl) rfl ?_))|(refine al_v (ov_assign rfl) rfl ?_)|(refine al_nil ?_))|(first|(refine thn_n ?_)|(refine k_awp ?_;first|(refine awp_seq (awp_region ?_))|(refine awp_seq ?_)|(refine awp_region ?_)|(refine awp_ret ?_))))
  all_goals
    refine ret1 (by first | exact .inr rfl | exact .inl rfl) rfl rfl ?_
    refine ⟨congrArg AV.bool ?_, rfl⟩
    (try unfold pVis at *); rw [Bool.eq_iff_iff]; simp only [pOdd, pVis, pLarge, pDigit, Bool.or_eq_true, Bool.and_eq_true, decide_eq_true_eq, Bool.or_eq_false_iff, Bool.and_eq_false_iff, decide_eq_false_iff_not, false_iff, iff_true, true_iff, iff_false, Bool.false_eq_true] at *; try omega
theorem s_vis {b : UInt8} : PCalls (EE w0 base) 104 [bI b] fun rv => rv = .bool (pVis b) := by
  refine acalls_of Tryz.func104 rfl rfl rfl (.cons .nil) ?_
  repeat' (first|(refine k_al ?_;first|(refine al_v (ov_move rfl) rfl ?_)|(refine k_g ?_;first|(refine al_gy' rfl rfl (by with_reducible rfl) ?_)|(refine al_gnt rfl rfl (by with_reducible rfl) rfl ?_)|(refine al_gsp rfl rfl (fun hc => ?_) (fun hc => ?_) <;> (try (exfalso;omega))))|(refine k_bin ?_;first|(refine al_v (ov_cmp rfl rfl rfl) rfl ?_))|(refine k_pick ?_;first|(refine al_v (ov_pick_t' rfl (by with_reducible rfl) rfl) rfl ?_)|(refine al_v (ov_pick_f' rfl (by with_reducible rfl) rfl) rfl ?_))|(refine al_v (ov_assign rfl) rfl ?_)|(refine al_nil ?_))|(first|(refine thn_n ?_)|(refine k_awp ?_;first|(refine awp_seq (awp_region ?_))|(refine awp_seq ?_)|(refine awp_region ?_)|(refine awp_ret ?_))))
  all_goals
    refine ret1 (by first | exact .inr rfl | exact .inl rfl) rfl rfl ?_
    refine ⟨congrArg AV.bool ?_, rfl⟩
    (try unfold pVis at *); rw [Bool.eq_iff_iff]; simp only [pVis, pVis, pLarge, pDigit, Bool.or_eq_true, Bool.and_eq_true, decide_eq_true_eq, Bool.or_eq_false_iff, Bool.and_eq_false_iff, decide_eq_false_iff_not, false_iff, iff_true, true_iff, iff_false, Bool.false_eq_true] at *; try omega
theorem s_large {b : UInt8} : PCalls (EE w0 base) 62 [bI b] fun rv => rv = .bool (pLarge b) := by
  refine acalls_of Tryz.func62 rfl rfl rfl (.cons .nil) ?_
  repeat' (first|(refine k_al ?_;first|(refine al_v (ov_move rfl) rfl ?_)|(refine k_g ?_;first|(refine al_gy' rfl rfl (by with_reducible rfl) ?_)|(refine al_gnt rfl rfl (by with_reducible rfl) rfl ?_)|(refine al_gsp rfl rfl (fun hc => ?_) (fun hc => ?_) <;> (try (exfalso;omega))))|(refine k_bin ?_;first|(refine al_v (ov_cmp rfl rfl rfl) rfl ?_))|(refine k_pick ?_;first|(refine al_v (ov_pick_t' rfl (by with_reducible rfl) rfl) rfl ?_)|(refine al_v (ov_pick_f' rfl (by with_reducible rfl) rfl) rfl ?_))|(refine al_v (ov_assign rfl) rfl ?_)|(refine al_nil ?_))|(first|(refine thn_n ?_)|(refine k_awp ?_;first|(refine awp_seq (awp_region ?_))|(refine awp_seq ?_)|(refine awp_region ?_)|(refine awp_ret ?_))))
  all_goals
    refine ret1 (by first | exact .inr rfl | exact .inl rfl) rfl rfl ?_
    refine ⟨congrArg AV.bool ?_, rfl⟩
    (try unfold pVis at *); rw [Bool.eq_iff_iff]; simp only [pLarge, pVis, pLarge, pDigit, Bool.or_eq_true, Bool.and_eq_true, decide_eq_true_eq, Bool.or_eq_false_iff, Bool.and_eq_false_iff, decide_eq_false_iff_not, false_iff, iff_true, true_iff, iff_false, Bool.false_eq_true] at *; try omega
theorem s_digit {b : UInt8} : PCalls (EE w0 base) 37 [bI b] fun rv => rv = .bool (pDigit b) := by
  refine acalls_of Tryz.func37 rfl rfl rfl (.cons .nil) ?_
  repeat' (first|(refine k_al ?_;first|(refine al_v (ov_move rfl) rfl ?_)|(refine k_g ?_;first|(refine al_gy' rfl rfl (by with_reducible rfl) ?_)|(refine al_gnt rfl rfl (by with_reducible rfl) rfl ?_)|(refine al_gsp rfl rfl (fun hc => ?_) (fun hc => ?_) <;> (try (exfalso;omega))))|(refine k_bin ?_;first|(refine al_v (ov_cmp rfl rfl rfl) rfl ?_))|(refine k_pick ?_;first|(refine al_v (ov_pick_t' rfl (by with_reducible rfl) rfl) rfl ?_)|(refine al_v (ov_pick_f' rfl (by with_reducible rfl) rfl) rfl ?_))|(refine al_v (ov_assign rfl) rfl ?_)|(refine al_nil ?_))|(first|(refine thn_n ?_)|(refine k_awp ?_;first|(refine awp_seq (awp_region ?_))|(refine awp_seq ?_)|(refine awp_region ?_)|(refine awp_ret ?_))))
  all_goals
    refine ret1 (by first | exact .inr rfl | exact .inl rfl) rfl rfl ?_
    refine ⟨congrArg AV.bool ?_, rfl⟩
    (try unfold pVis at *); rw [Bool.eq_iff_iff]; simp only [pDigit, pVis, pLarge, pDigit, Bool.or_eq_true, Bool.and_eq_true, decide_eq_true_eq, Bool.or_eq_false_iff, Bool.and_eq_false_iff, decide_eq_false_iff_not, false_iff, iff_true, true_iff, iff_false, Bool.false_eq_true] at *; try omega
theorem s_loose {b : UInt8} : PCalls (EE w0 base) 107 [bI b] fun rv => rv = .bool (pLoose b) := by
  refine acalls_of Tryz.func107 rfl rfl rfl (.cons .nil) ?_
  repeat' (first|((refine k_call ?_;refine al_call rfl rfl rfl rfl s_vis ?_;rintro _ rfl))|(refine k_al ?_;first|(refine al_v (ov_move rfl) rfl ?_)|(refine k_g ?_;first|(refine al_gy' rfl rfl (by with_reducible rfl) ?_)|(refine al_gnf rfl rfl (by with_reducible rfl) rfl ?_)|(refine al_gsp rfl rfl (fun hc => ?_) (fun hc => ?_) <;> (try (exfalso;omega)))|(refine al_gsb rfl rfl (fun hc => ?_) (fun hc => ?_) <;> (try (exact absurd hc (by decide)))))|(refine k_bin ?_;first|(refine al_v (ov_cmp rfl rfl rfl) rfl ?_))|(refine k_pick ?_;first|(refine al_v (ov_pick_t' rfl (by with_reducible rfl) rfl) rfl ?_)|(refine al_v (ov_pick_f' rfl (by with_reducible rfl) rfl) rfl ?_))|(refine al_v (ov_assign rfl) rfl ?_)|(refine al_nil ?_))|(first|(refine thn_n ?_)|(refine k_awp ?_;first|(refine awp_seq (awp_region ?_))|(refine awp_seq ?_)|(refine awp_region ?_)|(refine awp_ret ?_))))
  all_goals
    refine ret1 (by first | exact .inr rfl | exact .inl rfl) rfl rfl ?_
    refine ⟨congrArg AV.bool ?_, rfl⟩
    (try unfold pVis at *); rw [Bool.eq_iff_iff]; simp only [pLoose, pVis, pLarge, pDigit, Bool.or_eq_true, Bool.and_eq_true, decide_eq_true_eq, Bool.or_eq_false_iff, Bool.and_eq_false_iff, decide_eq_false_iff_not, false_iff, iff_true, true_iff, iff_false, Bool.false_eq_true] at *; try omega
theorem s_token {b : UInt8} : PCalls (EE w0 base) 106 [bI b] fun rv => rv = .bool (pToken b) := by
  refine acalls_of Tryz.func106 rfl rfl rfl (.cons .nil) ?_
  repeat' (first|(first|(refine k_call ?_;refine al_call rfl rfl rfl rfl s_large ?_;rintro _ rfl)|(refine k_call ?_;refine al_call rfl rfl rfl rfl s_digit ?_;rintro _ rfl)|(refine k_call ?_;refine al_call rfl rfl rfl rfl s_indexByte ?_;rintro _ rfl))|(refine k_al ?_;first|(refine al_v (ov_move rfl) rfl ?_)|(refine k_g ?_;first|(refine al_gy' rfl rfl (by with_reducible rfl) ?_)|(refine al_gnt rfl rfl (by with_reducible rfl) rfl ?_)|(refine al_gnf rfl rfl (by with_reducible rfl) rfl ?_)|(refine al_gu rfl rfl rfl ?_)|(refine al_gsp rfl rfl (fun hc => ?_) (fun hc => ?_) <;> (try (exfalso;omega)))|(refine al_gsb rfl rfl (fun hc => ?_) (fun hc => ?_) <;> (try (exact absurd hc (by decide)))))|(refine k_bin ?_;first|(refine al_v (ov_cmp rfl rfl rfl) rfl ?_))|(refine k_pick ?_;first|(refine al_v (ov_pick_t' rfl (by with_reducible rfl) rfl) rfl ?_)|(refine al_v (ov_pick_f' rfl (by with_reducible rfl) rfl) rfl ?_))|(refine al_v (ov_assign rfl) rfl ?_)|(refine al_nil ?_))|(first|(refine thn_n ?_)|(refine k_awp ?_;first|(refine awp_seq (awp_region ?_))|(refine awp_seq ?_)|(refine awp_region ?_)|(refine awp_ret ?_))))
  all_goals
    refine ret1 (by first | exact .inr rfl | exact .inl rfl) rfl rfl ?_
    refine ⟨congrArg AV.bool ?_, rfl⟩
    (try unfold pVis at *); rw [Bool.eq_iff_iff]; simp only [pToken, pVis, pLarge, pDigit, Bool.or_eq_true, Bool.and_eq_true, decide_eq_true_eq, Bool.or_eq_false_iff, Bool.and_eq_false_iff, decide_eq_false_iff_not, false_iff, iff_true, true_iff, iff_false, Bool.false_eq_true] at *; try omega
    try (show (0 ≤ Lib.indexByte signs b ↔ _); omega)
end
end Go.Proofs.YtffcgpkbibijpaaGreatDoor.L

namespace Go.Proofs.YtffcgpkbibijpaaGreatDoor.L
open Go Go.RowKit Go.Proofs
set_option linter.unusedVariables false
set_option linter.unusedSimpArgs false
set_option maxRecDepth 100000
attribute [local irreducible] AL QL AWp Thn InB RetQ ACalls LoopQ HL HO HW HQ NoG

def decOk : List UInt8 → Bool
  | [] => true
  | b :: r => if b = 37 then (match r with
    | x :: y :: r' => decide (0 ≤ hexI x) && (decide (0 ≤ hexI y) && decOk r')
    | _ => false) else decOk r
abbrev bAt (s : List UInt8) (m : Int) : UInt8 := s.getD m.toNat 0
theorem byteAt_eq (s : List UInt8) (m : Int) : byteAt s m = ((bAt s m).toNat : Int) := rfl
theorem drop_bAt {s : List UInt8} {i : Nat} (h : i < s.length) : s.drop i = bAt s (i : Int) :: s.drop (i + 1) := by
  rw [List.drop_eq_getElem_cons h]
  simp [bAt, List.getD_eq_getElem?_getD, h]
theorem decOk_cons (b : UInt8) (r : List UInt8) : decOk (b :: r) = if b = 37 then (match r with
    | x :: y :: r' => decide (0 ≤ hexI x) && (decide (0 ≤ hexI y) && decOk r')
    | _ => false) else decOk r := by
  cases r with
  | nil => rfl
  | cons x t => cases t with
    | nil => rfl
    | cons y r' => rfl
theorem dec_end {s : List UInt8} {i : Nat} (h : s.length ≤ i) : decOk (s.drop i) = true := by
  rw [List.drop_eq_nil_of_le h]; rfl
theorem u8_of_int {b : UInt8} (n : Nat) (hn : n < 256) (h : (b.toNat : Int) = n) : b = UInt8.ofNat n := by
  apply UInt8.toNat.inj
  simp
  omega
theorem dec_other {s : List UInt8} {i : Nat} (h : i < s.length) (hb : ¬ byteAt s (i : Int) = 37) : decOk (s.drop i) = decOk (s.drop (i + 1)) := by
  rw [drop_bAt h, decOk_cons, if_neg]
  intro e
  rw [byteAt_eq, e] at hb
  exact hb rfl
theorem dec_short {s : List UInt8} {i : Nat} (h : i < s.length) (hb : byteAt s (i : Int) = 37) (h2 : s.length ≤ i + 2) : decOk (s.drop i) = false := by
  have hb' : bAt s (i : Int) = 37 := u8_of_int 37 (by decide) hb
  rw [drop_bAt h, decOk_cons, if_pos hb']
  match hd : s.drop (i + 1) with
  | [] => rfl
  | [x] => rfl
  | x :: y :: r =>
    have := congrArg List.length hd
    simp at this
    omega
theorem dec_long {s : List UInt8} {i : Nat} (hb : byteAt s (i : Int) = 37) (h2 : i + 2 < s.length) : decOk (s.drop i) = (decide (0 ≤ hexI (bAt s ((i : Int) + 1))) && (decide (0 ≤ hexI (bAt s ((i : Int) + 2))) && decOk (s.drop (i + 3)))) := by
  have hb' : bAt s (i : Int) = 37 := u8_of_int 37 (by decide) hb
  have e1 : bAt s ((i : Int) + 1) = bAt s ((i + 1 : Nat) : Int) := rfl
  have e2 : bAt s ((i : Int) + 2) = bAt s ((i + 2 : Nat) : Int) := rfl
  rw [drop_bAt (show i < s.length by omega), decOk_cons, if_pos hb', drop_bAt (show i + 1 < s.length by omega), drop_bAt (show i + 1 + 1 < s.length by omega), e1, e2]

/-- The byte of two hexadecimal digits. -/
def decB (x y : UInt8) : UInt8 := UInt8.ofNat (16 * (hexI x).toNat + (hexI y).toNat)
/-- A text without its percent signs. -/
def decT (plus : Bool) : List UInt8 → List UInt8
  | [] => []
  | b :: r => if b = 37 then (match r with
    | x :: y :: r' => decB x y :: decT plus r'
    | _ => []) else (if plus && decide (b = 43) then 32 else b) :: decT plus r
theorem decT_cons (plus : Bool) (b : UInt8) (r : List UInt8) : decT plus (b :: r) = if b = 37 then (match r with
    | x :: y :: r' => decB x y :: decT plus r'
    | _ => []) else (if plus && decide (b = 43) then 32 else b) :: decT plus r := by
  rcases r with _ | ⟨x, _ | ⟨y, r'⟩⟩ <;> rfl
theorem decT_end {plus : Bool} {s : List UInt8} {i : Nat} (h : s.length ≤ i) : decT plus (s.drop i) = [] := by
  rw [List.drop_eq_nil_of_le h]; rfl
theorem decT_other {plus : Bool} {s : List UInt8} {i : Nat} (h : i < s.length) (hb : ¬ byteAt s (i : Int) = 37) : decT plus (s.drop i) = (if plus && decide (bAt s (i : Int) = 43) then 32 else bAt s (i : Int)) :: decT plus (s.drop (i + 1)) := by
  rw [drop_bAt h, decT_cons, if_neg]
  intro e
  rw [byteAt_eq, e] at hb
  exact hb rfl
theorem decT_long {plus : Bool} {s : List UInt8} {i : Nat} (hb : byteAt s (i : Int) = 37) (h2 : i + 2 < s.length) : decT plus (s.drop i) = decB (bAt s ((i : Int) + 1)) (bAt s ((i : Int) + 2)) :: decT plus (s.drop (i + 3)) := by
  have hb' : bAt s (i : Int) = 37 := u8_of_int 37 (by decide) (by rw [← byteAt_eq]; exact hb)
  have e1 : bAt s ((i : Int) + 1) = bAt s ((i + 1 : Nat) : Int) := rfl
  have e2 : bAt s ((i : Int) + 2) = bAt s ((i + 1 + 1 : Nat) : Int) := rfl
  rw [drop_bAt (show i < s.length by omega), decT_cons, if_pos hb', drop_bAt (show i + 1 < s.length by omega), drop_bAt (show i + 1 + 1 < s.length by omega), e1, e2]
theorem or_hex : ∀ a b : Fin 16, IntKind.u8.wrap (bits .or .i64 (IntKind.i64.wrap ((a.1 : Int) * 2 ^ (min (4 : Int).toNat IntKind.i64.bits))) (b.1 : Int)) = ((16 * a.1 + b.1 : Nat) : Int) := by decide +kernel
theorem hex_nat {x : UInt8} (h : 0 ≤ hexI x) : ∃ a : Fin 16, hexI x = (a.1 : Int) := ⟨⟨(hexI x).toNat, by have := hexI_hi x; omega⟩, by show hexI x = ((hexI x).toNat : Int); omega⟩
theorem decB_nat {x y : UInt8} {a b : Fin 16} (hx : hexI x = (a.1 : Int)) (hy : hexI y = (b.1 : Int)) : (decB x y).toNat = 16 * a.1 + b.1 := by
  unfold decB
  rw [hx, hy]
  have := a.2
  have := b.2
  simp
  omega
theorem hex_join {x y c : UInt8} (hx : 0 ≤ hexI x) (hy : 0 ≤ hexI y) (hc : (c.toNat : Int) = IntKind.u8.wrap (bits .or .i64 (IntKind.i64.wrap (hexI x * 2 ^ (min (4 : Int).toNat IntKind.i64.bits))) (hexI y))) : c = decB x y := by
  obtain ⟨a, ha⟩ := hex_nat hx
  obtain ⟨b, hb⟩ := hex_nat hy
  apply UInt8.toNat_inj.1
  rw [decB_nat ha hb]
  rw [ha, hb, or_hex] at hc
  omega
theorem hex_join2 {x y c : UInt8} (hx : 0 ≤ hexI x) (hy : 0 ≤ hexI y) (hc : (c.toNat : Int) = IntKind.u8.wrap (16 * hexI x + hexI y)) : c = decB x y := by
  obtain ⟨a, ha⟩ := hex_nat hx
  obtain ⟨b, hb⟩ := hex_nat hy
  apply UInt8.toNat_inj.1
  rw [decB_nat ha hb]
  rw [ha, hb, w8 (by omega) (by have := a.2; have := b.2; omega)] at hc
  omega
theorem plus_byte {plus : Bool} {b c : UInt8} (h : plus = true) (hb : (b.toNat : Int) = 43) (hc : (c.toNat : Int) = 32) : c = (if plus && decide (b = 43) then 32 else b) := by
  have e1 : b = 43 := u8_of_int 43 (by decide) hb
  have e2 : c = 32 := u8_of_int 32 (by decide) hc
  rw [h, e1, e2]; rfl
theorem same_byte {plus : Bool} {b c : UInt8} (h : plus = false ∨ (b.toNat : Int) ≠ 43) (hc : (c.toNat : Int) = (b.toNat : Int)) : c = (if plus && decide (b = 43) then 32 else b) := by
  have e : c = b := UInt8.toNat_inj.1 (by omega)
  rw [e]
  rcases h with h | h
  · rw [h]; rfl
  · rw [if_neg]
    rw [Bool.and_eq_true, decide_eq_true_eq]
    rintro ⟨_, k⟩
    rw [k] at h
    exact h rfl
section
variable {w0 : World} {base : Nat}
def DecR (s : List UInt8) (plus : Bool) (rv : AV) : Prop := ∃ l e k, rv = .tup [.str l, .int .i64 e, .int .i64 k] ∧ (e = 0 ↔ decOk s = true) ∧ (e = 0 ∨ e = 60) ∧ 0 ≤ k ∧ k ≤ s.length ∧ (e = 0 → l = decT plus s)
theorem u8_wrap (x : Int) : ∃ c : UInt8, IntKind.u8.wrap x = (c.toNat : Int) := by
  refine ⟨UInt8.ofNat (x % 256).toNat, ?_⟩
  rw [IntKind.wrap_u8]
  simp
  omega
theorem a_writeInt {p : AV} (hp : p = .nilp ∨ p = .op 0 0) {bs : List UInt8} {x y : Int} {ver : Nat} (hy : y = IntKind.u8.wrap x) (hb : bs.length + 1 ≤ 140737488355328) : ACalls (EE w0 base) 116 [.op 0 0, .int .u8 y] [bldBox p ver, .row 5 1 ver 0 (bytesAV bs)]
    fun rv os => ∃ c : UInt8, (c.toNat : Int) = y ∧ rv = .nilif ∧ os = [bldBox (.op 0 0) (ver + 1), .row 5 1 (ver + 1) 0 (bytesAV (bs ++ [c]))] := by
  obtain ⟨c, hc⟩ := u8_wrap x
  rw [hy, hc]
  exact acalls_mono (a_writeByte hp hb) fun rv os h => ⟨c, rfl, h⟩
theorem wrap_byte (s : List UInt8) (m : Int) : byteAt s m = IntKind.u8.wrap (byteAt s m) := by
  have := (bAt s m).toNat_lt
  rw [byteAt_eq, w8 (by omega) (by omega)]
set_option maxHeartbeats 2000000 in
theorem s_decode {s : List UInt8} {plus : Bool} (hs : s.length ≤ 65536) : PCalls (EE w0 base) 82 [.str s, .bool plus] fun rv => DecR s plus rv := by
  refine acalls_of Tryz.func82 rfl rfl rfl (.cons (.cons .nil)) ?_
  repeat' (first|((refine al_alloc_t rfl rfl rfl (by first|exact ln0) (by repeat constructor) rfl ?_))|(refine k_al ?_;first|(refine al_v (ov_move rfl) rfl ?_)|(refine k_g ?_;first|(refine al_gy' rfl rfl (by with_reducible rfl) ?_)|(refine al_gnt rfl rfl (by with_reducible rfl) rfl ?_)|(refine al_gnf rfl rfl (by with_reducible rfl) rfl ?_)|(refine al_gsp rfl rfl (fun hc => ?_) (fun hc => ?_) <;> (try (exfalso;omega)))|(refine al_gsb rfl rfl (fun hc => ?_) (fun hc => ?_) <;> (try (exact absurd hc (by decide)))))|(refine k_bin ?_;first|(refine al_v (ov_cmp rfl rfl rfl) rfl ?_)|(refine al_v (ov_add rfl rfl (by (first|exact w64 (by omega) (by omega)|rfl))) rfl ?_))|(refine k_pick ?_;first|(refine al_v (ov_pick_t' rfl (by with_reducible rfl) rfl) rfl ?_)|(refine al_v (ov_pick_f' rfl (by with_reducible rfl) rfl) rfl ?_))|(refine al_v (ov_assign rfl) rfl ?_)|(refine k_call ?_;first|(refine al_v (ov_len_str rfl) rfl ?_))|(refine al_nil ?_)|(refine al_v (ov_index rfl rfl (by omega) (by omega)) rfl ?_))|(first|(refine thn_n ?_)|(refine k_awp ?_;first|(refine awp_seq (awp_region ?_))|(refine awp_seq ?_)|(refine awp_region ?_)|(refine k_cond ?_;first|(refine awp_cond_t' rfl (by with_reducible rfl) ?_)|(refine awp_cond_f' rfl (by with_reducible rfl) ?_)|(refine awp_cond_p rfl (fun hc => ?_) (fun hc => ?_) <;> (try (exfalso;omega))))|(refine awp_block ?_)|(refine awp_ret ?_)|(refine awp_skip ?_)|(refine awp_exit ?_))|(refine thn_ret ?_)|(refine lq_exit ?_)|(refine lq_ret ?_)|(refine thn_exit ?_)|(refine inb_n ?_)|(refine inb_ret ?_)|(refine inb_here ?_)))
  refine awp_wkn (.adoptBox (id := 0) (k := 1) (e := 5) (sz := 1) rfl rfl (by decide) rfl rfl rfl) ?_
  refine awp_loopq (fun p : Nat × Nat × List UInt8 × AV => ⟨[(0, .str s), (1, .bool plus), (7, .op 0 0), (8, .int .i64 p.1)], [bldBox p.2.2.2 p.2.1, .row 5 1 p.2.1 0 (bytesAV p.2.2.1)]⟩)
    (fun p => p.1 ≤ s.length ∧ p.2.2.1.length ≤ p.1 ∧ (p.2.2.2 = .nilp ∨ p.2.2.2 = .op 0 0) ∧ decOk s = decOk (s.drop p.1) ∧ decT plus s = p.2.2.1 ++ decT plus (s.drop p.1)) (fun p => s.length - p.1) (0, 0, [], .nilp) (.of (.same (by repeat constructor))) ⟨Nat.zero_le _, Nat.le_refl _, .inl rfl, rfl, rfl⟩ ?_
  rintro ⟨i, ver, l, p⟩ ⟨hi, hl, hp, hd, hT⟩
  dsimp only at hi hl hp hd hT ⊢
  have hq := hp
  rcases hp with rfl | rfl
  all_goals
    repeat' (first|(first|(refine k_call ?_;refine al_call rfl rfl rfl rfl s_hexI ?_;rintro _ rfl))|(refine k_al ?_;first|(refine al_v (ov_move rfl) rfl ?_)|(refine k_g ?_;first|(refine al_gy' rfl rfl (by with_reducible rfl) ?_)|(refine al_gnt rfl rfl (by with_reducible rfl) rfl ?_)|(refine al_gnf rfl rfl (by with_reducible rfl) rfl ?_)|(refine al_gsp rfl rfl (fun hc => ?_) (fun hc => ?_) <;> (try (exfalso;omega)))|(refine al_gsb rfl rfl (fun hc => ?_) (fun hc => ?_) <;> (try (exact absurd hc (by decide)))))|(refine k_bin ?_;first|(refine al_v (ov_cmp rfl rfl rfl) rfl ?_)|(refine al_v (ov_add rfl rfl (by (first|exact w64 (by omega) (by omega)|rfl))) rfl ?_))|(refine k_pick ?_;first|(refine al_v (ov_pick_t' rfl (by with_reducible rfl) rfl) rfl ?_)|(refine al_v (ov_pick_f' rfl (by with_reducible rfl) rfl) rfl ?_))|(refine al_v (ov_assign rfl) rfl ?_)|(refine k_call ?_;first|(refine al_v (ov_len_str rfl) rfl ?_))|(refine al_nil ?_)|(refine al_v (ov_index rfl rfl (by omega) (by omega)) rfl ?_))|(first|(refine thn_n ?_)|(refine k_awp ?_;first|(refine awp_seq (awp_region ?_))|(refine awp_seq ?_)|(refine awp_region ?_)|(refine k_cond ?_;first|(refine awp_cond_t' rfl (by with_reducible rfl) ?_)|(refine awp_cond_f' rfl (by with_reducible rfl) ?_)|(refine awp_cond_p rfl (fun hc => ?_) (fun hc => ?_) <;> (try (exfalso;omega))))|(refine awp_block ?_)|(refine awp_ret ?_)|(refine awp_skip ?_)|(refine awp_exit ?_))|(refine thn_ret ?_)|(refine lq_exit ?_)|(refine lq_ret ?_)|(refine thn_exit ?_)|(refine inb_n ?_)|(refine inb_ret ?_)|(refine inb_here ?_)))
    · refine ret3 (by first | exact .inr rfl | exact .inl rfl) rfl rfl rfl rfl ?_
      refine ⟨⟨_, _, _, rfl, ⟨fun h => absurd h (by decide), fun h => ?_⟩, .inr rfl, by omega, by omega, fun h => absurd h (by decide)⟩, rfl⟩
      rw [hd, dec_short (by omega) ‹_› (by omega)] at h
      cases h
    · have hx := dec_long (s := s) (i := i) ‹_› (by omega); dsimp only [bAt] at hx
      refine ret3 (by first | exact .inr rfl | exact .inl rfl) rfl rfl rfl rfl ?_
      refine ⟨⟨_, _, _, rfl, ⟨fun h => absurd h (by decide), fun h => ?_⟩, .inr rfl, by omega, by omega, fun h => absurd h (by decide)⟩, rfl⟩
      rw [hd, hx, decide_eq_false (by omega)] at h
      cases h
    · have hx := dec_long (s := s) (i := i) ‹_› (by omega); dsimp only [bAt] at hx
      refine ret3 (by first | exact .inr rfl | exact .inl rfl) rfl rfl rfl rfl ?_
      refine ⟨⟨_, _, _, rfl, ⟨fun h => absurd h (by decide), fun h => ?_⟩, .inr rfl, by omega, by omega, fun h => absurd h (by decide)⟩, rfl⟩
      rw [hd, hx, decide_eq_true (by omega), decide_eq_false (by omega)] at h
      cases h
    · have hx := dec_long (s := s) (i := i) ‹_› (by omega); dsimp only [bAt] at hx
      rw [decide_eq_true (by omega), decide_eq_true (by omega)] at hx
      repeat' (first|(first|(refine awp_held (id := 9) [(13, [0, 1])] [⟨0, true, [], bl 14 966⟩, ⟨1, true, [], bl 14 961⟩, ⟨2, true, [], bl 14 963⟩, ⟨3, true, [], bl 14 967⟩, ⟨6, true, [], bl 14 447⟩, ⟨7, true, [], bl 14 127⟩, ⟨8, true, [], bl 14 255⟩, ⟨9, true, [], bl 14 511⟩, ⟨4, false, [], []⟩, ⟨5, true, [], bl 14 2015⟩, ⟨10, false, [], []⟩, ⟨11, true, [], bl 14 2047⟩, ⟨12, true, [], bl 14 4095⟩, ⟨13, false, [], []⟩] (by kernel_rfl) (by kernel_rfl) rfl (by kernel_rfl) ?_)|(refine k_call ?_;refine al_call rfl rfl rfl rfl s_hexI ?_;rintro _ rfl)|(refine k_call ?_;refine al_acall [0, 1] rfl rfl (a_writeInt (bs := l) (ver := ver) hq rfl (by omega)) (by repeat constructor) (by repeat constructor) rfl rfl ?_;rintro _ _ ⟨c, hc1, rfl, rfl⟩;refine ⟨_, _, by repeat constructor, by repeat constructor, ?_⟩)|(refine hw_v (ov_shl rfl rfl (by decide) rfl) rfl ?_)|(refine hw_v (ov_bits rfl rfl (.inr (.inl rfl)) rfl) rfl ?_)|(refine hw_v (ov_conv_int rfl rfl) rfl ?_))|(refine k_al ?_;first|(refine al_v (ov_move rfl) rfl ?_)|(refine k_g ?_;first|(refine al_gy' rfl rfl (by with_reducible rfl) ?_)|(refine al_gnt rfl rfl (by with_reducible rfl) rfl ?_)|(refine al_gnf rfl rfl (by with_reducible rfl) rfl ?_)|(refine al_gsp rfl rfl (fun hc => ?_) (fun hc => ?_) <;> (try (exfalso;omega)))|(refine al_gsb rfl rfl (fun hc => ?_) (fun hc => ?_) <;> (try (exact absurd hc (by decide)))))|(refine k_bin ?_;first|(refine al_v (ov_cmp rfl rfl rfl) rfl ?_)|(refine al_v (ov_add rfl rfl (by (first|exact w64 (by omega) (by omega)|rfl))) rfl ?_))|(refine k_pick ?_;first|(refine al_v (ov_pick_t' rfl (by with_reducible rfl) rfl) rfl ?_)|(refine al_v (ov_pick_f' rfl (by with_reducible rfl) rfl) rfl ?_))|(refine al_v (ov_assign rfl) rfl ?_)|(refine k_call ?_;first|(refine al_v (ov_len_str rfl) rfl ?_))|(refine al_nil ?_)|(refine al_v (ov_index rfl rfl (by omega) (by omega)) rfl ?_))|(first|(refine thn_n ?_)|(refine k_awp ?_;first|(refine awp_seq (awp_region ?_))|(refine awp_seq ?_)|(refine awp_region ?_)|(refine k_cond ?_;first|(refine awp_cond_t' rfl (by with_reducible rfl) ?_)|(refine awp_cond_f' rfl (by with_reducible rfl) ?_)|(refine awp_cond_p rfl (fun hc => ?_) (fun hc => ?_) <;> (try (exfalso;omega))))|(refine awp_block ?_)|(refine awp_ret ?_)|(refine awp_skip ?_)|(refine awp_exit ?_))|(refine thn_ret ?_)|(refine lq_exit ?_)|(refine lq_ret ?_)|(refine thn_exit ?_)|(refine inb_n ?_)|(refine inb_ret ?_)|(refine inb_here ?_))|(first|(refine k_hw ?_;first|(refine hw_s rfl ?_)|(refine hw_v (ov_move rfl) rfl ?_)|(refine hw_v (ov_assign rfl) rfl ?_)|(refine hw_v (ov_cmp rfl rfl rfl) rfl ?_)|(refine hw_v (ov_pick_t' rfl (by with_reducible rfl) rfl) rfl ?_)|(refine hw_v (ov_pick_f' rfl (by with_reducible rfl) rfl) rfl ?_)|(refine hw_v (ov_len_str rfl) rfl ?_)|(refine hw_v (ov_index rfl rfl (by omega) (by omega)) rfl ?_)|(refine hw_v (ov_add rfl rfl (by (first|exact w64 (by omega) (by omega)|rfl))) rfl ?_))|(refine hl_op rfl ?_)|(refine k_ho ?_;first|(refine ho_n ?_))|(refine hl_nil ?_)|(refine hq_back ?_)))
      first | refine lq_back (i + 3, ver + 1, l ++ [c], .op 0 0) (.of (.same (by repeat constructor))) ?_ ?_ | fail
      · refine ⟨by omega, by simp; omega, .inr rfl, hd.trans hx, ?_⟩
        dsimp only
        rw [hT, decT_long ‹_› (by omega), hex_join (c := c) (by omega) (by omega) hc1]
        simp
      · dsimp only; omega
    · repeat' (first|((refine k_call ?_;refine al_acall [0, 1] rfl rfl (a_writeInt (bs := l) (ver := ver) (x := 32) (y := 32) hq (by decide) (by omega)) (by repeat constructor) (by repeat constructor) rfl rfl ?_;rintro _ _ ⟨c, hc1, rfl, rfl⟩;refine ⟨_, _, by repeat constructor, by repeat constructor, ?_⟩))|(refine k_al ?_;first|(refine al_v (ov_move rfl) rfl ?_)|(refine k_g ?_;first|(refine al_gy' rfl rfl (by with_reducible rfl) ?_)|(refine al_gnt rfl rfl (by with_reducible rfl) rfl ?_)|(refine al_gnf rfl rfl (by with_reducible rfl) rfl ?_)|(refine al_gsp rfl rfl (fun hc => ?_) (fun hc => ?_) <;> (try (exfalso;omega)))|(refine al_gsb rfl rfl (fun hc => ?_) (fun hc => ?_) <;> (try (exact absurd hc (by decide)))))|(refine k_bin ?_;first|(refine al_v (ov_cmp rfl rfl rfl) rfl ?_)|(refine al_v (ov_add rfl rfl (by (first|exact w64 (by omega) (by omega)|rfl))) rfl ?_))|(refine k_pick ?_;first|(refine al_v (ov_pick_t' rfl (by with_reducible rfl) rfl) rfl ?_)|(refine al_v (ov_pick_f' rfl (by with_reducible rfl) rfl) rfl ?_))|(refine al_v (ov_assign rfl) rfl ?_)|(refine k_call ?_;first|(refine al_v (ov_len_str rfl) rfl ?_))|(refine al_nil ?_)|(refine al_v (ov_index rfl rfl (by omega) (by omega)) rfl ?_))|(first|(refine thn_n ?_)|(refine k_awp ?_;first|(refine awp_seq (awp_region ?_))|(refine awp_seq ?_)|(refine awp_region ?_)|(refine k_cond ?_;first|(refine awp_cond_t' rfl (by with_reducible rfl) ?_)|(refine awp_cond_f' rfl (by with_reducible rfl) ?_)|(refine awp_cond_p rfl (fun hc => ?_) (fun hc => ?_) <;> (try (exfalso;omega))))|(refine awp_block ?_)|(refine awp_ret ?_)|(refine awp_skip ?_)|(refine awp_exit ?_))|(refine thn_ret ?_)|(refine lq_exit ?_)|(refine lq_ret ?_)|(refine thn_exit ?_)|(refine inb_n ?_)|(refine inb_ret ?_)|(refine inb_here ?_)))
      first | refine lq_back (i + 1, ver + 1, l ++ [c], .op 0 0) (.of (.same (by repeat constructor))) ?_ ?_ | fail
      · refine ⟨by omega, by simp; omega, .inr rfl, hd.trans (dec_other (by omega) ‹_›), ?_⟩
        dsimp only
        rw [hT, decT_other (by omega) ‹_›, plus_byte (plus := plus) (b := bAt s (i : Int)) (c := c) ‹_› (by rw [← byteAt_eq]; assumption) hc1]
        simp
      · dsimp only; omega
    iterate 2
      · repeat' (first|((refine k_call ?_;refine al_acall [0, 1] rfl rfl (a_writeInt (bs := l) (ver := ver) (x := byteAt s i) hq (wrap_byte s i) (by omega)) (by repeat constructor) (by repeat constructor) rfl rfl ?_;rintro _ _ ⟨c, hc1, rfl, rfl⟩;refine ⟨_, _, by repeat constructor, by repeat constructor, ?_⟩))|(refine k_al ?_;first|(refine al_v (ov_move rfl) rfl ?_)|(refine k_g ?_;first|(refine al_gy' rfl rfl (by with_reducible rfl) ?_)|(refine al_gnt rfl rfl (by with_reducible rfl) rfl ?_)|(refine al_gnf rfl rfl (by with_reducible rfl) rfl ?_)|(refine al_gsp rfl rfl (fun hc => ?_) (fun hc => ?_) <;> (try (exfalso;omega)))|(refine al_gsb rfl rfl (fun hc => ?_) (fun hc => ?_) <;> (try (exact absurd hc (by decide)))))|(refine k_bin ?_;first|(refine al_v (ov_cmp rfl rfl rfl) rfl ?_)|(refine al_v (ov_add rfl rfl (by (first|exact w64 (by omega) (by omega)|rfl))) rfl ?_))|(refine k_pick ?_;first|(refine al_v (ov_pick_t' rfl (by with_reducible rfl) rfl) rfl ?_)|(refine al_v (ov_pick_f' rfl (by with_reducible rfl) rfl) rfl ?_))|(refine al_v (ov_assign rfl) rfl ?_)|(refine k_call ?_;first|(refine al_v (ov_len_str rfl) rfl ?_))|(refine al_nil ?_)|(refine al_v (ov_index rfl rfl (by omega) (by omega)) rfl ?_))|(first|(refine thn_n ?_)|(refine k_awp ?_;first|(refine awp_seq (awp_region ?_))|(refine awp_seq ?_)|(refine awp_region ?_)|(refine k_cond ?_;first|(refine awp_cond_t' rfl (by with_reducible rfl) ?_)|(refine awp_cond_f' rfl (by with_reducible rfl) ?_)|(refine awp_cond_p rfl (fun hc => ?_) (fun hc => ?_) <;> (try (exfalso;omega))))|(refine awp_block ?_)|(refine awp_ret ?_)|(refine awp_skip ?_)|(refine awp_exit ?_))|(refine thn_ret ?_)|(refine lq_exit ?_)|(refine lq_ret ?_)|(refine thn_exit ?_)|(refine inb_n ?_)|(refine inb_ret ?_)|(refine inb_here ?_)))
        first | refine lq_back (i + 1, ver + 1, l ++ [c], .op 0 0) (.of (.same (by repeat constructor))) ?_ ?_ | fail
        · refine ⟨by omega, by simp; omega, .inr rfl, hd.trans (dec_other (by omega) ‹_›), ?_⟩
          dsimp only
          rw [hT, decT_other (by omega) ‹_›, same_byte (plus := plus) (b := bAt s (i : Int)) (c := c) (by first | exact .inl ‹_› | exact .inr (by rw [← byteAt_eq]; assumption)) (by rw [hc1, byteAt_eq])]
          simp
        · dsimp only; omega
    · repeat' (first|((refine k_call ?_;refine al_acall [0, 1] rfl rfl (a_string hq (l := l) (ver := ver) (.inl rfl) (by omega)) (by repeat constructor) (by repeat constructor) rfl rfl ?_;rintro _ _ ⟨rfl, o', rfl, rfl|⟨wr, rfl⟩⟩ <;> refine ⟨_, _, by repeat constructor, by repeat constructor, ?_⟩))|(refine k_al ?_;first|(refine al_v (ov_move rfl) rfl ?_)|(refine k_g ?_;first|(refine al_gy' rfl rfl (by with_reducible rfl) ?_)|(refine al_gnt rfl rfl (by with_reducible rfl) rfl ?_)|(refine al_gnf rfl rfl (by with_reducible rfl) rfl ?_)|(refine al_gsp rfl rfl (fun hc => ?_) (fun hc => ?_) <;> (try (exfalso;omega)))|(refine al_gsb rfl rfl (fun hc => ?_) (fun hc => ?_) <;> (try (exact absurd hc (by decide)))))|(refine k_bin ?_;first|(refine al_v (ov_cmp rfl rfl rfl) rfl ?_)|(refine al_v (ov_add rfl rfl (by (first|exact w64 (by omega) (by omega)|rfl))) rfl ?_))|(refine k_pick ?_;first|(refine al_v (ov_pick_t' rfl (by with_reducible rfl) rfl) rfl ?_)|(refine al_v (ov_pick_f' rfl (by with_reducible rfl) rfl) rfl ?_))|(refine al_v (ov_assign rfl) rfl ?_)|(refine k_call ?_;first|(refine al_v (ov_len_str rfl) rfl ?_))|(refine al_nil ?_)|(refine al_v (ov_index rfl rfl (by omega) (by omega)) rfl ?_))|(first|(refine thn_n ?_)|(refine k_awp ?_;first|(refine awp_seq (awp_region ?_))|(refine awp_seq ?_)|(refine awp_region ?_)|(refine k_cond ?_;first|(refine awp_cond_t' rfl (by with_reducible rfl) ?_)|(refine awp_cond_f' rfl (by with_reducible rfl) ?_)|(refine awp_cond_p rfl (fun hc => ?_) (fun hc => ?_) <;> (try (exfalso;omega))))|(refine awp_block ?_)|(refine awp_ret ?_)|(refine awp_skip ?_)|(refine awp_exit ?_))|(refine thn_ret ?_)|(refine lq_exit ?_)|(refine lq_ret ?_)|(refine thn_exit ?_)|(refine inb_n ?_)|(refine inb_ret ?_)|(refine inb_here ?_)))
      all_goals
       refine ret3 (by first | exact .inr rfl | exact .inl rfl) rfl rfl rfl rfl ?_
       refine ⟨⟨_, _, _, rfl, ⟨fun _ => ?_, fun h => rfl⟩, .inl rfl, by omega, by omega, fun _ => ?_⟩, rfl⟩
       · rw [hd, dec_end (by omega)]
       · rw [hT, decT_end (by omega), List.append_nil]
end
end Go.Proofs.YtffcgpkbibijpaaGreatDoor.L

namespace Go.Proofs.YtffcgpkbibijpaaGreatDoor.L
open Go Go.RowKit Go.Proofs
set_option linter.unusedVariables false
set_option linter.unusedSimpArgs false
set_option maxRecDepth 100000
attribute [local irreducible] AL QL AWp Thn InB RetQ ACalls LoopQ HL HO HW HQ NoG

section
variable {w0 : World} {base : Nat}
theorem bytes_snoc {l : List UInt8} {x y : Int} (hy : y = IntKind.u8.wrap x) : ∃ c : UInt8, (c.toNat : Int) = y ∧ bytesAV l ++ [[.int .u8 y]] = bytesAV (l ++ [c]) := by
  obtain ⟨c, hc⟩ := u8_wrap x
  refine ⟨c, by rw [hy, hc], ?_⟩
  rw [hy, hc]
  simp [bytesAV]
set_option maxHeartbeats 2000000 in
theorem s_decodeR {s : List UInt8} {plus : Bool} (hs : s.length ≤ 65536) : PCalls (EE w0 base) 91 [.str s, .bool plus] fun rv => DecR s plus rv := by
  refine acalls_of Tryz.func91 rfl rfl rfl (.cons (.cons .nil)) ?_
  repeat' (first|(refine k_al ?_;first|(refine al_v (ov_move rfl) rfl ?_)|(refine k_g ?_;first|(refine al_gy' rfl rfl (by with_reducible rfl) ?_)|(refine al_gnt rfl rfl (by with_reducible rfl) rfl ?_)|(refine al_gnf rfl rfl (by with_reducible rfl) rfl ?_)|(refine al_gsp rfl rfl (fun hc => ?_) (fun hc => ?_) <;> (try (exfalso;omega)))|(refine al_gsb rfl rfl (fun hc => ?_) (fun hc => ?_) <;> (try (exact absurd hc (by decide)))))|(refine k_bin ?_;first|(refine al_v (ov_cmp rfl rfl rfl) rfl ?_)|(refine al_v (ov_add rfl rfl (by (first|exact w64 (by omega) (by omega)|rfl))) rfl ?_)|(refine al_v (ov_mul rfl rfl (by (first|exact w64 (by omega) (by omega)|rfl))) rfl ?_))|(refine k_pick ?_;first|(refine al_v (ov_pick_t' rfl (by with_reducible rfl) rfl) rfl ?_)|(refine al_v (ov_pick_f' rfl (by with_reducible rfl) rfl) rfl ?_))|(refine al_v (ov_assign rfl) rfl ?_)|(refine k_call ?_;first|(refine al_v (ov_len_str rfl) rfl ?_))|(refine al_nil ?_)|(refine al_buildSlice (by rfl) (by rfl) (by rfl) (by rfl) (by decide) (by decide) (by rfl) (by rfl) (by repeat constructor) (by rfl) (by repeat constructor) (by rfl) (by first|exact ln1) (by repeat constructor) rfl ?_)|(refine al_v (ov_index rfl rfl (by omega) (by omega)) rfl ?_))|(first|(refine thn_n ?_)|(refine k_awp ?_;first|(refine awp_seq (awp_region ?_))|(refine awp_seq ?_)|(refine awp_region ?_)|(refine k_cond ?_;first|(refine awp_cond_t' rfl (by with_reducible rfl) ?_)|(refine awp_cond_f' rfl (by with_reducible rfl) ?_)|(refine awp_cond_p rfl (fun hc => ?_) (fun hc => ?_) <;> (try (exfalso;omega))))|(refine awp_block ?_)|(refine awp_ret ?_)|(refine awp_skip ?_)|(refine awp_exit ?_))|(refine thn_ret ?_)|(refine lq_exit ?_)|(refine lq_ret ?_)|(refine thn_exit ?_)|(refine inb_n ?_)|(refine inb_ret ?_)|(refine inb_here ?_)))
  refine awp_adopt 7 5 1 rfl (by decide) rfl (by repeat constructor) ?_
  refine awp_loopq (fun p : Nat × Nat × List (List AV) => ⟨[(0, .str s), (1, .bool plus), (7, .os 0 p.2.1), (8, .int .i64 p.1)], [.row 5 1 p.2.1 0 p.2.2]⟩)
    (fun p => p.1 ≤ s.length ∧ (∃ l, p.2.2 = bytesAV l ∧ l.length ≤ p.1 ∧ decT plus s = l ++ decT plus (s.drop p.1)) ∧ decOk s = decOk (s.drop p.1)) (fun p => s.length - p.1) (0, 0, []) (.of (.same (by repeat constructor))) ⟨Nat.zero_le _, ⟨[], rfl, Nat.le_refl _, rfl⟩, rfl⟩ ?_
  rintro ⟨i, ver, xs⟩ ⟨hi, ⟨l, hl, hll, hT⟩, hd⟩
  dsimp only at hi hl hT hd ⊢
  subst hl
  have hbl : (bytesAV l).length = l.length := List.length_map _
  repeat' (first|(first|(refine k_call ?_;refine al_call rfl rfl rfl rfl s_hexR ?_;rintro _ rfl)|(refine k_call ?_;refine al_append rfl rfl (by repeat constructor) (src_os rfl rfl) rfl (by decide) (by simp;omega) rfl ?_))|(refine k_al ?_;first|(refine al_v (ov_move rfl) rfl ?_)|(refine k_g ?_;first|(refine al_gy' rfl rfl (by with_reducible rfl) ?_)|(refine al_gnt rfl rfl (by with_reducible rfl) rfl ?_)|(refine al_gnf rfl rfl (by with_reducible rfl) rfl ?_)|(refine al_gsp rfl rfl (fun hc => ?_) (fun hc => ?_) <;> (try (exfalso;omega)))|(refine al_gsb rfl rfl (fun hc => ?_) (fun hc => ?_) <;> (try (exact absurd hc (by decide)))))|(refine k_bin ?_;first|(refine al_v (ov_cmp rfl rfl rfl) rfl ?_)|(refine al_v (ov_add rfl rfl (by (first|exact w64 (by omega) (by omega)|rfl))) rfl ?_)|(refine al_v (ov_mul rfl rfl (by (first|exact w64 (by omega) (by omega)|rfl))) rfl ?_))|(refine k_pick ?_;first|(refine al_v (ov_pick_t' rfl (by with_reducible rfl) rfl) rfl ?_)|(refine al_v (ov_pick_f' rfl (by with_reducible rfl) rfl) rfl ?_))|(refine al_v (ov_assign rfl) rfl ?_)|(refine k_call ?_;first|(refine al_v (ov_len_str rfl) rfl ?_))|(refine al_nil ?_)|(refine al_buildSlice (by rfl) (by rfl) (by rfl) (by rfl) (by decide) (by decide) (by rfl) (by rfl) (by repeat constructor) (by rfl) (by repeat constructor) (by rfl) (by first|exact ln1) (by repeat constructor) rfl ?_)|(refine al_v (ov_index rfl rfl (by omega) (by omega)) rfl ?_))|(first|(refine thn_n ?_)|(refine k_awp ?_;first|(refine awp_seq (awp_region ?_))|(refine awp_seq ?_)|(refine awp_region ?_)|(refine k_cond ?_;first|(refine awp_cond_t' rfl (by with_reducible rfl) ?_)|(refine awp_cond_f' rfl (by with_reducible rfl) ?_)|(refine awp_cond_p rfl (fun hc => ?_) (fun hc => ?_) <;> (try (exfalso;omega))))|(refine awp_block ?_)|(refine awp_ret ?_)|(refine awp_skip ?_)|(refine awp_exit ?_))|(refine thn_ret ?_)|(refine lq_exit ?_)|(refine lq_ret ?_)|(refine thn_exit ?_)|(refine inb_n ?_)|(refine inb_ret ?_)|(refine inb_here ?_)))
  · refine ret3 (by first | exact .inr rfl | exact .inl rfl) rfl rfl rfl rfl ?_
    refine ⟨⟨_, _, _, rfl, ⟨fun h => absurd h (by decide), fun h => ?_⟩, .inr rfl, by omega, by omega, fun h => absurd h (by decide)⟩, rfl⟩
    rw [hd, dec_short (by omega) ‹_› (by omega)] at h
    cases h
  · have hx := dec_long (s := s) (i := i) ‹_› (by omega); dsimp only [bAt] at hx
    refine ret3 (by first | exact .inr rfl | exact .inl rfl) rfl rfl rfl rfl ?_
    refine ⟨⟨_, _, _, rfl, ⟨fun h => absurd h (by decide), fun h => ?_⟩, .inr rfl, by omega, by omega, fun h => absurd h (by decide)⟩, rfl⟩
    rw [hd, hx, decide_eq_false (by omega)] at h
    cases h
  · have hx := dec_long (s := s) (i := i) ‹_› (by omega); dsimp only [bAt] at hx
    refine ret3 (by first | exact .inr rfl | exact .inl rfl) rfl rfl rfl rfl ?_
    refine ⟨⟨_, _, _, rfl, ⟨fun h => absurd h (by decide), fun h => ?_⟩, .inr rfl, by omega, by omega, fun h => absurd h (by decide)⟩, rfl⟩
    rw [hd, hx, decide_eq_true (by omega), decide_eq_false (by omega)] at h
    cases h
  · have hx := dec_long (s := s) (i := i) ‹_› (by omega); dsimp only [bAt] at hx
    rw [decide_eq_true (by omega), decide_eq_true (by omega)] at hx
    have g1 := hexI_hi (s.getD ((i : Int) + 1).toNat 0)
    have g2 := hexI_hi (s.getD ((i : Int) + 2).toNat 0)
    repeat' (first|(first|(refine awp_held (id := 8) [(15, [0, 1])] [⟨0, true, [], bl 17 32766⟩, ⟨1, true, [], bl 17 1933⟩, ⟨2, true, [], bl 17 1923⟩, ⟨3, true, [], bl 17 1927⟩, ⟨4, true, [], bl 17 1935⟩, ⟨7, true, [], bl 17 895⟩, ⟨8, true, [], bl 17 255⟩, ⟨9, true, [], bl 17 511⟩, ⟨10, true, [], bl 17 1023⟩, ⟨5, false, [], []⟩, ⟨6, true, [], bl 17 4031⟩, ⟨11, false, [], []⟩, ⟨12, true, [], bl 17 4095⟩, ⟨13, true, [], bl 17 8191⟩, ⟨14, false, [], []⟩, ⟨15, false, [], []⟩, ⟨16, true, [], bl 17 65535⟩] (by kernel_rfl) (by kernel_rfl) rfl (by kernel_rfl) ?_)|(refine k_call ?_;refine al_call rfl rfl rfl rfl s_hexR ?_;rintro _ rfl)|(refine k_call ?_;refine al_append rfl rfl (by repeat constructor) (src_os rfl rfl) rfl (by decide) (by simp;omega) rfl ?_)|(refine hw_v (ov_mul rfl rfl (w64 (by omega) (by omega))) rfl ?_)|(refine hw_v (ov_conv_int rfl rfl) rfl ?_))|(refine k_al ?_;first|(refine al_v (ov_move rfl) rfl ?_)|(refine k_g ?_;first|(refine al_gy' rfl rfl (by with_reducible rfl) ?_)|(refine al_gnt rfl rfl (by with_reducible rfl) rfl ?_)|(refine al_gnf rfl rfl (by with_reducible rfl) rfl ?_)|(refine al_gsp rfl rfl (fun hc => ?_) (fun hc => ?_) <;> (try (exfalso;omega)))|(refine al_gsb rfl rfl (fun hc => ?_) (fun hc => ?_) <;> (try (exact absurd hc (by decide)))))|(refine k_bin ?_;first|(refine al_v (ov_cmp rfl rfl rfl) rfl ?_)|(refine al_v (ov_add rfl rfl (by (first|exact w64 (by omega) (by omega)|rfl))) rfl ?_)|(refine al_v (ov_mul rfl rfl (by (first|exact w64 (by omega) (by omega)|rfl))) rfl ?_))|(refine k_pick ?_;first|(refine al_v (ov_pick_t' rfl (by with_reducible rfl) rfl) rfl ?_)|(refine al_v (ov_pick_f' rfl (by with_reducible rfl) rfl) rfl ?_))|(refine al_v (ov_assign rfl) rfl ?_)|(refine k_call ?_;first|(refine al_v (ov_len_str rfl) rfl ?_))|(refine al_nil ?_)|(refine al_buildSlice (by rfl) (by rfl) (by rfl) (by rfl) (by decide) (by decide) (by rfl) (by rfl) (by repeat constructor) (by rfl) (by repeat constructor) (by rfl) (by first|exact ln1) (by repeat constructor) rfl ?_)|(refine al_v (ov_index rfl rfl (by omega) (by omega)) rfl ?_))|(first|(refine thn_n ?_)|(refine k_awp ?_;first|(refine awp_seq (awp_region ?_))|(refine awp_seq ?_)|(refine awp_region ?_)|(refine k_cond ?_;first|(refine awp_cond_t' rfl (by with_reducible rfl) ?_)|(refine awp_cond_f' rfl (by with_reducible rfl) ?_)|(refine awp_cond_p rfl (fun hc => ?_) (fun hc => ?_) <;> (try (exfalso;omega))))|(refine awp_block ?_)|(refine awp_ret ?_)|(refine awp_skip ?_)|(refine awp_exit ?_))|(refine thn_ret ?_)|(refine lq_exit ?_)|(refine lq_ret ?_)|(refine thn_exit ?_)|(refine inb_n ?_)|(refine inb_ret ?_)|(refine inb_here ?_))|(first|(refine k_hw ?_;first|(refine hw_s rfl ?_)|(refine hw_v (ov_move rfl) rfl ?_)|(refine hw_v (ov_assign rfl) rfl ?_)|(refine hw_v (ov_cmp rfl rfl rfl) rfl ?_)|(refine hw_v (ov_pick_t' rfl (by with_reducible rfl) rfl) rfl ?_)|(refine hw_v (ov_pick_f' rfl (by with_reducible rfl) rfl) rfl ?_)|(refine hw_v (ov_len_str rfl) rfl ?_)|(refine hw_v (ov_index rfl rfl (by omega) (by omega)) rfl ?_)|(refine hw_v (ov_add rfl rfl (by (first|exact w64 (by omega) (by omega)|rfl))) rfl ?_))|(refine hl_op rfl ?_)|(refine k_ho ?_;first|(refine ho_n ?_))|(refine hl_nil ?_)|(refine hq_back ?_)))
    obtain ⟨c, hc1, hc'⟩ := bytes_snoc (l := l) (x := 16 * hexI (s.getD ((i : Int) + 1).toNat 0) + hexI (s.getD ((i : Int) + 2).toNat 0)) rfl
    first|refine lq_back (i + 3, ver + 1, _) (.of (.same (by repeat constructor))) ?_ ?_|refine lq_back (i + 3, ver + 1, _) (.of (wk_drop [_] rfl (by repeat constructor) rfl (by repeat constructor) rfl)) ?_ ?_|refine lq_back (i + 3, ver + 1, _) (.of (wk_drop [_, _] rfl (by repeat constructor) rfl (by repeat constructor) rfl)) ?_ ?_|refine lq_back (i + 3, ver + 1, _) (.of (wk_drop [_, _, _] rfl (by repeat constructor) rfl (by repeat constructor) rfl)) ?_ ?_
    · refine ⟨by omega, ⟨l ++ [c], hc', by simp; omega, ?_⟩, hd.trans hx⟩
      dsimp only
      rw [hT, decT_long ‹_› (by omega), hex_join2 (c := c) (by omega) (by omega) hc1]
      simp
    · dsimp only; omega
  · obtain ⟨c, hc1, hc'⟩ := bytes_snoc (l := l) (x := 32) (y := 32) (by decide)
    first|refine lq_back (i + 1, ver + 1, _) (.of (.same (by repeat constructor))) ?_ ?_|refine lq_back (i + 1, ver + 1, _) (.of (wk_drop [_] rfl (by repeat constructor) rfl (by repeat constructor) rfl)) ?_ ?_|refine lq_back (i + 1, ver + 1, _) (.of (wk_drop [_, _] rfl (by repeat constructor) rfl (by repeat constructor) rfl)) ?_ ?_|refine lq_back (i + 1, ver + 1, _) (.of (wk_drop [_, _, _] rfl (by repeat constructor) rfl (by repeat constructor) rfl)) ?_ ?_
    · refine ⟨by omega, ⟨l ++ [c], hc', by simp; omega, ?_⟩, hd.trans (dec_other (by omega) ‹_›)⟩
      dsimp only
      rw [hT, decT_other (by omega) ‹_›, plus_byte (plus := plus) (b := bAt s (i : Int)) (c := c) ‹_› (by rw [← byteAt_eq]; assumption) hc1]
      simp
    · dsimp only; omega
  iterate 2
    · obtain ⟨c, hc1, hc'⟩ := bytes_snoc (l := l) (wrap_byte s i)
      first|refine lq_back (i + 1, ver + 1, _) (.of (.same (by repeat constructor))) ?_ ?_|refine lq_back (i + 1, ver + 1, _) (.of (wk_drop [_] rfl (by repeat constructor) rfl (by repeat constructor) rfl)) ?_ ?_|refine lq_back (i + 1, ver + 1, _) (.of (wk_drop [_, _] rfl (by repeat constructor) rfl (by repeat constructor) rfl)) ?_ ?_|refine lq_back (i + 1, ver + 1, _) (.of (wk_drop [_, _, _] rfl (by repeat constructor) rfl (by repeat constructor) rfl)) ?_ ?_
      · refine ⟨by omega, ⟨l ++ [c], hc', by simp; omega, ?_⟩, hd.trans (dec_other (by omega) ‹_›)⟩
        dsimp only
        rw [hT, decT_other (by omega) ‹_›, same_byte (plus := plus) (b := bAt s (i : Int)) (c := c) (by first | exact .inl ‹_› | exact .inr (by rw [← byteAt_eq]; assumption)) (by rw [hc1, byteAt_eq])]
        simp
      · dsimp only; omega
  · repeat' (first|((refine al_v (ov_conv_bytes rfl rfl (.row _ _)) rfl ?_))|(refine k_al ?_;first|(refine al_v (ov_move rfl) rfl ?_)|(refine k_g ?_;first|(refine al_gy' rfl rfl (by with_reducible rfl) ?_)|(refine al_gnt rfl rfl (by with_reducible rfl) rfl ?_)|(refine al_gnf rfl rfl (by with_reducible rfl) rfl ?_)|(refine al_gsp rfl rfl (fun hc => ?_) (fun hc => ?_) <;> (try (exfalso;omega)))|(refine al_gsb rfl rfl (fun hc => ?_) (fun hc => ?_) <;> (try (exact absurd hc (by decide)))))|(refine k_bin ?_;first|(refine al_v (ov_cmp rfl rfl rfl) rfl ?_)|(refine al_v (ov_add rfl rfl (by (first|exact w64 (by omega) (by omega)|rfl))) rfl ?_)|(refine al_v (ov_mul rfl rfl (by (first|exact w64 (by omega) (by omega)|rfl))) rfl ?_))|(refine k_pick ?_;first|(refine al_v (ov_pick_t' rfl (by with_reducible rfl) rfl) rfl ?_)|(refine al_v (ov_pick_f' rfl (by with_reducible rfl) rfl) rfl ?_))|(refine al_v (ov_assign rfl) rfl ?_)|(refine k_call ?_;first|(refine al_v (ov_len_str rfl) rfl ?_))|(refine al_nil ?_)|(refine al_buildSlice (by rfl) (by rfl) (by rfl) (by rfl) (by decide) (by decide) (by rfl) (by rfl) (by repeat constructor) (by rfl) (by repeat constructor) (by rfl) (by first|exact ln1) (by repeat constructor) rfl ?_)|(refine al_v (ov_index rfl rfl (by omega) (by omega)) rfl ?_))|(first|(refine thn_n ?_)|(refine k_awp ?_;first|(refine awp_seq (awp_region ?_))|(refine awp_seq ?_)|(refine awp_region ?_)|(refine k_cond ?_;first|(refine awp_cond_t' rfl (by with_reducible rfl) ?_)|(refine awp_cond_f' rfl (by with_reducible rfl) ?_)|(refine awp_cond_p rfl (fun hc => ?_) (fun hc => ?_) <;> (try (exfalso;omega))))|(refine awp_block ?_)|(refine awp_ret ?_)|(refine awp_skip ?_)|(refine awp_exit ?_))|(refine thn_ret ?_)|(refine lq_exit ?_)|(refine lq_ret ?_)|(refine thn_exit ?_)|(refine inb_n ?_)|(refine inb_ret ?_)|(refine inb_here ?_)))
    refine ret3 (by first | exact .inr rfl | exact .inl rfl) rfl rfl rfl rfl ?_
    refine ⟨⟨_, _, _, rfl, ⟨fun _ => ?_, fun h => rfl⟩, .inl rfl, by omega, by omega, fun _ => ?_⟩, rfl⟩
    · rw [hd, dec_end (by omega)]
    · rw [hT, decT_end (by omega), List.append_nil]
end
end Go.Proofs.YtffcgpkbibijpaaGreatDoor.L

namespace Go.Proofs.YtffcgpkbibijpaaGreatDoor.L
open Go Go.RowKit Go.Proofs
set_option linter.unusedVariables false
set_option linter.unusedSimpArgs false
set_option maxRecDepth 100000

theorem ib_at {s : List UInt8} {c : UInt8} {k : Nat} (h : s[k]? = some c) (hn : ∀ j, j < k → s[j]? ≠ some c) : Lib.indexByte s c = k := by
  have hge := Lib.indexByte_ge s c
  by_cases h1 : Lib.indexByte s c = -1
  · exact absurd h (Lib.indexByte_none h1 k)
  · obtain ⟨o, ho⟩ : ∃ o : Nat, Lib.indexByte s c = o := ⟨(Lib.indexByte s c).toNat, by omega⟩
    obtain ⟨g1, g2⟩ := Lib.indexByte_some ho
    rcases Nat.lt_trichotomy o k with h2 | h2 | h2
    · exact absurd g1 (hn o h2)
    · rw [ho, h2]
    · exact absurd h (g2 k h2)
theorem ib_no {s : List UInt8} {c : UInt8} (hn : ∀ j : Nat, s[j]? ≠ some c) : Lib.indexByte s c = -1 := by
  have hge := Lib.indexByte_ge s c
  by_cases h1 : Lib.indexByte s c = -1
  · exact h1
  · obtain ⟨o, ho⟩ : ∃ o : Nat, Lib.indexByte s c = o := ⟨(Lib.indexByte s c).toNat, by omega⟩
    exact absurd (Lib.indexByte_some ho).1 (hn o)
theorem cut1_at {s : List UInt8} {c : UInt8} {k : Nat} (h : s[k]? = some c) (hn : ∀ j, j < k → s[j]? ≠ some c) : Lib.cut s [c] = (s.take k, s.drop (k + 1), true) := by
  unfold Lib.cut
  rw [Lib.index_one, ib_at h hn, if_pos (by omega)]
  simp
theorem cut1_no {s : List UInt8} {c : UInt8} (hn : ∀ j : Nat, s[j]? ≠ some c) : Lib.cut s [c] = (s, [], false) := by
  unfold Lib.cut
  rw [Lib.index_one, ib_no hn, if_neg (by omega)]
theorem cut1_len (s : List UInt8) (c : UInt8) : (Lib.cut s [c]).1.length ≤ s.length ∧ (Lib.cut s [c]).2.1.length ≤ s.length ∧ ((Lib.cut s [c]).2.1.length + (Lib.cut s [c]).1.length ≤ s.length) := by
  unfold Lib.cut
  split
  · rename_i h
    have := Lib.index_room s [c] h
    simp at this ⊢
    omega
  · simp

def prAV (p : List UInt8 × List UInt8) : List AV := [.str p.1, .str p.2]
/-- A part of a form, as a name and a value. -/
def pairP (p : List UInt8) : List UInt8 × List UInt8 := (decT true (Lib.cut p [61]).1, decT true (Lib.cut p [61]).2.1)
def pairOk (p : List UInt8) : Bool := decOk (Lib.cut p [61]).1 && decOk (Lib.cut p [61]).2.1
def splitB (c : UInt8) : List UInt8 → List (List UInt8)
  | [] => [[]]
  | b :: r => if b = c then [] :: splitB c r else (b :: (splitB c r).headD []) :: (splitB c r).tail
theorem splitB_ne (c : UInt8) (l : List UInt8) : splitB c l ≠ [] := by
  cases l with
  | nil => simp [splitB]
  | cons b r => unfold splitB; split <;> simp
theorem splitB_no {c : UInt8} : ∀ {p : List UInt8}, c ∉ p → splitB c p = [p]
  | [], _ => rfl
  | b :: r, h => by
    have h1 : ¬ b = c := fun e => h (by simp [e])
    have h2 : c ∉ r := fun e => h (by simp [e])
    rw [splitB, if_neg h1, splitB_no h2]
    rfl
theorem splitB_at {c : UInt8} : ∀ {p r : List UInt8}, c ∉ p → splitB c (p ++ c :: r) = p :: splitB c r
  | [], r, _ => by rw [List.nil_append, splitB, if_pos rfl]
  | b :: p, r, h => by
    have h1 : ¬ b = c := fun e => h (by simp [e])
    have h2 : c ∉ p := fun e => h (by simp [e])
    rw [List.cons_append, splitB, if_neg h1, splitB_at h2]
    rfl
def nz (l : List UInt8) : List (List UInt8) := (splitB 38 l).filter (fun p => !p.isEmpty)
def one (p : List UInt8) : List (List UInt8) := if p = [] then [] else [p]
theorem nz_no {p : List UInt8} (h : 38 ∉ p) : nz p = one p := by
  unfold nz one
  rw [splitB_no h]
  cases p <;> simp
theorem nz_at {p r : List UInt8} (h : 38 ∉ p) : nz (p ++ 38 :: r) = one p ++ nz r := by
  unfold nz one
  rw [splitB_at h]
  cases p <;> simp
def formOk (s : List UInt8) : Bool := (nz s).all pairOk && decide ((nz s).length ≤ 32)
def tgtOk (s : List UInt8) : Bool := decide (s.length ≤ 1024) && (decide (s.head? = some 47) && (s.all (fun b => !pOdd b) && (decOk (Lib.cut s [63]).1 && (!(Lib.cut s [63]).2.2 || formOk (Lib.cut s [63]).2.1))))
/-- The pairs of a form; a target's path and query. -/
def formP (s : List UInt8) : List (List UInt8 × List UInt8) := (nz s).map pairP
def tgtP (s : List UInt8) : List UInt8 := decT false (Lib.cut s [63]).1
def tgtQ (s : List UInt8) : List (List UInt8 × List UInt8) := if (Lib.cut s [63]).2.2 then formP (Lib.cut s [63]).2.1 else []
theorem mem_bAt {s : List UInt8} {c : UInt8} (h : c ∈ s) : ∃ i : Nat, i < s.length ∧ s[i]? = some c := by
  obtain ⟨i, hi, he⟩ := List.getElem_of_mem h
  exact ⟨i, hi, by rw [List.getElem?_eq_getElem hi, he]⟩
theorem get_bAt {s : List UInt8} {i : Nat} (h : i < s.length) : s[i]? = some (bAt s (i : Int)) := by
  simp [bAt, List.getD_eq_getElem?_getD, h]
/-- Nothing of the kind from a place up to another. -/
theorem notin_piece {s : List UInt8} {c : UInt8} {a b : Nat} (h : ∀ j, a ≤ j → j < b → s[j]? ≠ some c) : c ∉ (s.take b).drop a := fun hm => by
  obtain ⟨i, hi, he⟩ := mem_bAt hm
  rw [List.getElem?_drop, List.getElem?_take] at he
  split at he
  · exact h (a + i) (by omega) (by omega) he
  · cases he
theorem piece_at {s : List UInt8} {c : UInt8} {a b : Nat} (hab : a ≤ b) (hb : s[b]? = some c) : s.drop a = (s.take b).drop a ++ c :: s.drop (b + 1) := by
  have hlt := (List.getElem?_eq_some_iff.1 hb).1
  have hbe := (List.getElem?_eq_some_iff.1 hb).2
  have e : s = s.take b ++ c :: s.drop (b + 1) := by
    rw [← hbe, ← List.drop_eq_getElem_cons hlt, List.take_append_drop]
  conv => lhs; rw [e]
  rw [List.drop_append_of_le_length (by simp; omega)]
theorem piece_end {s : List UInt8} {a : Nat} : s.drop a = (s.take s.length).drop a := by rw [List.take_length]
theorem all_bAt {s : List UInt8} {f : UInt8 → Bool} (h : ∀ j : Nat, j < s.length → f (bAt s (j : Int)) = true) : s.all f = true := by
  rw [List.all_eq_true]
  intro x hx
  obtain ⟨i, hi, he⟩ := mem_bAt hx
  rw [get_bAt hi] at he
  injection he with he
  rw [← he]
  exact h i hi
theorem all_bAt_not {s : List UInt8} {f : UInt8 → Bool} {j : Nat} (hj : j < s.length) (h : f (bAt s (j : Int)) = false) : s.all f = false := by
  cases ha : s.all f with
  | false => rfl
  | true =>
    rw [List.all_eq_true] at ha
    have := ha _ (List.mem_of_getElem? (get_bAt hj))
    rw [h] at this
    cases this
end Go.Proofs.YtffcgpkbibijpaaGreatDoor.L

namespace Go.Proofs.YtffcgpkbibijpaaGreatDoor.L
open Go Go.RowKit Go.Proofs
set_option linter.unusedVariables false
set_option linter.unusedSimpArgs false
set_option maxRecDepth 100000
attribute [local irreducible] AL QL AWp Thn InB RetQ ACalls LoopQ HL HO HW HQ NoG

section
variable {w0 : World} {base : Nat}
abbrev frmO (ver : Nat) (e k : Int) (xs : List (List AV)) : List AO := [.box [.os 3 ver], .box [.int .i64 e], .box [.int .i64 k], .row 82 2 ver 0 xs]
set_option maxHeartbeats 2000000 in
theorem a_do {p : List UInt8} {at' : Int} {ver : Nat} {xs : List (List AV)} (hG : Glob w0 base) (hp : p.length ≤ 65536) (ha : 0 ≤ at') (ha2 : at' ≤ 65536) (hx : xs.length ≤ 65536) :
    ACalls (EE w0 base) 118 [.str p, .int .i64 at', .op 1 0, .op 2 0, .op 0 0] (frmO ver 0 0 xs) fun rv os => ∃ ver' e k xs', rv = .bool (decide (e = 0)) ∧ os = frmO ver' e k xs' ∧
      (e = 0 ∨ e = 60) ∧ 0 ≤ k ∧ k ≤ at' + p.length + 1 ∧ (e = 0 ↔ (one p).all pairOk = true) ∧ (e = 0 → xs' = xs ++ (one p).map (fun q => prAV (pairP q)) ∧ k = 0) := by
  refine acalls_of Tryz.func118 rfl rfl rfl (.cons (.cons (.cons (.cons (.cons .nil))))) ?_
  obtain ⟨a, b, two, hab⟩ : ∃ a b two, Lib.cut p [61] = (a, b, two) := ⟨_, _, _, rfl⟩
  have hlen := cut1_len p 61
  have hok : pairOk p = (decOk a && decOk b) := by unfold pairOk; rw [hab]
  have hpp : pairP p = (decT true a, decT true b) := by unfold pairP; rw [hab]
  rw [hab] at hlen
  dsimp only at hlen
  have hcut := s_cut (s := p) (p := [61]) hG (by omega)
  rw [hab] at hcut
  dsimp only at hcut
  repeat' (first|(first|(refine k_call ?_;refine al_call rfl rfl rfl rfl hcut ?_;rintro _ rfl)|(refine k_call ?_;refine al_call rfl rfl rfl rfl (s_decode (s := a) (by omega)) ?_;rintro _ ⟨l1, e1, k1, rfl, h11, h12, h13, h14, h15⟩)|(refine k_call ?_;refine al_call rfl rfl rfl rfl (s_decode (s := b) (by omega)) ?_;rintro _ ⟨l2, e2, k2, rfl, h21, h22, h23, h24, h25⟩)|(refine k_call ?_;refine al_append rfl rfl (by repeat constructor) (src_os rfl rfl) rfl (by decide) (by simp;omega) rfl ?_))|(refine k_al ?_;first|(refine al_v (ov_move rfl) rfl ?_)|(refine al_v (ov_fieldAddr rfl rfl) rfl ?_)|(refine k_load ?_;first|(refine al_v (ov_load rfl rfl) rfl ?_)|(refine al_v (ov_load_agg rfl rfl rfl) rfl ?_))|(refine k_bin ?_;first|(refine al_v (ov_cmp rfl rfl rfl) rfl ?_)|(refine al_v (ov_add rfl rfl (by (first|exact w64 (by omega) (by omega)|rfl))) rfl ?_)|(refine al_v (ov_seq rfl rfl) rfl ?_))|(refine al_v (ov_assign rfl) rfl ?_)|(refine k_call ?_;first|(refine al_v (ov_len_str rfl) rfl ?_))|(refine al_v (ov_extract rfl rfl) rfl ?_)|(refine al_nil ?_)|(refine al_alloc rfl rfl rfl (by first|exact ln4|exact ln5) (by repeat constructor) rfl ?_)|(refine al_store rfl rfl rfl rfl rfl (by repeat constructor) (by repeat constructor) ?_)|(refine al_buildSlice (by rfl) (by rfl) (by rfl) (by rfl) (by decide) (by decide) (by rfl) (by rfl) (by repeat constructor) (by rfl) (by repeat constructor) (by rfl) (by first|exact ln4|exact ln5) (by repeat constructor) rfl ?_))|(first|(refine thn_n ?_)|(refine k_awp ?_;first|(refine awp_seq (awp_region ?_))|(refine awp_seq ?_)|(refine awp_region ?_)|(refine k_cond ?_;first|(refine awp_cond_p rfl (fun hc => ?_) (fun hc => ?_) <;> (try (exfalso;omega))))|(refine awp_ret ?_)|(refine awp_skip ?_))|(refine thn_ret ?_)))
  · have hp0 : p = [] := hc
    refine ret1 (by first | exact .inr rfl | exact .inl rfl) rfl rfl ?_
    refine ⟨ver, 0, 0, xs, rfl, rfl, .inl rfl, by omega, by omega, ?_, fun _ => ⟨?_, rfl⟩⟩
    · simp [one, hp0]
    · simp [one, hp0]
  · rename_i hc0
    have hp0 : p ≠ [] := hc0
    have e1d : decOk a = false := by cases h : decOk a with
      | false => rfl
      | true => exact absurd (h11.2 h) hc
    refine retq_wkn (.of (Wk'.drop (H := [_, _, _, _]) (sl' := [(7, _)]) (ex := [_]) (.cons rfl .nil) rfl (by repeat constructor) rfl)) ?_
    refine ret1 (by first | exact .inr rfl | exact .inl rfl) rfl rfl ?_
    refine ⟨ver, e1, at' + k1, xs, by simp [hc], rfl, h12, by omega, by omega, ?_, fun h => absurd h hc⟩
    simp [one, hp0, hok, e1d, hc]
  · rename_i hc0 hc1
    have hp0 : p ≠ [] := hc0
    have hd1 : decOk a = true := h11.1 (Classical.not_not.1 hc1)
    have e2d : decOk b = false := by cases h : decOk b with
      | false => rfl
      | true => exact absurd (h21.2 h) hc
    refine retq_wkn (.of (Wk'.drop (H := [_, _, _, _]) (sl' := [(7, _)]) (ex := [_]) (.cons rfl .nil) rfl (by repeat constructor) rfl)) ?_
    refine ret1 (by first | exact .inr rfl | exact .inl rfl) rfl rfl ?_
    refine ⟨ver, e2, at' + (a.length : Int) + 1 + k2, xs, by simp [hc], rfl, h22, by omega, by omega, ?_, fun h => absurd h hc⟩
    simp [one, hp0, hok, e2d, hc]
  · rename_i hc0 hc1
    have hp0 : p ≠ [] := hc0
    have hd1 : decOk a = true := h11.1 (Classical.not_not.1 hc1)
    have hd2 : decOk b = true := h21.1 (Classical.not_not.1 hc)
    have h0 := Classical.not_not.1 hc
    subst h0
    refine retq_wkn (.of (Wk'.drop (H := [_, _, _, _]) (sl' := [(7, _)]) (ex := [_, _]) (.cons rfl .nil) rfl (by repeat constructor) rfl)) ?_
    refine ret1 (by first | exact .inr rfl | exact .inl rfl) rfl rfl ?_
    have g1 := h15 (Classical.not_not.1 hc1)
    have g2 := h25 rfl
    refine ⟨ver + 1, 0, 0, _, rfl, rfl, .inl rfl, by omega, by omega, ?_, fun _ => ⟨?_, rfl⟩⟩
    · simp [one, hp0, hok, hd1, hd2]
    · simp [one, hp0, prAV, hpp, g1, g2]
set_option maxHeartbeats 2000000 in
theorem a_parts {s : List UInt8} (hs : s.length ≤ 4096) : (hG : Glob w0 base) → 
    ACalls (EE w0 base) 117 [.str s, .int .u8 38, .fn 118 [.op 1 0, .op 2 0, .op 0 0]] (frmO 0 0 0 []) fun rv os => ∃ ver' e k xs', rv = .tup [] ∧ os = frmO ver' e k xs' ∧
      (e = 0 ∨ e = 60) ∧ 0 ≤ k ∧ k ≤ s.length + 1 ∧ (e = 0 ↔ (nz s).all pairOk = true) ∧ (e = 0 → xs' = (formP s).map prAV) := by
  intro hG
  refine acalls_of Tryz.func117 rfl rfl rfl (.cons (.cons (.cons .nil))) ?_
  repeat' (first|(refine k_al ?_;first|(refine al_v (ov_move rfl) rfl ?_)|(refine k_bin ?_;first|(refine al_v (ov_cmp rfl rfl rfl) rfl ?_)|(refine al_v (ov_add rfl rfl (by (first|exact w64 (by omega) (by omega)|rfl))) rfl ?_))|(refine al_v (ov_assign rfl) rfl ?_)|(refine al_nil ?_)|(refine al_v (ov_not_p rfl) rfl ?_))|(first|(refine thn_n ?_)|(refine k_awp ?_;first|(refine awp_seq (awp_region ?_))|(refine awp_seq ?_)|(refine awp_region ?_)|(refine k_cond ?_;first|(refine awp_cond_p rfl (fun hc => ?_) (fun hc => ?_) <;> (try (exfalso;omega))))|(refine awp_block ?_)|(refine awp_ret ?_)|(refine awp_skip ?_))|(refine thn_ret ?_)|(refine lq_ret ?_)|(refine inb_n ?_)|(refine inb_ret ?_)))
  refine awp_loopq (fun p : Nat × Nat × List (List AV) => ⟨[(0, .str s), (1, .int .u8 38), (2, .fn 118 [.op 1 0, .op 2 0, .op 0 0]), (6, .int .i64 p.1)], frmO p.2.1 0 0 p.2.2⟩)
    (fun p => p.1 ≤ s.length ∧ p.2.2.length ≤ p.1 ∧ ((nz s).all pairOk = (nz (s.drop p.1)).all pairOk) ∧ (nz s).map (fun q => prAV (pairP q)) = p.2.2 ++ (nz (s.drop p.1)).map (fun q => prAV (pairP q))) (fun p => s.length - p.1) (0, 0, []) (.of (.same (by repeat constructor))) ⟨Nat.zero_le _, Nat.le_refl _, rfl, rfl⟩ ?_
  rintro ⟨i, ver, xs⟩ ⟨hi, hx, hall, hcnt⟩
  dsimp only at hi hx hall hcnt ⊢
  have hdl : (s.drop i).length = s.length - i := List.length_drop
  have hib : PCalls (EE w0 base) 136 [.str (s.drop (i : Int).toNat), .int .u8 38] fun rv => rv = .int .i64 (Lib.indexByte (s.drop i) 38) := s_indexByte (c := 38)
  have hge := Lib.indexByte_ge (s.drop i) 38
  by_cases hneg : Lib.indexByte (s.drop i) 38 = -1
  · rw [hneg] at hib
    have hno : 38 ∉ s.drop i := fun hm => by
      obtain ⟨j, hj, he⟩ := mem_bAt hm
      exact Lib.indexByte_none hneg j he
    rw [nz_no hno] at hall hcnt
    repeat' (first|(first|(refine k_call ?_;refine al_call rfl rfl rfl rfl hib ?_;rintro _ rfl)|(refine al_v (ov_slice_lo rfl rfl (by omega) (by omega)) rfl ?_)|(refine k_call ?_;refine al_acall [0, 1, 2, 3] rfl rfl (a_do (p := s.drop i) (at' := i) (ver := ver) (xs := xs) hG (by omega) (by omega) (by omega) (by omega)) (by repeat constructor) (by repeat constructor) rfl rfl ?_;rintro _ _ ⟨ver', e, k, xs', rfl, rfl, h1, h2, h3, h4, h5⟩;refine ⟨_, _, by repeat constructor, by repeat constructor, ?_⟩))|(refine k_al ?_;first|(refine al_v (ov_move rfl) rfl ?_)|(refine k_bin ?_;first|(refine al_v (ov_cmp rfl rfl rfl) rfl ?_)|(refine al_v (ov_add rfl rfl (by (first|exact w64 (by omega) (by omega)|rfl))) rfl ?_))|(refine al_v (ov_assign rfl) rfl ?_)|(refine al_nil ?_)|(refine al_v (ov_not_p rfl) rfl ?_))|(first|(refine thn_n ?_)|(refine k_awp ?_;first|(refine awp_seq (awp_region ?_))|(refine awp_seq ?_)|(refine awp_region ?_)|(refine k_cond ?_;first|(refine awp_cond_p rfl (fun hc => ?_) (fun hc => ?_) <;> (try (exfalso;omega))))|(refine awp_block ?_)|(refine awp_ret ?_)|(refine awp_skip ?_))|(refine thn_ret ?_)|(refine lq_ret ?_)|(refine inb_n ?_)|(refine inb_ret ?_)))
    refine ret0 (by first | exact .inr rfl | exact .inl rfl) rfl ⟨ver', e, k, xs', rfl, rfl, h1, h2, by omega, by rw [hall]; exact h4, fun h => by rw [formP, List.map_map]; show _ = (nz s).map (fun q => prAV (pairP q)); rw [hcnt]; exact (h5 h).1⟩
  · obtain ⟨o, ho⟩ : ∃ o : Nat, Lib.indexByte (s.drop i) 38 = o := ⟨(Lib.indexByte (s.drop i) 38).toNat, by omega⟩
    rw [ho] at hib
    obtain ⟨g1, g2⟩ := Lib.indexByte_some ho
    rw [List.getElem?_drop] at g1
    have hio : i + o < s.length := (List.getElem?_eq_some_iff.1 g1).1
    have hni : 38 ∉ (s.take (i + o)).drop i := notin_piece fun j h1 h2 hj => g2 (j - i) (by omega) (by rw [List.getElem?_drop, show i + (j - i) = j by omega]; exact hj)
    have hpl : ((s.take (i + o)).drop i).length = o := by simp; omega
    rw [piece_at (by omega) g1, nz_at hni] at hall hcnt
    rw [List.all_append] at hall
    rw [List.map_append] at hcnt
    repeat' (first|(first|(refine k_call ?_;refine al_call rfl rfl rfl rfl hib ?_;rintro _ rfl)|(refine al_v (ov_slice_lo rfl rfl (by omega) (by omega)) rfl ?_)|(refine al_v (ov_slice rfl rfl rfl (by omega) (by omega) (by omega)) rfl ?_)|(refine k_call ?_;refine al_acall [0, 1, 2, 3] rfl rfl (a_do (p := (s.take (i + o)).drop i) (at' := i) (ver := ver) (xs := xs) hG (by omega) (by omega) (by omega) (by omega)) (by repeat constructor) (by repeat constructor) rfl rfl ?_;rintro _ _ ⟨ver', e, k, xs', rfl, rfl, h1, h2, h3, h4, h5⟩;refine ⟨_, _, by repeat constructor, by repeat constructor, ?_⟩))|(refine k_al ?_;first|(refine al_v (ov_move rfl) rfl ?_)|(refine k_bin ?_;first|(refine al_v (ov_cmp rfl rfl rfl) rfl ?_)|(refine al_v (ov_add rfl rfl (by (first|exact w64 (by omega) (by omega)|rfl))) rfl ?_))|(refine al_v (ov_assign rfl) rfl ?_)|(refine al_nil ?_)|(refine al_v (ov_not_p rfl) rfl ?_))|(first|(refine thn_n ?_)|(refine k_awp ?_;first|(refine awp_seq (awp_region ?_))|(refine awp_seq ?_)|(refine awp_region ?_)|(refine k_cond ?_;first|(refine awp_cond_p rfl (fun hc => ?_) (fun hc => ?_) <;> (try (exfalso;omega))))|(refine awp_block ?_)|(refine awp_ret ?_)|(refine awp_skip ?_))|(refine thn_ret ?_)|(refine lq_ret ?_)|(refine inb_n ?_)|(refine inb_ret ?_)))
    · have h0 : (one ((s.take (i + o)).drop i)).all pairOk = false := by cases h : (one ((s.take (i + o)).drop i)).all pairOk with
        | false => rfl
        | true => exact absurd (h4.2 h) ‹_›
      refine ret0 (by first | exact .inr rfl | exact .inl rfl) rfl ⟨ver', e, k, xs', rfl, rfl, h1, h2, by omega, by rw [hall, h0]; exact ⟨fun h => absurd h ‹_›, fun h => by cases h⟩, fun h => absurd h ‹_›⟩
    · have he : e = 0 := Classical.not_not.1 ‹_›
      subst he
      obtain ⟨h5', rfl⟩ := h5 rfl
      have h0 := h4.1 rfl
      rw [h0] at hall
      have hone : (one ((s.take (i + o)).drop i)).length ≤ 1 := by unfold one; split <;> simp
      first | refine lq_back (i + (o + 1), ver', xs') (.of (.same (by repeat constructor))) ?_ ?_ | fail
      · refine ⟨by dsimp only; omega, by dsimp only; rw [h5', List.length_append, List.length_map]; omega, hall, ?_⟩
        dsimp only
        rw [hcnt, h5', List.append_assoc]
        rfl
      · dsimp only; omega
theorem formP_len (s : List UInt8) : ((formP s).map prAV).length = (nz s).length := by simp [formP]
def FormR (s : List UInt8) (rv : AV) : Prop := ∃ q e k, rv = .tup [.rs q, .int .i64 e, .int .i64 k] ∧ (e = 0 ↔ formOk s = true) ∧ 0 ≤ k ∧ k ≤ s.length + 1 ∧ (e = 0 → q = (formP s).map prAV)
set_option maxHeartbeats 2000000 in
theorem s_form {s : List UInt8} (hs : s.length ≤ 4096) (hG : Glob w0 base) : PCalls (EE w0 base) 83 [.str s] (FormR s) := by
  refine acalls_of Tryz.func83 rfl rfl rfl (.cons .nil) ?_
  repeat' (first|(first|(refine al_v (ov_makeFunc rfl) rfl ?_)|(refine al_wkn (.adoptBox (id := 0) (k := 0) (e := 82) (sz := 2) rfl rfl (by decide) rfl rfl rfl) ?_;refine al_acall [0, 1, 2, 3] rfl rfl (a_parts hs hG) (by repeat constructor) (by repeat constructor) rfl rfl ?_;rintro _ _ ⟨ver', e, k, xs', rfl, rfl, h1, h2, h3, h4, h5⟩;refine ⟨_, _, by repeat constructor, by repeat constructor, ?_⟩))|(refine k_al ?_;first|(refine al_v (ov_move rfl) rfl ?_)|(refine k_g ?_;first|(refine al_gy' rfl rfl (by with_reducible rfl) ?_)|(refine al_gnt rfl rfl (by with_reducible rfl) rfl ?_)|(refine al_gsp rfl rfl (fun hc => ?_) (fun hc => ?_) <;> (try (exfalso;omega))))|(refine k_load ?_;first|(refine al_v (ov_load rfl rfl) rfl ?_))|(refine k_bin ?_;first|(refine al_v (ov_cmp rfl rfl rfl) rfl ?_))|(refine k_pick ?_;first|(refine al_v (ov_pick_t' rfl (by with_reducible rfl) rfl) rfl ?_)|(refine al_v (ov_pick_f' rfl (by with_reducible rfl) rfl) rfl ?_))|(refine al_v (ov_assign rfl) rfl ?_)|(refine k_call ?_;first|(refine al_v (ov_len_os rfl rfl rfl) rfl ?_))|(refine al_nil ?_)|(refine al_alloc rfl rfl rfl (by first|exact ln0|exact ln1|exact ln2) (by repeat constructor) rfl ?_)|(refine al_store rfl rfl rfl rfl rfl (by repeat constructor) (by repeat constructor) ?_))|(first|(refine thn_n ?_)|(refine k_awp ?_;first|(refine awp_seq (awp_region ?_))|(refine awp_seq ?_)|(refine awp_region ?_)|(refine k_cond ?_;first|(refine awp_cond_f' rfl (by with_reducible rfl) ?_)|(refine awp_cond_p rfl (fun hc => ?_) (fun hc => ?_) <;> (try (exfalso;omega))))|(refine awp_ret ?_)|(refine awp_skip ?_))|(refine thn_ret ?_))|(refine awp_draw (by kernel_rfl) (by kernel_rfl) ?_)|(first|(refine ql_v (ov_move rfl) rfl ?_)|(refine ql_v (ov_assign rfl) rfl ?_)|(refine ql_v (ov_load rfl rfl) rfl ?_)|(refine ql_v (ov_cmp rfl rfl rfl) rfl ?_)|(refine ql_v (ov_pick_t' rfl (by with_reducible rfl) rfl) rfl ?_)|(refine ql_v (ov_pick_f' rfl (by with_reducible rfl) rfl) rfl ?_)|(refine ql_nil ?_)))
  · refine retq_wkn (.nil 2 rfl) ?_
    refine ret3 (by first | exact .inr rfl | exact .inl rfl) rfl rfl rfl rfl ?_
    have h6 := congrArg List.length (h5 ‹_›)
    rw [formP_len] at h6
    refine ⟨⟨_, _, _, rfl, ⟨fun h => absurd h (by decide), fun h => ?_⟩, by omega, by omega, fun h => absurd h (by decide)⟩, rfl⟩
    rw [formOk, Bool.and_eq_true, decide_eq_true_eq] at h
    omega
  · refine retq_wkn (.freeze 2 rfl (by repeat constructor)) ?_
    refine ret3 (by first | exact .inr rfl | exact .inl rfl) rfl rfl rfl rfl ?_
    have he : e = 0 := ‹_›
    have h6 := congrArg List.length (h5 he)
    rw [formP_len] at h6
    refine ⟨⟨_, _, _, rfl, ⟨fun _ => ?_, fun _ => rfl⟩, by omega, by omega, fun _ => h5 he⟩, rfl⟩
    rw [formOk, Bool.and_eq_true, decide_eq_true_eq]
    exact ⟨h4.1 he, by omega⟩
  · refine retq_wkn (.nil 2 rfl) ?_
    refine ret3 (by first | exact .inr rfl | exact .inl rfl) rfl rfl rfl rfl ?_
    refine ⟨⟨_, _, _, rfl, ⟨fun h => absurd h ‹_›, fun h => ?_⟩, by omega, by omega, fun h => absurd h ‹_›⟩, rfl⟩
    rw [formOk, Bool.and_eq_true] at h
    exact absurd (h4.2 h.1) ‹_›
theorem ret4 {E : Env} {N : Nat} {fn : Func} {R : AV → List AO → Prop} {e : Exit} {σ : St} {t u v q : Nat} {x y z o : AV} (he : e = .normal ∨ e = .ret) (h2 : fn.results = #[.tmp t, .tmp u, .tmp v, .tmp q]) (h : lk σ.sl t = some x) (k : lk σ.sl u = some y) (l : lk σ.sl v = some z) (m : lk σ.sl q = some o) (hR : R (.tup [x, y, z, o]) σ.objs) : RetQ E N fn R e σ :=
  retQ_mk he σ [.tmp t, .tmp u, .tmp v, .tmp q] [x, y, z, o] (.refl σ) h2 (.tmp h (.tmp k (.tmp l (.tmp m .nil)))) hR
def TgtR (s : List UInt8) (rv : AV) : Prop := ∃ p q e k, rv = .tup [.str p, .rs q, .int .i64 e, .int .i64 k] ∧ (e = 0 ↔ tgtOk s = true) ∧ (e = 0 → p = tgtP s ∧ q = (tgtQ s).map prAV)
theorem prefix47 (s : List UInt8) : Lib.hasPrefix s [47] = decide (s.head? = some 47) := by
  cases s with
  | nil => rfl
  | cons b r =>
    simp [Lib.hasPrefix, List.isPrefixOf]
    by_cases h : b = 47
    · simp [h]
    · simp [h, Ne.symm h]
set_option maxHeartbeats 2000000 in
theorem s_target {s : List UInt8} (hs : s.length ≤ 4096) (hG : Glob w0 base) : PCalls (EE w0 base) 51 [.str s] (TgtR s) := by
  refine acalls_of Tryz.func51 rfl rfl rfl (.cons .nil) ?_
  have hpre := s_hasPrefix (w0 := w0) (base := base) (s := s) (p := [47])
  rw [prefix47] at hpre
  repeat' (first|(first|(refine k_call ?_;refine al_call rfl rfl rfl rfl hpre ?_;rintro _ rfl))|(refine k_al ?_;first|(refine al_v (ov_move rfl) rfl ?_)|(refine k_bin ?_;first|(refine al_v (ov_cmp rfl rfl rfl) rfl ?_)|(refine al_v (ov_add rfl rfl (by (first|exact w64 (by omega) (by omega)|rfl))) rfl ?_))|(refine al_v (ov_assign rfl) rfl ?_)|(refine k_call ?_;first|(refine al_v (ov_len_str rfl) rfl ?_))|(refine al_v (ov_extract rfl rfl) rfl ?_)|(refine al_nil ?_)|(refine al_v (ov_not_p rfl) rfl ?_)|(refine al_v (ov_not rfl rfl) rfl ?_)|(refine al_v (ov_index rfl rfl (by omega) (by omega)) rfl ?_))|(first|(refine thn_n ?_)|(refine k_awp ?_;first|(refine awp_seq (awp_region ?_))|(refine awp_seq ?_)|(refine awp_region ?_)|(refine k_cond ?_;first|(refine awp_cond_p rfl (fun hc => ?_) (fun hc => ?_) <;> (try (exfalso;omega)))|(refine awp_cond_b rfl (fun hc => ?_) (fun hc => ?_) <;> (try (exact absurd hc (by decide)))))|(refine awp_block ?_)|(refine awp_ret ?_)|(refine awp_skip ?_)|(refine awp_exit ?_))|(refine thn_ret ?_)|(refine lq_exit ?_)|(refine lq_ret ?_)|(refine thn_exit ?_)|(refine inb_n ?_)|(refine inb_ret ?_)|(refine inb_here ?_)))
  · refine retq_wkn (.nil 3 rfl) ?_
    refine ret4 (by first | exact .inr rfl | exact .inl rfl) rfl rfl rfl rfl rfl ?_
    refine ⟨⟨_, _, _, _, rfl, ⟨fun h => absurd h (by decide), fun h => ?_⟩, fun h => absurd h (by decide)⟩, rfl⟩
    rw [tgtOk, Bool.and_eq_true, decide_eq_true_eq] at h
    omega
  · refine retq_wkn (.nil 3 rfl) ?_
    refine ret4 (by first | exact .inr rfl | exact .inl rfl) rfl rfl rfl rfl rfl ?_
    refine ⟨⟨_, _, _, _, rfl, ⟨fun h => absurd h (by decide), fun h => ?_⟩, fun h => absurd h (by decide)⟩, rfl⟩
    rw [tgtOk, Bool.and_eq_true, Bool.and_eq_true, decide_eq_true_eq, decide_eq_true_eq] at h
    exact absurd h.2.1 ‹_›
  have hhd : s.head? = some 47 := Classical.not_not.1 ‹_›
  have hle : s.length ≤ 1024 := by omega
  have htg : tgtOk s = (s.all (fun b => !pOdd b) && (decOk (Lib.cut s [63]).1 && (!(Lib.cut s [63]).2.2 || formOk (Lib.cut s [63]).2.1))) := by
    rw [tgtOk, decide_eq_true hle, decide_eq_true hhd, Bool.true_and, Bool.true_and]
  obtain ⟨a, b, two, hab⟩ : ∃ a b two, Lib.cut s [63] = (a, b, two) := ⟨_, _, _, rfl⟩
  have hlen := cut1_len s 63
  rw [hab] at hlen htg
  dsimp only at hlen htg
  have hcut := s_cut (s := s) (p := [63]) hG (by omega)
  rw [hab] at hcut
  dsimp only at hcut
  refine awp_loopq (fun k : Nat => ⟨[(0, .str s), (17, .int .i64 (s.length : Int)), (18, .int .i64 k)], []⟩) (fun k => k ≤ s.length ∧ ∀ j, j < k → pOdd (bAt s (j : Int)) = false) (fun k => s.length - k) 0 (.of (.same (by repeat constructor))) ⟨Nat.zero_le _, fun j h => absurd h (Nat.not_lt_zero _)⟩ ?_
  rintro i ⟨hi, hodd⟩
  try dsimp only
  repeat' (first|(first|(refine k_call ?_;refine al_call rfl rfl rfl rfl (s_odd (b := bAt s (i : Int))) ?_;rintro _ rfl)|(refine k_call ?_;refine al_call rfl rfl rfl rfl hcut ?_;rintro _ rfl)|(refine k_call ?_;refine al_call rfl rfl rfl rfl (s_decode (s := a) (by omega)) ?_;rintro _ ⟨l1, e1, k1, rfl, h11, h12, h13, h14, h15⟩)|(refine k_call ?_;refine al_call rfl rfl rfl rfl (s_form (s := b) (by omega) hG) ?_;rintro _ ⟨q2, e2, k2, rfl, h21, h23, h24, h25⟩))|(refine k_al ?_;first|(refine al_v (ov_move rfl) rfl ?_)|(refine k_bin ?_;first|(refine al_v (ov_cmp rfl rfl rfl) rfl ?_)|(refine al_v (ov_add rfl rfl (by (first|exact w64 (by omega) (by omega)|rfl))) rfl ?_))|(refine al_v (ov_assign rfl) rfl ?_)|(refine k_call ?_;first|(refine al_v (ov_len_str rfl) rfl ?_))|(refine al_v (ov_extract rfl rfl) rfl ?_)|(refine al_nil ?_)|(refine al_v (ov_not_p rfl) rfl ?_)|(refine al_v (ov_not rfl rfl) rfl ?_)|(refine al_v (ov_index rfl rfl (by omega) (by omega)) rfl ?_))|(first|(refine thn_n ?_)|(refine k_awp ?_;first|(refine awp_seq (awp_region ?_))|(refine awp_seq ?_)|(refine awp_region ?_)|(refine k_cond ?_;first|(refine awp_cond_p rfl (fun hc => ?_) (fun hc => ?_) <;> (try (exfalso;omega)))|(refine awp_cond_b rfl (fun hc => ?_) (fun hc => ?_) <;> (try (exact absurd hc (by decide)))))|(refine awp_block ?_)|(refine awp_ret ?_)|(refine awp_skip ?_)|(refine awp_exit ?_))|(refine thn_ret ?_)|(refine lq_exit ?_)|(refine lq_ret ?_)|(refine thn_exit ?_)|(refine inb_n ?_)|(refine inb_ret ?_)|(refine inb_here ?_)))
  · have h0 : s.all (fun b => !pOdd b) = false := all_bAt_not (j := i) (by omega) (by show (!pOdd (bAt s (i : Int))) = false; rw [‹pOdd (bAt s (i : Int)) = true›]; rfl)
    refine retq_wkn (.nil 3 rfl) ?_
    refine ret4 (by first | exact .inr rfl | exact .inl rfl) rfl rfl rfl rfl rfl ?_
    refine ⟨⟨_, _, _, _, rfl, ⟨fun h => absurd h (by decide), fun h => ?_⟩, fun h => absurd h (by decide)⟩, rfl⟩
    rw [htg, h0] at h
    cases h
  · rename_i hc _
    first | refine lq_back (i + 1) (.of (.same (by repeat constructor))) ?_ ?_ | fail
    · refine ⟨by omega, fun j hj => ?_⟩
      rcases Nat.lt_or_ge j i with h | h
      · exact hodd j h
      · obtain rfl : j = i := by omega
        assumption
    · omega
  all_goals
    have hall : s.all (fun b => !pOdd b) = true := all_bAt (fun j hj => by show (!pOdd (bAt s (j : Int))) = true; rw [hodd j (by omega)]; rfl)
    rw [hall, Bool.true_and] at htg
  · refine retq_wkn (.nil 3 rfl) ?_
    refine ret4 (by first | exact .inr rfl | exact .inl rfl) rfl rfl rfl rfl rfl ?_
    refine ⟨⟨_, _, _, _, rfl, ⟨fun h => absurd h ‹_›, fun h => ?_⟩, fun h => absurd h ‹_›⟩, rfl⟩
    rw [htg, Bool.and_eq_true] at h
    exact absurd (h11.2 h.1) ‹_›
  · refine retq_wkn (.nil 3 rfl) ?_
    refine ret4 (by first | exact .inr rfl | exact .inl rfl) rfl rfl rfl rfl rfl ?_
    have hd1 : decOk a = true := h11.1 (Classical.not_not.1 ‹_›)
    have hd2 := Classical.not_not.1 ‹¬ e1 ≠ 0›
    have htw : two = false := by cases two with
      | false => rfl
      | true => exact absurd ‹(!true) = true› (by decide)
    refine ⟨⟨_, _, _, _, rfl, ⟨fun _ => ?_, fun h => rfl⟩, fun _ => ?_⟩, rfl⟩
    · rw [htg, hd1, htw]
      rfl
    · unfold tgtP tgtQ
      rw [hab]
      dsimp only
      rw [htw]
      exact ⟨h15 hd2, rfl⟩
  all_goals
    have hd1 : decOk a = true := h11.1 (Classical.not_not.1 ‹_›)
    have hd2 := Classical.not_not.1 ‹¬ e1 ≠ 0›
    rw [hd1, ‹(!two) = false›, Bool.true_and, Bool.false_or] at htg
    have htw : two = true := by cases two with
      | true => rfl
      | false => exact absurd ‹(!false) = false› (by decide)
    try refine retq_wkn (.nil 3 rfl) ?_
    refine ret4 (by first | exact .inr rfl | exact .inl rfl) rfl rfl rfl rfl rfl ?_
    refine ⟨⟨_, _, _, _, rfl, ?_, ?_⟩, rfl⟩
    · rw [htg, ← h21]
      try omega
    · intro h
      first
        | exact absurd h ‹_›
        | (unfold tgtP tgtQ
           rw [hab]
           dsimp only
           rw [htw, if_pos rfl]
           exact ⟨h15 hd2, h25 (Classical.not_not.1 ‹¬ e2 ≠ 0›)⟩)
end
end Go.Proofs.YtffcgpkbibijpaaGreatDoor.L

namespace Go.Proofs.YtffcgpkbibijpaaGreatDoor.L
open Go Go.RowKit Go.Proofs
set_option linter.unusedVariables false
set_option linter.unusedSimpArgs false
set_option maxRecDepth 100000
attribute [local irreducible] AL QL AWp Thn InB RetQ ACalls LoopQ HL HO HW HQ NoG

theorem retc2 {E : Env} {N : Nat} {fn : Func} {R : AV → List AO → Prop} {e : Exit} {σ : St} {p ty t u n b : Nat} {z : Value} {pv x y : AV} {cs : List AV} [ti : TZ E.P ty true n b z] (he : e = .normal ∨ e = .ret) (h2 : fn.results = #[.cell p ty, .tmp t, .tmp u]) (hp : lk σ.sl p = some pv) (hc : cellsAt σ.objs pv = some cs) (hn : Nat.ble n cs.length = true) (k : lk σ.sl t = some x) (l : lk σ.sl u = some y) (hR : R (.tup [.agg (cs.take n), x, y]) σ.objs) : RetQ E N fn R e σ :=
  retQ_mk he σ [.cell p ty, .tmp t, .tmp u] [.agg (cs.take n), x, y] (.refl σ) h2 (.agg hp hc hn (.tmp k (.tmp l .nil))) hR
theorem retc1 {E : Env} {N : Nat} {fn : Func} {R : AV → List AO → Prop} {e : Exit} {σ : St} {p ty t n b : Nat} {z : Value} {pv x : AV} {cs : List AV} [ti : TZ E.P ty true n b z] (he : e = .normal ∨ e = .ret) (h2 : fn.results = #[.cell p ty, .tmp t]) (hp : lk σ.sl p = some pv) (hc : cellsAt σ.objs pv = some cs) (hn : Nat.ble n cs.length = true) (k : lk σ.sl t = some x) (hR : R (.tup [.agg (cs.take n), x]) σ.objs) : RetQ E N fn R e σ :=
  retQ_mk he σ [.cell p ty, .tmp t] [.agg (cs.take n), x] (.refl σ) h2 (.agg hp hc hn (.tmp k .nil)) hR

section
variable {w0 : World} {base : Nat}
theorem pairOk_at {p : List UInt8} {k : Nat} (h : k < p.length) (hk : byteAt p (k : Int) = 61) (hn : ∀ j, j < k → byteAt p (j : Int) ≠ 61) : pairOk p = (decOk (p.take k) && decOk (p.drop (k + 1))) := by
  have e : p[k]? = some 61 := by rw [get_bAt h]; exact congrArg some (u8_of_int 61 (by decide) hk)
  have ne : ∀ j, j < k → p[j]? ≠ some 61 := fun j hj he => by
    rw [get_bAt (by omega)] at he
    injection he with he
    have := hn j hj
    rw [byteAt_eq, he] at this
    exact this rfl
  unfold pairOk
  rw [cut1_at e ne]
theorem pairOk_no {p : List UInt8} (hn : ∀ j, j < p.length → byteAt p (j : Int) ≠ 61) : pairOk p = decOk p := by
  have ne : ∀ j : Nat, p[j]? ≠ some 61 := fun j he => by
    have hj := (List.getElem?_eq_some_iff.1 he).1
    rw [get_bAt hj] at he
    injection he with he
    have := hn j hj
    rw [byteAt_eq, he] at this
    exact this rfl
  unfold pairOk
  rw [cut1_no ne]
  show (decOk p && true) = _
  rw [Bool.and_true]
theorem pairP_at {p : List UInt8} {k : Nat} (h : k < p.length) (hk : byteAt p (k : Int) = 61) (hn : ∀ j, j < k → byteAt p (j : Int) ≠ 61) : pairP p = (decT true (p.take k), decT true (p.drop (k + 1))) := by
  unfold pairP
  rw [cut1_at (c := 61) (k := k) (by rw [get_bAt h]; exact congrArg some (u8_of_int 61 (by decide) (by rw [← byteAt_eq]; exact hk))) (fun j hj e => hn j hj (by
    have hjl : j < p.length := by omega
    rw [get_bAt hjl] at e
    injection e with e
    rw [byteAt_eq, e]; rfl))]
theorem pairP_no {p : List UInt8} (hn : ∀ j, j < p.length → byteAt p (j : Int) ≠ 61) : pairP p = (decT true p, []) := by
  unfold pairP
  rw [cut1_no (c := 61) (fun j e => by
    have hjl := (List.getElem?_eq_some_iff.1 e).1
    rw [get_bAt hjl] at e
    injection e with e
    exact hn j hjl (by rw [byteAt_eq, e]; rfl))]
  rfl
set_option maxHeartbeats 2000000 in
theorem s_pair {p : List UInt8} {at' : Int} (hp : p.length ≤ 65536) (ha : 0 ≤ at') (ha2 : at' ≤ 65536) : PCalls (EE w0 base) 126 [.str p, .int .i64 at'] fun rv => ∃ l1 l2 e k, rv = .tup [.agg [.str l1, .str l2], .int .i64 e, .int .i64 k] ∧ (e = 0 ↔ pairOk p = true) ∧ (e = 0 ∨ e = 60) ∧ 0 ≤ k ∧ k ≤ at' + p.length + 1 ∧ (e = 0 → (l1, l2) = pairP p) := by
  refine acalls_of Tryz.func126 rfl rfl rfl (.cons (.cons .nil)) ?_
  repeat' (first|(refine k_al ?_;first|(refine al_v (ov_move rfl) rfl ?_)|(refine k_g ?_;first|(refine al_gy' rfl rfl (by with_reducible rfl) ?_)|(refine al_gnt rfl rfl (by with_reducible rfl) rfl ?_)|(refine al_gsp rfl rfl (fun hc => ?_) (fun hc => ?_) <;> (try (exfalso;omega))))|(refine k_bin ?_;first|(refine al_v (ov_cmp rfl rfl rfl) rfl ?_)|(refine al_v (ov_add rfl rfl (by (first|exact w64 (by omega) (by omega)|rfl))) rfl ?_))|(refine k_pick ?_;first|(refine al_v (ov_pick_t' rfl (by with_reducible rfl) rfl) rfl ?_)|(refine al_v (ov_pick_f' rfl (by with_reducible rfl) rfl) rfl ?_))|(refine al_v (ov_assign rfl) rfl ?_)|(refine k_call ?_;first|(refine al_v (ov_len_str rfl) rfl ?_))|(refine al_v (ov_extract rfl rfl) rfl ?_)|(refine al_nil ?_)|(refine al_alloc rfl rfl rfl (by first|exact ln0) (by repeat constructor) rfl ?_)|(refine al_store rfl rfl rfl rfl rfl (by repeat constructor) (by repeat constructor) ?_)|(refine al_v (ov_build rfl rfl rfl (by repeat constructor)) rfl ?_)|(refine al_v (ov_index rfl rfl (by omega) (by omega)) rfl ?_))|(first|(refine thn_n ?_)|(refine k_awp ?_;first|(refine awp_seq (awp_region ?_))|(refine awp_seq ?_)|(refine awp_region ?_)|(refine k_cond ?_;first|(refine awp_cond_f' rfl (by with_reducible rfl) ?_)|(refine awp_cond_p rfl (fun hc => ?_) (fun hc => ?_) <;> (try (exfalso;omega))))|(refine awp_block ?_)|(refine awp_ret ?_)|(refine awp_skip ?_)|(refine awp_exit ?_))|(refine thn_ret ?_)|(refine lq_exit ?_)|(refine thn_exit ?_)|(refine inb_n ?_)|(refine inb_here ?_)))
  refine awp_loopq (fun k : Nat => ⟨[(0, .str p), (1, .int .i64 at'), (4, .op 0 0), (7, .int .i64 k)], [.box [.str [], .str []]]⟩) (fun k => k ≤ p.length ∧ ∀ j, j < k → byteAt p (j : Int) ≠ 61) (fun k => p.length - k) 0 (.of (.same (by repeat constructor))) ⟨Nat.zero_le _, fun j h => absurd h (Nat.not_lt_zero _)⟩ ?_
  rintro i ⟨hi, hno⟩
  try dsimp only
  have htk : (p.take i).length = i := by simp; omega
  have hdr : (p.drop (i + 1)).length = p.length - (i + 1) := by simp
  repeat' (first|(first|(refine al_v (ov_slice_hi rfl rfl (by omega) (by omega)) rfl ?_)|(refine al_v (ov_slice_lo rfl rfl (by omega) (by omega)) rfl ?_)|(refine k_call ?_;refine al_call rfl rfl rfl rfl (s_decodeR (s := p.take i) (by omega)) ?_;rintro _ ⟨l1, e1, k1, rfl, h11, h12, h13, h14, h15⟩)|(refine k_call ?_;refine al_call rfl rfl rfl rfl (s_decodeR (s := p.drop (i + 1)) (by omega)) ?_;rintro _ ⟨l2, e2, k2, rfl, h21, h22, h23, h24, h25⟩))|(refine k_al ?_;first|(refine al_v (ov_move rfl) rfl ?_)|(refine k_g ?_;first|(refine al_gy' rfl rfl (by with_reducible rfl) ?_)|(refine al_gnt rfl rfl (by with_reducible rfl) rfl ?_)|(refine al_gsp rfl rfl (fun hc => ?_) (fun hc => ?_) <;> (try (exfalso;omega))))|(refine k_bin ?_;first|(refine al_v (ov_cmp rfl rfl rfl) rfl ?_)|(refine al_v (ov_add rfl rfl (by (first|exact w64 (by omega) (by omega)|rfl))) rfl ?_))|(refine k_pick ?_;first|(refine al_v (ov_pick_t' rfl (by with_reducible rfl) rfl) rfl ?_)|(refine al_v (ov_pick_f' rfl (by with_reducible rfl) rfl) rfl ?_))|(refine al_v (ov_assign rfl) rfl ?_)|(refine k_call ?_;first|(refine al_v (ov_len_str rfl) rfl ?_))|(refine al_v (ov_extract rfl rfl) rfl ?_)|(refine al_nil ?_)|(refine al_alloc rfl rfl rfl (by first|exact ln0) (by repeat constructor) rfl ?_)|(refine al_store rfl rfl rfl rfl rfl (by repeat constructor) (by repeat constructor) ?_)|(refine al_v (ov_build rfl rfl rfl (by repeat constructor)) rfl ?_)|(refine al_v (ov_index rfl rfl (by omega) (by omega)) rfl ?_))|(first|(refine thn_n ?_)|(refine k_awp ?_;first|(refine awp_seq (awp_region ?_))|(refine awp_seq ?_)|(refine awp_region ?_)|(refine k_cond ?_;first|(refine awp_cond_f' rfl (by with_reducible rfl) ?_)|(refine awp_cond_p rfl (fun hc => ?_) (fun hc => ?_) <;> (try (exfalso;omega))))|(refine awp_block ?_)|(refine awp_ret ?_)|(refine awp_skip ?_)|(refine awp_exit ?_))|(refine thn_ret ?_)|(refine lq_exit ?_)|(refine thn_exit ?_)|(refine inb_n ?_)|(refine inb_here ?_)))
  · first | refine lq_back (i + 1) (.of (.same (by repeat constructor))) ?_ ?_ | fail
    · refine ⟨by omega, fun j hj => ?_⟩
      rcases Nat.lt_or_ge j i with h | h
      · exact hno j h
      · obtain rfl : j = i := by omega
        assumption
    · omega
  iterate 3
    · have hpk := pairOk_at (p := p) (k := i) (by omega) (Classical.not_not.1 ‹_›) hno
      have hpp := pairP_at (p := p) (k := i) (by omega) (Classical.not_not.1 ‹_›) hno
      refine retc2 (by first | exact .inr rfl | exact .inl rfl) rfl rfl rfl rfl rfl rfl ?_
      refine ⟨⟨_, _, _, _, rfl, ?_, by omega, by omega, by omega, ?_⟩, rfl⟩
      · rw [hpk, Bool.and_eq_true]
        try rw [← h11]
        try rw [← h21]
        omega
      · intro h
        first
          | (rw [hpp, h15 (by omega), h25 (by omega)])
          | (exfalso; omega)
  · have hpk := pairOk_no (p := p) (fun j hj => hno j (by omega))
    have htl : p.take i = p := by rw [show i = p.length by omega, List.take_length]
    rw [htl] at h11
    rw [htl] at h15
    have hpp := pairP_no (p := p) (fun j hj => hno j (by omega))
    refine retc2 (by first | exact .inr rfl | exact .inl rfl) rfl rfl rfl rfl rfl rfl ?_
    refine ⟨⟨_, _, _, _, rfl, ?_, by omega, by omega, by omega, ?_⟩, rfl⟩
    · rw [hpk, ← h11]
    · intro h
      first
        | (rw [hpp, h15 (by omega)])
        | (exfalso; omega)
  · have hpk := pairOk_no (p := p) (fun j hj => hno j (by omega))
    have htl : p.take i = p := by rw [show i = p.length by omega, List.take_length]
    rw [htl] at h11
    rw [htl] at h15
    have hpp := pairP_no (p := p) (fun j hj => hno j (by omega))
    refine retc2 (by first | exact .inr rfl | exact .inl rfl) rfl rfl rfl rfl rfl rfl ?_
    refine ⟨⟨_, _, _, _, rfl, ?_, by omega, by omega, by omega, ?_⟩, rfl⟩
    · rw [hpk, ← h11]
      omega
    · intro h
      first
        | (rw [hpp, h15 (by omega)])
        | (exfalso; omega)
theorem nz_step {s : List UInt8} {a i : Nat} (hai : a ≤ i) (hil : i ≤ s.length) (hno : ∀ j, a ≤ j → j < i → s[j]? ≠ some 38) (h : i < s.length → byteAt s (i : Int) = 38) : nz (s.drop a) = one ((s.take i).drop a) ++ nz (s.drop (i + 1)) := by
  have hni := notin_piece hno
  rcases Nat.lt_or_ge i s.length with hlt | hge
  · have e : s[i]? = some 38 := by rw [get_bAt hlt]; exact congrArg some (u8_of_int 38 (by decide) (h hlt))
    rw [piece_at hai e, nz_at hni]
  · obtain rfl : i = s.length := by omega
    rw [List.drop_eq_nil_of_le (show s.length ≤ s.length + 1 by omega)]
    rw [List.take_length] at hni ⊢
    rw [nz_no hni, show nz [] = [] from rfl, List.append_nil]
theorem one_pos {s : List UInt8} {a i : Nat} (hai : a < i) (hil : i ≤ s.length) : one ((s.take i).drop a) = [(s.take i).drop a] := by
  unfold one
  rw [if_neg]
  intro e
  have := congrArg List.length e
  simp at this
  omega
theorem one_nil {s : List UInt8} {a : Nat} : one ((s.take a).drop a) = [] := by
  unfold one
  rw [if_pos]
  exact List.drop_eq_nil_of_le (by simp; omega)
theorem next_no {s : List UInt8} {c : UInt8} {a i : Nat} (hlt : i < s.length) (hno : ∀ j, a ≤ j → j < i → s[j]? ≠ some c) (h : byteAt s (i : Int) ≠ (c.toNat : Int)) : ∀ j, a ≤ j → j < i + 1 → s[j]? ≠ some c := fun j h1 h2 => by
  rcases Nat.lt_or_ge j i with h3 | h3
  · exact hno j h1 h3
  · obtain rfl : j = i := by omega
    rw [get_bAt hlt]
    intro e
    injection e with e
    rw [byteAt_eq, e] at h
    exact h rfl
set_option maxHeartbeats 4000000 in
theorem s_formR {s : List UInt8} (hs : s.length ≤ 4096) : PCalls (EE w0 base) 92 [.str s] (FormR s) := by
  refine acalls_of Tryz.func92 rfl rfl rfl (.cons .nil) ?_
  repeat' (first|(refine k_al ?_;first|(refine al_v (ov_move rfl) rfl ?_)|(refine k_g ?_;first|(refine al_gy' rfl rfl (by with_reducible rfl) ?_)|(refine al_gnt rfl rfl (by with_reducible rfl) rfl ?_)|(refine al_gsp rfl rfl (fun hc => ?_) (fun hc => ?_) <;> (try (exfalso;omega))))|(refine k_load ?_;first|(refine al_v (ov_load_agg rfl rfl rfl) rfl ?_))|(refine k_bin ?_;first|(refine al_v (ov_cmp rfl rfl rfl) rfl ?_)|(refine al_v (ov_add rfl rfl (by (first|exact w64 (by omega) (by omega)|rfl))) rfl ?_))|(refine k_pick ?_;first|(refine al_v (ov_pick_t' rfl (by with_reducible rfl) rfl) rfl ?_)|(refine al_v (ov_pick_f' rfl (by with_reducible rfl) rfl) rfl ?_))|(refine al_v (ov_assign rfl) rfl ?_)|(refine k_call ?_;first|(refine al_v (ov_len_str rfl) rfl ?_)|(refine al_v (ov_len_os rfl rfl rfl) rfl ?_))|(refine al_v (ov_extract rfl rfl) rfl ?_)|(refine al_nil ?_)|(refine al_alloc rfl rfl rfl (by first|exact ln1|exact ln2) (by repeat constructor) rfl ?_)|(refine al_store rfl rfl rfl rfl rfl (by repeat constructor) (by repeat constructor) ?_)|(refine al_buildSlice (by rfl) (by rfl) (by rfl) (by rfl) (by decide) (by decide) (by rfl) (by rfl) (by repeat constructor) (by rfl) (by repeat constructor) (by rfl) (by first|exact ln1|exact ln2) (by repeat constructor) rfl ?_)|(refine al_v (ov_index rfl rfl (by omega) (by omega)) rfl ?_))|(first|(refine thn_n ?_)|(refine k_awp ?_;first|(refine awp_seq (awp_region ?_))|(refine awp_seq ?_)|(refine awp_region ?_)|(refine k_cond ?_;first|(refine awp_cond_f' rfl (by with_reducible rfl) ?_)|(refine awp_cond_p rfl (fun hc => ?_) (fun hc => ?_) <;> (try (exfalso;omega))))|(refine awp_block ?_)|(refine awp_ret ?_)|(refine awp_skip ?_)|(refine awp_exit ?_))|(refine thn_ret ?_)|(refine lq_exit ?_)|(refine lq_ret ?_)|(refine thn_exit ?_)|(refine inb_n ?_)|(refine inb_ret ?_)|(refine inb_here ?_)))
  refine awp_adopt 5 82 2 rfl (by decide) rfl (by repeat constructor) ?_
  refine awp_loopq (fun p : Nat × Nat × Nat × List (List AV) => ⟨[(0, .str s), (5, .os 0 p.2.2.1), (6, .int .i64 p.2.1), (7, .int .i64 p.1)], [.row 82 2 p.2.2.1 0 p.2.2.2]⟩)
    (fun p => p.2.1 ≤ p.1 ∧ p.1 ≤ s.length + 1 ∧ p.2.2.2.length ≤ p.2.1 ∧ (∀ j, p.2.1 ≤ j → j < p.1 → s[j]? ≠ some 38) ∧ (p.1 = s.length + 1 → p.2.1 = s.length + 1) ∧ ((nz s).all pairOk = (nz (s.drop p.2.1)).all pairOk) ∧ (nz s).map (fun q => prAV (pairP q)) = p.2.2.2 ++ (nz (s.drop p.2.1)).map (fun q => prAV (pairP q)))
    (fun p => s.length + 1 - p.1) (0, 0, 0, []) (.of (.same (by repeat constructor))) ⟨Nat.le_refl _, Nat.zero_le _, Nat.le_refl _, fun j _ h => absurd h (Nat.not_lt_zero _), fun h => h, rfl, rfl⟩ ?_
  rintro ⟨i, a, ver, xs⟩ ⟨hai, hi, hx, hno, hlast, hall, hcnt⟩
  dsimp only at hai hi hx hno hlast hall hcnt ⊢
  have hpl : ((s.take i).drop a).length ≤ i - a := by simp; omega
  repeat' (first|(first|(refine al_v (ov_slice rfl rfl rfl (by omega) (by omega) (by omega)) rfl ?_)|(refine k_call ?_;refine al_call rfl rfl rfl rfl (s_pair (p := (s.take i).drop a) (at' := a) (by omega) (by omega) (by omega)) ?_;rintro _ ⟨l1, l2, e, k, rfl, h1, h2, h3, h4, h5⟩)|(refine k_call ?_;refine al_append rfl rfl (by repeat constructor) (src_os rfl rfl) rfl (by decide) (by simp;omega) rfl ?_))|(refine k_al ?_;first|(refine al_v (ov_move rfl) rfl ?_)|(refine k_g ?_;first|(refine al_gy' rfl rfl (by with_reducible rfl) ?_)|(refine al_gnt rfl rfl (by with_reducible rfl) rfl ?_)|(refine al_gsp rfl rfl (fun hc => ?_) (fun hc => ?_) <;> (try (exfalso;omega))))|(refine k_load ?_;first|(refine al_v (ov_load_agg rfl rfl rfl) rfl ?_))|(refine k_bin ?_;first|(refine al_v (ov_cmp rfl rfl rfl) rfl ?_)|(refine al_v (ov_add rfl rfl (by (first|exact w64 (by omega) (by omega)|rfl))) rfl ?_))|(refine k_pick ?_;first|(refine al_v (ov_pick_t' rfl (by with_reducible rfl) rfl) rfl ?_)|(refine al_v (ov_pick_f' rfl (by with_reducible rfl) rfl) rfl ?_))|(refine al_v (ov_assign rfl) rfl ?_)|(refine k_call ?_;first|(refine al_v (ov_len_str rfl) rfl ?_)|(refine al_v (ov_len_os rfl rfl rfl) rfl ?_))|(refine al_v (ov_extract rfl rfl) rfl ?_)|(refine al_nil ?_)|(refine al_alloc rfl rfl rfl (by first|exact ln1|exact ln2) (by repeat constructor) rfl ?_)|(refine al_store rfl rfl rfl rfl rfl (by repeat constructor) (by repeat constructor) ?_)|(refine al_buildSlice (by rfl) (by rfl) (by rfl) (by rfl) (by decide) (by decide) (by rfl) (by rfl) (by repeat constructor) (by rfl) (by repeat constructor) (by rfl) (by first|exact ln1|exact ln2) (by repeat constructor) rfl ?_)|(refine al_v (ov_index rfl rfl (by omega) (by omega)) rfl ?_))|(first|(refine thn_n ?_)|(refine k_awp ?_;first|(refine awp_seq (awp_region ?_))|(refine awp_seq ?_)|(refine awp_region ?_)|(refine k_cond ?_;first|(refine awp_cond_f' rfl (by with_reducible rfl) ?_)|(refine awp_cond_p rfl (fun hc => ?_) (fun hc => ?_) <;> (try (exfalso;omega))))|(refine awp_block ?_)|(refine awp_ret ?_)|(refine awp_skip ?_)|(refine awp_exit ?_))|(refine thn_ret ?_)|(refine lq_exit ?_)|(refine lq_ret ?_)|(refine thn_exit ?_)|(refine inb_n ?_)|(refine inb_ret ?_)|(refine inb_here ?_)))
  · first|refine lq_back (i + 1, a, ver, xs) (.of (.same (by repeat constructor))) ?_ ?_|refine lq_back (i + 1, a, ver, xs) (.of (wk_drop [_] rfl (by repeat constructor) rfl (by repeat constructor) rfl)) ?_ ?_|refine lq_back (i + 1, a, ver, xs) (.of (wk_drop [_, _] rfl (by repeat constructor) rfl (by repeat constructor) rfl)) ?_ ?_|refine lq_back (i + 1, a, ver, xs) (.of (wk_drop [_, _, _] rfl (by repeat constructor) rfl (by repeat constructor) rfl)) ?_ ?_
    · exact ⟨by dsimp only; omega, by dsimp only; omega, hx, next_no (by omega) hno ‹_›, fun h => by dsimp only at h; omega, hall, hcnt⟩
    · dsimp only; omega
  · have hst := nz_step hai (by omega) hno (fun hlt => by first | exact Classical.not_not.1 ‹¬byteAt s (i : Int) ≠ 38› | (exfalso; omega))
    rw [one_pos (by omega) (by omega)] at hst
    refine retq_wkn (.nil 2 rfl) ?_
    refine ret3 (by first | exact .inr rfl | exact .inl rfl) rfl rfl rfl rfl ?_
    refine ⟨⟨_, _, _, rfl, ⟨fun h => absurd h ‹_›, fun h => ?_⟩, by omega, by omega, fun h => absurd h ‹_›⟩, rfl⟩
    rw [formOk, Bool.and_eq_true, hall, hst, List.all_append, Bool.and_eq_true] at h
    have := h.1.1
    rw [List.all_cons, List.all_nil, Bool.and_true, ← h1] at this
    exact absurd this ‹_›
  · have hst := nz_step hai (by omega) hno (fun hlt => by first | exact Classical.not_not.1 ‹¬byteAt s (i : Int) ≠ 38› | (exfalso; omega))
    rw [one_pos (by omega) (by omega)] at hst
    have he := h1.1 (Classical.not_not.1 ‹_›)
    first|refine lq_back (i + 1, i + 1, ver + 1, _) (.of (.same (by repeat constructor))) ?_ ?_|refine lq_back (i + 1, i + 1, ver + 1, _) (.of (wk_drop [_] rfl (by repeat constructor) rfl (by repeat constructor) rfl)) ?_ ?_|refine lq_back (i + 1, i + 1, ver + 1, _) (.of (wk_drop [_, _] rfl (by repeat constructor) rfl (by repeat constructor) rfl)) ?_ ?_|refine lq_back (i + 1, i + 1, ver + 1, _) (.of (wk_drop [_, _, _] rfl (by repeat constructor) rfl (by repeat constructor) rfl)) ?_ ?_
    · refine ⟨Nat.le_refl _, by dsimp only; omega, by dsimp only; simp; omega, fun j h1 h2 => by dsimp only at h1 h2; omega, fun h => h, ?_, ?_⟩
      · dsimp only
        rw [hall, hst, List.all_append, List.all_cons, he]
        rfl
      · dsimp only
        rw [hcnt, hst]
        simp [prAV, ← h5 (Classical.not_not.1 ‹_›)]
    · dsimp only; omega
  · have hst := nz_step hai (by omega) hno (fun hlt => by first | exact Classical.not_not.1 ‹¬byteAt s (i : Int) ≠ 38› | (exfalso; omega))
    obtain rfl : a = i := by omega
    rw [one_nil, List.nil_append] at hst
    first|refine lq_back (a + 1, a + 1, ver, xs) (.of (.same (by repeat constructor))) ?_ ?_|refine lq_back (a + 1, a + 1, ver, xs) (.of (wk_drop [_] rfl (by repeat constructor) rfl (by repeat constructor) rfl)) ?_ ?_|refine lq_back (a + 1, a + 1, ver, xs) (.of (wk_drop [_, _] rfl (by repeat constructor) rfl (by repeat constructor) rfl)) ?_ ?_|refine lq_back (a + 1, a + 1, ver, xs) (.of (wk_drop [_, _, _] rfl (by repeat constructor) rfl (by repeat constructor) rfl)) ?_ ?_
    · exact ⟨Nat.le_refl _, by dsimp only; omega, by dsimp only; omega, fun j h1 h2 => by dsimp only at h1 h2; omega, fun h => h, by dsimp only; rw [hall, hst], by dsimp only; rw [hcnt, hst]⟩
    · dsimp only; omega
  · have hst := nz_step hai (by omega) hno (fun hlt => by first | exact Classical.not_not.1 ‹¬byteAt s (i : Int) ≠ 38› | (exfalso; omega))
    rw [one_pos (by omega) (by omega)] at hst
    refine retq_wkn (.nil 2 rfl) ?_
    refine ret3 (by first | exact .inr rfl | exact .inl rfl) rfl rfl rfl rfl ?_
    refine ⟨⟨_, _, _, rfl, ⟨fun h => absurd h ‹_›, fun h => ?_⟩, by omega, by omega, fun h => absurd h ‹_›⟩, rfl⟩
    rw [formOk, Bool.and_eq_true, hall, hst, List.all_append, Bool.and_eq_true] at h
    have := h.1.1
    rw [List.all_cons, List.all_nil, Bool.and_true, ← h1] at this
    exact absurd this ‹_›
  · have hst := nz_step hai (by omega) hno (fun hlt => by first | exact Classical.not_not.1 ‹¬byteAt s (i : Int) ≠ 38› | (exfalso; omega))
    rw [one_pos (by omega) (by omega)] at hst
    have he := h1.1 (Classical.not_not.1 ‹_›)
    first|refine lq_back (i + 1, i + 1, ver + 1, _) (.of (.same (by repeat constructor))) ?_ ?_|refine lq_back (i + 1, i + 1, ver + 1, _) (.of (wk_drop [_] rfl (by repeat constructor) rfl (by repeat constructor) rfl)) ?_ ?_|refine lq_back (i + 1, i + 1, ver + 1, _) (.of (wk_drop [_, _] rfl (by repeat constructor) rfl (by repeat constructor) rfl)) ?_ ?_|refine lq_back (i + 1, i + 1, ver + 1, _) (.of (wk_drop [_, _, _] rfl (by repeat constructor) rfl (by repeat constructor) rfl)) ?_ ?_
    · refine ⟨Nat.le_refl _, by dsimp only; omega, by dsimp only; simp; omega, fun j h1 h2 => by dsimp only at h1 h2; omega, fun h => h, ?_, ?_⟩
      · dsimp only
        rw [hall, hst, List.all_append, List.all_cons, he]
        rfl
      · dsimp only
        rw [hcnt, hst]
        simp [prAV, ← h5 (Classical.not_not.1 ‹_›)]
    · dsimp only; omega
  · have hst := nz_step hai (by omega) hno (fun hlt => by first | exact Classical.not_not.1 ‹¬byteAt s (i : Int) ≠ 38› | (exfalso; omega))
    obtain rfl : a = i := by omega
    rw [one_nil, List.nil_append] at hst
    first|refine lq_back (a + 1, a + 1, ver, xs) (.of (.same (by repeat constructor))) ?_ ?_|refine lq_back (a + 1, a + 1, ver, xs) (.of (wk_drop [_] rfl (by repeat constructor) rfl (by repeat constructor) rfl)) ?_ ?_|refine lq_back (a + 1, a + 1, ver, xs) (.of (wk_drop [_, _] rfl (by repeat constructor) rfl (by repeat constructor) rfl)) ?_ ?_|refine lq_back (a + 1, a + 1, ver, xs) (.of (wk_drop [_, _, _] rfl (by repeat constructor) rfl (by repeat constructor) rfl)) ?_ ?_
    · exact ⟨Nat.le_refl _, by dsimp only; omega, by dsimp only; omega, fun j h1 h2 => by dsimp only at h1 h2; omega, fun h => h, by dsimp only; rw [hall, hst], by dsimp only; rw [hcnt, hst]⟩
    · dsimp only; omega
  all_goals
    have ha := hlast (by omega)
    rw [ha, List.drop_eq_nil_of_le (show s.length ≤ s.length + 1 by omega), show nz [] = [] from rfl] at hall hcnt
    rw [List.map_nil, List.append_nil] at hcnt
    have hcl := congrArg List.length hcnt
    rw [List.length_map] at hcl
    have hfm : xs = (formP s).map prAV := by rw [formP, List.map_map]; exact hcnt.symm
    first
      | (refine retq_wkn (.nil 2 rfl) ?_
         refine ret3 (by first | exact .inr rfl | exact .inl rfl) rfl rfl rfl rfl ?_
         refine ⟨⟨_, _, _, rfl, ?_, by omega, by omega, fun h => absurd h (by decide)⟩, rfl⟩
         rw [formOk, hall, List.all_nil, Bool.true_and, decide_eq_true_eq]
         omega)
      | (refine retq_wkn (.freeze 2 rfl (by repeat constructor)) ?_
         refine ret3 (by first | exact .inr rfl | exact .inl rfl) rfl rfl rfl rfl ?_
         refine ⟨⟨_, _, _, rfl, ?_, by omega, by omega, fun _ => hfm⟩, rfl⟩
         rw [formOk, hall, List.all_nil, Bool.true_and, decide_eq_true_eq]
         omega)
end
end Go.Proofs.YtffcgpkbibijpaaGreatDoor.L

namespace Go.Proofs.YtffcgpkbibijpaaGreatDoor.L
open Go Go.RowKit Go.Proofs
set_option linter.unusedVariables false
set_option linter.unusedSimpArgs false
set_option maxRecDepth 100000
attribute [local irreducible] AL QL AWp Thn InB RetQ ACalls LoopQ HL HO HW HQ NoG

section
variable {w0 : World} {base : Nat}
theorem ne_get {s : List UInt8} {c : UInt8} {j : Nat} (h : byteAt s (j : Int) ≠ (c.toNat : Int)) (hj : j < s.length) : s[j]? ≠ some c := by
  rw [get_bAt hj]
  intro e
  injection e with e
  rw [byteAt_eq, e] at h
  exact h rfl
theorem eq_get {s : List UInt8} {c : UInt8} {j : Nat} (hj : j < s.length) (h : byteAt s (j : Int) = (c.toNat : Int)) : s[j]? = some c := by
  rw [get_bAt hj]
  exact congrArg some (u8_of_int c.toNat c.toNat_lt (by rw [← byteAt_eq]; exact h) |>.trans (by simp))
theorem podd_iff (s : List UInt8) (i : Nat) : pOdd (bAt s (i : Int)) = true ↔ (byteAt s (i : Int) < 33 ∨ 126 < byteAt s (i : Int) ∨ byteAt s (i : Int) = 35) := by
  rw [byteAt_eq]
  unfold pOdd
  simp only [Bool.or_eq_true, decide_eq_true_eq]
  omega
theorem head47 {s : List UInt8} (h : s ≠ []) : (byteAt s 0 = 47) ↔ s.head? = some 47 := by
  cases s with
  | nil => exact absurd rfl h
  | cons b r =>
    show ((b.toNat : Int) = 47) ↔ some b = some 47
    constructor
    · intro e; exact congrArg some (u8_of_int 47 (by decide) e)
    · intro e; injection e with e; subst e; rfl
set_option maxHeartbeats 4000000 in
theorem s_targetR {s : List UInt8} (hs : s.length ≤ 4096) : PCalls (EE w0 base) 61 [.str s] (TgtR s) := by
  refine acalls_of Tryz.func61 rfl rfl rfl (.cons .nil) ?_
  by_cases hne : s = []
  · subst hne
    have htg : tgtOk [] = false := rfl
    repeat' (first|((refine al_v (ov_seq rfl rfl) rfl ?_))|(refine k_al ?_;first|(refine al_v (ov_move rfl) rfl ?_)|(refine k_g ?_;first|(refine al_gy' rfl rfl (by with_reducible rfl) ?_)|(refine al_gnf rfl rfl (by with_reducible rfl) rfl ?_)|(refine al_gsp rfl rfl (fun hc => ?_) (fun hc => ?_) <;> (try (exfalso;omega))))|(refine k_bin ?_;first|(refine al_v (ov_cmp rfl rfl rfl) rfl ?_)|(refine al_v (ov_add rfl rfl (by (first|exact w64 (by omega) (by omega)|rfl))) rfl ?_)|(refine al_v (ov_sub rfl rfl (by (first|exact w64 (by omega) (by omega)|rfl))) rfl ?_)|(refine al_v (ov_seq rfl rfl) rfl ?_))|(refine k_pick ?_;first|(refine al_v (ov_pick_t' rfl (by with_reducible rfl) rfl) rfl ?_)|(refine al_v (ov_pick_f' rfl (by with_reducible rfl) rfl) rfl ?_))|(refine al_v (ov_assign rfl) rfl ?_)|(refine k_call ?_;first|(refine al_v (ov_len_str rfl) rfl ?_))|(refine al_v (ov_extract rfl rfl) rfl ?_)|(refine al_nil ?_)|(refine al_v (ov_index rfl rfl (by omega) (by omega)) rfl ?_))|(first|(refine thn_n ?_)|(refine k_awp ?_;first|(refine awp_seq (awp_region ?_))|(refine awp_seq ?_)|(refine awp_region ?_)|(refine k_cond ?_;first|(refine awp_cond_t' rfl (by with_reducible rfl) ?_)|(refine awp_cond_p rfl (fun hc => ?_) (fun hc => ?_) <;> (try (exfalso;omega))))|(refine awp_block ?_)|(refine awp_ret ?_)|(refine awp_skip ?_)|(refine awp_exit ?_))|(refine thn_ret ?_)|(refine lq_exit ?_)|(refine lq_ret ?_)|(refine thn_exit ?_)|(refine inb_n ?_)|(refine inb_ret ?_)|(refine inb_here ?_)))
    · exact absurd ‹_› (by decide)
    · refine retq_wkn (.nil 3 rfl) ?_
      refine ret4 (by first | exact .inr rfl | exact .inl rfl) rfl rfl rfl rfl rfl ?_
      exact ⟨⟨_, _, _, _, rfl, ⟨fun h => absurd h (by decide), fun h => by rw [htg] at h; cases h⟩, fun h => absurd h (by decide)⟩, rfl⟩
    · exact absurd rfl ‹_›
  have hnl : 0 < s.length := List.length_pos_iff.2 hne
  have hhd := head47 hne
  repeat' (first|((refine al_v (ov_index rfl rfl (by decide) (by omega)) rfl ?_))|(refine k_al ?_;first|(refine al_v (ov_move rfl) rfl ?_)|(refine k_g ?_;first|(refine al_gy' rfl rfl (by with_reducible rfl) ?_)|(refine al_gnf rfl rfl (by with_reducible rfl) rfl ?_)|(refine al_gsp rfl rfl (fun hc => ?_) (fun hc => ?_) <;> (try (exfalso;omega))))|(refine k_bin ?_;first|(refine al_v (ov_cmp rfl rfl rfl) rfl ?_)|(refine al_v (ov_add rfl rfl (by (first|exact w64 (by omega) (by omega)|rfl))) rfl ?_)|(refine al_v (ov_sub rfl rfl (by (first|exact w64 (by omega) (by omega)|rfl))) rfl ?_)|(refine al_v (ov_seq rfl rfl) rfl ?_))|(refine k_pick ?_;first|(refine al_v (ov_pick_t' rfl (by with_reducible rfl) rfl) rfl ?_)|(refine al_v (ov_pick_f' rfl (by with_reducible rfl) rfl) rfl ?_))|(refine al_v (ov_assign rfl) rfl ?_)|(refine k_call ?_;first|(refine al_v (ov_len_str rfl) rfl ?_))|(refine al_v (ov_extract rfl rfl) rfl ?_)|(refine al_nil ?_)|(refine al_v (ov_index rfl rfl (by omega) (by omega)) rfl ?_))|(first|(refine thn_n ?_)|(refine k_awp ?_;first|(refine awp_seq (awp_region ?_))|(refine awp_seq ?_)|(refine awp_region ?_)|(refine k_cond ?_;first|(refine awp_cond_t' rfl (by with_reducible rfl) ?_)|(refine awp_cond_p rfl (fun hc => ?_) (fun hc => ?_) <;> (try (exfalso;omega))))|(refine awp_block ?_)|(refine awp_ret ?_)|(refine awp_skip ?_)|(refine awp_exit ?_))|(refine thn_ret ?_)|(refine lq_exit ?_)|(refine lq_ret ?_)|(refine thn_exit ?_)|(refine inb_n ?_)|(refine inb_ret ?_)|(refine inb_here ?_)))
  · refine retq_wkn (.nil 3 rfl) ?_
    refine ret4 (by first | exact .inr rfl | exact .inl rfl) rfl rfl rfl rfl rfl ?_
    refine ⟨⟨_, _, _, _, rfl, ⟨fun h => absurd h (by decide), fun h => ?_⟩, fun h => absurd h (by decide)⟩, rfl⟩
    rw [tgtOk, Bool.and_eq_true, decide_eq_true_eq] at h
    omega
  · exact absurd ‹s = _› hne
  · refine retq_wkn (.nil 3 rfl) ?_
    refine ret4 (by first | exact .inr rfl | exact .inl rfl) rfl rfl rfl rfl rfl ?_
    refine ⟨⟨_, _, _, _, rfl, ⟨fun h => absurd h (by decide), fun h => ?_⟩, fun h => absurd h (by decide)⟩, rfl⟩
    rw [tgtOk, Bool.and_eq_true, Bool.and_eq_true, decide_eq_true_eq, decide_eq_true_eq, ← hhd] at h
    exact absurd h.2.1 ‹_›
  have hhd' : s.head? = some 47 := hhd.1 (Classical.not_not.1 ‹_›)
  have hle : s.length ≤ 1024 := by omega
  have htg : tgtOk s = (s.all (fun b => !pOdd b) && (decOk (Lib.cut s [63]).1 && (!(Lib.cut s [63]).2.2 || formOk (Lib.cut s [63]).2.1))) := by
    rw [tgtOk, decide_eq_true hle, decide_eq_true hhd', Bool.true_and, Bool.true_and]
  refine awp_loopq (fun p : Int × Int => ⟨[(0, .str s), (6, .int .i64 p.2), (7, .int .i64 p.1)], []⟩) (fun p => -1 ≤ p.1 ∧ p.1 < p.2 ∧ p.1 < s.length ∧ p.2 ≤ s.length ∧ (∀ j : Nat, p.1 < j → (j : Int) < p.2 → byteAt s (j : Int) ≠ 63) ∧ (p.2 < s.length → byteAt s p.2 = 63)) (fun p => (p.1 + 1).toNat) ((s.length : Int) - 1, (s.length : Int)) (.of (.same (by repeat constructor))) ⟨by dsimp only;omega, by dsimp only;omega, by dsimp only;omega, by dsimp only;omega, fun j h1 h2 => by dsimp only at h1 h2;omega, fun h => by dsimp only at h;omega⟩ ?_
  rintro ⟨i, k⟩ ⟨hi1, hik, hil, hk, hno, hyes⟩
  dsimp only at hi1 hik hil hk hno hyes ⊢
  repeat' (first|(refine k_al ?_;first|(refine al_v (ov_move rfl) rfl ?_)|(refine k_g ?_;first|(refine al_gy' rfl rfl (by with_reducible rfl) ?_)|(refine al_gnf rfl rfl (by with_reducible rfl) rfl ?_)|(refine al_gsp rfl rfl (fun hc => ?_) (fun hc => ?_) <;> (try (exfalso;omega))))|(refine k_bin ?_;first|(refine al_v (ov_cmp rfl rfl rfl) rfl ?_)|(refine al_v (ov_add rfl rfl (by (first|exact w64 (by omega) (by omega)|rfl))) rfl ?_)|(refine al_v (ov_sub rfl rfl (by (first|exact w64 (by omega) (by omega)|rfl))) rfl ?_)|(refine al_v (ov_seq rfl rfl) rfl ?_))|(refine k_pick ?_;first|(refine al_v (ov_pick_t' rfl (by with_reducible rfl) rfl) rfl ?_)|(refine al_v (ov_pick_f' rfl (by with_reducible rfl) rfl) rfl ?_))|(refine al_v (ov_assign rfl) rfl ?_)|(refine k_call ?_;first|(refine al_v (ov_len_str rfl) rfl ?_))|(refine al_v (ov_extract rfl rfl) rfl ?_)|(refine al_nil ?_)|(refine al_v (ov_index rfl rfl (by omega) (by omega)) rfl ?_))|(first|(refine thn_n ?_)|(refine k_awp ?_;first|(refine awp_seq (awp_region ?_))|(refine awp_seq ?_)|(refine awp_region ?_)|(refine k_cond ?_;first|(refine awp_cond_t' rfl (by with_reducible rfl) ?_)|(refine awp_cond_p rfl (fun hc => ?_) (fun hc => ?_) <;> (try (exfalso;omega))))|(refine awp_block ?_)|(refine awp_ret ?_)|(refine awp_skip ?_)|(refine awp_exit ?_))|(refine thn_ret ?_)|(refine lq_exit ?_)|(refine lq_ret ?_)|(refine thn_exit ?_)|(refine inb_n ?_)|(refine inb_ret ?_)|(refine inb_here ?_)))
  · first | refine lq_back (i - 1, i) (.of (.same (by repeat constructor))) ?_ ?_ | fail
    · exact ⟨by dsimp only; omega, by dsimp only; omega, by dsimp only; omega, by dsimp only; omega, fun j h1 h2 => by dsimp only at h1 h2; omega, fun _ => ‹_›⟩
    · dsimp only; omega
  · first | refine lq_back (i - 1, k) (.of (.same (by repeat constructor))) ?_ ?_ | fail
    · refine ⟨by dsimp only; omega, by dsimp only; omega, by dsimp only; omega, hk, fun j h1 h2 => ?_, hyes⟩
      dsimp only at h1 h2
      rcases Int.lt_or_le i j with h | h
      · exact hno j h h2
      · obtain rfl : i = j := by omega
        assumption
    · dsimp only; omega
  have him : i = -1 := by omega
  subst him
  obtain ⟨n, rfl⟩ : ∃ n : Nat, k = n := ⟨k.toNat, by omega⟩
  have hcut : Lib.cut s [63] = if n < s.length then (s.take n, s.drop (n + 1), true) else (s, [], false) := by
    split
    · exact cut1_at (eq_get ‹_› (hyes (by omega))) (fun j hj => ne_get (hno j (by omega) (by omega)) (by omega))
    · refine cut1_no fun j he => ?_
      have hj := (List.getElem?_eq_some_iff.1 he).1
      exact ne_get (hno j (by omega) (by omega)) hj he
  refine awp_loopq (fun k : Nat => ⟨[(0, .str s), (6, .int .i64 n), (8, .int .i64 k)], []⟩) (fun k => k ≤ s.length ∧ ∀ j, j < k → pOdd (bAt s (j : Int)) = false) (fun k => s.length - k) 0 (.of (.same (by repeat constructor))) ⟨Nat.zero_le _, fun j h => absurd h (Nat.not_lt_zero _)⟩ ?_
  rintro i ⟨hi, hodd⟩
  try dsimp only
  have htk : (s.take n).length = n := by simp; omega
  have hdr : (s.drop (n + 1)).length = s.length - (n + 1) := by simp
  repeat' (first|(first|(refine al_v (ov_slice_hi rfl rfl (by omega) (by omega)) rfl ?_)|(refine al_v (ov_slice_lo rfl rfl (by omega) (by omega)) rfl ?_)|(refine k_call ?_;refine al_call rfl rfl rfl rfl (s_decodeR (s := s.take n) (by omega)) ?_;rintro _ ⟨l1, e1, k1, rfl, h11, h12, h13, h14, h15⟩)|(refine k_call ?_;refine al_call rfl rfl rfl rfl (s_formR (s := s.drop (n + 1)) (by omega)) ?_;rintro _ ⟨q2, e2, k2, rfl, h21, h23, h24, h25⟩))|(refine k_al ?_;first|(refine al_v (ov_move rfl) rfl ?_)|(refine k_g ?_;first|(refine al_gy' rfl rfl (by with_reducible rfl) ?_)|(refine al_gnf rfl rfl (by with_reducible rfl) rfl ?_)|(refine al_gsp rfl rfl (fun hc => ?_) (fun hc => ?_) <;> (try (exfalso;omega))))|(refine k_bin ?_;first|(refine al_v (ov_cmp rfl rfl rfl) rfl ?_)|(refine al_v (ov_add rfl rfl (by (first|exact w64 (by omega) (by omega)|rfl))) rfl ?_)|(refine al_v (ov_sub rfl rfl (by (first|exact w64 (by omega) (by omega)|rfl))) rfl ?_)|(refine al_v (ov_seq rfl rfl) rfl ?_))|(refine k_pick ?_;first|(refine al_v (ov_pick_t' rfl (by with_reducible rfl) rfl) rfl ?_)|(refine al_v (ov_pick_f' rfl (by with_reducible rfl) rfl) rfl ?_))|(refine al_v (ov_assign rfl) rfl ?_)|(refine k_call ?_;first|(refine al_v (ov_len_str rfl) rfl ?_))|(refine al_v (ov_extract rfl rfl) rfl ?_)|(refine al_nil ?_)|(refine al_v (ov_index rfl rfl (by omega) (by omega)) rfl ?_))|(first|(refine thn_n ?_)|(refine k_awp ?_;first|(refine awp_seq (awp_region ?_))|(refine awp_seq ?_)|(refine awp_region ?_)|(refine k_cond ?_;first|(refine awp_cond_t' rfl (by with_reducible rfl) ?_)|(refine awp_cond_p rfl (fun hc => ?_) (fun hc => ?_) <;> (try (exfalso;omega))))|(refine awp_block ?_)|(refine awp_ret ?_)|(refine awp_skip ?_)|(refine awp_exit ?_))|(refine thn_ret ?_)|(refine lq_exit ?_)|(refine lq_ret ?_)|(refine thn_exit ?_)|(refine inb_n ?_)|(refine inb_ret ?_)|(refine inb_here ?_)))
  iterate 3
    · have h0 : s.all (fun b => !pOdd b) = false := all_bAt_not (j := i) (by omega) (by show (!pOdd (bAt s (i : Int))) = false; rw [(podd_iff s i).2 (by omega)]; rfl)
      refine retq_wkn (.nil 3 rfl) ?_
      refine ret4 (by first | exact .inr rfl | exact .inl rfl) rfl rfl rfl rfl rfl ?_
      refine ⟨⟨_, _, _, _, rfl, ⟨fun h => absurd h (by decide), fun h => ?_⟩, fun h => absurd h (by decide)⟩, rfl⟩
      rw [htg, h0] at h
      cases h
  · first | refine lq_back (i + 1) (.of (.same (by repeat constructor))) ?_ ?_ | fail
    · refine ⟨by omega, fun j hj => ?_⟩
      rcases Nat.lt_or_ge j i with h | h
      · exact hodd j h
      · obtain rfl : j = i := by omega
        cases hp : pOdd (bAt s (j : Int)) with
        | false => rfl
        | true => have := (podd_iff s j).1 hp; omega
    · omega
  all_goals
    have hall : s.all (fun b => !pOdd b) = true := all_bAt (fun j hj => by show (!pOdd (bAt s (j : Int))) = true; rw [hodd j (by omega)]; rfl)
    have hc1 : (Lib.cut s [63]).1 = s.take n := by
      rw [hcut]
      split
      · rfl
      · rw [List.take_of_length_le (by omega)]
    rw [hall, Bool.true_and, hc1] at htg
  · refine retq_wkn (.nil 3 rfl) ?_
    refine ret4 (by first | exact .inr rfl | exact .inl rfl) rfl rfl rfl rfl rfl ?_
    refine ⟨⟨_, _, _, _, rfl, ⟨fun h => absurd h ‹_›, fun h => ?_⟩, fun h => absurd h ‹_›⟩, rfl⟩
    rw [htg, Bool.and_eq_true] at h
    exact absurd (h11.2 h.1) ‹_›
  · refine retq_wkn (.nil 3 rfl) ?_
    refine ret4 (by first | exact .inr rfl | exact .inl rfl) rfl rfl rfl rfl rfl ?_
    have hd1 : decOk (s.take n) = true := h11.1 (Classical.not_not.1 ‹_›)
    have hd2 := Classical.not_not.1 ‹¬ e1 ≠ 0›
    refine ⟨⟨_, _, _, _, rfl, ⟨fun _ => ?_, fun h => rfl⟩, fun _ => ?_⟩, rfl⟩
    · rw [htg, hd1, hcut, if_neg (by omega)]
      rfl
    · have hlt : ¬ n < s.length := by omega
      have hcut' := hcut
      rw [if_neg hlt] at hcut'
      unfold tgtP tgtQ
      rw [hc1, hcut']
      exact ⟨h15 hd2, rfl⟩
  all_goals
    have hd1 : decOk (s.take n) = true := h11.1 (Classical.not_not.1 ‹_›)
    have hd2 := Classical.not_not.1 ‹¬ e1 ≠ 0›
    rw [hd1, hcut, if_pos (by omega), Bool.true_and] at htg
    have htg' : tgtOk s = formOk (s.drop (n + 1)) := htg
    try refine retq_wkn (.nil 3 rfl) ?_
    refine ret4 (by first | exact .inr rfl | exact .inl rfl) rfl rfl rfl rfl rfl ?_
    refine ⟨⟨_, _, _, _, rfl, ?_, ?_⟩, rfl⟩
    · rw [htg', ← h21]
      try omega
    · intro h
      first
        | exact absurd h ‹_›
        | (exfalso; omega)
        | (have hlt : n < s.length := by omega
           have hcut' := hcut
           rw [if_pos hlt] at hcut'
           unfold tgtP tgtQ
           rw [hcut']
           exact ⟨h15 hd2, h25 (by omega)⟩)
end
end Go.Proofs.YtffcgpkbibijpaaGreatDoor.L
