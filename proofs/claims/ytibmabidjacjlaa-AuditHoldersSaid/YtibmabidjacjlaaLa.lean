/- The logic, part 1: abstract values and what they say of real ones; nothing of any one program. -/
import Derived.Calls
import Derived.Tactics
import Derived.Below
import Derived.Laws.AppendOwn
import Derived.Deep.Quiet
namespace Go.Proofs.Ytibmabidjacjlaa.L
open Go Go.RowKit
set_option linter.unusedVariables false
set_option linter.unusedSimpArgs false

inductive AV where
  | any
  | und
  | bool (b : Bool)
  | int (k : IntKind) (n : Int)
  | str (s : List UInt8)
  | nilsl
  | nilp
  | nilfn
  | nilif
  | iface
  | rs (xs : List (List AV))
  | rp (cs : List AV)
  | op (id off : Nat)
  | os (id ver : Nat)
  | er (id ver sz i off : Nat)
  | mp (id : Nat)
  | fn (f : Nat) (caps : List AV)
  | agg (cs : List AV)
  | tup (vs : List AV)

/-- What the ids of a state stand for: how many there are; of a row the newest version; the real value (a box: a pointer to its head; a row's version: the slice; a map: the map). -/
structure Nu where
  n : Nat
  top : Nat → Nat
  val : Nat → Nat → Value

/-- Which cells never change any more. -/
abbrev Imm := Nat → Nat → Prop

def AV.scal : AV → Bool
  | .agg _ => false
  | .tup _ => false
  | _ => true

inductive VP (w : World) (I : Imm) : AV → Value → Prop where
  | bool (b : Bool) : VP w I (.bool b) (.bool b)
  | int (k : IntKind) (n : Int) : VP w I (.int k n) (.int k n)
  | str (s : List UInt8) : VP w I (.str s) (.string ⟨s.toArray⟩)
  | nilsl : VP w I .nilsl (.slice none 0 0)
  | nilp : VP w I .nilp (.pointer none)
  | nilfn : VP w I .nilfn .nilFunc
  | nilif : VP w I .nilif .nilIface
  | iface (t : TypeId) (v : Value) : VP w I .iface (.iface t v)
  | fn (f : Nat) : VP w I (.fn f []) (.func (.func f) #[] #[])
  | rs0 (A : Option Addr) (c : Nat) : VP w I (.rs []) (.slice A 0 c)
  | rs (xs : List (List AV)) (sz : Nat) (b off c : Nat) (us : Nat → Value) (h0 : 0 < sz) (hc : xs.length ≤ c) (hm : c ≤ maxLen)
      (hs : ∀ (i : Nat) row, xs[i]? = some row → row.length = sz)
      (hu : ∀ j, j < xs.length * sz → w.cell? ⟨b, off + j, none⟩ = some (us j) ∧ I b (off + j))
      (hx : ∀ (i j : Nat) row x, xs[i]? = some row → row[j]? = some x → VP w I x (us (i * sz + j))) : VP w I (.rs xs) (.slice (some ⟨b, off, none⟩) xs.length c)

inductive VR (w : World) (I : Imm) (ν : Nu) : AV → Value → Prop where
  | any (v : Value) : VR w I ν .any v
  | und (v : Value) (h : v = undef) : VR w I ν .und v
  | pure {x : AV} {v : Value} (h : VP w I x v) : VR w I ν x v
  | rp (cs : List AV) (b off : Nat) (us : Nat → Value) (h : ∀ (j : Nat) x, cs[j]? = some x → w.cell? ⟨b, off + j, none⟩ = some (us j) ∧ I b (off + j) ∧ VP w I x (us j)) : VR w I ν (.rp cs) (.pointer (some ⟨b, off, none⟩))
  | op (id off b : Nat) (hi : id < ν.n) (h : ν.val id 0 = .pointer (some ⟨b, 0, none⟩)) : VR w I ν (.op id off) (.pointer (some ⟨b, off, none⟩))
  | os (id ver : Nat) (A : Option Addr) (n c : Nat) (hi : id < ν.n) (hv : ver ≤ ν.top id) (hs : ν.val id ver = .slice A n c) : VR w I ν (.os id ver) (.slice A n c)
  | er (id ver sz i off g n c : Nat) (hi : id < ν.n) (hv : ver ≤ ν.top id) (h : ν.val id ver = .slice (some ⟨g, 0, none⟩) n c) : VR w I ν (.er id ver sz i off) (.pointer (some ⟨g, i * sz + off, none⟩))
  | mp (id r : Nat) (hi : id < ν.n) (hs : ν.val id 0 = .map (some r)) : VR w I ν (.mp id) (.map (some r))
  | fn (f : Nat) (caps : List AV) (vs : List Value) (hl : caps.length = vs.length) (h : ∀ (j : Nat) x v, caps[j]? = some x → vs[j]? = some v → VR w I ν x v) : VR w I ν (.fn f caps) (.func (.func f) #[] vs.toArray)
  | agg (cs : List AV) (vs : List Value) (hl : cs.length = vs.length) (h : ∀ (j : Nat) x v, cs[j]? = some x → vs[j]? = some v → VR w I ν x v) : VR w I ν (.agg cs) (.agg vs.toArray)
  | tup (cs : List AV) (vs : List Value) (hl : cs.length = vs.length) (h : ∀ (j : Nat) x v, cs[j]? = some x → vs[j]? = some v → VR w I ν x v) : VR w I ν (.tup cs) (.tuple vs.toArray)

/-- The immutable cells read on. -/
def ImmLe (w : World) (I : Imm) (w' : World) (I' : Imm) : Prop := (∀ b o, I b o → I' b o) ∧ ∀ b o, I b o → w'.cell? ⟨b, o, none⟩ = w.cell? ⟨b, o, none⟩
theorem ImmLe.refl (w : World) (I : Imm) : ImmLe w I w I := ⟨fun _ _ h => h, fun _ _ _ => rfl⟩
theorem ImmLe.trans {w1 w2 w3 : World} {I1 I2 I3 : Imm} (h : ImmLe w1 I1 w2 I2) (k : ImmLe w2 I2 w3 I3) : ImmLe w1 I1 w3 I3 :=
  ⟨fun b o hi => k.1 b o (h.1 b o hi), fun b o hi => (k.2 b o (h.1 b o hi)).trans (h.2 b o hi)⟩

structure Nu.le (ν ν' : Nu) : Prop where
  n : ν.n ≤ ν'.n
  top : ∀ id, id < ν.n → ν.top id ≤ ν'.top id
  val : ∀ id ver, id < ν.n → ver ≤ ν.top id → ν'.val id ver = ν.val id ver
theorem Nu.le.refl (ν : Nu) : ν.le ν := ⟨Nat.le_refl _, fun _ _ => Nat.le_refl _, fun _ _ _ _ => rfl⟩
theorem Nu.le.trans {a b c : Nu} (h : a.le b) (k : b.le c) : a.le c :=
  ⟨Nat.le_trans h.n k.n, fun id hi => Nat.le_trans (h.top id hi) (k.top id (Nat.lt_of_lt_of_le hi h.n)),
   fun id ver hi hv => (k.val id ver (Nat.lt_of_lt_of_le hi h.n) (Nat.le_trans hv (h.top id hi))).trans (h.val id ver hi hv)⟩

theorem VP.mono {w w' : World} {I I' : Imm} (hI : ImmLe w I w' I') {x : AV} {v : Value} (h : VP w I x v) : VP w' I' x v := by
  induction h with
  | bool b => exact .bool b
  | int k n => exact .int k n
  | str s => exact .str s
  | nilsl => exact .nilsl
  | nilp => exact .nilp
  | nilfn => exact .nilfn
  | nilif => exact .nilif
  | iface t v => exact .iface t v
  | fn f => exact .fn f
  | rs0 A c => exact .rs0 A c
  | rs xs sz b off c us h0 hc hm hs hu hx ih =>
    exact .rs xs sz b off c us h0 hc hm hs (fun j hj => ⟨by rw [hI.2 _ _ (hu j hj).2]; exact (hu j hj).1, hI.1 _ _ (hu j hj).2⟩) ih

theorem VR.mono {w w' : World} {I I' : Imm} {ν ν' : Nu} (hI : ImmLe w I w' I') (hν : ν.le ν') {x : AV} {v : Value} (h : VR w I ν x v) : VR w' I' ν' x v := by
  induction h with
  | any v => exact .any v
  | und v h => exact .und v h
  | pure h => exact .pure (h.mono hI)
  | rp cs b off us h => exact .rp cs b off us fun j x hj => ⟨by rw [hI.2 _ _ (h j x hj).2.1]; exact (h j x hj).1, hI.1 _ _ (h j x hj).2.1, (h j x hj).2.2.mono hI⟩
  | op id off b hi h => exact .op id off b (Nat.lt_of_lt_of_le hi hν.n) ((hν.val id 0 hi (Nat.zero_le _)).trans h)
  | os id ver A n c hi hv hs => exact .os id ver A n c (Nat.lt_of_lt_of_le hi hν.n) (Nat.le_trans hv (hν.top id hi)) ((hν.val id ver hi hv).trans hs)
  | er id ver sz i off g n c hi hv h => exact .er id ver sz i off g n c (Nat.lt_of_lt_of_le hi hν.n) (Nat.le_trans hv (hν.top id hi)) ((hν.val id ver hi hv).trans h)
  | mp id r hi hs => exact .mp id r (Nat.lt_of_lt_of_le hi hν.n) ((hν.val id 0 hi (Nat.zero_le _)).trans hs)
  | fn f caps vs hl h ih => exact .fn f caps vs hl ih
  | agg cs vs hl h ih => exact .agg cs vs hl ih
  | tup cs vs hl h ih => exact .tup cs vs hl ih

/-! ### Objects of the call's own -/
inductive AO where
  | gone
  | box (cells : List AV)
  | row (e : TypeId) (sz ver fz : Nat) (xs : List (List AV))
  | map (es : List (AV × AV))
  | iter (mid n : Nat) (seen : List Nat)

/-- P: the program; below block number base memory is as in w0; the first k objects are the caller's. -/
structure Env where
  P : Program
  w0 : World
  base : Nat
  k : Nat := 0

/-- No id stands for anything. -/
def nu0 : Nu := ⟨0, fun _ => 0, fun _ _ => .bool false⟩
theorem nu0_le (ν : Nu) : nu0.le ν := ⟨Nat.zero_le _, fun id h => absurd h (Nat.not_lt_zero _), fun id ver h => absurd h (Nat.not_lt_zero _)⟩

/-- A map's entries, as they lie: born one behind the other, none has gone. -/
def MapRel (w : World) (I : Imm) (es : List (AV × AV)) (en : List MapEntry) : Prop :=
  es.length = en.length ∧ ∀ (i : Nat) p x, es[i]? = some p → en[i]? = some x → x.born = i ∧ VR w I nu0 p.1 x.key ∧ VR w I nu0 p.2 x.val

/-- A row's own cells, as they lie: nothing in them is an object of the call's own. -/
def RowRel (w : World) (I : Imm) (sz : Nat) (xs : List (List AV)) (inner : List Value) : Prop :=
  inner.length = xs.length * sz ∧ ∀ (i : Nat) c, xs[i]? = some c → c.length = sz ∧ ∀ (j : Nat) x, c[j]? = some x → ∃ u, inner[i * sz + j]? = some u ∧ VP w I x u

inductive OR (E : Env) (w : World) (I : Imm) (ν : Nu) (id : Nat) : AO → Prop where
  | gone : OR E w I ν id .gone
  | box (cells : List AV) (b : Nat) (vs : List Value) (ty : TypeId) (hv : ν.val id 0 = .pointer (some ⟨b, 0, none⟩)) (hb : E.base ≤ b)
      (hh : w.heap[b]? = some (.cells vs.toArray ty (0, 0))) (hl : cells.length = vs.length)
      (hx : ∀ (j : Nat) x v, cells[j]? = some x → vs[j]? = some v → VR w I ν x v) (hI : ∀ o, ¬ I b o) : OR E w I ν id (.box cells)
  | row (e : TypeId) (sz ver fz : Nat) (xs : List (List AV)) (inner : List Value) (ht : ν.top id = ver) (h0 : 0 < sz)
      (ho : w.ownsRow E.base e sz (ν.val id ver) xs.length inner) (hr : RowRel w I sz xs inner) (hf : fz ≤ xs.length)
      (hI : ∀ b o, (ν.val id ver).ownBlock = some b → I b o → o < fz * sz) : OR E w I ν id (.row e sz ver fz xs)
  | map (es : List (AV × AV)) (b : Nat) (en : List MapEntry) (hv : ν.val id 0 = .map (some b)) (hb : E.base ≤ b) (hh : w.heap[b]? = some (.map en.toArray en.length)) (hr : MapRel w I es en) : OR E w I ν id (.map es)
  | iter (mid n : Nat) (seen : List Nat) (r b : Nat) (hv : ν.val id 0 = .pointer (some ⟨r, 0, none⟩)) (hb : E.base ≤ r) (hm : mid < ν.n) (hmv : ν.val mid 0 = .map (some b)) (hh : w.heap[r]? = some (.mapIter (some b) n seen.toArray n)) (hk : mid < id) :
      OR E w I ν id (.iter mid n seen)

/-- The block of an object, if it has one. -/
def OB (ν : Nu) (id : Nat) : AO → Option Nat
  | .gone => none
  | .box _ => match ν.val id 0 with
    | .pointer (some a) => some a.block
    | _ => none
  | .row _ _ ver _ _ => (ν.val id ver).ownBlock
  | .map _ => match ν.val id 0 with
    | .map r => r
    | _ => none
  | .iter _ _ _ => match ν.val id 0 with
    | .pointer (some a) => some a.block
    | _ => none

/-- The blocks of objects. -/
def FB (ν : Nu) (objs : List AO) (b : Nat) : Prop := ∃ id o, objs[id]? = some o ∧ OB ν id o = some b

structure HR (E : Env) (I : Imm) (ν : Nu) (objs : List AO) (w : World) : Prop where
  n : ν.n = objs.length
  below : Below E.base E.w0 w
  base : E.base ≤ w.heap.size
  imm : ∀ b o, I b o → ∃ v, w.cell? ⟨b, o, none⟩ = some v
  obj : ∀ (id : Nat) o, objs[id]? = some o → OR E w I ν id o
  disj : ∀ (id id' : Nat) o o' b, objs[id]? = some o → objs[id']? = some o' → OB ν id o = some b → OB ν id' o' = some b → id = id'

/-- A later world in which what never changes, and the blocks of objects, are as they were. -/
structure Still (ν : Nu) (objs : List AO) (I : Imm) (w w' : World) : Prop where
  size : w.heap.size ≤ w'.heap.size
  imm : ∀ b o, I b o → w'.cell? ⟨b, o, none⟩ = w.cell? ⟨b, o, none⟩
  obj : ∀ (id : Nat) o b, objs[id]? = some o → OB ν id o = some b → w'.heap[b]? = w.heap[b]?
theorem Still.refl (ν : Nu) (objs : List AO) (I : Imm) (w : World) : Still ν objs I w w := ⟨Nat.le_refl _, fun _ _ _ => rfl, fun _ _ _ _ _ => rfl⟩

structure FR (k : Nat) (w : World) (I : Imm) (ν : Nu) (objs : List AO) (w' : World) (I' : Imm) (ν' : Nu) (objs' : List AO) : Prop where
  imm : ImmLe w I w' I'
  size : w.heap.size ≤ w'.heap.size
  new : ∀ b o, I' b o → I b o ∨ FB ν objs b ∨ w.heap.size ≤ b
  keep : ∀ b, b < w.heap.size → ¬ FB ν objs b → w'.heap[b]? = w.heap[b]?
  foot : ∀ b, FB ν' objs' b → FB ν objs b ∨ w.heap.size ≤ b
  ag : ∀ id, id < k → id < ν.n → id < ν'.n ∧ ν.top id ≤ ν'.top id ∧ ∀ ver, ver ≤ ν.top id → ν'.val id ver = ν.val id ver
  gone : ∀ id, id < k → objs[id]? = some .gone → ν'.top id = ν.top id ∧ objs'[id]? = some .gone

theorem Nu.le.ag {ν ν' : Nu} (h : ν.le ν') (k : Nat) : ∀ id, id < k → id < ν.n → id < ν'.n ∧ ν.top id ≤ ν'.top id ∧ ∀ ver, ver ≤ ν.top id → ν'.val id ver = ν.val id ver :=
  fun id _ hi => ⟨Nat.lt_of_lt_of_le hi h.n, h.top id hi, fun ver hv => h.val id ver hi hv⟩

theorem FR.refl {k : Nat} (w : World) (I : Imm) (ν : Nu) (objs : List AO) : FR k w I ν objs w I ν objs :=
  ⟨ImmLe.refl _ _, Nat.le_refl _, fun _ _ h => .inl h, fun _ _ _ => rfl, fun _ h => .inl h, fun _ _ h => ⟨h, Nat.le_refl _, fun _ _ => rfl⟩, fun _ _ h => ⟨rfl, h⟩⟩
theorem FR.trans {k0 : Nat} {w1 w2 w3 : World} {I1 I2 I3 : Imm} {ν1 ν2 ν3 : Nu} {o1 o2 o3 : List AO} (h : FR k0 w1 I1 ν1 o1 w2 I2 ν2 o2) (k : FR k0 w2 I2 ν2 o2 w3 I3 ν3 o3) : FR k0 w1 I1 ν1 o1 w3 I3 ν3 o3 where
  imm := h.imm.trans k.imm
  size := Nat.le_trans h.size k.size
  new b o hi := by
    rcases k.new b o hi with h1 | h1 | h1
    · exact h.new b o h1
    · rcases h.foot b h1 with h2 | h2
      · exact .inr (.inl h2)
      · exact .inr (.inr h2)
    · exact .inr (.inr (Nat.le_trans h.size h1))
  keep b hb hn := by
    have h1 : ¬ FB ν2 o2 b := fun hf => by
      rcases h.foot b hf with h2 | h2
      · exact hn h2
      · omega
    exact (k.keep b (Nat.lt_of_lt_of_le hb h.size) h1).trans (h.keep b hb hn)
  foot b hb := by
    rcases k.foot b hb with h1 | h1
    · exact h.foot b h1
    · exact .inr (Nat.le_trans h.size h1)
  ag id hk hi := by
    obtain ⟨h1, h2, h3⟩ := h.ag id hk hi
    obtain ⟨k1, k2, k3⟩ := k.ag id hk h1
    exact ⟨k1, Nat.le_trans h2 k2, fun ver hv => (k3 ver (Nat.le_trans hv h2)).trans (h3 ver hv)⟩
  gone id hi hg := by
    obtain ⟨h1, h2⟩ := h.gone id hi hg
    obtain ⟨k1, k2⟩ := k.gone id hi h2
    exact ⟨k1.trans h1, k2⟩

/-! ### States -/
abbrev Slots := List (Nat × AV)
structure St where
  sl : Slots
  objs : List AO

def lk : Slots → Nat → Option AV
  | [], _ => none
  | (t, v) :: r, k => match Nat.beq t k with
    | true => some v
    | false => lk r k

def SlR (w : World) (I : Imm) (ν : Nu) (sl : Slots) (a : Act) : Prop := ∀ t x, lk sl t = some x → VR w I ν x (a.tmps.getD t undef)

structure SR (E : Env) (N : Nat) (I : Imm) (ν : Nu) (σ : St) (a : Act) (w : World) : Prop where
  hr : HR E I ν σ.objs w
  sl : SlR w I ν σ.sl a
  df : a.defers = []
  nt : a.tmps.size = N

theorem lk_cons_same (t : Nat) (v : AV) (r : Slots) : lk ((t, v) :: r) t = some v := by simp [lk]
theorem lk_cons (t : Nat) (v : AV) (r : Slots) (k : Nat) : lk ((t, v) :: r) k = if t = k then some v else lk r k := by
  simp only [lk]
  by_cases h : t = k
  · subst h; simp
  · rw [if_neg h]
    cases hb : Nat.beq t k with
    | true => exact absurd (Nat.eq_of_beq_eq_true hb) h
    | false => rfl

theorem SlR.mono {w w' : World} {I I' : Imm} {ν ν' : Nu} (hI : ImmLe w I w' I') (hν : ν.le ν') {sl : Slots} {a : Act} (h : SlR w I ν sl a) : SlR w' I' ν' sl a :=
  fun t x hx => (h t x hx).mono hI hν

theorem SlR.put {w : World} {I : Imm} {ν : Nu} {sl : Slots} {a : Act} (h : SlR w I ν sl a) (d : Nat) {x : AV} {v : Value} (hx : VR w I ν x v) (hd : d < a.tmps.size) : SlR w I ν ((d, x) :: sl) (a.put (some d) v) := by
  intro t y hy
  rw [lk_cons] at hy
  simp only [Act.put]
  by_cases e : d = t
  · subst e
    rw [if_pos rfl] at hy
    obtain rfl : x = y := by simpa using hy
    simp [Array.getD_eq_getD_getElem?, Array.getElem?_setIfInBounds, hd, hx]
  · rw [if_neg e] at hy
    have h2 := h t y hy
    simpa [Array.getD_eq_getD_getElem?, Array.getElem?_setIfInBounds, e] using h2

end Go.Proofs.Ytibmabidjacjlaa.L
