/- Part 1 of the texts behind the theorem of this claim: The logic, part 1: abstract values and what they say of real ones; nothing of any one program; The logic, part 2: what is said of code (AWp), of a list of operations (AL), of a call (ACalls); the rules of control; The logic, part 3: operations that yield a value and leave the world alone; lists of o -/
import Derived.Calls
import Derived.Tactics
import Derived.Below
import Derived.Laws.AppendOwn
import Derived.Deep.Quiet
import Derived.Laws.BitsLemmas
import Derived.Laws.Entries
import Derived.Laws.Strings
import Derived.Laws.OwnMore
import Derived.Deep.AppendLies
import Derived.Deep.AppendSrc
import Derived.Laws.CopyRow
import Derived.Deep.RegionLaw
import Derived.RowKit
import Derived.KernelRfl
import Derived.Laws.StructEq
import Derived.ChangeArms
import Derived.ChangeOld
import Derived.Carry
import Derived.SizedLaws
import Derived.WideShapes
import Derived.ChangeSame
import Derived.Laws.MakeOwn
set_option linter.unusedVariables false
set_option linter.unusedSimpArgs false
set_option maxRecDepth 100000
namespace Go.Proofs.YtkljmljkiodnpaaGreatDoor.L
open Go Go.RowKit

inductive AV where
  | any
  | und
  | bool (b : Bool)
  | int (k : IntKind) (n : Int)
  | str (s : List UInt8)
  | nilsl
  | nilp
  | nilfn
  | nilif
  | iface
  | rs (xs : List (List AV))
  | rp (cs : List AV)
  | op (id off : Nat)
  | os (id ver : Nat)
  | er (id ver sz i off : Nat)
  | mp (id : Nat)
  | fn (f : Nat) (caps : List AV)
  | nilmp
  | ad (b off : Nat)
  | sa (b lo n c : Nat)
  | agg (cs : List AV)
  | tup (vs : List AV)

structure Nu where
  n : Nat
  top : Nat → Nat
  val : Nat → Nat → Value

abbrev Imm := Nat → Nat → Prop

def AV.scal : AV → Bool
  | .agg _ => false
  | .tup _ => false
  | _ => true

inductive VP (w : World) (I : Imm) : AV → Value → Prop where
  | bool (b : Bool) : VP w I (.bool b) (.bool b)
  | int (k : IntKind) (n : Int) : VP w I (.int k n) (.int k n)
  | str (s : List UInt8) : VP w I (.str s) (.string ⟨s.toArray⟩)
  | nilsl : VP w I .nilsl (.slice none 0 0)
  | nilp : VP w I .nilp (.pointer none)
  | nilfn : VP w I .nilfn .nilFunc
  | nilif : VP w I .nilif .nilIface
  | iface (t : TypeId) (v : Value) : VP w I .iface (.iface t v)
  | fn (f : Nat) : VP w I (.fn f []) (.func (.func f) #[] #[])
  | nilmp : VP w I .nilmp (.map none)
  | ad (b off : Nat) : VP w I (.ad b off) (.pointer (some ⟨b, off, none⟩))
  | sa (b lo n c : Nat) (hc : n ≤ c) (hm : c ≤ maxLen) : VP w I (.sa b lo n c) (.slice (some ⟨b, lo, none⟩) n c)
  | rs0 (A : Option Addr) (c : Nat) : VP w I (.rs []) (.slice A 0 c)
  | rs (xs : List (List AV)) (sz : Nat) (b off c : Nat) (us : Nat → Value) (h0 : 0 < sz) (hc : xs.length ≤ c) (hm : c ≤ maxLen)
      (hs : ∀ (i : Nat) row, xs[i]? = some row → row.length = sz)
      (hu : ∀ j, j < xs.length * sz → w.cell? ⟨b, off + j, none⟩ = some (us j) ∧ I b (off + j))
      (hx : ∀ (i j : Nat) row x, xs[i]? = some row → row[j]? = some x → VP w I x (us (i * sz + j))) : VP w I (.rs xs) (.slice (some ⟨b, off, none⟩) xs.length c)
  | rp (cs : List AV) (b off : Nat) (us : Nat → Value) (hu : ∀ (j : Nat) x, cs[j]? = some x → w.cell? ⟨b, off + j, none⟩ = some (us j) ∧ I b (off + j)) (hx : ∀ (j : Nat) x, cs[j]? = some x → VP w I x (us j)) : VP w I (.rp cs) (.pointer (some ⟨b, off, none⟩))

inductive VR (w : World) (I : Imm) (ν : Nu) : AV → Value → Prop where
  | any (v : Value) : VR w I ν .any v
  | und (v : Value) (h : v = undef) : VR w I ν .und v
  | pure {x : AV} {v : Value} (h : VP w I x v) : VR w I ν x v
  | op (id off b : Nat) (hi : id < ν.n) (h : ν.val id 0 = .pointer (some ⟨b, 0, none⟩)) : VR w I ν (.op id off) (.pointer (some ⟨b, off, none⟩))
  | os (id ver : Nat) (A : Option Addr) (n c : Nat) (hi : id < ν.n) (hv : ver ≤ ν.top id) (hs : ν.val id ver = .slice A n c) : VR w I ν (.os id ver) (.slice A n c)
  | er (id ver sz i off g n c : Nat) (hi : id < ν.n) (hv : ver ≤ ν.top id) (h : ν.val id ver = .slice (some ⟨g, 0, none⟩) n c) : VR w I ν (.er id ver sz i off) (.pointer (some ⟨g, i * sz + off, none⟩))
  | mp (id r : Nat) (hi : id < ν.n) (hs : ν.val id 0 = .map (some r)) : VR w I ν (.mp id) (.map (some r))
  | fn (f : Nat) (caps : List AV) (vs : List Value) (hl : caps.length = vs.length) (h : ∀ (j : Nat) x v, caps[j]? = some x → vs[j]? = some v → VR w I ν x v) : VR w I ν (.fn f caps) (.func (.func f) #[] vs.toArray)
  | agg (cs : List AV) (vs : List Value) (hl : cs.length = vs.length) (h : ∀ (j : Nat) x v, cs[j]? = some x → vs[j]? = some v → VR w I ν x v) : VR w I ν (.agg cs) (.agg vs.toArray)
  | tup (cs : List AV) (vs : List Value) (hl : cs.length = vs.length) (h : ∀ (j : Nat) x v, cs[j]? = some x → vs[j]? = some v → VR w I ν x v) : VR w I ν (.tup cs) (.tuple vs.toArray)

theorem VR.rp {w : World} {I : Imm} {ν : Nu} (cs : List AV) (b off : Nat) (us : Nat → Value) (h : ∀ (j : Nat) x, cs[j]? = some x → w.cell? ⟨b, off + j, none⟩ = some (us j) ∧ I b (off + j) ∧ VP w I x (us j)) : VR w I ν (.rp cs) (.pointer (some ⟨b, off, none⟩)) :=
  .pure (.rp cs b off us (fun j x hj => ⟨(h j x hj).1, (h j x hj).2.1⟩) (fun j x hj => (h j x hj).2.2))

def ImmLe (w : World) (I : Imm) (w' : World) (I' : Imm) : Prop := (∀ b o, I b o → I' b o) ∧ ∀ b o, I b o → w'.cell? ⟨b, o, none⟩ = w.cell? ⟨b, o, none⟩
theorem ImmLe.refl (w : World) (I : Imm) : ImmLe w I w I := ⟨fun _ _ h => h, fun _ _ _ => rfl⟩
theorem ImmLe.trans {w1 w2 w3 : World} {I1 I2 I3 : Imm} (h : ImmLe w1 I1 w2 I2) (k : ImmLe w2 I2 w3 I3) : ImmLe w1 I1 w3 I3 :=
  ⟨fun b o hi => k.1 b o (h.1 b o hi), fun b o hi => (k.2 b o (h.1 b o hi)).trans (h.2 b o hi)⟩

structure Nu.le (ν ν' : Nu) : Prop where
  n : ν.n ≤ ν'.n
  top : ∀ id, id < ν.n → ν.top id ≤ ν'.top id
  val : ∀ id ver, id < ν.n → ver ≤ ν.top id → ν'.val id ver = ν.val id ver
theorem Nu.le.refl (ν : Nu) : ν.le ν := ⟨Nat.le_refl _, fun _ _ => Nat.le_refl _, fun _ _ _ _ => rfl⟩
theorem Nu.le.trans {a b c : Nu} (h : a.le b) (k : b.le c) : a.le c :=
  ⟨Nat.le_trans h.n k.n, fun id hi => Nat.le_trans (h.top id hi) (k.top id (Nat.lt_of_lt_of_le hi h.n)),
   fun id ver hi hv => (k.val id ver (Nat.lt_of_lt_of_le hi h.n) (Nat.le_trans hv (h.top id hi))).trans (h.val id ver hi hv)⟩

theorem VP.mono {w w' : World} {I I' : Imm} (hI : ImmLe w I w' I') {x : AV} {v : Value} (h : VP w I x v) : VP w' I' x v := by
  induction h with
  | bool b => exact .bool b
  | int k n => exact .int k n
  | str s => exact .str s
  | nilsl => exact .nilsl
  | nilp => exact .nilp
  | nilfn => exact .nilfn
  | nilif => exact .nilif
  | iface t v => exact .iface t v
  | fn f => exact .fn f
  | nilmp => exact .nilmp
  | ad b off => exact .ad b off
  | sa b lo n c hc hm => exact .sa b lo n c hc hm
  | rs0 A c => exact .rs0 A c
  | rs xs sz b off c us h0 hc hm hs hu hx ih =>
    exact .rs xs sz b off c us h0 hc hm hs (fun j hj => ⟨by rw [hI.2 _ _ (hu j hj).2]; exact (hu j hj).1, hI.1 _ _ (hu j hj).2⟩) ih
  | rp cs b off us hu hx ih =>
    exact .rp cs b off us (fun j x hj => ⟨by rw [hI.2 _ _ (hu j x hj).2]; exact (hu j x hj).1, hI.1 _ _ (hu j x hj).2⟩) ih

theorem VR.mono {w w' : World} {I I' : Imm} {ν ν' : Nu} (hI : ImmLe w I w' I') (hν : ν.le ν') {x : AV} {v : Value} (h : VR w I ν x v) : VR w' I' ν' x v := by
  induction h with
  | any v => exact .any v
  | und v h => exact .und v h
  | pure h => exact .pure (h.mono hI)
  | op id off b hi h => exact .op id off b (Nat.lt_of_lt_of_le hi hν.n) ((hν.val id 0 hi (Nat.zero_le _)).trans h)
  | os id ver A n c hi hv hs => exact .os id ver A n c (Nat.lt_of_lt_of_le hi hν.n) (Nat.le_trans hv (hν.top id hi)) ((hν.val id ver hi hv).trans hs)
  | er id ver sz i off g n c hi hv h => exact .er id ver sz i off g n c (Nat.lt_of_lt_of_le hi hν.n) (Nat.le_trans hv (hν.top id hi)) ((hν.val id ver hi hv).trans h)
  | mp id r hi hs => exact .mp id r (Nat.lt_of_lt_of_le hi hν.n) ((hν.val id 0 hi (Nat.zero_le _)).trans hs)
  | fn f caps vs hl h ih => exact .fn f caps vs hl ih
  | agg cs vs hl h ih => exact .agg cs vs hl ih
  | tup cs vs hl h ih => exact .tup cs vs hl ih

inductive AO where
  | gone
  | box (cells : List AV) (tyo : Option Nat := none)
  | row (e : TypeId) (sz ver fz : Nat) (xs : List (List AV))
  | map (es : List (AV × AV)) (fl : Bool := false)
  | iter (mid n : Nat) (seen : List Nat)
  | arr (e : TypeId) (sz ver : Nat) (xs : List (List AV)) (wr : Bool)
  | siter (s : List UInt8) (pos : Nat)
  | hp (m : Nat → Option (List AV))

structure Env where
  P : Program
  w0 : World
  base : Nat
  k : Nat := 0

def nu0 : Nu := ⟨0, fun _ => 0, fun _ _ => .bool false⟩
theorem b0x (ν : Nu) : nu0.le ν := ⟨Nat.zero_le _, fun id h => absurd h (Nat.not_lt_zero _), fun id ver h => absurd h (Nat.not_lt_zero _)⟩

def MapRel (w : World) (I : Imm) (es : List (AV × AV)) (en : List MapEntry) : Prop :=
  es.length = en.length ∧ ∀ (i : Nat) p x, es[i]? = some p → en[i]? = some x → VR w I nu0 p.1 x.key ∧ VR w I nu0 p.2 x.val
def BornRel (en : List MapEntry) : Prop := ∀ (i : Nat) x, en[i]? = some x → x.born = i

def RowRel (w : World) (I : Imm) (sz : Nat) (xs : List (List AV)) (inner : List Value) : Prop :=
  inner.length = xs.length * sz ∧ ∀ (i : Nat) c, xs[i]? = some c → c.length = sz ∧ ∀ (j : Nat) x, c[j]? = some x → ∃ u, inner[i * sz + j]? = some u ∧ VP w I x u

inductive OR (E : Env) (w : World) (I : Imm) (ν : Nu) (id : Nat) : AO → Prop where
  | gone : OR E w I ν id .gone
  | box (cells : List AV) (tyo : Option Nat) (b : Nat) (vs : List Value) (ty : TypeId) (hv : ν.val id 0 = .pointer (some ⟨b, 0, none⟩)) (hb : E.base ≤ b)
      (hh : w.heap[b]? = some (.cells vs.toArray ty (0, 0))) (hl : cells.length = vs.length)
      (hx : ∀ (j : Nat) x v, cells[j]? = some x → vs[j]? = some v → VR w I ν x v) (hI : ∀ o, ¬ I b o) (hty : ∀ t, tyo = some t → ty = t) : OR E w I ν id (.box cells tyo)
  | row (e : TypeId) (sz ver fz : Nat) (xs : List (List AV)) (inner : List Value) (ht : ν.top id = ver) (h0 : 0 < sz)
      (ho : w.ownsRow E.base e sz (ν.val id ver) xs.length inner) (hr : RowRel w I sz xs inner) (hf : fz ≤ xs.length)
      (hI : ∀ b o, (ν.val id ver).ownBlock = some b → I b o → o < fz * sz) : OR E w I ν id (.row e sz ver fz xs)
  | map (es : List (AV × AV)) (fl : Bool) (b : Nat) (en : List MapEntry) (ck : Nat) (hv : ν.val id 0 = .map (some b)) (hb : E.base ≤ b) (hh : w.heap[b]? = some (.map en.toArray ck)) (hr : MapRel w I es en) (hn : fl = false → ck = en.length ∧ BornRel en) : OR E w I ν id (.map es fl)
  | iter (mid n : Nat) (seen : List Nat) (r b : Nat) (hv : ν.val id 0 = .pointer (some ⟨r, 0, none⟩)) (hb : E.base ≤ r) (hm : mid < ν.n) (hmv : ν.val mid 0 = .map (some b)) (hh : w.heap[r]? = some (.mapIter (some b) n seen.toArray n)) (hk : mid < id) :
      OR E w I ν id (.iter mid n seen)
  | arr (e : TypeId) (sz ver : Nat) (xs : List (List AV)) (wr : Bool) (g c : Nat) (cur : Array Value) (fr : Nat × Nat) (ht : ver ≤ ν.top id) (h0 : 0 < sz) (hv : ν.val id ver = .slice (some ⟨g, 0, none⟩) xs.length c) (hb : E.base ≤ g) (hh : w.heap[g]? = some (.cells cur e fr))
      (hfr : wr = true → xs.length * sz ≤ fr.1) (hl : xs.length * sz ≤ cur.size) (hc : xs.length ≤ c) (hr : RowRel w I sz xs (cur.toList.take (xs.length * sz))) (hI : ∀ o, ¬ I g o) : OR E w I ν id (.arr e sz ver xs wr)
  | siter (s : List UInt8) (pos r : Nat) (hv : ν.val id 0 = .pointer (some ⟨r, 0, none⟩)) (hb : E.base ≤ r) (hh : w.heap[r]? = some (.stringIter ⟨s.toArray⟩ pos)) : OR E w I ν id (.siter s pos)
  | hp (m : Nat → Option (List AV)) (hm : ∀ b cells, m b = some cells → E.base ≤ b ∧ (∃ vs ty, w.heap[b]? = some (.cells (List.toArray vs) ty (0, 0)) ∧ cells.length = vs.length ∧ ∀ (j : Nat) x v, cells[j]? = some x → vs[j]? = some v → VP w I x v) ∧ ∀ o, ¬ I b o) : OR E w I ν id (.hp m)

def OB1 (ν : Nu) (id : Nat) : AO → Option Nat
  | .gone => none
  | .box _ _ => match ν.val id 0 with
    | .pointer (some a) => some a.block
    | _ => none
  | .row _ _ ver _ _ => (ν.val id ver).ownBlock
  | .map _ _ => match ν.val id 0 with
    | .map r => r
    | _ => none
  | .iter _ _ _ => match ν.val id 0 with
    | .pointer (some a) => some a.block
    | _ => none
  | .arr _ _ ver _ _ => (ν.val id ver).ownBlock
  | .siter _ _ => match ν.val id 0 with
    | .pointer (some a) => some a.block
    | _ => none
  | .hp _ => none
def OB (ν : Nu) (id : Nat) : AO → Nat → Prop
  | .gone, _ => False
  | .box c t, b => OB1 ν id (.box c t) = some b
  | .row e sz ver fz xs, b => OB1 ν id (.row e sz ver fz xs) = some b
  | .map es fl, b => OB1 ν id (.map es fl) = some b
  | .iter m n l, b => OB1 ν id (.iter m n l) = some b
  | .arr e sz ver xs wr, b => OB1 ν id (.arr e sz ver xs wr) = some b
  | .siter s p, b => OB1 ν id (.siter s p) = some b
  | .hp m, b => ∃ cs, m b = some cs

def FB (ν : Nu) (objs : List AO) (b : Nat) : Prop := ∃ id o, objs[id]? = some o ∧ OB ν id o b

structure HR (E : Env) (I : Imm) (ν : Nu) (objs : List AO) (w : World) : Prop where
  n : ν.n = objs.length
  below : Below E.base E.w0 w
  base : E.base ≤ w.heap.size
  imm : ∀ b o, I b o → ∃ v, w.cell? ⟨b, o, none⟩ = some v
  obj : ∀ (id : Nat) o, objs[id]? = some o → OR E w I ν id o
  disj : ∀ (id id' : Nat) o o' b, objs[id]? = some o → objs[id']? = some o' → OB ν id o b → OB ν id' o' b → id = id'

structure Still (ν : Nu) (objs : List AO) (I : Imm) (w w' : World) : Prop where
  size : w.heap.size ≤ w'.heap.size
  imm : ∀ b o, I b o → w'.cell? ⟨b, o, none⟩ = w.cell? ⟨b, o, none⟩
  obj : ∀ (id : Nat) o b, objs[id]? = some o → OB ν id o b → w'.heap[b]? = w.heap[b]?
theorem Still.refl (ν : Nu) (objs : List AO) (I : Imm) (w : World) : Still ν objs I w w := ⟨Nat.le_refl _, fun _ _ _ => rfl, fun _ _ _ _ _ => rfl⟩

structure FR (k : Nat) (w : World) (I : Imm) (ν : Nu) (objs : List AO) (w' : World) (I' : Imm) (ν' : Nu) (objs' : List AO) : Prop where
  imm : ImmLe w I w' I'
  size : w.heap.size ≤ w'.heap.size
  new : ∀ b o, I' b o → I b o ∨ FB ν objs b ∨ w.heap.size ≤ b
  keep : ∀ b, b < w.heap.size → ¬ FB ν objs b → w'.heap[b]? = w.heap[b]?
  foot : ∀ b, FB ν' objs' b → FB ν objs b ∨ w.heap.size ≤ b
  ag : ∀ id, id < k → id < ν.n → id < ν'.n ∧ ν.top id ≤ ν'.top id ∧ ∀ ver, ver ≤ ν.top id → ν'.val id ver = ν.val id ver
  gone : ∀ id, id < k → objs[id]? = some .gone → ν'.top id = ν.top id ∧ objs'[id]? = some .gone

theorem Nu.le.ag {ν ν' : Nu} (h : ν.le ν') (k : Nat) : ∀ id, id < k → id < ν.n → id < ν'.n ∧ ν.top id ≤ ν'.top id ∧ ∀ ver, ver ≤ ν.top id → ν'.val id ver = ν.val id ver :=
  fun id _ hi => ⟨Nat.lt_of_lt_of_le hi h.n, h.top id hi, fun ver hv => h.val id ver hi hv⟩

theorem FR.refl {k : Nat} (w : World) (I : Imm) (ν : Nu) (objs : List AO) : FR k w I ν objs w I ν objs :=
  ⟨ImmLe.refl _ _, Nat.le_refl _, fun _ _ h => .inl h, fun _ _ _ => rfl, fun _ h => .inl h, fun _ _ h => ⟨h, Nat.le_refl _, fun _ _ => rfl⟩, fun _ _ h => ⟨rfl, h⟩⟩
theorem FR.trans {k0 : Nat} {w1 w2 w3 : World} {I1 I2 I3 : Imm} {ν1 ν2 ν3 : Nu} {o1 o2 o3 : List AO} (h : FR k0 w1 I1 ν1 o1 w2 I2 ν2 o2) (k : FR k0 w2 I2 ν2 o2 w3 I3 ν3 o3) : FR k0 w1 I1 ν1 o1 w3 I3 ν3 o3 where
  imm := h.imm.trans k.imm
  size := Nat.le_trans h.size k.size
  new b o hi := by
    rcases k.new b o hi with h1 | h1 | h1
    · exact h.new b o h1
    · rcases h.foot b h1 with h2 | h2
      · exact .inr (.inl h2)
      · exact .inr (.inr h2)
    · exact .inr (.inr (Nat.le_trans h.size h1))
  keep b hb hn := by
    have h1 : ¬ FB ν2 o2 b := fun hf => by
      rcases h.foot b hf with h2 | h2
      · exact hn h2
      · omega
    exact (k.keep b (Nat.lt_of_lt_of_le hb h.size) h1).trans (h.keep b hb hn)
  foot b hb := by
    rcases k.foot b hb with h1 | h1
    · exact h.foot b h1
    · exact .inr (Nat.le_trans h.size h1)
  ag id hk hi := by
    obtain ⟨h1, h2, h3⟩ := h.ag id hk hi
    obtain ⟨k1, k2, k3⟩ := k.ag id hk h1
    exact ⟨k1, Nat.le_trans h2 k2, fun ver hv => (k3 ver (Nat.le_trans hv h2)).trans (h3 ver hv)⟩
  gone id hi hg := by
    obtain ⟨h1, h2⟩ := h.gone id hi hg
    obtain ⟨k1, k2⟩ := k.gone id hi h2
    exact ⟨k1.trans h1, k2⟩

abbrev Slots := List (Nat × AV)
structure St where
  sl : Slots
  objs : List AO

def lk : Slots → Nat → Option AV
  | [], _ => none
  | (t, v) :: r, k => match Nat.beq t k with
    | true => some v
    | false => lk r k

def SlR (w : World) (I : Imm) (ν : Nu) (sl : Slots) (a : Act) : Prop := ∀ t x, lk sl t = some x → VR w I ν x (a.tmps.getD t undef)

structure SR (E : Env) (N : Nat) (I : Imm) (ν : Nu) (σ : St) (a : Act) (w : World) : Prop where
  hr : HR E I ν σ.objs w
  sl : SlR w I ν σ.sl a
  df : a.defers = []
  nt : a.tmps.size = N

theorem a4x (t : Nat) (v : AV) (r : Slots) (k : Nat) : lk ((t, v) :: r) k = if t = k then some v else lk r k := by
  simp only [lk]
  by_cases h : t = k
  · subst h; simp
  · rw [if_neg h]
    cases hb : Nat.beq t k with
    | true => exact absurd (Nat.eq_of_beq_eq_true hb) h
    | false => rfl

theorem SlR.mono {w w' : World} {I I' : Imm} {ν ν' : Nu} (hI : ImmLe w I w' I') (hν : ν.le ν') {sl : Slots} {a : Act} (h : SlR w I ν sl a) : SlR w' I' ν' sl a :=
  fun t x hx => (h t x hx).mono hI hν

theorem SlR.put {w : World} {I : Imm} {ν : Nu} {sl : Slots} {a : Act} (h : SlR w I ν sl a) (d : Nat) {x : AV} {v : Value} (hx : VR w I ν x v) (hd : d < a.tmps.size) : SlR w I ν ((d, x) :: sl) (a.put (some d) v) := by
  intro t y hy
  rw [a4x] at hy
  simp only [Act.put]
  by_cases e : d = t
  · subst e
    rw [if_pos rfl] at hy
    obtain rfl : x = y := by simpa using hy
    simp [Array.getD_eq_getD_getElem?, Array.getElem?_setIfInBounds, hd, hx]
  · rw [if_neg e] at hy
    have h2 := h t y hy
    simpa [Array.getD_eq_getD_getElem?, Array.getElem?_setIfInBounds, e] using h2

end Go.Proofs.YtkljmljkiodnpaaGreatDoor.L

namespace Go.Proofs.YtkljmljkiodnpaaGreatDoor.L
open Go Go.RowKit

def Lift (E : Env) (N : Nat) (w : World) (I : Imm) (ν : Nu) (objs : List AO) (Q : Exit → St → Prop) : Exit → Act → World → Prop :=
  fun e a' w' => ∃ σ' I' ν', Q e σ' ∧ SR E N I' ν' σ' a' w' ∧ FR E.k w I ν objs w' I' ν' σ'.objs

theorem Lift.step {E : Env} {N : Nat} {w w1 : World} {I I1 : Imm} {ν ν1 : Nu} {o o1 : List AO} {Q : Exit → St → Prop} (h : FR E.k w I ν o w1 I1 ν1 o1) {e : Exit} {a : Act} {w' : World}
    (k : Lift E N w1 I1 ν1 o1 Q e a w') : Lift E N w I ν o Q e a w' :=
  let ⟨σ', I', ν', hq, hs, hf⟩ := k; ⟨σ', I', ν', hq, hs, h.trans hf⟩

def AWp (E : Env) (N : Nat) (c : Code) (Q : Exit → St → Prop) (σ : St) : Prop :=
  ∀ I ν a w, SR E N I ν σ a w → c.wp E.P (Lift E N w I ν σ.objs Q) a w

def AL (E : Env) (N : Nat) (ops : Array Oper) (Q : Exit → St → Prop) (l : List Oper) (σ : St) : Prop :=
  ∀ I ν a w, SR E N I ν σ a w → ∀ w0 I0 ν0 o0, FR E.k w0 I0 ν0 o0 w I ν σ.objs → wpList E.P ops (Lift E N w0 I0 ν0 o0 Q) l a w

section
variable {E : Env} {N : Nat} {Q Q' : Exit → St → Prop} {σ σ' : St}

theorem a8q {c : Code} (h : AWp E N c Q σ) (hq : ∀ e σ, Q e σ → Q' e σ) : AWp E N c Q' σ :=
  fun I ν a w hs => Code.wp_mono (fun e a' w' ⟨σ', I', ν', k, r⟩ => ⟨σ', I', ν', hq _ _ k, r⟩) (h I ν a w hs)

def Thn (E : Env) (N : Nat) (y : Code) (Q : Exit → St → Prop) : Exit → St → Prop
  | .normal, σ => AWp E N y Q σ
  | e, σ => Q e σ

theorem a0c {x y : Code} (h : AWp E N x (Thn E N y Q) σ) : AWp E N (.seq x y) Q σ := by
  intro I ν a w hs
  refine wp_seq (Code.wp_mono (fun e a' w' hk => ?_) (h I ν a w hs))
  obtain ⟨σ', I', ν', hq, hs', hf⟩ := hk
  cases e with
  | normal => exact Code.wp_mono (fun e a2 w2 k => Lift.step hf k) (hq I' ν' a' w' hs')
  | exit id => exact ⟨σ', I', ν', hq, hs', hf⟩
  | goto l => exact ⟨σ', I', ν', hq, hs', hf⟩
  | ret => exact ⟨σ', I', ν', hq, hs', hf⟩
  | panic ch => exact ⟨σ', I', ν', hq, hs', hf⟩
  | outgrown => exact ⟨σ', I', ν', hq, hs', hf⟩

theorem a6x {I : Imm} {ν : Nu} {a : Act} {w : World} (hs : SR E N I ν σ a w) {e : Exit} (hq : Q e σ) : Lift E N w I ν σ.objs Q e a w := ⟨σ, I, ν, hq, hs, FR.refl _ _ _ _⟩

theorem a0k (h : Q .normal σ) : AWp E N .skip Q σ := fun I ν a w hs => wp_skip (a6x hs h)
theorem a2x {l : Nat} (h : Q .normal σ) : AWp E N (.label l) Q σ := fun I ν a w hs => wp_label (a6x hs h)
theorem a1f {id : Nat} (h : Q (.exit id) σ) : AWp E N (.exit id) Q σ := fun I ν a w hs => wp_exit (a6x hs h)
theorem a3e {l : Nat} (h : Q (.goto l) σ) : AWp E N (.goto l) Q σ := fun I ν a w hs => wp_goto (a6x hs h)
theorem a0o (h : Q .ret σ) : AWp E N .ret Q σ := fun I ν a w hs => wp_ret (a6x hs h)

def InB (id : Nat) (Q : Exit → St → Prop) : Exit → St → Prop
  | .exit id', σ => match Nat.beq id' id with
    | true => Q .normal σ
    | false => Q (.exit id') σ
  | e, σ => Q e σ

theorem c4t {α : Sort _} (a b : Nat) (x y : α) : (match Nat.beq a b with | true => x | false => y) = if a = b then x else y := by
  by_cases h : a = b
  · subst h; simp
  · rw [if_neg h]
    cases hb : Nat.beq a b with
    | true => exact absurd (Nat.eq_of_beq_eq_true hb) h
    | false => rfl

theorem a0n {id : Nat} {c : Code} (h : AWp E N c (InB id Q) σ) : AWp E N (.block id c) Q σ := by
  intro I ν a w hs
  refine wp_block (Code.wp_mono (fun e a' w' hk => ?_) (h I ν a w hs))
  obtain ⟨σ', I', ν', hq, hs', hf⟩ := hk
  cases e with
  | exit id' =>
    simp only [InB, c4t] at hq
    simp only [Exit.inBlock]
    by_cases e : id' = id
    · rw [if_pos e] at hq ⊢; exact ⟨σ', I', ν', hq, hs', hf⟩
    · rw [if_neg e] at hq ⊢; exact ⟨σ', I', ν', hq, hs', hf⟩
  | normal => exact ⟨σ', I', ν', hq, hs', hf⟩
  | goto l => exact ⟨σ', I', ν', hq, hs', hf⟩
  | ret => exact ⟨σ', I', ν', hq, hs', hf⟩
  | panic ch => exact ⟨σ', I', ν', hq, hs', hf⟩
  | outgrown => exact ⟨σ', I', ν', hq, hs', hf⟩

def cellAV : Value → Option AV
  | .bool b => some (.bool b)
  | .int k n => some (.int k n)
  | .string s => some (.str s.data.toList)
  | .slice none 0 0 => some .nilsl
  | .pointer none => some .nilp
  | .nilFunc => some .nilfn
  | .nilIface => some .nilif
  | .map none => some .nilmp
  | _ => none
def cellsAV : List Value → Option (List AV)
  | [] => some []
  | v :: r => match cellAV v with
    | none => none
    | some x => match cellsAV r with
      | none => none
      | some xs => some (x :: xs)
def constAV : Value → Option AV
  | .agg cs => match cellsAV cs.toList with
    | some xs => some (.agg xs)
    | none => none
  | v => cellAV v
def ev (sl : Slots) : Operand → Option AV
  | .tmp t => lk sl t
  | .const v => constAV v
  | .func f => some (.fn f [])
  | .global _ => none

theorem b3x {w : World} {I : Imm} : ∀ {v : Value} {x : AV}, cellAV v = some x → VP w I x v := by
  intro v x h
  unfold cellAV at h
  split at h <;> first | (injection h with h; subst h) | contradiction
  · exact .bool _
  · exact .int _ _
  · exact .str _
  · exact .nilsl
  · exact .nilp
  · exact .nilfn
  · exact .nilif
  · exact .nilmp
theorem b8i {w : World} {I : Imm} : ∀ (vs : List Value) {xs : List AV}, cellsAV vs = some xs → xs.length = vs.length ∧ ∀ (j : Nat) x v, xs[j]? = some x → vs[j]? = some v → VP w I x v := by
  intro vs
  induction vs with
  | nil => intro xs h; simp only [cellsAV, Option.some.injEq] at h; subst h; simp
  | cons v r ih =>
    intro xs h
    simp only [cellsAV] at h
    split at h
    · contradiction
    · rename_i x hx
      split at h
      · contradiction
      · rename_i ys hy
        injection h with h
        subst h
        obtain ⟨h1, h2⟩ := ih hy
        refine ⟨by simp [h1], fun j x' v' hj hv => ?_⟩
        cases j with
        | zero => simp only [List.getElem?_cons_zero, Option.some.injEq] at hj hv; subst hj; subst hv; exact b3x hx
        | succ j => exact h2 j x' v' (by simpa using hj) (by simpa using hv)
theorem a5c {w : World} {I : Imm} {ν : Nu} {v : Value} {x : AV} (h : constAV v = some x) : VR w I ν x v := by
  unfold constAV at h
  split at h
  · rename_i cs
    split at h
    · rename_i xs hx
      injection h with h
      subst h
      obtain ⟨h1, h2⟩ := b8i (w := w) (I := I) cs.toList hx
      have := VR.agg (w := w) (I := I) (ν := ν) xs cs.toList h1 (fun j x v hj hv => .pure (h2 j x v hj hv))
      simpa using this
    · contradiction
  · exact .pure (b3x h)
theorem a2q {w : World} {I : Imm} {ν : Nu} {sl : Slots} {a : Act} (h : SlR w I ν sl a) {o : Operand} {x : AV} (hx : ev sl o = some x) : VR w I ν x (a.eval o) := by
  cases o with
  | tmp t => exact h t x hx
  | const v => exact a5c hx
  | func f => simp only [ev, Option.some.injEq] at hx; subst hx; exact .pure (.fn f)
  | global g => simp [ev] at hx

theorem VR.bool_inv {w : World} {I : Imm} {ν : Nu} {b : Bool} {v : Value} (h : VR w I ν (.bool b) v) : v = .bool b := by
  cases h with
  | pure h => cases h; rfl
theorem VR.int_inv {w : World} {I : Imm} {ν : Nu} {k : IntKind} {n : Int} {v : Value} (h : VR w I ν (.int k n) v) : v = .int k n := by
  cases h with
  | pure h => cases h; rfl
theorem VR.str_inv {w : World} {I : Imm} {ν : Nu} {s : List UInt8} {v : Value} (h : VR w I ν (.str s) v) : v = .string ⟨s.toArray⟩ := by
  cases h with
  | pure h => cases h; rfl

theorem a8r {c : Operand} {x y : Code} (b : Bool) (hc : ev σ.sl c = some (.bool b)) (ht : b = true → AWp E N x Q σ) (hf : b = false → AWp E N y Q σ) : AWp E N (.cond c x y) Q σ := by
  intro I ν a w hs
  have hv := (a2q hs.sl hc).bool_inv
  refine wp_cond (t := b) hv ?_
  cases b with
  | true => exact ht rfl I ν a w hs
  | false => exact hf rfl I ν a w hs

structure Wk (σ σ' : St) : Prop where
  sl : ∀ t x, lk σ'.sl t = some x → lk σ.sl t = some x
  objs : σ'.objs = σ.objs
theorem Wk.sr {I : Imm} {ν : Nu} {a : Act} {w : World} (h : Wk σ σ') (hs : SR E N I ν σ a w) : SR E N I ν σ' a w :=
  ⟨by rw [h.objs]; exact hs.hr, fun t x hx => hs.sl t x (h.sl t x hx), hs.df, hs.nt⟩
theorem c7v {c : Code} (h : Wk σ σ') (k : AWp E N c Q σ') : AWp E N c Q σ := by
  intro I ν a w hs
  have := k I ν a w (h.sr hs)
  rw [h.objs] at this
  exact this

theorem b0o {P : Program} {α : Type} {c : Code} {R : Exit → Act → World → Prop} (J : α → Act → World → Prop) (m : α → Nat) (x0 : α) {a : Act} {w : World} (h0 : J x0 a w)
    (round : ∀ x a w, J x a w → c.wp P (Exit.then (fun a' w' => ∃ y, m y < m x ∧ J y a' w') R) a w) : (Code.loop c).wp P R a w := by
  intro b k cs
  have key : ∀ n x a w, m x = n → J x a w → ∃ e a' w', R e a' w' ∧ Arrives P (lone (b.at a (.code c :: .inLoop c :: k)) cs w) b k cs e a' w' := by
    intro n
    induction n using Nat.strongRecOn with
    | _ n ih =>
      intro x a w hn hI
      obtain ⟨e, a₁, w₁, hq, harr⟩ := round x a w hI b (.inLoop c :: k) cs
      cases e with
      | normal =>
        obtain ⟨y, hlt, hJ⟩ := hq
        obtain ⟨e₂, a₂, w₂, hq₂, harr₂⟩ := ih (m y) (hn ▸ hlt) y a₁ w₁ rfl hJ
        exact ⟨e₂, a₂, w₂, hq₂, .of_steps (Steps.trans harr (.one step_inLoop)) harr₂⟩
      | exit id => exact ⟨_, a₁, w₁, hq, .pass (x := .inLoop c) rfl (fun _ _ => .inl (by simp)) harr⟩
      | goto l => exact ⟨_, a₁, w₁, hq, .pass (x := .inLoop c) rfl (fun _ _ => .inl (by simp)) harr⟩
      | ret => exact ⟨_, a₁, w₁, hq, .pass (x := .inLoop c) rfl (fun _ _ => .inl (by simp)) harr⟩
      | panic ch => exact ⟨_, a₁, w₁, hq, .pass (x := .inLoop c) rfl (fun _ _ => .inl (by simp)) harr⟩
      | outgrown => exact ⟨_, a₁, w₁, hq, .pass (x := .inLoop c) rfl (fun _ _ => .inl (by simp)) harr⟩
  obtain ⟨e, a', w', hq, harr⟩ := key _ x0 a w rfl h0
  exact ⟨e, a', w', hq, .of_steps (.one step_loop) harr⟩

theorem c3u {α : Type} {c : Code} (inv : α → St) (ok : α → Prop) (m : α → Nat) (x0 : α) (h0 : Wk σ (inv x0)) (k0 : ok x0)
    (round : ∀ x, ok x → AWp E N c (fun e σ' => match e with
      | .normal => ∃ y, ok y ∧ m y < m x ∧ Wk σ' (inv y)
      | e => Q e σ') (inv x)) : AWp E N (.loop c) Q σ := by
  refine c7v h0 ?_
  intro I ν a w hs
  refine b0o (fun x a' w' => ∃ I' ν', ok x ∧ SR E N I' ν' (inv x) a' w' ∧ FR E.k w I ν (inv x0).objs w' I' ν' (inv x).objs) m x0 ⟨I, ν, k0, hs, FR.refl _ _ _ _⟩ ?_
  rintro x a1 w1 ⟨I1, ν1, hx, hs1, hf1⟩
  refine Code.wp_mono (fun e a' w' hk => ?_) (round x hx I1 ν1 a1 w1 hs1)
  obtain ⟨σ', I', ν', hq, hs', hf⟩ := hk
  cases e with
  | normal =>
    obtain ⟨y, hy, hm, hw⟩ := hq
    exact ⟨y, hm, I', ν', hy, hw.sr hs', by rw [hw.objs]; exact hf1.trans hf⟩
  | exit id => exact ⟨σ', I', ν', hq, hs', hf1.trans hf⟩
  | goto l => exact ⟨σ', I', ν', hq, hs', hf1.trans hf⟩
  | ret => exact ⟨σ', I', ν', hq, hs', hf1.trans hf⟩
  | panic ch => exact ⟨σ', I', ν', hq, hs', hf1.trans hf⟩
  | outgrown => exact ⟨σ', I', ν', hq, hs', hf1.trans hf⟩
end
end Go.Proofs.YtkljmljkiodnpaaGreatDoor.L

namespace Go.Proofs.YtkljmljkiodnpaaGreatDoor.L
open Go Go.RowKit

def OV (E : Env) (sl : Slots) (H : List AO) (op : Op) (x : AV) : Prop :=
  ∀ I ν a w, HR E I ν H w → SlR w I ν sl a → ∃ v, VR w I ν x v ∧ ∀ (o : Oper) w', o.op = op → Still ν H I w w' → (execOp a.eval o).run E.P w' = .ok (.value v) w'

section
variable {E : Env} {N : Nat} {ops : Array Oper} {Q : Exit → St → Prop} {rest : List Oper} {sl : Slots} {H : List AO}

theorem a0u (h : Q .normal ⟨sl, H⟩) : AL E N ops Q [] ⟨sl, H⟩ := fun I ν a w hs w0 I0 ν0 o0 hf => ⟨⟨sl, H⟩, I, ν, h, hs, hf⟩

theorem a0a {id : Nat} {l : List Oper} {σ : St} (h : AL E N l.toArray Q l σ) : AWp E N (.region id l.toArray false) Q σ :=
  fun I ν a w hs => wp_region_lit (h I ν a w hs w I ν σ.objs (FR.refl _ _ _ _))

theorem a5o {E : Env} {N : Nat} {I : Imm} {ν : Nu} {a : Act} {w : World} (hs : SR E N I ν ⟨sl, H⟩ a w) {d : Nat} (hd : Nat.blt d N = true) {x : AV} {v : Value} (hx : VR w I ν x v) : SR E N I ν ⟨(d, x) :: sl, H⟩ (a.put (some d) v) w :=
  ⟨hs.hr, hs.sl.put d hx (by rw [hs.nt]; simpa [Nat.blt_eq] using hd), hs.df, by simp [Act.put, hs.nt]⟩

theorem a0b {op : Op} {ty : TypeId} {pos : String} {after : Array Edge} {d : Nat} {x : AV} (hv : OV E sl H op x) (hd : Nat.blt d N = true) (h : AL E N ops Q rest ⟨(d, x) :: sl, H⟩) :
    AL E N ops Q (⟨some d, op, ty, pos, after, none⟩ :: rest) ⟨sl, H⟩ := by
  intro I ν a w hs w0 I0 ν0 o0 hf
  obtain ⟨v, hx, hr⟩ := hv I ν a w hs.hr hs.sl
  refine wpList_plain rfl fun K hK => ?_
  unfold Oper.wp
  rw [hr _ w rfl (Still.refl _ _ _ _)]
  exact hK _ _ (h I ν _ w (a5o hs hd hx) w0 I0 ν0 o0 hf)

theorem a4g {I : Imm} {ν : Nu} {a : Act} {w : World} (hs : SlR w I ν sl a) {j t : Nat} {b : Bool} (hj : (ops[j]?).bind (·.dst) = some t) (hb : lk sl t = some (.bool b)) : yielded ops a.tmps j = some b := by
  have h := (hs t _ hb).bool_inv
  have h2 : a.tmps[t]? = some (.bool b) := by
    rw [Array.getD_eq_getD_getElem?] at h
    cases ht : a.tmps[t]? with
    | none => rw [ht] at h; simp [undef] at h
    | some v => rw [ht] at h; simpa using h
  simp [yielded, hj, h2]

theorem c8s {op : Op} {ty : TypeId} {pos : String} {after : Array Edge} {d : Option Nat} {j t : Nat} {want : Bool} (hj : (ops[j]?).bind (·.dst) = some t) (hb : lk sl t = some (.bool want))
    (h : AL E N ops Q (⟨d, op, ty, pos, after, none⟩ :: rest) ⟨sl, H⟩) : AL E N ops Q (⟨d, op, ty, pos, after, some (j, want)⟩ :: rest) ⟨sl, H⟩ := by
  intro I ν a w hs w0 I0 ν0 o0 hf
  have hy := a4g hs.sl hj hb
  have := h I ν a w hs w0 I0 ν0 o0 hf
  unfold wpList at this ⊢
  rw [if_pos (by simp [Region.wanted])] at this
  rw [if_pos (by simp [Region.wanted, hy])]
  exact this
theorem c7x {op : Op} {ty : TypeId} {pos : String} {after : Array Edge} {d j t : Nat} {want b : Bool} (hj : (ops[j]?).bind (·.dst) = some t) (hb : lk sl t = some (.bool b)) (hw : (b == want) = false) (hd : Nat.blt d N = true)
    (h : AL E N ops Q rest ⟨(d, .und) :: sl, H⟩) : AL E N ops Q (⟨some d, op, ty, pos, after, some (j, want)⟩ :: rest) ⟨sl, H⟩ := by
  intro I ν a w hs w0 I0 ν0 o0 hf
  have hy := a4g hs.sl hj hb
  unfold wpList
  rw [if_neg (by simp only [Region.wanted, hy]; intro e; rw [show (some b == some want) = (b == want) from rfl, hw] at e; cases e)]
  exact h I ν _ w (a5o hs hd (.und _ rfl)) w0 I0 ν0 o0 hf
theorem c4v {op : Op} {ty : TypeId} {pos : String} {after : Array Edge} {j t : Nat} {want b : Bool} (hj : (ops[j]?).bind (·.dst) = some t) (hb : lk sl t = some (.bool b)) (hw : (b == want) = false)
    (h : AL E N ops Q rest ⟨sl, H⟩) : AL E N ops Q (⟨none, op, ty, pos, after, some (j, want)⟩ :: rest) ⟨sl, H⟩ := by
  intro I ν a w hs w0 I0 ν0 o0 hf
  have hy := a4g hs.sl hj hb
  unfold wpList
  rw [if_neg (by simp only [Region.wanted, hy]; intro e; rw [show (some b == some want) = (b == want) from rfl, hw] at e; cases e)]
  exact h I ν a w hs w0 I0 ν0 o0 hf
theorem a5m {I : Imm} {ν : Nu} {a : Act} {w : World} (hs : SlR w I ν sl a) {j t : Nat} (hj : (ops[j]?).bind (·.dst) = some t) (hb : lk sl t = some .und) : yielded ops a.tmps j = none := by
  have h := hs t _ hb
  cases h with
  | pure h => cases h
  | und _ h =>
    simp only [yielded, hj, Option.bind_some]
    cases ht : a.tmps[t]? with
    | none => rfl
    | some v =>
      have : v = undef := by rw [Array.getD_eq_getD_getElem?, ht] at h; exact h
      subst this
      rfl
theorem a4a {op : Op} {ty : TypeId} {pos : String} {after : Array Edge} {d j t : Nat} {want : Bool} (hj : (ops[j]?).bind (·.dst) = some t) (hb : lk sl t = some .und) (hd : Nat.blt d N = true)
    (h : AL E N ops Q rest ⟨(d, .und) :: sl, H⟩) : AL E N ops Q (⟨some d, op, ty, pos, after, some (j, want)⟩ :: rest) ⟨sl, H⟩ := by
  intro I ν a w hs w0 I0 ν0 o0 hf
  have hy := a5m (ops := ops) hs.sl hj hb
  unfold wpList
  rw [if_neg (by simp [Region.wanted, hy])]
  exact h I ν _ w (a5o hs hd (.und _ rfl)) w0 I0 ν0 o0 hf
theorem c7w {op : Op} {ty : TypeId} {pos : String} {after : Array Edge} {j t : Nat} {want : Bool} (hj : (ops[j]?).bind (·.dst) = some t) (hb : lk sl t = some .und)
    (h : AL E N ops Q rest ⟨sl, H⟩) : AL E N ops Q (⟨none, op, ty, pos, after, some (j, want)⟩ :: rest) ⟨sl, H⟩ := by
  intro I ν a w hs w0 I0 ν0 o0 hf
  have hy := a5m (ops := ops) hs.sl hj hb
  unfold wpList
  rw [if_neg (by simp [Region.wanted, hy])]
  exact h I ν a w hs w0 I0 ν0 o0 hf
theorem c1p {l : List Oper} {t : Nat} (b : Bool) (hb : lk sl t = some (.bool b)) (hy : b = true → AL E N ops Q l ⟨(t, .bool true) :: sl, H⟩) (hn : b = false → AL E N ops Q l ⟨(t, .bool false) :: sl, H⟩) : AL E N ops Q l ⟨sl, H⟩ := by
  have key : ∀ I ν a w, SR E N I ν ⟨sl, H⟩ a w → SR E N I ν ⟨(t, .bool b) :: sl, H⟩ a w := fun I ν a w hs => ⟨hs.hr, fun t' x hx => by
    rw [a4x] at hx
    by_cases e : t = t'
    · subst e; rw [if_pos rfl] at hx; obtain rfl : AV.bool b = x := by simpa using hx
      exact hs.sl t _ hb
    · rw [if_neg e] at hx; exact hs.sl t' x hx, hs.df, hs.nt⟩
  intro I ν a w hs
  cases b with
  | true => exact hy rfl I ν a w (key I ν a w hs)
  | false => exact hn rfl I ν a w (key I ν a w hs)
theorem a0l {x : Operand} {v : AV} (h : ev sl x = some v) : OV E sl H (.move x) v := fun I ν a w hh hs => ⟨_, a2q hs h, fun o w' ho _ => by simp [execOp, ho]⟩
theorem a0e {x : Operand} {v : AV} (h : ev sl x = some v) : OV E sl H (.assign x) v := fun I ν a w hh hs => ⟨_, a2q hs h, fun o w' ho _ => by simp [execOp, ho]⟩
theorem b9v {c x y : Operand} {v : AV} (hc : ev sl c = some (.bool true)) (h : ev sl x = some v) : OV E sl H (.pick c x y) v := fun I ν a w hh hs =>
  ⟨_, a2q hs h, fun o w' ho _ => by have := (a2q hs hc).bool_inv; simp [execOp, ho, this, asBool]⟩
theorem b9w {c x y : Operand} {v : AV} (hc : ev sl c = some (.bool false)) (h : ev sl y = some v) : OV E sl H (.pick c x y) v := fun I ν a w hh hs =>
  ⟨_, a2q hs h, fun o w' ho _ => by have := (a2q hs hc).bool_inv; simp [execOp, ho, this, asBool]⟩

theorem a7k {op : BinOp} {t t' : TypeId} {x y : Operand} {k : IntKind} {m n : Int} {r : AV} {v : Value} (hx : ev sl x = some (.int k m)) (hy : ev sl y = some (.int k n))
    (hr : ∀ w I ν, VR w I ν r v) (hrun : ∀ w, (binOp op t (.int k m) (.int k n)).run E.P w = .ok v w) : OV E sl H (.binOp op t x y t') r := fun I ν a w hh hs =>
  ⟨v, hr _ _ _, fun o w' ho _ => by
    have e1 := (a2q hs hx).int_inv
    have e2 := (a2q hs hy).int_inv
    have := hrun w'
    simp [execOp, ho, e1, e2, eqGuard, this]⟩
theorem a1p {t t' : TypeId} {x y : Operand} {k : IntKind} {m n c : Int} (hx : ev sl x = some (.int k m)) (hy : ev sl y = some (.int k n)) (hc : k.wrap (m + n) = c) : OV E sl H (.binOp .add t x y t') (.int k c) :=
  a7k hx hy (fun _ _ _ => .pure (.int k c)) fun w => by subst hc; simp [binOp, Op.intArith]
theorem a2s {t t' : TypeId} {x y : Operand} {k : IntKind} {m n c : Int} (hx : ev sl x = some (.int k m)) (hy : ev sl y = some (.int k n)) (hc : k.wrap (m - n) = c) : OV E sl H (.binOp .sub t x y t') (.int k c) :=
  a7k hx hy (fun _ _ _ => .pure (.int k c)) fun w => by subst hc; simp [binOp, Op.intArith]
theorem a8f {t t' : TypeId} {x y : Operand} {k : IntKind} {m n c : Int} (hx : ev sl x = some (.int k m)) (hy : ev sl y = some (.int k n)) (hc : k.wrap (m * n) = c) : OV E sl H (.binOp .mul t x y t') (.int k c) :=
  a7k hx hy (fun _ _ _ => .pure (.int k c)) fun w => by subst hc; simp [binOp, Op.intArith]
theorem c7i {t t' : TypeId} {x y : Operand} {k : IntKind} {m n c : Int} (hx : ev sl x = some (.int k m)) (hy : ev sl y = some (.int k n)) (h0 : n ≠ 0) (hc : m.tmod n = c) : OV E sl H (.binOp .rem t x y t') (.int k c) :=
  a7k hx hy (fun _ _ _ => .pure (.int k c)) fun w => by subst hc; simp [binOp, Op.intDiv, h0]
theorem b1v {op : BinOp} {t t' : TypeId} {x y : Operand} {k : IntKind} {m n c : Int} (hx : ev sl x = some (.int k m)) (hy : ev sl y = some (.int k n)) (ho : op = .and ∨ op = .or ∨ op = .xor) (hc : bits op k m n = c) : OV E sl H (.binOp op t x y t') (.int k c) :=
  a7k hx hy (fun _ _ _ => .pure (.int k c)) fun w => by subst hc; rcases ho with rfl | rfl | rfl <;> simp [binOp, intBits_and, intBits_or, intBits_xor]
theorem c4g {t t' : TypeId} {x y : Operand} {k k' : IntKind} {m n c : Int} (hx : ev sl x = some (.int k m)) (hy : ev sl y = some (.int k' n)) (h0 : 0 ≤ n) (hc : k.wrap (m * 2 ^ (min n.toNat k.bits)) = c) : OV E sl H (.binOp .shl t x y t') (.int k c) := fun I ν a w hh hs =>
  ⟨_, .pure (.int k c), fun o w' ho _ => by
    have e1 := (a2q hs hx).int_inv
    have e2 := (a2q hs hy).int_inv
    subst hc
    simp [execOp, ho, e1, e2, eqGuard, binOp, Op.shift, show ¬ n < 0 by omega]⟩
theorem c7h {t t' : TypeId} {x y : Operand} {k k' : IntKind} {m n c : Int} (hx : ev sl x = some (.int k m)) (hy : ev sl y = some (.int k' n)) (h0 : 0 ≤ n) (hc : m.fdiv (2 ^ (min n.toNat k.bits)) = c) : OV E sl H (.binOp .shr t x y t') (.int k c) := fun I ν a w hh hs =>
  ⟨_, .pure (.int k c), fun o w' ho _ => by
    have e1 := (a2q hs hx).int_inv
    have e2 := (a2q hs hy).int_inv
    subst hc
    simp [execOp, ho, e1, e2, eqGuard, binOp, Op.shift, show ¬ n < 0 by omega]⟩

def cmpI : BinOp → Int → Int → Option Bool
  | .eql, m, n => some (decide (m = n))
  | .neq, m, n => some (decide (m ≠ n))
  | .lss, m, n => some (decide (m < n))
  | .leq, m, n => some (decide (m ≤ n))
  | .gtr, m, n => some (decide (n < m))
  | .geq, m, n => some (decide (n ≤ m))
  | _, _, _ => none
theorem a1h {op : BinOp} {t t' : TypeId} {x y : Operand} {k : IntKind} {m n : Int} {b : Bool} (hx : ev sl x = some (.int k m)) (hy : ev sl y = some (.int k n)) (hb : cmpI op m n = some b) : OV E sl H (.binOp op t x y t') (.bool b) :=
  a7k hx hy (fun _ _ _ => .pure (.bool b)) fun w => by
    cases op <;> simp only [cmpI, Option.some.injEq, reduceCtorEq] at hb <;> subst hb <;> simp [binOp, Op.intCmp] <;> (rw [Bool.eq_iff_iff]; simp)
theorem a2z {t : TypeId} {x : Operand} {b c : Bool} (hx : ev sl x = some (.bool b)) (hc : (!b) = c) : OV E sl H (.unOp .not t x) (.bool c) := fun I ν a w hh hs =>
  ⟨_, .pure (.bool c), fun o w' ho _ => by
    have e1 := (a2q hs hx).bool_inv
    subst hc
    simp [execOp, ho, e1, Op.unary]⟩
theorem a8y (s : List UInt8) : (ByteArray.mk s.toArray).toList = s := by
  rw [ByteArray.toList_eq]
theorem b4u {op : BinOp} {t t' : TypeId} {x y : Operand} {m n : List UInt8} {r : AV} {v : Value} (hx : ev sl x = some (.str m)) (hy : ev sl y = some (.str n))
    (hr : ∀ w I ν, VR w I ν r v) (hrun : ∀ w, (binOp op t (.string ⟨m.toArray⟩) (.string ⟨n.toArray⟩)).run E.P w = .ok v w) : OV E sl H (.binOp op t x y t') r := fun I ν a w hh hs =>
  ⟨v, hr _ _ _, fun o w' ho _ => by
    have e1 := (a2q hs hx).str_inv
    have e2 := (a2q hs hy).str_inv
    have := hrun w'
    simp [execOp, ho, e1, e2, eqGuard, this]⟩
theorem a4m {t t' : TypeId} {x y : Operand} {m n : List UInt8} (hx : ev sl x = some (.str m)) (hy : ev sl y = some (.str n)) (hl : m.length + n.length ≤ 9223372036854775807) : OV E sl H (.binOp .add t x y t') (.str (m ++ n)) :=
  b4u hx hy (fun _ _ _ => .pure (.str (m ++ n))) fun w => by
    have e : (ByteArray.mk m.toArray ++ ByteArray.mk n.toArray) = ByteArray.mk (m ++ n).toArray := by
      apply ByteArray.ext
      simp
    have h2 : ¬ (((ByteArray.mk m.toArray).size + (ByteArray.mk n.toArray).size : Nat) : Int) > IntKind.i64.max := by
      simp [ByteArray.size, IntKind.max, IntKind.bits, IntKind.signed]
      omega
    simp only [binOp, Op.stringOp]
    rw [if_neg h2, e]
    simp
theorem a2t {t t' : TypeId} {x y : Operand} {m n : List UInt8} (hx : ev sl x = some (.str m)) (hy : ev sl y = some (.str n)) : OV E sl H (.binOp .eql t x y t') (.bool (decide (m = n))) :=
  b4u hx hy (fun _ _ _ => .pure (.bool _)) fun w => by
    simp [binOp, Op.stringOp, a8y]
    try (rw [Bool.eq_iff_iff]; simp)
theorem a3l {t t' : TypeId} {x y : Operand} {m n : List UInt8} (hx : ev sl x = some (.str m)) (hy : ev sl y = some (.str n)) : OV E sl H (.binOp .neq t x y t') (.bool (decide (m ≠ n))) :=
  b4u hx hy (fun _ _ _ => .pure (.bool _)) fun w => by
    simp [binOp, Op.stringOp, a8y]
    try (rw [Bool.eq_iff_iff]; simp)
end
end Go.Proofs.YtkljmljkiodnpaaGreatDoor.L

namespace Go.Proofs.YtkljmljkiodnpaaGreatDoor.L
open Go Go.RowKit

class TI (P : Program) (t : Nat) (d : outParam TypeDesc) (n : outParam Nat) (b : outParam Nat) (z : outParam Value) : Prop where
  u : P.underlying t = some d
  i : (P.info? t).map (fun i => (i.zero, i.size, i.bytes)) = some (some z, n, b)
class TZ (P : Program) (t : Nat) (agg : outParam Bool) (n : outParam Nat) (b : outParam Nat) (z : outParam Value) : Prop where
  i : (P.info? t).map (fun i => (i.zero, i.size, i.bytes)) = some (some z, n, b)
  a : ∀ w, (isAgg t).run P w = .ok agg w
class FO (P : Program) (s f : Nat) (off : outParam Nat) (n : outParam Nat) : Prop where
  out : ∃ fs fld, P.underlying s = some (.struct fs) ∧ fs[f]? = some fld ∧ fld.offset = off ∧ (P.info? fld.type).map (·.size) = some n ∧ n ≠ 0

def aggD : TypeDesc → Bool
  | .struct _ => true
  | .array _ _ => true
  | _ => false

theorem a4s (b off j : Nat) : (⟨b, off, none⟩ : Addr).add j = ⟨b, off + j, none⟩ := by unfold Addr.add; split <;> simp_all

section
variable {P : Program} {w : World}
theorem a4b {t : Nat} {i : TypeInfo} (h : P.info? t = some i) : (typeInfo t).run P w = .ok i w := by simp [typeInfo, program, Sem.run, bind, Sem.bind, h, pure]
theorem TI.size {t : Nat} {d : TypeDesc} {n b : Nat} {z : Value} (h : TI P t d n b z) : (sizeOf t).run P w = .ok n w := by
  obtain ⟨i, hi, hz⟩ := Option.map_eq_some_iff.1 h.i
  simp only [Prod.mk.injEq] at hz
  simp [sizeOf, a4b hi, hz.2.1]
theorem TI.bytes {t : Nat} {d : TypeDesc} {n b : Nat} {z : Value} (h : TI P t d n b z) : ∃ i, P.info? t = some i ∧ i.zero = some z ∧ i.size = n ∧ i.bytes = b := by
  obtain ⟨i, hi, hz⟩ := Option.map_eq_some_iff.1 h.i
  simp only [Prod.mk.injEq] at hz
  exact ⟨i, hi, hz.1, hz.2.1, hz.2.2⟩
theorem TI.zero {t : Nat} {d : TypeDesc} {n b : Nat} {z : Value} (h : TI P t d n b z) : (zeroValue t).run P w = .ok z w := by
  obtain ⟨i, hi, hz, _⟩ := h.bytes
  simp [zeroValue, a4b hi, hz]
theorem TI.und {t : Nat} {d : TypeDesc} {n b : Nat} {z : Value} (h : TI P t d n b z) : (underlying t).run P w = .ok d w := by
  simp [underlying, program, Sem.run, bind, Sem.bind, h.u, pure]
theorem TI.isAgg {t : Nat} {d : TypeDesc} {n b : Nat} {z : Value} (h : TI P t d n b z) : (isAgg t).run P w = .ok (aggD d) w := by
  unfold Go.isAgg
  simp only [Sem.run_bind, h.und, Result.andThen_ok]
  cases d <;> simp [aggD]
theorem a2a {t n b : Nat} {z : Value} (h : (P.info? t).map (fun i => (i.zero, i.size, i.bytes)) = some (some z, n, b)) : (P.info? t).map (·.size) = some n := by
  obtain ⟨i, hi, hz⟩ := Option.map_eq_some_iff.1 h
  simp only [Prod.mk.injEq] at hz
  simp [hi, hz.2.1]
theorem a3o {t : Nat} {d : TypeDesc} {a : Bool} (h : P.underlying t = some d) (ha : aggD d = a) : ∀ w, (isAgg t).run P w = .ok a w := by
  intro w
  subst ha
  unfold Go.isAgg
  have e : (underlying t).run P w = .ok d w := by simp [underlying, program, Sem.run, bind, Sem.bind, h, pure]
  simp only [Sem.run_bind, e, Result.andThen_ok]
  cases d <;> simp [aggD]
theorem TZ.size {t : Nat} {a : Bool} {n b : Nat} {z : Value} (h : TZ P t a n b z) : (sizeOf t).run P w = .ok n w := by
  obtain ⟨i, hi, hz⟩ := Option.map_eq_some_iff.1 h.i
  simp only [Prod.mk.injEq] at hz
  simp [sizeOf, a4b hi, hz.2.1]
theorem TZ.bytes {t : Nat} {a : Bool} {n b : Nat} {z : Value} (h : TZ P t a n b z) : ∃ i, P.info? t = some i ∧ i.zero = some z ∧ i.size = n ∧ i.bytes = b := by
  obtain ⟨i, hi, hz⟩ := Option.map_eq_some_iff.1 h.i
  simp only [Prod.mk.injEq] at hz
  exact ⟨i, hi, hz.1, hz.2.1, hz.2.2⟩
theorem TZ.zero {t : Nat} {a : Bool} {n b : Nat} {z : Value} (h : TZ P t a n b z) : (zeroValue t).run P w = .ok z w := by
  obtain ⟨i, hi, hz, _⟩ := h.bytes
  simp [zeroValue, a4b hi, hz]
theorem TZ.isAgg {t : Nat} {a : Bool} {n b : Nat} {z : Value} (h : TZ P t a n b z) : (isAgg t).run P w = .ok a w := h.a w
theorem b9j {a : Addr} {v : Value} (h : w.cell? a = some v) : (load a).run P w = .ok v w := by simp [load, Sem.run, h]
theorem b2v (b off : Nat) (us : List Value) : ∀ (n i : Nat) (acc : Array Value), n + i = us.length → (∀ j u, us[j]? = some u → w.cell? ⟨b, off + j, none⟩ = some u) →
    (loadCellsFrom ⟨b, off, none⟩ i n acc).run P w = .ok (acc ++ (us.drop i).toArray) w := by
  intro n
  induction n with
  | zero => intro i acc hn _; simp [loadCellsFrom, List.drop_eq_nil_of_le (show us.length ≤ i by omega)]
  | succ n ih =>
    intro i acc hn h
    have hi : i < us.length := by omega
    have h1 := h i us[i] (List.getElem?_eq_getElem hi)
    simp only [loadCellsFrom, a4s, Sem.run_bind, b9j h1, Result.andThen_ok]
    rw [ih (i + 1) _ (by omega) h, List.drop_eq_getElem_cons hi]
    congr 1
    apply Array.ext'
    simp
theorem b2u (b off : Nat) (us : List Value) (h : ∀ (j : Nat) u, us[j]? = some u → w.cell? ⟨b, off + j, none⟩ = some u) : (loadCells ⟨b, off, none⟩ us.length).run P w = .ok us.toArray w := by
  unfold loadCells
  rw [b2v b off us us.length 0 #[] (by omega) h]
  simp
end

def cellsAt (H : List AO) : AV → Option (List AV)
  | .op id off => match H[id]? with
    | some (.box cells _) => some (cells.drop off)
    | _ => none
  | .rp cs => some cs
  | .er id ver sz i off => match H[id]? with
    | some (.row e sz' ver' fz xs) => match Nat.beq ver ver', Nat.beq sz sz' with
      | true, true => match xs[i]? with
        | some c => some (c.drop off)
        | none => none
      | _, _ => none
    | some (.arr e sz' ver' xs wr) => match Nat.beq sz sz', Nat.beq ver ver' with
      | true, true => match xs[i]? with
        | some c => some (c.drop off)
        | none => none
      | _, _ => none
    | _ => none
  | _ => none

section
variable {E : Env} {I : Imm} {ν : Nu} {w : World} {sl : Slots} {H : List AO}
theorem b1c (hh : HR E I ν H w) {p : AV} {v : Value} (hp : VR w I ν p v) {xs : List AV} (h : cellsAt H p = some xs) :
    ∃ b off, v = .pointer (some ⟨b, off, none⟩) ∧ ∀ (j : Nat) x, xs[j]? = some x → ∃ u, (w.cell? ⟨b, off + j, none⟩ = some u ∧ VR w I ν x u) ∧ ∀ w', Still ν H I w w' → w'.cell? ⟨b, off + j, none⟩ = some u := by
  cases p with
  | op id off =>
    simp only [cellsAt] at h
    cases hp with
    | pure hp => cases hp
    | op _ _ b hi hv =>
      split at h
      · rename_i cells tyo hc
        injection h with h
        subst h
        refine ⟨b, off, rfl, fun j x hx => ?_⟩
        have hob := hh.obj id _ hc
        cases hob with
        | box _ _ b' vs ty hv' hb hheap hl hxx hI hty =>
          rw [hv] at hv'
          injection hv' with e; injection e with e; injection e with e
          subst e
          rw [List.getElem?_drop] at hx
          have hlt : off + j < cells.length := (List.getElem?_eq_some_iff.1 hx).1
          have hv2 : vs[off + j]? = some (vs[off + j]'(by omega)) := List.getElem?_eq_getElem _
          refine ⟨vs[off + j]'(by omega), ⟨?_, hxx _ _ _ hx hv2⟩, fun w' hw => ?_⟩
          · simp [World.cell?, hheap, hv2]
          · have := (hw.obj id _ b hc (by simp only [OB, OB1, hv])).trans hheap
            simp [World.cell?, this, hv2]
      · contradiction
  | rp cs =>
    simp only [cellsAt, Option.some.injEq] at h
    subst h
    cases hp with
    | pure hp =>
      cases hp with
      | rp _ b off us hu hv => exact ⟨b, off, rfl, fun j x hx => ⟨us j, ⟨(hu j x hx).1, .pure (hv j x hx)⟩, fun w' hw => (hw.imm _ _ (hu j x hx).2).trans (hu j x hx).1⟩⟩
  | er id ver sz i off =>
    simp only [cellsAt] at h
    cases hp with
    | pure hp => cases hp
    | er _ _ _ _ _ g n c hi hver hv =>
      split at h
      · rename_i e sz' ver' fz xs' hc
        split at h
        · rename_i hb1 hb2
          have e1 := Nat.eq_of_beq_eq_true hb1
          have e2 := Nat.eq_of_beq_eq_true hb2
          subst e1; subst e2
          split at h
          · rename_i c' hc'
            injection h with h
            subst h
            refine ⟨g, i * sz + off, rfl, fun j x hx => ?_⟩
            cases hh.obj id _ hc with
            | row _ _ _ _ _ inner ht h0 ho hr hf hI =>
              rw [List.getElem?_drop] at hx
              obtain ⟨hcl, hcx⟩ := hr.2 i c' hc'
              obtain ⟨u, hu, hvr⟩ := hcx (off + j) x hx
              have h1 : w.cell? ⟨g, i * sz + off + j, none⟩ = some u := by
                have := ho.cells (g := g) (by rw [hv]; rfl) (i * sz + (off + j)) u hu
                rw [a4s] at this
                rw [show i * sz + off + j = 0 + (i * sz + (off + j)) by omega]
                exact this
              refine ⟨u, ⟨h1, .pure hvr⟩, fun w' hw => ?_⟩
              have h2 := hw.obj id _ g hc (by simp only [OB, OB1, hv, Value.ownBlock])
              rw [← h1]
              exact World.cell?_of_block (a := ⟨g, i * sz + off + j, none⟩) h2
          · contradiction
        · contradiction
      · rename_i e sz' ver' xs' wr hc
        split at h
        · rename_i hb2 hb0
          have e2 := Nat.eq_of_beq_eq_true hb2
          subst e2
          split at h
          · rename_i c' hc'
            injection h with h
            subst h
            cases hh.obj id _ hc with
            | arr _ _ _ _ _ g' cc cur fr ht h0 hval hbase hheap hfr hl hcc hr hI =>
              refine ⟨g, i * sz + off, rfl, fun j x hx => ?_⟩
              rw [List.getElem?_drop] at hx
              obtain ⟨hcl, hcx⟩ := hr.2 i c' hc'
              obtain ⟨u, hu, hvr⟩ := hcx (off + j) x hx
              have hver0 : ver = ver' := Nat.eq_of_beq_eq_true hb0
              subst hver0
              rw [hval] at hv
              injection hv with hv; injection hv with hv; injection hv with hv
              subst hv
              have hu' : cur[i * sz + (off + j)]? = some u := by
                rw [List.getElem?_take] at hu
                split at hu
                · simpa using hu
                · cases hu
              have h1 : ∀ w2 : World, w2.heap[g']? = some (.cells cur e fr) → w2.cell? ⟨g', i * sz + off + j, none⟩ = some u := fun w2 hw2 => by
                simp only [World.cell?, hw2]
                rw [show i * sz + off + j = i * sz + (off + j) by omega]
                simpa using hu'
              exact ⟨u, ⟨h1 w hheap, .pure hvr⟩, fun w' hw => h1 w' ((hw.obj id _ g' hc (by simp only [OB, OB1, hval, Value.ownBlock])).trans hheap)⟩
          · contradiction
        · contradiction
      · contradiction
  | _ => simp [cellsAt] at h

theorem a0w {t : Nat} {n b : Nat} {z : Value} [ti : TZ E.P t false n b z] {p : Operand} {pv x : AV} {r : List AV} (hp : ev sl p = some pv) (hc : cellsAt H pv = some (x :: r)) : OV E sl H (.load t p) x := by
  intro I ν a w hh hs
  obtain ⟨bk, off, hv, hx⟩ := b1c hh (a2q hs hp) hc
  obtain ⟨u, ⟨hu, hvr⟩, hst⟩ := hx 0 x rfl
  refine ⟨u, hvr, fun o w' ho hb => ?_⟩
  have := hst w' hb
  simp only [Nat.add_zero] at this
  simp [execOp, ho, hv, Instr.loadAt, Instr.sureAddr, loadVar, ti.isAgg, this]

theorem a0m {t : Nat} {n b : Nat} {z : Value} [ti : TZ E.P t true n b z] {p : Operand} {pv : AV} {xs : List AV} (hp : ev sl p = some pv) (hc : cellsAt H pv = some xs) (hn : Nat.ble n xs.length = true) : OV E sl H (.load t p) (.agg (xs.take n)) := by
  intro I ν a w hh hs
  obtain ⟨bk, off, hv, hx⟩ := b1c hh (a2q hs hp) hc
  have hn' : n ≤ xs.length := Nat.le_of_ble_eq_true hn
  have hch : ∃ us : List Value, us.length = n ∧ ∀ (j : Nat) x u, (xs.take n)[j]? = some x → us[j]? = some u → (w.cell? ⟨bk, off + j, none⟩ = some u ∧ VR w I ν x u) ∧ ∀ w', Still ν H I w w' → w'.cell? ⟨bk, off + j, none⟩ = some u := by
    clear hn hc hp hv ti
    induction n with
    | zero => exact ⟨[], rfl, fun j x u h => by simp at h⟩
    | succ n ih =>
      obtain ⟨us, h1, h2⟩ := ih (by omega)
      obtain ⟨u, ⟨hu, hvr⟩, hst⟩ := hx n xs[n] (List.getElem?_eq_getElem (by omega))
      refine ⟨us ++ [u], by simp [h1], fun j x u' hj hu' => ?_⟩
      by_cases hjn : j < n
      · rw [List.getElem?_append_left (by omega)] at hu'
        rw [List.getElem?_take_of_lt (by omega)] at hj
        exact h2 j x u' (by rw [List.getElem?_take_of_lt hjn]; exact hj) hu'
      · have hj2 : j = n := by
          have := (List.getElem?_eq_some_iff.1 hu').1
          simp [h1] at this
          omega
        subst hj2
        rw [List.getElem?_append_right (by omega), h1] at hu'
        simp at hu'
        subst hu'
        rw [List.getElem?_take_of_lt (by omega), List.getElem?_eq_getElem (by omega)] at hj
        injection hj with hj
        subst hj
        exact ⟨⟨hu, hvr⟩, hst⟩
  obtain ⟨us, h1, h2⟩ := hch
  have htl : (xs.take n).length = n := by simp; omega
  refine ⟨.agg us.toArray, .agg _ us (by omega) (fun j x v hj hv => (h2 j x v hj hv).1.2), fun o w' ho hb => ?_⟩
  have hl := b2u (P := E.P) (w := w') bk off us (fun j u hu => (by
    have hjn : j < n := by have := (List.getElem?_eq_some_iff.1 hu).1; omega
    exact (h2 j _ u (List.getElem?_eq_getElem (by omega)) hu).2 w' hb))
  rw [h1] at hl
  simp [execOp, ho, hv, Instr.loadAt, Instr.sureAddr, loadVar, ti.isAgg, ti.size, hl]

def addOff : AV → Nat → Option AV
  | .op id off, n => some (.op id (off + n))
  | .rp cs, n => some (.rp (cs.drop n))
  | .ad b off, n => some (.ad b (off + n))
  | .er id ver sz i off, n => some (.er id ver sz i (off + n))
  | _, _ => none
theorem b4h {p q : AV} {n : Nat} {v : Value} (h : addOff p n = some q) (hp : VR w I ν p v) : ∃ b off, v = .pointer (some ⟨b, off, none⟩) ∧ VR w I ν q (.pointer (some ⟨b, off + n, none⟩)) := by
  cases p with
  | op id off =>
    simp only [addOff, Option.some.injEq] at h
    subst h
    cases hp with
    | pure hp => cases hp
    | op _ _ b hi hv => exact ⟨b, off, rfl, .op id _ b hi hv⟩
  | rp cs =>
    simp only [addOff, Option.some.injEq] at h
    subst h
    cases hp with
    | pure hp =>
      cases hp with
      | rp _ b off us hu hv => exact ⟨b, off, rfl, .rp _ b (off + n) (fun j => us (n + j)) (fun j x hx => by
          rw [List.getElem?_drop] at hx
          have h1 := hu _ x hx
          rw [show off + (n + j) = off + n + j by omega] at h1
          exact ⟨h1.1, h1.2, hv _ x hx⟩)⟩
  | er id ver sz i off =>
    simp only [addOff, Option.some.injEq] at h
    subst h
    cases hp with
    | pure hp => cases hp
    | er _ _ _ _ _ g m c hi hver hv => exact ⟨g, i * sz + off, rfl, by rw [show i * sz + off + n = i * sz + (off + n) by omega]; exact .er id ver sz i (off + n) g m c hi hver hv⟩
  | ad b off =>
    simp only [addOff, Option.some.injEq] at h
    subst h
    cases hp with
    | pure hp => cases hp; exact ⟨b, off, rfl, .pure (.ad b (off + n))⟩
  | _ => simp [addOff] at h

theorem a0f {s f off n : Nat} [fo : FO E.P s f off n] {p : Operand} {pv q : AV} (hp : ev sl p = some pv) (hq : addOff pv off = some q) : OV E sl H (.fieldAddr s p f) q := by
  intro I ν a w hh hs
  obtain ⟨b, o, hv, hr⟩ := b4h hq (a2q hs hp)
  refine ⟨_, hr, fun oo w' ho hb => ?_⟩
  obtain ⟨fs, fld, hu, hf, ho', hn, h0⟩ := fo.out
  obtain ⟨i, hi, hz⟩ := Option.map_eq_some_iff.1 hn
  have e1 : (underlying s).run E.P w' = .ok (.struct fs) w' := by simp [underlying, program, Sem.run, bind, Sem.bind, hu, pure]
  have e2 : (sizeOf fld.type).run E.P w' = .ok n w' := by simp [sizeOf, a4b hi, hz]
  simp [execOp, ho, hv, Instr.fieldAt, Instr.sureAddr, e1, hf, fieldPlace, e2, h0, ho', a4s]

theorem a1k {p : Operand} {pv : AV} {n : Nat} {q : AV} (hp : ev sl p = some pv) (hq : addOff pv n = some q) : OV E sl H (.nilCheck p) pv := by
  intro I ν a w hh hs
  obtain ⟨b, o, hv, hr⟩ := b4h hq (a2q hs hp)
  exact ⟨_, a2q hs hp, fun oo w' ho hb => by simp [execOp, ho, hv]⟩
end
end Go.Proofs.YtkljmljkiodnpaaGreatDoor.L

namespace Go.Proofs.YtkljmljkiodnpaaGreatDoor.L
open Go Go.RowKit

section
variable {E : Env} {I : Imm} {ν : Nu} {w : World} {sl : Slots} {H : List AO}

theorem VR.rs_inv {xs : List (List AV)} {v : Value} (h : VR w I ν (.rs xs) v) : VP w I (.rs xs) v := by
  cases h with
  | pure h => exact h
theorem VP.rs_slice {xs : List (List AV)} {v : Value} (h : VP w I (.rs xs) v) : ∃ A c, v = .slice A xs.length c := by
  cases h with
  | rs0 A c => exact ⟨A, c, rfl⟩
  | rs _ sz b off c us => exact ⟨_, c, rfl⟩
theorem VR.nilsl_inv {v : Value} (h : VR w I ν .nilsl v) : v = .slice none 0 0 := by
  cases h with
  | pure h => cases h; rfl

theorem a6m (s : List UInt8) : (ByteArray.mk s.toArray).size = s.length := rfl

theorem a2j {t e : Nat} {n b n' b' : Nat} {z z' : Value} {d' : Bool} [ti : TI E.P t (.slice e) n b z] [te : TZ E.P e d' n' b' z'] {x i : Operand} {xs : List (List AV)} {k : IntKind} {m : Int} {row : List AV}
    (hx : ev sl x = some (.rs xs)) (hi : ev sl i = some (.int k m)) (h0 : 0 ≤ m) (hr : xs[m.toNat]? = some row) (hl : row.length = n') : OV E sl H (.indexAddr t x i) (.rp row) := by
  intro I ν a w hh hs
  have hi' := (a2q hs hi).int_inv
  have hx' := (a2q hs hx).rs_inv
  obtain ⟨v, hv⟩ : ∃ v, a.eval x = v := ⟨_, rfl⟩
  rw [hv] at hx'
  cases hx' with
  | rs0 A c => simp at hr
  | rs _ sz bk off c us hsz hc hm hs' hu hxx =>
    have hlt : m.toNat < xs.length := (List.getElem?_eq_some_iff.1 hr).1
    have hsz' : sz = n' := by rw [← hs' _ _ hr]; exact hl
    subst hsz'
    refine ⟨.pointer (some ⟨bk, off + m.toNat * sz, none⟩), .rp row bk _ (fun j => us (m.toNat * sz + j)) (fun j y hy => ?_), fun o w' ho hb => ?_⟩
    · have hj : j < sz := by rw [← hs' _ _ hr]; exact (List.getElem?_eq_some_iff.1 hy).1
      have hlt2 : m.toNat * sz + j < xs.length * sz := by
        have h1 : (m.toNat + 1) * sz ≤ xs.length * sz := Nat.mul_le_mul_right _ hlt
        rw [Nat.add_mul, Nat.one_mul] at h1
        omega
      have := hu _ hlt2
      rw [Nat.add_assoc]
      exact ⟨this.1, this.2, hxx _ _ _ _ hr hy⟩
    · have h1 : m < (xs.length : Int) := by omega
      simp [execOp, ho, hv, hi', Instr.indexAt, asIntOf, ti.und, h0, h1, te.size, a4s]

def byteAt (s : List UInt8) (m : Int) : Int := ((s.getD m.toNat 0).toNat : Int)
theorem a1u {t : Nat} {n b : Nat} {z : Value} [ti : TI E.P t .string n b z] {x i : Operand} {s : List UInt8} {k : IntKind} {m : Int}
    (hx : ev sl x = some (.str s)) (hi : ev sl i = some (.int k m)) (h0 : 0 ≤ m) (h1 : m < (s.length : Int)) : OV E sl H (.index t x i) (.int .u8 (byteAt s m)) := by
  intro I ν a w hh hs
  have hi' := (a2q hs hi).int_inv
  have hx' := (a2q hs hx).str_inv
  have hlt : m.toNat < s.length := by omega
  refine ⟨_, .pure (.int .u8 _), fun o w' ho hb => ?_⟩
  have e : (ByteArray.mk s.toArray)[m.toNat]? = some s[m.toNat] := getElem?_pos (ByteArray.mk s.toArray) m.toNat hlt
  simp [execOp, ho, hx', hi', Instr.index, asIntOf, ti.und, h0, e, byteAt, List.getD_eq_getElem?_getD, hlt]

theorem a7t (s : List UInt8) (l h : Nat) : (ByteArray.mk s.toArray).extract l h = ByteArray.mk ((s.take h).drop l).toArray := by
  apply ByteArray.ext
  simp [ByteArray.data_extract, List.extract_toArray, List.extract_eq_take_drop]
  rw [List.drop_take]

theorem a6g {t : Nat} {n b : Nat} {z : Value} [ti : TI E.P t .string n b z] {x lo hi : Operand} {s : List UInt8} {k k' : IntKind} {l h : Int}
    (hx : ev sl x = some (.str s)) (hlo : ev sl lo = some (.int k l)) (hhi : ev sl hi = some (.int k' h)) (h0 : 0 ≤ l) (h1 : l ≤ h) (h2 : h ≤ (s.length : Int)) : OV E sl H (.slice t x (some lo) (some hi) none) (.str ((s.take h.toNat).drop l.toNat)) := by
  intro I ν a w hh hs
  have e1 := (a2q hs hx).str_inv
  have e2 := (a2q hs hlo).int_inv
  have e3 := (a2q hs hhi).int_inv
  refine ⟨_, .pure (.str _), fun o w' ho hb => ?_⟩
  have h3 : 0 ≤ h := by omega
  have h4 : l ≤ max h 0 := by omega
  simp [execOp, ho, e1, e2, e3, Instr.sliceAt, Instr.slice, Instr.sliceBounds, Instr.sliceBound, asIntOf, ti.und, a6m, h0, h2, h3, h4, a7t]
theorem a2u {t : Nat} {n b : Nat} {z : Value} [ti : TI E.P t .string n b z] {x lo : Operand} {s : List UInt8} {k : IntKind} {l : Int}
    (hx : ev sl x = some (.str s)) (hlo : ev sl lo = some (.int k l)) (h0 : 0 ≤ l) (h2 : l ≤ (s.length : Int)) : OV E sl H (.slice t x (some lo) none none) (.str (s.drop l.toNat)) := by
  intro I ν a w hh hs
  have e1 := (a2q hs hx).str_inv
  have e2 := (a2q hs hlo).int_inv
  refine ⟨_, .pure (.str _), fun o w' ho hb => ?_⟩
  have e3 := a7t s l.toNat s.length
  rw [List.take_length] at e3
  simp [execOp, ho, e1, e2, Instr.sliceAt, Instr.slice, Instr.sliceBounds, Instr.sliceBound, asIntOf, ti.und, a6m, h0, h2, e3]
theorem a3t {t : Nat} {n b : Nat} {z : Value} [ti : TI E.P t .string n b z] {x hi : Operand} {s : List UInt8} {k : IntKind} {h : Int}
    (hx : ev sl x = some (.str s)) (hhi : ev sl hi = some (.int k h)) (h0 : 0 ≤ h) (h2 : h ≤ (s.length : Int)) : OV E sl H (.slice t x none (some hi) none) (.str (s.take h.toNat)) := by
  intro I ν a w hh hs
  have e1 := (a2q hs hx).str_inv
  have e2 := (a2q hs hhi).int_inv
  refine ⟨_, .pure (.str _), fun o w' ho hb => ?_⟩
  simp [execOp, ho, e1, e2, Instr.sliceAt, Instr.slice, Instr.sliceBounds, Instr.sliceBound, asIntOf, ti.und, a6m, h0, h2, a7t]

theorem a0p {t : Nat} {n b : Nat} {z : Value} [ti : TI E.P t .string n b z] {x : Operand} {s : List UInt8} (hx : ev sl x = some (.str s)) :
    OV E sl H (.call { callee := .builtin .len, args := #[x], argTypes := #[t] }) (.int .i64 (s.length : Int)) := by
  intro I ν a w hh hs
  have e1 := (a2q hs hx).str_inv
  refine ⟨_, .pure (.int .i64 _), fun o w' ho hb => ?_⟩
  simp [execOp, ho, e1, resolve, invoke, builtin, Builtin.len_, ti.und, a6m, goInt]
theorem a2f {t e : Nat} {n b : Nat} {z : Value} [ti : TI E.P t (.slice e) n b z] {x : Operand} {xs : List (List AV)} (hx : ev sl x = some (.rs xs)) :
    OV E sl H (.call { callee := .builtin .len, args := #[x], argTypes := #[t] }) (.int .i64 (xs.length : Int)) := by
  intro I ν a w hh hs
  obtain ⟨A, c, e1⟩ := (a2q hs hx).rs_inv.rs_slice
  refine ⟨_, .pure (.int .i64 _), fun o w' ho hb => ?_⟩
  simp [execOp, ho, e1, resolve, invoke, builtin, Builtin.len_, ti.und, goInt]
theorem b0w {t e : Nat} {n b : Nat} {z : Value} [ti : TI E.P t (.slice e) n b z] {x : Operand} (hx : ev sl x = some .nilsl) :
    OV E sl H (.call { callee := .builtin .len, args := #[x], argTypes := #[t] }) (.int .i64 0) := by
  intro I ν a w hh hs
  have e1 := (a2q hs hx).nilsl_inv
  refine ⟨_, .pure (.int .i64 _), fun o w' ho hb => ?_⟩
  simp [execOp, ho, e1, resolve, invoke, builtin, Builtin.len_, ti.und, goInt]
theorem a3m {t e : Nat} {n b : Nat} {z : Value} [ti : TI E.P t (.slice e) n b z] {x : Operand} {id ver ver' fz sz e' : Nat} {xs : List (List AV)} (hx : ev sl x = some (.os id ver)) (hH : H[id]? = some (.row e' sz ver' fz xs)) (hver : ver = ver') :
    OV E sl H (.call { callee := .builtin .len, args := #[x], argTypes := #[t] }) (.int .i64 (xs.length : Int)) := by
  intro I ν a w hh hs
  subst hver
  have hx' := a2q hs hx
  obtain ⟨v, hv⟩ : ∃ v, a.eval x = v := ⟨_, rfl⟩
  rw [hv] at hx'
  cases hh.obj id _ hH with
  | row _ _ _ _ _ inner ht hp ho hr hf hI =>
    cases hx' with
    | pure hx' => cases hx'
    | os _ _ A0 n0 c0 hid hver hs0 =>
      rw [← hs0] at hv
      have : ∃ A c, ν.val id ver = .slice A xs.length c := by
        rcases ho.2 with ⟨h1, h2⟩ | ⟨g, cap, cur, h1, _⟩
        · exact ⟨none, 0, by rw [h1, h2]⟩
        · exact ⟨_, cap, h1⟩
      obtain ⟨A, c, e1⟩ := this
      rw [e1] at hv
      refine ⟨_, .pure (.int .i64 _), fun o w' ho hb => ?_⟩
      simp [execOp, ho, hv, resolve, invoke, builtin, Builtin.len_, ti.und, goInt]

theorem a0s {x : Operand} {vs : List AV} {i : Nat} {y : AV} (hx : ev sl x = some (.tup vs)) (hy : vs[i]? = some y) : OV E sl H (.extract x i) y := by
  intro I ν a w hh hs
  have hx' := a2q hs hx
  obtain ⟨v, hv⟩ : ∃ v, a.eval x = v := ⟨_, rfl⟩
  rw [hv] at hx'
  cases hx' with
  | pure h => cases h
  | tup _ us hl h =>
    have hi : i < us.length := by rw [← hl]; exact (List.getElem?_eq_some_iff.1 hy).1
    refine ⟨us[i], h i y _ hy (List.getElem?_eq_getElem hi), fun o w' ho hb => ?_⟩
    simp [execOp, ho, hv, Instr.extract, hi]

def evs (sl : Slots) : List Operand → Option (List AV)
  | [] => some []
  | o :: r => match ev sl o with
    | none => none
    | some x => match evs sl r with
      | none => none
      | some xs => some (x :: xs)
theorem b6y {a : Act} (hs : SlR w I ν sl a) : ∀ (l : List Operand) {xs : List AV}, evs sl l = some xs → xs.length = l.length ∧ ∀ (j : Nat) x v, xs[j]? = some x → (l.map a.eval)[j]? = some v → VR w I ν x v := by
  intro l
  induction l with
  | nil => intro xs h; simp only [evs, Option.some.injEq] at h; subst h; simp
  | cons o r ih =>
    intro xs h
    simp only [evs] at h
    split at h
    · contradiction
    · rename_i x hx
      split at h
      · contradiction
      · rename_i ys hy
        injection h with h
        subst h
        obtain ⟨h1, h2⟩ := ih hy
        refine ⟨by simp [h1], fun j x' v' hj hv => ?_⟩
        cases j with
        | zero =>
          simp only [List.getElem?_cons_zero, Option.some.injEq, List.map_cons] at hj hv
          subst hj; subst hv
          exact a2q hs hx
        | succ j => exact h2 j x' v' (by simpa using hj) (by simpa using hv)
theorem a5e {f : Nat} {l : List Operand} {caps : List AV} (hc : evs sl l = some caps) : OV E sl H (.makeFunc (.func f) #[] l.toArray) (.fn f caps) := by
  intro I ν a w hh hs
  obtain ⟨h1, h2⟩ := b6y hs l hc
  exact ⟨_, .fn f caps (l.map a.eval) (by simp [h1]) h2, fun o w' ho hb => by simp [execOp, ho, Instr.makeFunc]⟩

theorem a5f {src dst : Nat} {k k' : IntKind} {k0 : TypeDesc} {n b n' b' : Nat} {z z' : Value} [ts : TI E.P src k0 n' b' z'] [ti : TI E.P dst (.int k) n b z] {x : Operand} {m c : Int} (hx : ev sl x = some (.int k' m)) (hc : k.wrap m = c) : OV E sl H (.convert src dst x) (.int k c) := by
  intro I ν a w hh hs
  have e1 := (a2q hs hx).int_inv
  subst hc
  refine ⟨_, .pure (.int k _), fun o w' ho hb => ?_⟩
  simp [execOp, ho, e1, convert, ts.und, ti.und, Conv.intToInt]

class FS (P : Program) (t : Nat) (pl : outParam (List (Nat × Nat))) : Prop where
  out : ∃ fs : Array Field, P.underlying t = some (.struct fs) ∧ pl.length = fs.size ∧ ∀ (i : Nat) f, fs[i]? = some f → ∃ n, pl[i]? = some (f.offset, n) ∧ (P.info? f.type).map (·.size) = some n
def AV.cells : AV → List AV
  | .agg cs => cs
  | x => [x]
def setAt (cs : List AV) (off : Nat) : List AV → List AV
  | [] => cs
  | x :: r => setAt (cs.set off x) (off + 1) r
end
end Go.Proofs.YtkljmljkiodnpaaGreatDoor.L

namespace Go.Proofs.YtkljmljkiodnpaaGreatDoor.L
open Go Go.RowKit

section
variable {E : Env} {I I' : Imm} {ν ν' : Nu} {w w' : World} {sl : Slots} {H : List AO}

theorem a5j {id : Nat} {o : AO} (h : OR E w I ν id o) {b : Nat} (hb : OB ν id o b) : b < w.heap.size ∧ E.base ≤ b := by
  cases h with
  | gone => exact hb.elim
  | box cells tyo b' vs ty hv hb' hh hl hx hI hty =>
    simp only [OB, OB1, hv, Option.some.injEq] at hb
    subst hb
    exact ⟨(Array.getElem?_eq_some_iff.1 hh).1, hb'⟩
  | row e sz ver fz xs inner ht h0 ho hr hf hI =>
    have := ho.lt b hb
    exact ⟨this.2, this.1⟩
  | map es fl b' en ck hv hb' hh hr hbn =>
    simp only [OB, OB1, hv, Option.some.injEq] at hb
    subst hb
    exact ⟨(Array.getElem?_eq_some_iff.1 hh).1, hb'⟩
  | iter mid n seen r b' hv hb' hm hmv hh hk =>
    simp only [OB, OB1, hv, Option.some.injEq] at hb
    subst hb
    exact ⟨(Array.getElem?_eq_some_iff.1 hh).1, hb'⟩
  | arr e sz ver xs wr g c cur fr ht h0 hv hb' hh hfr hl hcc hr hI =>
    simp only [OB, OB1, hv, Value.ownBlock, Option.some.injEq] at hb
    subst hb
    exact ⟨(Array.getElem?_eq_some_iff.1 hh).1, hb'⟩
  | siter s pos r hv hb' hh =>
    simp only [OB, OB1, hv, Option.some.injEq] at hb
    subst hb
    exact ⟨(Array.getElem?_eq_some_iff.1 hh).1, hb'⟩
  | hp m hm =>
    obtain ⟨cs, hcs⟩ := hb
    obtain ⟨h1, ⟨vs, ty, h2, _⟩, _⟩ := hm b cs hcs
    exact ⟨(Array.getElem?_eq_some_iff.1 h2).1, h1⟩

theorem MapRel.mono {es : List (AV × AV)} {en : List MapEntry} (h : MapRel w I es en) (hI : ImmLe w I w' I') : MapRel w' I' es en :=
  ⟨h.1, fun i p x hp hx => ⟨(h.2 i p x hp hx).1.mono hI (Nu.le.refl _), (h.2 i p x hp hx).2.mono hI (Nu.le.refl _)⟩⟩

theorem b0h {id : Nat} {o : AO} (h : OR E w I ν id o) (hν : ν.le ν') (hid : id < ν.n) : OB ν' id o = OB ν id o := by
  funext b
  cases h with
  | gone => rfl
  | box cells tyo b' vs ty hv hb' hh hl hx hI hty => simp only [OB, OB1, hν.val id 0 hid (Nat.zero_le _)]
  | row e sz ver fz xs inner ht h0 ho hr hf hI => simp only [OB, OB1, hν.val id ver hid (by rw [ht]; exact Nat.le_refl _)]
  | map es fl b' en ck hv hb' hh hr hbn => simp only [OB, OB1, hν.val id 0 hid (Nat.zero_le _)]
  | iter mid n seen r b' hv hb' hm hmv hh hk => simp only [OB, OB1, hν.val id 0 hid (Nat.zero_le _)]
  | arr e sz ver xs wr g c cur fr ht h0 hv hb' hh hfr hl hcc hr hI => simp only [OB, OB1, hν.val id ver hid ht]
  | siter s pos r hv hb' hh => simp only [OB, OB1, hν.val id 0 hid (Nat.zero_le _)]
  | hp m hm => rfl

theorem OR.mono {id : Nat} {o : AO} (h : OR E w I ν id o) (hI : ImmLe w I w' I') (hν : ν.le ν') (hid : id < ν.n) (ht : ν'.top id = ν.top id) (hb : ∀ b, OB ν id o b → w'.heap[b]? = w.heap[b]?)
    (hn : ∀ b o', OB ν id o b → I' b o' → I b o') : OR E w' I' ν' id o := by
  cases h with
  | gone => exact .gone
  | box cells tyo b vs ty hv hb' hh hl hx hI' hty =>
    have hob : OB ν id (.box cells tyo) b := by simp only [OB, OB1, hv]
    exact .box cells tyo b vs ty ((hν.val id 0 hid (Nat.zero_le _)).trans hv) hb' ((hb b hob).trans hh) hl (fun j x v h1 h2 => (hx j x v h1 h2).mono hI hν) (fun o ho => hI' o (hn b o hob ho)) hty
  | row e sz ver fz xs inner ht' h0 ho hr hf hI' =>
    have hval := hν.val id ver hid (by rw [ht']; exact Nat.le_refl _)
    refine .row e sz ver fz xs inner (ht.trans ht') h0 ?_ ⟨hr.1, fun i c hc => ⟨(hr.2 i c hc).1, fun j x hx => ?_⟩⟩ hf (fun b o hb' hi => ?_)
    · rw [hval]
      refine ⟨ho.1, ?_⟩
      rcases ho.2 with h1 | ⟨g, cap, cur, h1, h2, h3, h4⟩
      · exact .inl h1
      · exact .inr ⟨g, cap, cur, h1, h2, (hb g (by simp only [OB, OB1, h1, Value.ownBlock])).trans h3, h4⟩
    · obtain ⟨u, hu, hvr⟩ := (hr.2 i c hc).2 j x hx
      exact ⟨u, hu, hvr.mono hI⟩
    · rw [hval] at hb'
      exact hI' b o hb' (hn b o hb' hi)
  | map es fl b' en ck hv hb' hh hr hbn =>
    exact .map es fl b' en ck ((hν.val id 0 hid (Nat.zero_le _)).trans hv) hb' ((hb b' (by simp only [OB, OB1, hv])).trans hh) (hr.mono hI) hbn
  | iter mid n seen r b' hv hb' hm hmv hh hk =>
    exact .iter mid n seen r b' ((hν.val id 0 hid (Nat.zero_le _)).trans hv) hb' (Nat.lt_of_lt_of_le hm hν.n) ((hν.val mid 0 hm (Nat.zero_le _)).trans hmv) ((hb r (by simp only [OB, OB1, hv])).trans hh) hk
  | arr e sz ver xs wr g c cur fr ht0 h0 hv hb' hh hfr hl hcc hr hI' =>
    have hob : OB ν id (.arr e sz ver xs wr) g := by simp only [OB, OB1, hv, Value.ownBlock]
    refine .arr e sz ver xs wr g c cur fr (by rw [ht]; exact ht0) h0 ((hν.val id ver hid ht0).trans hv) hb' ((hb g hob).trans hh) hfr hl hcc ⟨hr.1, fun i c hc => ⟨(hr.2 i c hc).1, fun j x hx => ?_⟩⟩ (fun o ho => hI' o (hn g o hob ho))
    obtain ⟨u, hu, hvr⟩ := (hr.2 i c hc).2 j x hx
    exact ⟨u, hu, hvr.mono hI⟩
  | siter s pos r hv hb' hh => exact .siter s pos r ((hν.val id 0 hid (Nat.zero_le _)).trans hv) hb' ((hb r (by simp only [OB, OB1, hv])).trans hh)
  | hp m hm =>
    refine .hp m fun b cells hc => ?_
    obtain ⟨h1, ⟨vs, ty, h2, h3, h4⟩, h5⟩ := hm b cells hc
    exact ⟨h1, ⟨vs, ty, (hb b ⟨cells, hc⟩).trans h2, h3, fun j x v hx hv => (h4 j x v hx hv).mono hI⟩, fun o ho => h5 o (hn b o ⟨cells, hc⟩ ho)⟩

theorem HR.idlt (hh : HR E I ν H w) {id : Nat} {o : AO} (h : H[id]? = some o) : id < ν.n := by
  rw [hh.n]; exact (List.getElem?_eq_some_iff.1 h).1

theorem ImmLe.heap (hh : HR E I ν H w) (hk : ∀ k, k < w.heap.size → (∃ o, I k o) → w'.heap[k]? = w.heap[k]?) : ImmLe w I w' I := by
  refine ⟨fun _ _ h => h, fun b o h => ?_⟩
  obtain ⟨v, hv⟩ := hh.imm b o h
  exact World.cell?_of_block (w := w) (a := ⟨b, o, none⟩) (hk b (World.block_lt_of_cell? w _ hv) ⟨o, h⟩)

def Nu.add (ν : Nu) (t : Nat) (f : Nat → Value) : Nu :=
  ⟨ν.n + 1, fun i => if i = ν.n then t else ν.top i, fun i v => if i = ν.n then f v else ν.val i v⟩
theorem Nu.add_le (ν : Nu) (t : Nat) (f : Nat → Value) : ν.le (ν.add t f) :=
  ⟨by simp [Nu.add], fun id h => by simp [Nu.add, Nat.ne_of_lt h], fun id ver h _ => by simp [Nu.add, Nat.ne_of_lt h]⟩

theorem HR.push (hh : HR E I ν H w) {o : AO} {t : Nat} {f : Nat → Value} (hb : Below E.base E.w0 w') (hs : w.heap.size ≤ w'.heap.size) (hk : ∀ k, k < w.heap.size → w'.heap[k]? = w.heap[k]?)
    (ho : OR E w' I (ν.add t f) ν.n o) (hB : ∀ b, OB (ν.add t f) ν.n o b → w.heap.size ≤ b) :
    HR E I (ν.add t f) (H ++ [o]) w' ∧ FR E.k w I ν H w' I (ν.add t f) (H ++ [o]) ∧ ImmLe w I w' I := by
  have hI : ImmLe w I w' I := ImmLe.heap hh fun k h _ => hk k h
  have hle := ν.add_le t f
  have hold : ∀ (id : Nat) o', (H ++ [o])[id]? = some o' → (H[id]? = some o' ∧ id < ν.n) ∨ (id = ν.n ∧ o' = o) := by
    intro id o' h
    rcases Nat.lt_or_ge id H.length with hlt | hge
    · rw [List.getElem?_append_left hlt] at h
      exact .inl ⟨h, by rw [hh.n]; exact hlt⟩
    · rw [List.getElem?_append_right hge] at h
      have : id - H.length = 0 := by
        rcases Nat.eq_zero_or_pos (id - H.length) with h0 | h0
        · exact h0
        · rw [List.getElem?_eq_none (by simp; omega)] at h; cases h
      rw [this] at h
      simp at h
      exact .inr ⟨by rw [hh.n]; omega, h.symm⟩
  have hOB : ∀ (id : Nat) o', H[id]? = some o' → OB (ν.add t f) id o' = OB ν id o' := fun id o' h => b0h (hh.obj id o' h) hle (hh.idlt h)
  refine ⟨⟨by simp [Nu.add, hh.n], hb, Nat.le_trans hh.base hs, fun b o' h => ?_, fun id o' h => ?_, ?_⟩, ⟨hI, hs, fun b o' h => .inl h, fun b h _ => hk b h, fun b ⟨id, o', h, h2⟩ => ?_, hle.ag _, fun id _ h => ⟨by simp [Nu.add, Nat.ne_of_lt (hh.idlt h)], by rw [List.getElem?_append_left (List.getElem?_eq_some_iff.1 h).1]; exact h⟩⟩, hI⟩
  · obtain ⟨v, hv⟩ := hh.imm b o' h
    exact ⟨v, (hI.2 b o' h).trans hv⟩
  · rcases hold id o' h with ⟨h1, h2⟩ | ⟨rfl, rfl⟩
    · exact (hh.obj id o' h1).mono hI hle h2 (by simp [Nu.add, Nat.ne_of_lt h2]) (fun b hb' => hk b (a5j (hh.obj id o' h1) hb').1) (fun _ _ _ h => h)
    · exact ho
  · intro id id' o1 o2 b h1 h2 e1 e2
    rcases hold id o1 h1 with ⟨k1, l1⟩ | ⟨rfl, rfl⟩ <;> rcases hold id' o2 h2 with ⟨k2, l2⟩ | ⟨rfl, rfl⟩
    · rw [hOB id o1 k1] at e1
      rw [hOB id' o2 k2] at e2
      exact hh.disj id id' o1 o2 b k1 k2 e1 e2
    · rw [hOB id o1 k1] at e1
      have := (a5j (hh.obj id o1 k1) e1).1
      have := hB b e2
      omega
    · rw [hOB id' o2 k2] at e2
      have := (a5j (hh.obj id' o2 k2) e2).1
      have := hB b e1
      omega
    · rfl
  · rcases hold id o' h with ⟨k1, l1⟩ | ⟨rfl, rfl⟩
    · rw [hOB id o' k1] at h2
      exact .inl ⟨id, o', k1, h2⟩
    · exact .inr (hB b h2)

theorem HR.set (hh : HR E I ν H w) {id : Nat} {o o' : AO} (hid : H[id]? = some o) (hgo : o ≠ .gone) (hν : ν.le ν') (hn : ν'.n = ν.n) (ht : ∀ j, j ≠ id → ν'.top j = ν.top j)
    (hb : Below E.base E.w0 w') (hs : w.heap.size ≤ w'.heap.size) (hk : ∀ k, k < w.heap.size → ¬ OB ν id o k → w'.heap[k]? = w.heap[k]?) (hI : ImmLe w I w' I)
    (ho : OR E w' I ν' id o') (hB : ∀ b, OB ν' id o' b → OB ν id o b ∨ w.heap.size ≤ b) :
    HR E I ν' (H.set id o') w' ∧ FR E.k w I ν H w' I ν' (H.set id o') := by
  have hlt : id < H.length := (List.getElem?_eq_some_iff.1 hid).1
  have hold : ∀ (j : Nat) q, (H.set id o')[j]? = some q → (j ≠ id ∧ H[j]? = some q) ∨ (j = id ∧ q = o') := by
    intro j q h
    by_cases e : j = id
    · subst e
      rw [List.getElem?_set_self hlt] at h
      exact .inr ⟨rfl, by simpa using h.symm⟩
    · rw [List.getElem?_set_ne (Ne.symm e)] at h
      exact .inl ⟨e, h⟩
  have hOB : ∀ (j : Nat) q, H[j]? = some q → OB ν' j q = OB ν j q := fun j q h => b0h (hh.obj j q h) hν (hh.idlt h)
  have hne : ∀ (j : Nat) q b, j ≠ id → H[j]? = some q → OB ν j q b → ¬ OB ν id o b := fun j q b hj h e1 e2 => hj (hh.disj j id q o b h hid e1 e2)
  refine ⟨⟨by rw [hn, hh.n]; simp, hb, Nat.le_trans hh.base hs, fun b q h => ?_, fun j q h => ?_, ?_⟩, ⟨hI, hs, fun b q h => .inl h, fun b h h2 => hk b h (fun e => h2 ⟨id, o, hid, e⟩), fun b ⟨j, q, h, h2⟩ => ?_, hν.ag _, fun j _ h => ?_⟩⟩
  · obtain ⟨v, hv⟩ := hh.imm b q h
    exact ⟨v, (hI.2 b q h).trans hv⟩
  · rcases hold j q h with ⟨h1, h2⟩ | ⟨rfl, rfl⟩
    · exact (hh.obj j q h2).mono hI hν (hh.idlt h2) (ht j h1) (fun b hb' => hk b (a5j (hh.obj j q h2) hb').1 (hne j q b h1 h2 hb')) (fun _ _ _ h => h)
    · exact ho
  · intro i j o1 o2 b h1 h2 e1 e2
    rcases hold i o1 h1 with ⟨k1, l1⟩ | ⟨rfl, rfl⟩ <;> rcases hold j o2 h2 with ⟨k2, l2⟩ | ⟨rfl, rfl⟩
    · rw [hOB i o1 l1] at e1
      rw [hOB j o2 l2] at e2
      exact hh.disj i j o1 o2 b l1 l2 e1 e2
    · rw [hOB i o1 l1] at e1
      rcases hB b e2 with h3 | h3
      · exact absurd h3 (hne i o1 b k1 l1 e1)
      · have := (a5j (hh.obj i o1 l1) e1).1
        omega
    · rw [hOB j o2 l2] at e2
      rcases hB b e1 with h3 | h3
      · exact absurd h3 (hne j o2 b k2 l2 e2)
      · have := (a5j (hh.obj j o2 l2) e2).1
        omega
    · rfl
  · rcases hold j q h with ⟨h1, h3⟩ | ⟨rfl, rfl⟩
    · rw [hOB j q h3] at h2
      exact .inl ⟨j, q, h3, h2⟩
    · rcases hB b h2 with h3 | h3
      · exact .inl ⟨j, o, hid, h3⟩
      · exact .inr h3
  · have hj : j ≠ id := fun e => by
      subst e
      rw [hid] at h
      injection h with h
      exact hgo h
    exact ⟨ht j hj, by rw [List.getElem?_set_ne (Ne.symm hj)]; exact h⟩

def AV.cell : AV → Bool
  | .any => false
  | .und => false
  | .agg _ => false
  | .tup _ => false
  | _ => true
theorem VR.cell1 {x : AV} {v : Value} (h : VR w I ν x v) (hc : x.cell = true) : v.cells = #[v] ∧ v.oneCell' = true := by
  cases h with
  | any v => simp [AV.cell] at hc
  | und v e => simp [AV.cell] at hc
  | agg cs vs hl h => simp [AV.cell] at hc
  | tup cs vs hl h => simp [AV.cell] at hc
  | pure h => cases h <;> exact ⟨rfl, rfl⟩
  | _ => exact ⟨rfl, rfl⟩
def allCell : List AV → Bool
  | [] => true
  | x :: r => match x.cell with
    | true => allCell r
    | false => false
theorem b5v : ∀ {xs : List AV}, allCell xs = true → ∀ (j : Nat) x, xs[j]? = some x → x.cell = true := by
  intro xs
  induction xs with
  | nil => intro _ j x h; simp at h
  | cons y r ih =>
    intro h j x hj
    simp only [allCell] at h
    split at h
    · rename_i hy
      cases j with
      | zero => simp only [List.getElem?_cons_zero, Option.some.injEq] at hj; subst hj; exact hy
      | succ j => exact ih h j x (by simpa using hj)
    · cases h
theorem VR.cells_ok {x : AV} {v : Value} (h : VR w I ν x v) {cs : List AV} (hc : x.cells = cs) (ha : allCell cs = true) :
    ∃ vs : List Value, v.cells = vs.toArray ∧ cs.length = vs.length ∧ (∀ (j : Nat) y u, cs[j]? = some y → vs[j]? = some u → VR w I ν y u) ∧ ∀ u ∈ vs, u.oneCell' = true := by
  subst hc
  cases h with
  | agg cs vs hl h =>
    refine ⟨vs, rfl, hl, h, fun u hu => ?_⟩
    obtain ⟨j, hj, rfl⟩ := List.mem_iff_getElem.1 hu
    have h1 : cs[j]? = some (cs[j]'(by omega)) := List.getElem?_eq_getElem _
    exact ((h j _ _ h1 (List.getElem?_eq_getElem hj)).cell1 (b5v ha j _ h1)).2
  | tup cs vs hl h => simp [AV.cells, allCell, AV.cell] at ha
  | any v => simp [AV.cells, allCell, AV.cell] at ha
  | und v e => simp [AV.cells, allCell, AV.cell] at ha
  | pure h =>
    refine ⟨[v], ?_, ?_, ?_, ?_⟩ <;> cases h <;> first | rfl | (intro j y u hy hu; cases j <;> simp [AV.cells] at hy hu; subst hy; subst hu; constructor; constructor <;> assumption) | (intro u hu; simp at hu; subst hu; rfl) | skip
  | op id off b hi h => exact ⟨[_], rfl, rfl, fun j y u hy hu => by cases j <;> simp [AV.cells] at hy hu; subst hy; subst hu; exact .op id off b hi h, fun u hu => by simp at hu; subst hu; rfl⟩
  | os id ver A n c hi hv hs => exact ⟨[_], rfl, rfl, fun j y u hy hu => by cases j <;> simp [AV.cells] at hy hu; subst hy; subst hu; exact .os id ver A n c hi hv hs, fun u hu => by simp at hu; subst hu; rfl⟩
  | er id ver sz i off g n c hi hv h => exact ⟨[_], rfl, rfl, fun j y u hy hu => by cases j <;> simp [AV.cells] at hy hu; subst hy; subst hu; exact .er id ver sz i off g n c hi hv h, fun u hu => by simp at hu; subst hu; rfl⟩
  | mp id r hi hs => exact ⟨[_], rfl, rfl, fun j y u hy hu => by cases j <;> simp [AV.cells] at hy hu; subst hy; subst hu; exact .mp id r hi hs, fun u hu => by simp at hu; subst hu; rfl⟩
  | fn f caps vs hl h => exact ⟨[_], rfl, rfl, fun j y u hy hu => by cases j <;> simp [AV.cells] at hy hu; subst hy; subst hu; exact .fn f caps vs hl h, fun u hu => by simp at hu; subst hu; rfl⟩
end
end Go.Proofs.YtkljmljkiodnpaaGreatDoor.L

namespace Go.Proofs.YtkljmljkiodnpaaGreatDoor.L
open Go Go.RowKit

theorem ln0 {α : Type} : ([] : List α).length = 0 := rfl
theorem ln1 {α : Type} {a : α} : [a].length = 1 := rfl
theorem ln2 {α : Type} {a b : α} : [a, b].length = 2 := rfl
theorem ln3 {α : Type} {a b c : α} : [a, b, c].length = 3 := rfl
theorem ln4 {α : Type} {a b c d : α} : [a, b, c, d].length = 4 := rfl
theorem ln5 {α : Type} {a b c d e : α} : [a, b, c, d, e].length = 5 := rfl
theorem ln6 {α : Type} {a b c d e f : α} : [a, b, c, d, e, f].length = 6 := rfl
theorem ln7 {α : Type} {a b c d e f g : α} : [a, b, c, d, e, f, g].length = 7 := rfl
inductive Snoc {α : Type} : List α → α → List α → Prop where
  | nil {o : α} : Snoc [] o [o]
  | cons {a o : α} {l l' : List α} (h : Snoc l o l') : Snoc (a :: l) o (a :: l')
theorem Snoc.eq {α : Type} {l l' : List α} {o : α} (h : Snoc l o l') : l' = l ++ [o] := by induction h <;> simp [*]
inductive Upd {α : Type} : Nat → List α → α → α → List α → Prop where
  | zero {o o' : α} {l : List α} : Upd 0 (o :: l) o o' (o' :: l)
  | succ {n : Nat} {a o o' : α} {l l' : List α} (h : Upd n l o o' l') : Upd (n + 1) (a :: l) o o' (a :: l')
theorem Upd.eq {α : Type} {n : Nat} {l l' : List α} {o o' : α} (h : Upd n l o o' l') : l[n]? = some o ∧ l' = l.set n o' := by induction h <;> simp [*]
inductive PutN {α : Type} : Nat → List α → List α → List α → Prop where
  | done {l : List α} : PutN 0 l [] l
  | here {a c : α} {l cs l' : List α} (h : PutN 0 l cs l') : PutN 0 (a :: l) (c :: cs) (c :: l')
  | skip {n : Nat} {a : α} {l cs l' : List α} (h : PutN n l cs l') : PutN (n + 1) (a :: l) cs (a :: l')
theorem PutN.eq {α : Type} {n : Nat} {l cs l' : List α} (h : PutN n l cs l') : n + cs.length ≤ l.length ∧ l' = l.take n ++ cs ++ l.drop (n + cs.length) := by
  induction h with
  | done => simp
  | here h ih => obtain ⟨h1, h2⟩ := ih; subst h2; simp at h1 ⊢; exact h1
  | skip h ih =>
    obtain ⟨h1, h2⟩ := ih
    subst h2
    simp only [List.length_cons, List.take_succ_cons, List.cons_append]
    refine ⟨by omega, ?_⟩
    rw [Nat.add_right_comm, List.drop_succ_cons]

section
variable {E : Env} {N : Nat} {ops : Array Oper} {Q : Exit → St → Prop} {rest : List Oper} {sl : Slots} {H H' : List AO}

theorem a6c {op : Op} {ty : TypeId} {pos : String} {after : Array Edge} {d : Nat} {x : AV} (hd : Nat.blt d N = true)
    (hv : ∀ I ν a w, HR E I ν H w → SlR w I ν sl a → ∃ v w' ν', (∀ o : Oper, o.op = op → (execOp a.eval o).run E.P w = .ok (.value v) w') ∧ HR E I ν' H' w' ∧ FR E.k w I ν H w' I ν' H' ∧ ν.le ν' ∧ VR w' I ν' x v)
    (h : AL E N ops Q rest ⟨(d, x) :: sl, H'⟩) : AL E N ops Q (⟨some d, op, ty, pos, after, none⟩ :: rest) ⟨sl, H⟩ := by
  intro I ν a w hs w0 I0 ν0 o0 hf
  obtain ⟨v, w', ν', hr, hh, hfr, hν, hx⟩ := hv I ν a w hs.hr hs.sl
  refine wpList_plain rfl fun K hK => ?_
  unfold Oper.wp
  rw [hr _ rfl]
  refine hK _ _ (h I ν' _ w' ⟨hh, (hs.sl.mono hfr.imm hν).put d hx (by rw [hs.nt]; simpa [Nat.blt_eq] using hd), hs.df, by simp [Act.put, hs.nt]⟩ w0 I0 ν0 o0 (hf.trans hfr))
theorem b2j {op : Op} {ty : TypeId} {pos : String} {after : Array Edge}
    (hv : ∀ I ν a w, HR E I ν H w → SlR w I ν sl a → ∃ w' ν', (∀ o : Oper, o.op = op → (execOp a.eval o).run E.P w = .ok .skip w') ∧ HR E I ν' H' w' ∧ FR E.k w I ν H w' I ν' H' ∧ ν.le ν')
    (h : AL E N ops Q rest ⟨sl, H'⟩) : AL E N ops Q (⟨none, op, ty, pos, after, none⟩ :: rest) ⟨sl, H⟩ := by
  intro I ν a w hs w0 I0 ν0 o0 hf
  obtain ⟨w', ν', hr, hh, hfr, hν⟩ := hv I ν a w hs.hr hs.sl
  refine wpList_plain rfl fun K hK => ?_
  unfold Oper.wp
  rw [hr _ rfl]
  exact hK _ _ (h I ν' _ w' ⟨hh, hs.sl.mono hfr.imm hν, hs.df, hs.nt⟩ w0 I0 ν0 o0 (hf.trans hfr))

theorem a7r (w : World) (o : Obj) (k : Nat) (h : k < w.heap.size) : (w.alloc o).heap[k]? = w.heap[k]? := by
  show (w.heap.push o)[k]? = w.heap[k]?
  rw [Array.getElem?_push, if_neg (Nat.ne_of_lt h)]
theorem a5b (w : World) (o : Obj) : (w.alloc o).heap[w.heap.size]? = some o := by
  show (w.heap.push o)[w.heap.size]? = _
  simp
theorem a7g (P : Program) (w : World) (e : TypeId) (v : Value) : (newVar e v).run P w = .ok ⟨w.heap.size, 0, none⟩ (w.alloc (.cells v.cells e)) := by
  simp [newVar, newRow, newObj, Sem.run, bind, Sem.bind, pure]

theorem b2g {I : Imm} {ν : Nu} {w : World} (hh : HR E I ν H w) {cs : List AV} {vs : List Value} {e : TypeId} (tyo : Option Nat) (hto : ∀ t, tyo = some t → e = t) (hl : cs.length = vs.length) (hx : ∀ (j : Nat) y u, cs[j]? = some y → vs[j]? = some u → VR w I ν y u) :
    ∃ ν', HR E I ν' (H ++ [.box cs tyo]) (w.alloc (.cells vs.toArray e)) ∧ FR E.k w I ν H (w.alloc (.cells vs.toArray e)) I ν' (H ++ [.box cs tyo]) ∧ ν.le ν' ∧ VR (w.alloc (.cells vs.toArray e)) I ν' (.op H.length 0) (.pointer (some ⟨w.heap.size, 0, none⟩)) := by
  have hle := ν.add_le 0 fun _ => .pointer (some ⟨w.heap.size, 0, none⟩)
  have hk : ∀ k, k < w.heap.size → (w.alloc (.cells vs.toArray e)).heap[k]? = w.heap[k]? := fun k h => a7r w _ k h
  have hI : ImmLe w I (w.alloc (.cells vs.toArray e)) I := ImmLe.heap hh fun k h _ => hk k h
  have := hh.push (o := .box cs tyo) (t := 0) (f := fun _ => .pointer (some ⟨w.heap.size, 0, none⟩)) (w' := w.alloc (.cells vs.toArray e)) (hh.below.alloc hh.base _) (by simp) hk
    (.box cs tyo w.heap.size vs e (by simp [Nu.add]) hh.base (a5b w _) hl (fun j y u h1 h2 => (hx j y u h1 h2).mono hI hle) (fun o ho => by
      obtain ⟨v, hv⟩ := hh.imm _ _ ho
      have := World.block_lt_of_cell? w _ hv
      simp at this) hto)
    (fun b hb => by simp only [OB, OB1, Nu.add, if_true, Option.some.injEq] at hb; omega)
  refine ⟨_, this.1, this.2.1, hle, ?_⟩
  exact .op _ 0 w.heap.size (by simp [Nu.add, hh.n]) (by simp [Nu.add, hh.n])

theorem a2g {e : TypeId} {x : Operand} {xv : AV} {cs : List AV} {ty : TypeId} {pos : String} {after : Array Edge} {d n : Nat} (hx : ev sl x = some xv) (hc : xv.cells = cs) (ha : allCell cs = true) (hn : H.length = n) (hH : Snoc H (.box cs) H') (hd : Nat.blt d N = true)
    (h : AL E N ops Q rest ⟨(d, .op n 0) :: sl, H'⟩) : AL E N ops Q (⟨some d, .box e x, ty, pos, after, none⟩ :: rest) ⟨sl, H⟩ := by
  subst hn
  rw [hH.eq] at h
  refine a6c hd (fun I ν a w hh hs => ?_) h
  obtain ⟨vs, hv, hl, hxx, _⟩ := (a2q hs hx).cells_ok hc ha
  obtain ⟨ν', h1, h2, h3, h4⟩ := b2g (e := e) hh none (fun t h => by cases h) hl hxx
  exact ⟨_, _, ν', fun o ho => by simp [execOp, ho, Instr.box, a7g, hv], h1, h2, h3, h4⟩

theorem a0z {e : Nat} {dd : Bool} {n' b : Nat} {z : Value} [ti : TZ E.P e dd n' b z] {zv : AV} {cs : List AV} {ty : TypeId} {pos : String} {after : Array Edge} {d n : Nat} (hz : constAV z = some zv) (hc : zv.cells = cs) (ha : allCell cs = true) (hn : H.length = n) (hH : Snoc H (.box cs) H') (hd : Nat.blt d N = true)
    (h : AL E N ops Q rest ⟨(d, .op n 0) :: sl, H'⟩) : AL E N ops Q (⟨some d, .alloc e, ty, pos, after, none⟩ :: rest) ⟨sl, H⟩ := by
  subst hn
  rw [hH.eq] at h
  refine a6c hd (fun I ν a w hh hs => ?_) h
  obtain ⟨vs, hv, hl, hxx, _⟩ := (a5c (w := w) (I := I) (ν := ν) hz).cells_ok hc ha
  obtain ⟨ν', h1, h2, h3, h4⟩ := b2g (e := e) hh none (fun t h => by cases h) hl hxx
  exact ⟨_, _, ν', fun o ho => by simp [execOp, ho, Instr.alloc, a7g, hv, ti.zero], h1, h2, h3, h4⟩

theorem a7z {e : Nat} {dd : Bool} {n' b : Nat} {z : Value} [ti : TZ E.P e dd n' b z] {zv : AV} {cs : List AV} {ty : TypeId} {pos : String} {after : Array Edge} {d n : Nat} (hz : constAV z = some zv) (hc : zv.cells = cs) (ha : allCell cs = true) (hn : H.length = n) (hH : Snoc H (.box cs (some e)) H') (hd : Nat.blt d N = true)
    (h : AL E N ops Q rest ⟨(d, .op n 0) :: sl, H'⟩) : AL E N ops Q (⟨some d, .alloc e, ty, pos, after, none⟩ :: rest) ⟨sl, H⟩ := by
  subst hn
  rw [hH.eq] at h
  refine a6c hd (fun I ν a w hh hs => ?_) h
  obtain ⟨vs, hv, hl, hxx, _⟩ := (a5c (w := w) (I := I) (ν := ν) hz).cells_ok hc ha
  obtain ⟨ν', h1, h2, h3, h4⟩ := b2g (e := e) hh (some e) (fun t h => by injection h) hl hxx
  exact ⟨_, _, ν', fun o ho => by simp [execOp, ho, Instr.alloc, a7g, hv, ti.zero], h1, h2, h3, h4⟩

theorem a1c {tyo : Option Nat} {t : Nat} {dd : Bool} {n b : Nat} {z : Value} [ti : TZ E.P t dd n b z] {p x : Operand} {id off : Nat} {xv : AV} {cs cells cells' : List AV} {ty : TypeId} {pos : String} {after : Array Edge} (hp : ev sl p = some (.op id off)) (hx : ev sl x = some xv) (hc : xv.cells = cs) (ha : allCell cs = true) (hn : cs.length = n)
    (hU : Upd id H (.box cells tyo) (.box cells' tyo) H') (hP : PutN off cells cs cells')
    (h : AL E N ops Q rest ⟨sl, H'⟩) : AL E N ops Q (⟨none, .store t p x, ty, pos, after, none⟩ :: rest) ⟨sl, H⟩ := by
  obtain ⟨hid, hset⟩ := hU.eq
  subst hset
  obtain ⟨hpl, hpe⟩ := hP.eq
  refine b2j (fun I ν a w hh hs => ?_) h
  obtain ⟨vs, hv, hl, hxx, hone⟩ := (a2q hs hx).cells_ok hc ha
  have hp' := a2q hs hp
  obtain ⟨pv, hpv⟩ : ∃ v, a.eval p = v := ⟨_, rfl⟩
  rw [hpv] at hp'
  cases hp' with
  | pure hp' => cases hp'
  | op _ _ bk hi hval =>
  have hob := hh.obj id _ hid
  cases hob with
  | box _ _ b' us ty' hv' hb' hheap hl' hx' hI' hty' =>
  rw [hval] at hv'
  injection hv' with e1; injection e1 with e1; injection e1 with e1
  subst e1
  have hst := run_storeCells_at E.P bk off ty' vs 0 us.toArray w hheap (by simp; omega) hone
  simp only [Nat.add_zero] at hst
  obtain ⟨us', hus⟩ : ∃ us', us' = us.take off ++ vs ++ us.drop (off + vs.length) := ⟨_, rfl⟩
  rw [show (us.toArray.toList.take off ++ vs ++ us.toArray.toList.drop (off + vs.length)).toArray = us'.toArray by simp [hus]] at hst
  obtain ⟨w', hw'⟩ : ∃ w', w' = w.setRow bk us'.toArray := ⟨_, rfl⟩
  rw [← hw'] at hst
  have hheap' : w'.heap[bk]? = some (.cells us'.toArray ty' (0, 0)) := by rw [hw']; exact setRow_heap w bk _ _ ty' _ hheap
  have hfar : ∀ k, k ≠ bk → w'.heap[k]? = w.heap[k]? := fun k hk => by rw [hw']; exact setRow_other w bk k _ hk
  have hI : ImmLe w I w' I := ImmLe.heap hh fun k _ ⟨o, ho⟩ => hfar k (fun e => hI' o (e ▸ ho))
  have hOB : OB ν id (.box cells tyo) bk := by simp only [OB, OB1, hval]
  have hbel : Below E.base E.w0 w' := by
    rw [hw']
    refine hh.below.trans ⟨rfl, rfl, rfl, by simp [World.setRow], fun k hk => ?_⟩
    exact setRow_other w bk k _ (by omega)
  have := hh.set (o' := .box cells' tyo) (w' := w') hid (fun e => by cases e) (Nu.le.refl ν) rfl (fun _ _ => rfl) hbel (by rw [hw']; simp [World.setRow])
    (fun k _ hk => hfar k (fun e => hk (by rw [e]; exact hOB))) hI
    (.box cells' tyo bk us' ty' hval hb' hheap' (by rw [hpe, hus]; simp; omega) (fun j y u h1 h2 => by
      rw [hpe] at h1
      rw [hus] at h2
      have hle : us.length = cells.length := hl'.symm
      by_cases c1 : j < off
      · rw [List.append_assoc, List.getElem?_append_left (by simp; omega), List.getElem?_take_of_lt c1] at h1 h2
        exact (hx' j y u h1 h2).mono hI (Nu.le.refl ν)
      · by_cases c2 : j < off + cs.length
        · rw [List.append_assoc, List.getElem?_append_right (by simp; omega), List.getElem?_append_left (by simp; omega)] at h1 h2
          simp only [List.length_take, Nat.min_eq_left (show off ≤ cells.length by omega), Nat.min_eq_left (show off ≤ us.length by omega)] at h1 h2
          exact (hxx _ y u h1 h2).mono hI (Nu.le.refl ν)
        · rw [List.getElem?_append_right (by simp; omega)] at h1 h2
          simp only [List.length_append, List.length_take, Nat.min_eq_left (show off ≤ cells.length by omega), Nat.min_eq_left (show off ≤ us.length by omega), List.getElem?_drop] at h1 h2
          rw [← hl] at h2
          exact (hx' _ y u h1 h2).mono hI (Nu.le.refl ν)) hI' hty')
    (fun b' hb => by simp only [OB, OB1, hval, Option.some.injEq] at hb; exact .inl (by rw [← hb]; exact hOB))
  refine ⟨w', ν, fun o ho => ?_, this.1, this.2, Nu.le.refl ν⟩
  simp [execOp, ho, Instr.storeAt, Instr.sureAddr, hpv, storeVar, hv, ti.size, show vs.length = n by omega, hst]
end
end Go.Proofs.YtkljmljkiodnpaaGreatDoor.L

namespace Go.Proofs.YtkljmljkiodnpaaGreatDoor.L
open Go Go.RowKit

theorem b0d {P : Program} {w : World} {base : Nat} {t tx ty e : TypeId} {i : TypeInfo} {z : Value} {sz bytes : Nat} (ht : P.underlying t = some (.slice e)) (hi : P.info? e = some i) (hz : i.zero = some z)
    (hsize : i.size = sz) (hby : i.bytes = bytes) (hzs : z.cells.size = sz) (hsz : 0 < sz) {v : Value} {n : Nat} {inner : List Value} (ho : w.ownsRow base e sz v n inner)
    {x : Value} {m : Nat} {news : List Value} (hs : Src P sz tx x m news w) (h63 : n + m ≤ maxLen) (hbytes : (n + m) * bytes ≤ 140737488355328) (hbase : base ≤ w.heap.size) :
    ∃ v' w', (Builtin.append_ #[t, tx] ty #[v, x]).run P w = .ok v' w' ∧ w'.ownsRow base e sz v' (n + m) (inner ++ news) ∧ w.grownBy w' v.ownBlock ∧
      (∀ g o, v.ownBlock = some g → o < n * sz → w'.cell? ⟨g, o, none⟩ = w.cell? ⟨g, o, none⟩) ∧ (v'.ownBlock = v.ownBlock ∨ ∃ b, v'.ownBlock = some b ∧ w.heap.size ≤ b) := by
  subst hsize
  subst hby
  have hsmall : n + m ≤ 9223372036854775807 := by simp only [maxLen] at h63; omega
  have hlen : (inner ++ news).length = (n + m) * i.size := by rw [List.length_append, ho.1, hs.newsLen, Nat.add_mul]
  have grown : ∀ (old : Nat) (base' : Option Addr), old < n + m → v = .slice base' n old → (Builtin.firstCells i.size n (.slice base' n old)).run P w.drew = .ok inner.toArray w.drew →
      ∃ v' w', (Builtin.append_ #[t, tx] ty #[v, x]).run P w = .ok v' w' ∧ w'.ownsRow base e i.size v' (n + m) (inner ++ news) ∧ w.grownBy w' v.ownBlock ∧
      (∀ g o, v.ownBlock = some g → o < n * i.size → w'.cell? ⟨g, o, none⟩ = w.cell? ⟨g, o, none⟩) ∧ (v'.ownBlock = v.ownBlock ∨ ∃ b, v'.ownBlock = some b ∧ w.heap.size ≤ b) := by
    intro old base' hlt hv hold
    have hge := grownCap_ge w (n + m) old e
    have hcm : grownCap w (n + m) old e ≤ maxLen := grownCap_le_maxLen w (n + m) old e h63
    have hr := run_append_grow_src (P := P) w t tx ty e i z ht hi hz base' n old inner hold x m news hs hlt (by omega) (growslice_fits hlt hbytes)
    rw [← hv] at hr
    refine ⟨_, _, hr, ⟨hlen, .inr ⟨w.heap.size, _, _, rfl, hbase, a5b w.drew _, hge, hcm, ?_, ?_⟩⟩, ⟨rfl, rfl, rfl, by simp, fun k hk _ => heap_alloc_old w.drew _ k hk⟩, fun g o hg ho' => ?_, .inr ⟨_, rfl, Nat.le_refl _⟩⟩
    · simp only [Array.size_append, List.size_toArray, size_zeroCells, hzs, hlen, ← Nat.add_mul]
      congr 1
      omega
    · simp only [Array.toList_append]
      rw [← hlen]
      exact List.take_left
    · have hgl := (ho.lt g hg).2
      exact World.cell?_of_block (w := w) (a := ⟨g, o, none⟩) (a7r w.drew _ g hgl)
  rcases ho.2 with ⟨rfl, rfl⟩ | ⟨g, cap, cur, rfl, hbg, hg, hnc, hcm, hcs, htake⟩
  · have hx : inner = [] := List.eq_nil_of_length_eq_zero (by simpa using ho.1)
    subst hx
    by_cases hm : m = 0
    · subst hm
      have hn : news = [] := List.eq_nil_of_length_eq_zero (by simpa using hs.newsLen)
      subst hn
      refine ⟨.slice none 0 0, w, ?_, World.ownsRow_nil w base e i.size, ⟨rfl, rfl, rfl, Nat.le_refl _, fun _ _ _ => rfl⟩, fun _ _ _ _ => rfl, .inl rfl⟩
      rcases hs.kind with ⟨e', hk⟩ | hk <;> simp [Builtin.append_, run_underlying ht, run_underlying hk, sizeOf, typeInfo, hi, hs.len, hs.cells]
    · exact grown 0 none (by omega) rfl (run_firstCells_none w.drew i.size 0 0 0)
  · by_cases hroom : n + m ≤ cap
    · have hfit : n * i.size + news.length ≤ cur.size := by rw [hs.newsLen, hcs, ← Nat.add_mul]; exact Nat.mul_le_mul_right _ hroom
      have hst := run_storeCells_at P g (n * i.size) e news 0 cur w hg (by simpa using hfit) hs.one
      simp only [Nat.add_zero] at hst
      have hrow := setRow_heap w g cur (cur.toList.take (n * i.size) ++ news ++ cur.toList.drop (n * i.size + news.length)).toArray e _ hg
      have hr : (Builtin.append_ #[t, tx] ty #[.slice (some ⟨g, 0, none⟩) n cap, x]).run P w = .ok (.slice (some ⟨g, 0, none⟩) (n + m) cap) (w.setRow g (cur.toList.take (n * i.size) ++ news ++ cur.toList.drop (n * i.size + news.length)).toArray) := by
        rcases hs.kind with ⟨e', hk⟩ | hk <;> simp [Builtin.append_, run_underlying ht, run_underlying hk, sizeOf, typeInfo, hi, hs.len, hroom, hs.cells, Addr.add_lit, hst]
      refine ⟨_, _, hr, ⟨hlen, .inr ⟨g, cap, _, rfl, hbg, hrow, hroom, hcm, ?_, ?_⟩⟩, ⟨rfl, rfl, rfl, by simp [World.setRow], fun k _ hk => setRow_other w g k _ (fun e => hk (by simp [Value.ownBlock, e]))⟩, fun g' o hg' ho' => ?_, .inl rfl⟩
      · simp only [List.size_toArray, List.length_append, List.length_take, List.length_drop, Array.length_toList]
        omega
      · rw [htake, ← hlen]
        exact List.take_left
      · have : g = g' := by simpa [Value.ownBlock] using hg'
        subst this
        have h1 : o < cur.size := by omega
        have h2 : o < cur.toList.length := by simpa using h1
        rw [cell_of_row _ g o _ e (0, 0) hrow, cell_of_row w g o cur e (0, 0) hg]
        simp only [List.getElem?_toArray, List.append_assoc]
        rw [List.getElem?_append_left (by simp; omega), List.getElem?_take_of_lt ho', Array.getElem?_toList]
    · have holds : ∀ j u, inner[j]? = some u → w.cell? ((⟨g, 0, none⟩ : Addr).add j) = some u := ho.cells (g := g) rfl
      exact grown cap (some ⟨g, 0, none⟩) (by omega) rfl (run_firstCells_some w.drew i.size n ⟨g, 0, none⟩ n cap inner ho.1 (by simpa using holds))
end Go.Proofs.YtkljmljkiodnpaaGreatDoor.L

namespace Go.Proofs.YtkljmljkiodnpaaGreatDoor.L
open Go Go.RowKit

theorem VP.one {w : World} {I : Imm} {x : AV} {v : Value} (h : VP w I x v) : v.oneCell' = true := by cases h <;> rfl

def SrcV (E : Env) (H : List AO) (sz tx : Nat) (xv : AV) (ys : List (List AV)) : Prop :=
  ∀ I ν w v, HR E I ν H w → VR w I ν xv v → ∃ news, Src E.P sz tx v ys.length news w ∧ RowRel w I sz ys news

section
variable {E : Env} {N : Nat} {ops : Array Oper} {Q : Exit → St → Prop} {rest : List Oper} {sl : Slots} {H H' : List AO}

theorem c4q {i n sz : Nat} (h : i < n * sz) (h0 : 0 < sz) : i / sz < n ∧ i % sz < sz ∧ i / sz * sz + i % sz = i := by
  refine ⟨?_, Nat.mod_lt _ h0, ?_⟩
  · rw [Nat.div_lt_iff_lt_mul h0]; exact h
  · rw [Nat.mul_comm]; exact Nat.div_add_mod i sz

theorem c6w {tx e : Nat} {n b : Nat} {z : Value} [ti : TI E.P tx (.slice e) n b z] {sz : Nat} {ys : List (List AV)} (hsz : ∀ (i : Nat) row, ys[i]? = some row → row.length = sz) : SrcV E H sz tx (.rs ys) ys := by
  intro I ν w v hh hv
  cases hv.rs_inv with
  | rs0 A c =>
    rcases A with _ | a
    · exact ⟨[], Src.ofNil w ti.u c, by simp, fun i c h => by simp at h⟩
    · exact ⟨[], Src.ofSlice w ti.u a 0 c [] (by simp) (fun j u h => by simp at h) (fun u h => by cases h), by simp, fun i c h => by simp at h⟩
  | rs _ sz' bk off c us h0 hc hm hs hu hx =>
    by_cases hy : ys.length = 0
    · have : ys = [] := List.eq_nil_of_length_eq_zero hy
      subst this
      exact ⟨[], Src.ofSlice w ti.u _ 0 c [] (by simp) (fun j u h => by simp at h) (fun u h => by cases h), by simp, fun i c h => by simp at h⟩
    · have h1 : ys[0]? = some (ys[0]'(by omega)) := List.getElem?_eq_getElem _
      have : sz' = sz := by rw [← hs _ _ h1, hsz _ _ h1]
      subst this
      have hval : ∀ j, j < ys.length * sz' → ∃ x, VP w I x (us j) := by
        intro j hj
        obtain ⟨d1, d2, d3⟩ := c4q hj h0
        have h2 : ys[j / sz']? = some (ys[j / sz']'d1) := List.getElem?_eq_getElem _
        have h3 : (ys[j / sz']'d1)[j % sz']? = some ((ys[j / sz']'d1)[j % sz']'(by rw [hs _ _ h2]; exact d2)) := List.getElem?_eq_getElem _
        have := hx _ _ _ _ h2 h3
        rw [d3] at this
        exact ⟨_, this⟩
      refine ⟨(List.range (ys.length * sz')).map us, Src.ofSlice w ti.u ⟨bk, off, none⟩ ys.length c _ (by simp) (fun j u h => ?_) (fun u h => ?_), by simp, fun i row hr => ⟨hsz i row hr, fun j x hj => ?_⟩⟩
      · rw [List.getElem?_map] at h
        rcases Nat.lt_or_ge j (ys.length * sz') with hj | hj
        · rw [List.getElem?_range hj] at h
          simp at h
          subst h
          rw [a4s]
          exact (hu j hj).1
        · rw [List.getElem?_eq_none (by simpa using hj)] at h
          simp at h
      · obtain ⟨j, hj, rfl⟩ := List.mem_map.1 h
        obtain ⟨x, hx'⟩ := hval j (List.mem_range.1 hj)
        exact hx'.one
      · have hi : i < ys.length := (List.getElem?_eq_some_iff.1 hr).1
        have hjl : j < sz' := by rw [← hsz i row hr]; exact (List.getElem?_eq_some_iff.1 hj).1
        have hlt : i * sz' + j < ys.length * sz' := by
          have h1 : (i + 1) * sz' ≤ ys.length * sz' := Nat.mul_le_mul_right _ hi
          rw [Nat.add_mul, Nat.one_mul] at h1
          omega
        exact ⟨us (i * sz' + j), by rw [List.getElem?_map, List.getElem?_range hlt]; rfl, hx i j row x hr hj⟩

theorem b4t {w : World} {I : Imm} {sz : Nat} {xs : List (List AV)} {inner : List Value} (hr : RowRel w I sz xs inner) (h0 : 0 < sz) : ∀ u ∈ inner, u.oneCell' = true := by
  intro u hu
  obtain ⟨j, hj, rfl⟩ := List.mem_iff_getElem.1 hu
  rw [hr.1] at hj
  obtain ⟨d1, d2, d3⟩ := c4q hj h0
  have h2 : xs[j / sz]? = some (xs[j / sz]'d1) := List.getElem?_eq_getElem _
  obtain ⟨hl, hx⟩ := hr.2 _ _ h2
  have h3 : (xs[j / sz]'d1)[j % sz]? = some ((xs[j / sz]'d1)[j % sz]'(by rw [hl]; exact d2)) := List.getElem?_eq_getElem _
  obtain ⟨u', hu', hvr⟩ := hx _ _ h3
  rw [d3] at hu'
  have h4 : inner[j]'(by rw [hr.1]; exact hj) = u' := (List.getElem?_eq_some_iff.1 hu').2
  rw [h4]
  exact hvr.one

theorem a6q {tx e : Nat} {n b : Nat} {z : Value} [ti : TI E.P tx (.slice e) n b z] {sz id ver ver' fz e' : Nat} {ys : List (List AV)} (hH : H[id]? = some (.row e' sz ver' fz ys)) (hver : ver = ver') : SrcV E H sz tx (.os id ver) ys := by
  subst hver
  intro I ν w v hh hv
  cases hh.obj id _ hH with
  | row _ _ _ _ _ inner ht h0 ho hr hf hI =>
  cases hv with
  | pure hv => cases hv
  | os _ _ A n c hi hv' hs =>
    rw [hs] at ho
    have hone := b4t hr h0
    rcases ho.2 with ⟨h1, h2⟩ | ⟨g, cap, cur, h1, h2, h3, h4⟩
    · rw [h1]
      have : ys = [] := List.eq_nil_of_length_eq_zero h2
      subst this
      exact ⟨[], Src.ofNil w ti.u 0, by simp, fun i c h => by simp at h⟩
    · rw [h1] at ho ⊢
      exact ⟨inner, Src.ofSlice w ti.u _ ys.length cap inner hr.1 (ho.cells (g := g) rfl) hone, hr⟩

theorem c5a {tx : Nat} {n b : Nat} {z : Value} [ti : TI E.P tx .string n b z] {s : List UInt8} : SrcV E H 1 tx (.str s) (s.map fun b => [.int .u8 (b.toNat : Int)]) := by
  intro I ν w v hh hv
  have := hv.str_inv
  subst this
  refine ⟨byteCells ⟨s.toArray⟩, ?_, ?_, fun i row hr => ?_⟩
  · have := Src.ofString (P := E.P) w ti.u ⟨s.toArray⟩
    simpa [a6m] using this
  · simp [byteCells_length, a6m]
  · rw [List.getElem?_map] at hr
    obtain ⟨c, hc, rfl⟩ := Option.map_eq_some_iff.1 hr
    refine ⟨rfl, fun j x hx => ?_⟩
    cases j with
    | zero =>
      simp at hx
      subst hx
      exact ⟨.int .u8 (c.toNat : Int), by simp [byteCells, hc], .int _ _⟩
    | succ j => simp at hx

def Nu.bump (ν : Nu) (id ver : Nat) (v : Value) : Nu :=
  ⟨ν.n, fun i => if i = id then ver else ν.top i, fun i k => if i = id ∧ k = ver then v else ν.val i k⟩
theorem Nu.bump_le (ν : Nu) (id ver : Nat) (v : Value) (h : ν.top id < ver) : ν.le (ν.bump id ver v) :=
  ⟨Nat.le_refl _, fun i hi => by
    simp only [Nu.bump]
    split
    · rename_i e; subst e; omega
    · exact Nat.le_refl _, fun i k hi hk => by
    simp only [Nu.bump]
    rw [if_neg]
    rintro ⟨rfl, rfl⟩
    omega⟩

theorem RowRel.mono {w w' : World} {I I' : Imm} (hI : ImmLe w I w' I') {sz : Nat} {xs : List (List AV)} {inner : List Value} (h : RowRel w I sz xs inner) : RowRel w' I' sz xs inner :=
  ⟨h.1, fun i c hc => ⟨(h.2 i c hc).1, fun j x hx => let ⟨u, hu, hv⟩ := (h.2 i c hc).2 j x hx; ⟨u, hu, hv.mono hI⟩⟩⟩
theorem RowRel.append {w : World} {I : Imm} {sz : Nat} {xs ys : List (List AV)} {a b : List Value} (h : RowRel w I sz xs a) (k : RowRel w I sz ys b) : RowRel w I sz (xs ++ ys) (a ++ b) := by
  refine ⟨by simp [h.1, k.1, Nat.add_mul], fun i c hc => ?_⟩
  rcases Nat.lt_or_ge i xs.length with hi | hi
  · rw [List.getElem?_append_left hi] at hc
    obtain ⟨h1, h2⟩ := h.2 i c hc
    refine ⟨h1, fun j x hx => ?_⟩
    obtain ⟨u, hu, hv⟩ := h2 j x hx
    exact ⟨u, by rw [List.getElem?_append_left (List.getElem?_eq_some_iff.1 hu).1]; exact hu, hv⟩
  · rw [List.getElem?_append_right hi] at hc
    obtain ⟨h1, h2⟩ := k.2 _ c hc
    refine ⟨h1, fun j x hx => ?_⟩
    obtain ⟨u, hu, hv⟩ := h2 j x hx
    refine ⟨u, ?_, hv⟩
    have e : i * sz + j = a.length + ((i - xs.length) * sz + j) := by
      rw [h.1, ← Nat.add_assoc, ← Nat.add_mul]
      congr 2
      omega
    rw [e, List.getElem?_append_right (by omega)]
    rw [Nat.add_sub_cancel_left]
    exact hu

theorem execAppend {a : Act} {o : Oper} {s x : Operand} {t tx : TypeId} (ho : o.op = .call { callee := .builtin .append, args := #[s, x], argTypes := #[t, tx] }) {P : Program} {w w' : World} {v : Value}
    (h : (Builtin.append_ #[t, tx] o.type #[a.eval s, a.eval x]).run P w = .ok v w') : (execOp a.eval o).run P w = .ok (.value v) w' := by
  simp [execOp, ho, resolve, invoke, builtin, h]

theorem a4d {t tx e : Nat} {n b sz bytes : Nat} {z0 z : Value} {d0 : Bool} [ti : TI E.P t (.slice e) n b z0] [te : TZ E.P e d0 sz bytes z] {s x : Operand} {id ver fz : Nat} {xs ys : List (List AV)} {xv : AV} {ty : TypeId} {pos : String} {after : Array Edge} {d : Nat}
    (hs : ev sl s = some (.os id ver)) (hx : ev sl x = some xv) (hU : Upd id H (.row e sz ver fz xs) (.row e sz (ver + 1) fz (xs ++ ys)) H') (hsrc : SrcV E H sz tx xv ys)
    (hz : z.cells.size = sz) (hb0 : 0 < bytes) (hb : (xs.length + ys.length) * bytes ≤ 140737488355328) (hd : Nat.blt d N = true)
    (h : AL E N ops Q rest ⟨(d, .os id (ver + 1)) :: sl, H'⟩) : AL E N ops Q (⟨some d, .call { callee := .builtin .append, args := #[s, x], argTypes := #[t, tx] }, ty, pos, after, none⟩ :: rest) ⟨sl, H⟩ := by
  obtain ⟨hid, hset⟩ := hU.eq
  subst hset
  refine a6c hd (fun I ν a w hh hsl => ?_) h
  obtain ⟨news, hS, hR⟩ := hsrc I ν w _ hh (a2q hsl hx)
  have hs' := a2q hsl hs
  obtain ⟨v, hv⟩ : ∃ v, a.eval s = v := ⟨_, rfl⟩
  rw [hv] at hs'
  cases hh.obj id _ hid with
  | row _ _ _ _ _ inner ht h0 ho hr hf hI =>
  cases hs' with
  | pure hs' => cases hs'
  | os _ _ A m c hi hver hval =>
  obtain ⟨i, hi1, hi2, hi3, hi4⟩ := te.bytes
  have hlen : xs.length + ys.length ≤ 140737488355328 := Nat.le_trans (Nat.le_mul_of_pos_right _ hb0) hb
  have hrun : ∀ ty, ∃ v' w', (Builtin.append_ #[t, tx] ty #[.slice A m c, a.eval x]).run E.P w = .ok v' w' ∧ w'.ownsRow E.base e sz v' (xs.length + ys.length) (inner ++ news) ∧ w.grownBy w' (ν.val id ver).ownBlock ∧
      (∀ g o, (ν.val id ver).ownBlock = some g → o < xs.length * sz → w'.cell? ⟨g, o, none⟩ = w.cell? ⟨g, o, none⟩) ∧ (v'.ownBlock = (ν.val id ver).ownBlock ∨ ∃ b, v'.ownBlock = some b ∧ w.heap.size ≤ b) := fun ty => by
    have := b0d (ty := ty) ti.u hi1 hi2 hi3 hi4 hz h0 ho hS (by simp only [maxLen]; omega) hb hh.base
    rw [hval] at this ⊢
    exact this
  have hsame : ∀ ty ty', Builtin.append_ #[t, tx] ty #[.slice A m c, a.eval x] = Builtin.append_ #[t, tx] ty' #[.slice A m c, a.eval x] := fun _ _ => rfl
  obtain ⟨v', w', hr1, hown, hg, hkeep, hblk⟩ := hrun 0
  have hle := ν.bump_le id (ver + 1) v' (by omega)
  have hOB : ∀ b, OB ν id (.row e sz ver fz xs) b = ((ν.val id ver).ownBlock = some b) := fun _ => rfl
  have hIm : ImmLe w I w' I := by
    refine ⟨fun _ _ h => h, fun bb oo hbo => ?_⟩
    by_cases hbk : (ν.val id ver).ownBlock = some bb
    · have h1 := hI bb oo hbk hbo
      exact hkeep bb oo hbk (Nat.lt_of_lt_of_le h1 (Nat.mul_le_mul_right _ hf))
    · obtain ⟨u, hu⟩ := hh.imm bb oo hbo
      exact World.cell?_of_block (w := w) (a := ⟨bb, oo, none⟩) (hg.block bb (World.block_lt_of_cell? w _ hu) (fun e => hbk e.symm))
  have hsl' : ∃ A' c', v' = .slice A' (xs.length + ys.length) c' := by
    rcases hown.2 with ⟨h1, h2⟩ | ⟨g, cap, cur, h1, _⟩
    · exact ⟨none, 0, by rw [h1, h2]⟩
    · exact ⟨_, cap, h1⟩
  have hset := hh.set (ν' := ν.bump id (ver + 1) v') (o' := .row e sz (ver + 1) fz (xs ++ ys)) (w' := w') hid (fun e => by cases e) hle rfl (fun j hj => by simp [Nu.bump, hj])
    (hh.below.grown hg hh.base (fun k hk => (a5j (hh.obj id _ hid) (by rw [hOB]; exact hk)).2)) hg.size (fun k hk hne => hg.block k hk (fun e => hne (by rw [hOB]; exact e.symm))) hIm
    (.row e sz (ver + 1) fz (xs ++ ys) (inner ++ news) (by simp [Nu.bump]) h0 (by simpa [Nu.bump] using hown) ((hr.mono hIm).append (hR.mono hIm)) (by simp; omega) (fun bb oo hbk hbo => by
      simp only [Nu.bump, and_self, if_true] at hbk
      rcases hblk with h1 | ⟨b', h1, h2⟩
      · exact hI bb oo (by rw [← h1]; exact hbk) hbo
      · rw [hbk] at h1
        injection h1 with h1
        obtain ⟨u, hu⟩ := hh.imm bb oo hbo
        have := World.block_lt_of_cell? w _ hu
        simp at this
        omega))
    (fun bb hbk => by
      simp only [OB, OB1, Nu.bump, and_self, if_true] at hbk
      rw [hOB]
      rcases hblk with h1 | ⟨b', h1, h2⟩
      · exact .inl (by rw [← h1]; exact hbk)
      · rw [hbk] at h1
        injection h1 with h1
        exact .inr (by omega))
  refine ⟨v', w', _, fun o ho' => execAppend ho' (by rw [hv]; exact hr1), hset.1, hset.2, hle, ?_⟩
  obtain ⟨A', c', hv'⟩ := hsl'
  subst hv'
  exact .os id (ver + 1) A' _ c' (by simpa [Nu.bump] using hi) (by simp [Nu.bump]) (by simp [Nu.bump])

theorem a8m {I : Imm} {ν : Nu} {w w' : World} (hh : HR E I ν H w) {e sz n : Nat} {xs : List (List AV)} {inner : List Value} {v : Value} (h0 : 0 < sz) (hn : xs.length = n) (ho : w'.ownsRow E.base e sz v n inner) (hr : RowRel w I sz xs inner)
    (hb : Below E.base E.w0 w') (hs : w.heap.size ≤ w'.heap.size) (hk : ∀ k, k < w.heap.size → w'.heap[k]? = w.heap[k]?) (hB : ∀ b, v.ownBlock = some b → w.heap.size ≤ b) :
    ∃ ν', HR E I ν' (H ++ [.row e sz 0 0 xs]) w' ∧ FR E.k w I ν H w' I ν' (H ++ [.row e sz 0 0 xs]) ∧ ν.le ν' ∧ VR w' I ν' (.os H.length 0) v := by
  subst hn
  have hle := ν.add_le 0 fun _ => v
  have hI : ImmLe w I w' I := ImmLe.heap hh fun k h _ => hk k h
  have := hh.push (o := .row e sz 0 0 xs) (t := 0) (f := fun _ => v) (w' := w') hb hs hk
    (.row e sz 0 0 xs inner (by simp [Nu.add]) h0 (by simpa [Nu.add] using ho) (hr.mono hI) (Nat.zero_le _) (fun b o hb' hbo => by
      simp only [Nu.add, if_true] at hb'
      have := hB b hb'
      obtain ⟨u, hu⟩ := hh.imm b o hbo
      have := World.block_lt_of_cell? w _ hu
      simp at this
      omega))
    (fun b hb' => hB b (by simpa [OB, OB1, Nu.add] using hb'))
  refine ⟨_, this.1, this.2.1, hle, ?_⟩
  have hsl' : ∃ A' c', v = .slice A' xs.length c' := by
    rcases ho.2 with ⟨h1, h2⟩ | ⟨g, cap, cur, h1, _⟩
    · exact ⟨none, 0, by rw [h1, h2]⟩
    · exact ⟨_, cap, h1⟩
  obtain ⟨A', c', rfl⟩ := hsl'
  exact .os _ 0 A' _ c' (by simp [Nu.add, hh.n]) (by simp [Nu.add, hh.n]) (by simp [Nu.add, hh.n])

theorem b2k {t tx e : Nat} {n b sz bytes : Nat} {z0 z : Value} {d0 : Bool} [ti : TI E.P t (.slice e) n b z0] [te : TZ E.P e d0 sz bytes z] {s x : Operand} {ys : List (List AV)} {xv : AV} {ty : TypeId} {pos : String} {after : Array Edge} {d m : Nat}
    (hs : ev sl s = some .nilsl) (hx : ev sl x = some xv) (hsrc : SrcV E H sz tx xv ys) (hm : H.length = m) (hH : Snoc H (.row e sz 0 0 ys) H')
    (hz : z.cells.size = sz) (h0 : 0 < sz) (hb0 : 0 < bytes) (hb : ys.length * bytes ≤ 140737488355328) (hd : Nat.blt d N = true)
    (h : AL E N ops Q rest ⟨(d, .os m 0) :: sl, H'⟩) : AL E N ops Q (⟨some d, .call { callee := .builtin .append, args := #[s, x], argTypes := #[t, tx] }, ty, pos, after, none⟩ :: rest) ⟨sl, H⟩ := by
  subst hm
  rw [hH.eq] at h
  refine a6c hd (fun I ν a w hh hsl => ?_) h
  obtain ⟨news, hS, hR⟩ := hsrc I ν w _ hh (a2q hsl hx)
  have hv := (a2q hsl hs).nilsl_inv
  obtain ⟨i, hi1, hi2, hi3, hi4⟩ := te.bytes
  have hlen : ys.length ≤ 140737488355328 := Nat.le_trans (Nat.le_mul_of_pos_right _ hb0) hb
  obtain ⟨v', w', hr1, hown, hg, hkeep, hblk⟩ := b0d (ty := 0) ti.u hi1 hi2 hi3 hi4 hz h0 (World.ownsRow_nil w E.base e sz) hS (by simp only [maxLen]; omega) (by simpa using hb) hh.base
  simp only [Nat.zero_add, List.nil_append] at hown
  obtain ⟨ν', p1, p2, p3, p4⟩ := a8m hh h0 rfl hown hR (hh.below.grown hg hh.base (fun k hk => by simp [Value.ownBlock] at hk)) hg.size (fun k hk => hg.block k hk (by simp [Value.ownBlock])) (fun b hb' => by
    rcases hblk with h1 | ⟨b', h1, h2⟩
    · rw [hb'] at h1; simp [Value.ownBlock] at h1
    · rw [hb'] at h1; injection h1 with h1; omega)
  exact ⟨v', w', ν', fun o ho' => execAppend ho' (by rw [hv]; exact hr1), p1, p2, p3, p4⟩

def AV.pu : AV → Bool
  | .bool _ => true
  | .int _ _ => true
  | .str _ => true
  | .nilsl => true
  | .nilp => true
  | .nilfn => true
  | .nilif => true
  | .iface => true
  | .rs _ => true
  | .rp _ => true
  | .nilmp => true
  | .ad _ _ => true
  | .sa _ _ _ _ => true
  | .fn _ [] => true
  | _ => false
theorem VR.pu {w : World} {I : Imm} {ν : Nu} {x : AV} {v : Value} (h : VR w I ν x v) (hp : x.pu = true) : VP w I x v := by
  cases h with
  | pure h => exact h
  | fn f caps vs hl h =>
    cases caps with
    | nil => cases vs with
      | nil => exact .fn f
      | cons _ _ => simp at hl
    | cons _ _ => simp [AV.pu] at hp
  | _ => simp [AV.pu] at hp
def allPu : List AV → Bool
  | [] => true
  | x :: r => match x.pu with
    | true => allPu r
    | false => false
theorem a7e : ∀ {xs : List AV}, allPu xs = true → ∀ (j : Nat) x, xs[j]? = some x → x.pu = true := by
  intro xs
  induction xs with
  | nil => intro _ j x h; simp at h
  | cons y r ih =>
    intro h j x hj
    simp only [allPu] at h
    split at h
    · rename_i hy
      cases j with
      | zero => simp only [List.getElem?_cons_zero, Option.some.injEq] at hj; subst hj; exact hy
      | succ j => exact ih h j x (by simpa using hj)
    · cases h

theorem b3q {I : Imm} {ν : Nu} {a : Act} {w : World} {t id ver fz e sz : Nat} {xs : List (List AV)} (hs : SR E N I ν ⟨sl, H⟩ a w) (ht : lk sl t = some (.os id ver)) (hU : Upd id H (.row e sz ver fz xs) (.row e sz ver xs.length xs) H') :
    ∃ I', SR E N I' ν ⟨(t, .rs xs) :: sl, H'⟩ a w ∧ FR E.k w I ν H w I' ν H' := by
  obtain ⟨hid, hset⟩ := hU.eq
  subst hset
  have hh := hs.hr
  have hs' := hs.sl t _ ht
  cases hh.obj id _ hid with
  | row _ _ _ _ _ inner htop h0 ho hr hf hI =>
  obtain ⟨v, hv⟩ : ∃ v, a.tmps.getD t undef = v := ⟨_, rfl⟩
  rw [hv] at hs'
  cases hs' with
  | pure hs' => cases hs'
  | os _ _ A m c hi hver hval =>
  have hOB : ∀ b, OB ν id (.row e sz ver fz xs) b = ((ν.val id ver).ownBlock = some b) := fun _ => rfl
  -- the cells that are frozen now
  obtain ⟨I', hI'⟩ : ∃ I' : Imm, I' = fun b o => I b o ∨ ((ν.val id ver).ownBlock = some b ∧ o < xs.length * sz) := ⟨_, rfl⟩
  have hIm : ImmLe w I w I' := ⟨fun b o h => by rw [hI']; exact .inl h, fun _ _ _ => rfl⟩
  have hlt : id < H.length := (List.getElem?_eq_some_iff.1 hid).1
  have hold : ∀ (j : Nat) q, (H.set id (.row e sz ver xs.length xs))[j]? = some q → (j ≠ id ∧ H[j]? = some q) ∨ (j = id ∧ q = .row e sz ver xs.length xs) := by
    intro j q h
    by_cases e : j = id
    · subst e
      rw [List.getElem?_set_self hlt] at h
      exact .inr ⟨rfl, by simpa using h.symm⟩
    · rw [List.getElem?_set_ne (Ne.symm e)] at h
      exact .inl ⟨e, h⟩
  have hFB : ∀ b, FB ν (H.set id (.row e sz ver xs.length xs)) b → FB ν H b := by
    rintro b ⟨j, q, h1, h2⟩
    rcases hold j q h1 with ⟨h3, h4⟩ | ⟨rfl, rfl⟩
    · exact ⟨j, q, h4, h2⟩
    · exact ⟨_, _, hid, h2⟩
  have hcells : ∀ g, (ν.val id ver).ownBlock = some g → ∀ j u, inner[j]? = some u → w.cell? ⟨g, j, none⟩ = some u := by
    intro g hg j u hu
    have := ho.cells hg j u hu
    rw [a4s] at this
    simpa using this
  refine ⟨I', ⟨⟨by rw [hh.n]; simp, hh.below, hh.base, fun b o h => ?_, fun j q h => ?_, ?_⟩, fun t' x hx => ?_, hs.df, hs.nt⟩, ⟨hIm, Nat.le_refl _, fun b o h => ?_, fun _ _ _ => rfl, fun b h => .inl (hFB b h), (Nu.le.refl ν).ag _, fun j _ h => ⟨rfl, by
    rw [List.getElem?_set_ne (fun e => by subst e; rw [hid] at h; cases h)]; exact h⟩⟩⟩
  · rw [hI'] at h
    rcases h with h | ⟨h1, h2⟩
    · exact hh.imm b o h
    · have : o < inner.length := by rw [hr.1]; exact h2
      exact ⟨inner[o], hcells b h1 o _ (List.getElem?_eq_getElem this)⟩
  · rcases hold j q h with ⟨h3, h4⟩ | ⟨rfl, rfl⟩
    · refine (hh.obj j q h4).mono hIm (Nu.le.refl ν) (hh.idlt h4) rfl (fun _ _ => rfl) (fun b o hb hbo => ?_)
      rw [hI'] at hbo
      rcases hbo with hbo | ⟨h1, _⟩
      · exact hbo
      · exact absurd (hh.disj j id q _ b h4 hid hb (by rw [hOB]; exact h1)) h3
    · refine .row e sz ver xs.length xs inner htop h0 ho (hr.mono hIm) (Nat.le_refl _) (fun b o hb hbo => ?_)
      rw [hI'] at hbo
      rcases hbo with hbo | ⟨_, h2⟩
      · exact Nat.lt_of_lt_of_le (hI b o hb hbo) (Nat.mul_le_mul_right _ hf)
      · exact h2
  · intro i j o1 o2 b h1 h2 e1 e2
    have k1 : ∃ q, H[i]? = some q ∧ OB ν i q b := by
      rcases hold i o1 h1 with ⟨h3, h4⟩ | ⟨rfl, rfl⟩
      · exact ⟨o1, h4, e1⟩
      · exact ⟨_, hid, e1⟩
    have k2 : ∃ q, H[j]? = some q ∧ OB ν j q b := by
      rcases hold j o2 h2 with ⟨h3, h4⟩ | ⟨rfl, rfl⟩
      · exact ⟨o2, h4, e2⟩
      · exact ⟨_, hid, e2⟩
    obtain ⟨q1, g1, f1⟩ := k1
    obtain ⟨q2, g2, f2⟩ := k2
    exact hh.disj i j q1 q2 b g1 g2 f1 f2
  · rw [a4x] at hx
    by_cases et : t = t'
    · subst et
      rw [if_pos rfl] at hx
      obtain rfl : AV.rs xs = x := by simpa using hx
      rw [hv]
      refine .pure ?_
      rw [hval] at ho hcells hI'
      rcases ho.2 with ⟨h1, h2⟩ | ⟨g, cap, cur, h1, h2, h3, h4, h5, _⟩
      · have : xs = [] := List.eq_nil_of_length_eq_zero h2
        subst this
        rw [h1]
        exact .rs0 none 0
      · rw [h1] at hcells hI' ⊢
        refine .rs xs sz g 0 cap (fun j => inner.getD j undef) h0 h4 h5 (fun i row hr' => (hr.2 i row hr').1) (fun j hj => ?_) (fun i j row x hr' hj => ?_)
        · have hjl : j < inner.length := by rw [hr.1]; exact hj
          rw [Nat.zero_add]
          refine ⟨?_, ?_⟩
          · rw [hcells g rfl j _ (List.getElem?_eq_getElem hjl)]
            simp [List.getD_eq_getElem?_getD, hjl]
          · rw [hI']
            exact .inr ⟨rfl, hj⟩
        · obtain ⟨u, hu, hvr⟩ := (hr.2 i row hr').2 j x hj
          rw [List.getD_eq_getElem?_getD, hu]
          exact hvr.mono hIm
    · rw [if_neg et] at hx
      exact (hs.sl t' x hx).mono hIm (Nu.le.refl ν)
  · rw [hI'] at h
    rcases h with h | ⟨h1, _⟩
    · exact .inl h
    · exact .inr (.inl ⟨id, _, hid, by rw [hOB]; exact h1⟩)

end
end Go.Proofs.YtkljmljkiodnpaaGreatDoor.L

namespace Go.Proofs.YtkljmljkiodnpaaGreatDoor.L
open Go Go.RowKit

mutual
def clB (n : Nat) : AV → Bool
  | .op id _ => Nat.blt id n
  | .os id _ => Nat.blt id n
  | .er id _ _ _ _ => Nat.blt id n
  | .mp id => Nat.blt id n
  | .fn _ caps => clL n caps
  | .agg cs => clL n cs
  | .tup vs => clL n vs
  | .any => true
  | .und => true
  | .bool _ => true
  | .int _ _ => true
  | .str _ => true
  | .nilsl => true
  | .nilp => true
  | .nilfn => true
  | .nilif => true
  | .iface => true
  | .rs _ => true
  | .rp _ => true
  | .nilmp => true
  | .ad _ _ => true
  | .sa _ _ _ _ => true
def clL (n : Nat) : List AV → Bool
  | [] => true
  | x :: r => match clB n x with
    | true => clL n r
    | false => false
end
theorem a6o {n : Nat} : ∀ {xs : List AV}, clL n xs = true → ∀ (j : Nat) x, xs[j]? = some x → clB n x = true := by
  intro xs
  induction xs with
  | nil => intro _ j x h; simp at h
  | cons y r ih =>
    intro h j x hj
    simp only [clL] at h
    split at h
    · rename_i hy
      cases j with
      | zero => simp only [List.getElem?_cons_zero, Option.some.injEq] at hj; subst hj; exact hy
      | succ j => exact ih h j x (by simpa using hj)
    · cases h

structure Nu.agree (k : Nat) (ν ν' : Nu) : Prop where
  n : k ≤ ν'.n
  top : ∀ id, id < k → ν.top id ≤ ν'.top id
  val : ∀ id ver, id < k → ver ≤ ν.top id → ν'.val id ver = ν.val id ver
theorem VR.cut {w : World} {I : Imm} {ν ν' : Nu} {k : Nat} (hk : Nu.agree k ν ν') {x : AV} {v : Value} (h : VR w I ν x v) : clB k x = true → VR w I ν' x v := by
  have lt : ∀ {a b : Nat}, Nat.blt a b = true → a < b := fun h => by simpa [Nat.blt_eq] using h
  induction h with
  | any v => exact fun _ => .any v
  | und v h => exact fun _ => .und v h
  | pure h => exact fun _ => .pure h
  | op id off b hi h =>
    intro hc
    have := lt (by simpa only [clB] using hc)
    exact .op id off b (Nat.lt_of_lt_of_le this hk.n) ((hk.val id 0 this (Nat.zero_le _)).trans h)
  | os id ver A n c hi hv hs =>
    intro hc
    have := lt (by simpa only [clB] using hc)
    exact .os id ver A n c (Nat.lt_of_lt_of_le this hk.n) (Nat.le_trans hv (hk.top id this)) ((hk.val id ver this hv).trans hs)
  | er id ver sz i off g n c hi hv h =>
    intro hc
    have := lt (by simpa only [clB] using hc)
    exact .er id ver sz i off g n c (Nat.lt_of_lt_of_le this hk.n) (Nat.le_trans hv (hk.top id this)) ((hk.val id ver this hv).trans h)
  | mp id r hi hs =>
    intro hc
    have := lt (by simpa only [clB] using hc)
    exact .mp id r (Nat.lt_of_lt_of_le this hk.n) ((hk.val id 0 this (Nat.zero_le _)).trans hs)
  | fn f caps vs hl h ih =>
    intro hc
    exact .fn f caps vs hl fun j x v h1 h2 => ih j x v h1 h2 (a6o (by simpa only [clB] using hc) j x h1)
  | agg cs vs hl h ih =>
    intro hc
    exact .agg cs vs hl fun j x v h1 h2 => ih j x v h1 h2 (a6o (by simpa only [clB] using hc) j x h1)
  | tup cs vs hl h ih =>
    intro hc
    exact .tup cs vs hl fun j x v h1 h2 => ih j x v h1 h2 (a6o (by simpa only [clB] using hc) j x h1)

def ClO (k : Nat) : AO → Prop
  | .gone => True
  | .box cells _ => clL k cells = true
  | .row _ _ _ _ _ => True
  | .map _ _ => True
  | .iter _ _ _ => True
  | .arr _ _ _ _ _ => True
  | .siter _ _ => True
  | .hp _ => True
inductive ClOs (k : Nat) : List AO → Prop where
  | nil : ClOs k []
  | cons {o : AO} {r : List AO} (h : ClO k o) (t : ClOs k r) : ClOs k (o :: r)
theorem ClOs.get {k : Nat} {os : List AO} (h : ClOs k os) : ∀ (i : Nat) o, os[i]? = some o → ClO k o := by
  induction h with
  | nil => intro i o h; simp at h
  | cons h t ih =>
    intro i o hi
    cases i with
    | zero => simp only [List.getElem?_cons_zero, Option.some.injEq] at hi; subst hi; exact h
    | succ i => exact ih i o (by simpa using hi)
def clS (k : Nat) : Slots → Bool
  | [] => true
  | (_, x) :: r => match clB k x with
    | true => clS k r
    | false => false
theorem c6k {k : Nat} : ∀ {sl : Slots}, clS k sl = true → ∀ t x, lk sl t = some x → clB k x = true := by
  intro sl
  induction sl with
  | nil => intro _ t x h; simp [lk] at h
  | cons p r ih =>
    obtain ⟨t0, y⟩ := p
    intro h t x hx
    simp only [clS] at h
    rw [a4x] at hx
    split at h
    · rename_i hy
      by_cases e : t0 = t
      · rw [if_pos e] at hx
        injection hx with hx
        subst hx
        exact hy
      · rw [if_neg e] at hx
        exact ih h t x hx
    · cases h

theorem OR.cut {E : Env} {w : World} {I : Imm} {ν ν' : Nu} {k id : Nat} {o : AO} (h : OR E w I ν id o) (hk : Nu.agree k ν ν') (hid : id < k) (ht : ν'.top id = ν.top id) (hc : ClO k o) : OR E w I ν' id o := by
  cases h with
  | gone => exact .gone
  | box cells tyo b vs ty hv hb hh hl hx hI hty => exact .box cells tyo b vs ty ((hk.val id 0 hid (Nat.zero_le _)).trans hv) hb hh hl (fun j x v h1 h2 => (hx j x v h1 h2).cut hk (a6o hc j x h1)) hI hty
  | row e sz ver fz xs inner ht' h0 ho hr hf hI =>
    have hval := hk.val id ver hid (by rw [ht']; exact Nat.le_refl _)
    exact .row e sz ver fz xs inner (ht.trans ht') h0 (by rw [hval]; exact ho) hr hf (by rw [hval]; exact hI)
  | map es fl b en ck hv hb hh hr hbn => exact .map es fl b en ck ((hk.val id 0 hid (Nat.zero_le _)).trans hv) hb hh hr hbn
  | iter mid n seen r b hv hb hm hmv hh hlt => exact .iter mid n seen r b ((hk.val id 0 hid (Nat.zero_le _)).trans hv) hb (by have := hk.n; omega) ((hk.val mid 0 (by omega) (Nat.zero_le _)).trans hmv) hh hlt
  | arr e sz ver xs wr g c cur fr ht0 h0 hv hb hh hfr hl hcc hr hI => exact .arr e sz ver xs wr g c cur fr (by rw [ht]; exact ht0) h0 ((hk.val id ver hid ht0).trans hv) hb hh hfr hl hcc hr hI
  | siter s pos r hv hb hh => exact .siter s pos r ((hk.val id 0 hid (Nat.zero_le _)).trans hv) hb hh
  | hp m hm => exact .hp m hm
theorem c2a {E : Env} {w : World} {I : Imm} {ν ν' : Nu} {k id : Nat} {o : AO} (h : OR E w I ν id o) (hk : Nu.agree k ν ν') (hid : id < k) : OB ν' id o = OB ν id o := by
  funext b
  cases h with
  | gone => rfl
  | box cells tyo b vs ty hv hb hh hl hx hI hty => simp only [OB, OB1, hk.val id 0 hid (Nat.zero_le _)]
  | row e sz ver fz xs inner ht' h0 ho hr hf hI => simp only [OB, OB1, hk.val id ver hid (by rw [ht']; exact Nat.le_refl _)]
  | map es fl b en ck hv hb hh hr hbn => simp only [OB, OB1, hk.val id 0 hid (Nat.zero_le _)]
  | iter mid n seen r b hv hb hm hmv hh hlt => simp only [OB, OB1, hk.val id 0 hid (Nat.zero_le _)]
  | arr e sz ver xs wr g c cur fr ht0 h0 hv hb hh hfr hl hcc hr hI => simp only [OB, OB1, hk.val id ver hid ht0]
  | siter s pos r hv hb hh => simp only [OB, OB1, hk.val id 0 hid (Nat.zero_le _)]
  | hp m hm => rfl

theorem HR.cut {E : Env} {w : World} {I : Imm} {ν : Nu} {os ex : List AO} (hh : HR E I ν (os ++ ex) w) (hc : ClOs os.length os) (hk0 : E.k ≤ os.length) : HR E I { ν with n := os.length } os w ∧ FR E.k w I ν (os ++ ex) w I { ν with n := os.length } os := by
  have hk : Nu.agree os.length ν { ν with n := os.length } := ⟨Nat.le_refl _, fun _ _ => Nat.le_refl _, fun _ _ _ _ => rfl⟩
  have hold : ∀ (id : Nat) o, os[id]? = some o → (os ++ ex)[id]? = some o ∧ id < os.length := fun id o h => by
    have hlt := (List.getElem?_eq_some_iff.1 h).1
    exact ⟨by rw [List.getElem?_append_left hlt]; exact h, hlt⟩
  refine ⟨⟨rfl, hh.below, hh.base, hh.imm, fun id o h => ?_, fun id id' o o' b h1 h2 e1 e2 => ?_⟩, ⟨ImmLe.refl _ _, Nat.le_refl _, fun _ _ h => .inl h, fun _ _ _ => rfl, fun b ⟨id, o, h, h2⟩ => ?_, fun id h1 _ => ⟨Nat.lt_of_lt_of_le h1 hk0, Nat.le_refl _, fun _ _ => rfl⟩, fun id h1 h => ⟨rfl, by
    rw [List.getElem?_append_left (Nat.lt_of_lt_of_le h1 hk0)] at h; exact h⟩⟩⟩
  · obtain ⟨h1, h2⟩ := hold id o h
    exact (hh.obj id o h1).cut hk h2 rfl (hc.get id o h)
  · obtain ⟨k1, l1⟩ := hold id o h1
    obtain ⟨k2, l2⟩ := hold id' o' h2
    rw [c2a (hh.obj id o k1) hk l1] at e1
    rw [c2a (hh.obj id' o' k2) hk l2] at e2
    exact hh.disj id id' o o' b k1 k2 e1 e2
  · obtain ⟨h1, h3⟩ := hold id o h
    rw [c2a (hh.obj id o h1) hk h3] at h2
    exact .inl ⟨id, o, h1, h2⟩

inductive SubS (sl : Slots) : Slots → Prop where
  | nil : SubS sl []
  | cons {t : Nat} {x : AV} {r : Slots} (h : lk sl t = some x) (k : SubS sl r) : SubS sl ((t, x) :: r)
theorem SubS.get {sl r : Slots} (h : SubS sl r) : ∀ t x, lk r t = some x → lk sl t = some x := by
  induction h with
  | nil => intro t x h; simp [lk] at h
  | cons h k ih =>
    intro t x hx
    rw [a4x] at hx
    split at hx
    · rename_i e
      subst e
      rw [← hx]
      exact h
    · exact ih t x hx

section
variable {E : Env} {N : Nat} {Q : Exit → St → Prop}
inductive Wk' (k : Nat) : St → St → Prop where
  | refl {σ : St} : Wk' k σ σ
  | same {sl sl' : Slots} {H : List AO} (h : SubS sl sl') : Wk' k ⟨sl, H⟩ ⟨sl', H⟩
  | drop {sl sl' : Slots} {H ex : List AO} (h : SubS sl sl') (hs : clS H.length sl' = true) (ho : ClOs H.length H) (hk : Nat.ble k H.length = true) : Wk' k ⟨sl, H ++ ex⟩ ⟨sl', H⟩
theorem Wk'.sr {σ σ' : St} {I : Imm} {ν : Nu} {a : Act} {w : World} (h : Wk' E.k σ σ') (hs : SR E N I ν σ a w) : ∃ ν', SR E N I ν' σ' a w ∧ FR E.k w I ν σ.objs w I ν' σ'.objs := by
  cases h with
  | refl => exact ⟨ν, hs, FR.refl _ _ _ _⟩
  | same h => exact ⟨ν, ⟨hs.hr, fun t x hx => hs.sl t x (h.get t x hx), hs.df, hs.nt⟩, FR.refl _ _ _ _⟩
  | @drop sl sl' H ex h h1 h2 h3 =>
    obtain ⟨k1, k2⟩ := HR.cut hs.hr h2 (Nat.le_of_ble_eq_true h3)
    exact ⟨_, ⟨k1, fun t x hx => VR.cut (k := H.length) (ν := ν) (ν' := { ν with n := H.length }) ⟨Nat.le_refl _, fun _ _ => Nat.le_refl _, fun _ _ _ _ => rfl⟩ (hs.sl t x (h.get t x hx)) (c6k h1 t x hx), hs.df, hs.nt⟩, k2⟩
def Wkn (E : Env) (N : Nat) (σ σ' : St) : Prop := ∀ I ν a w, SR E N I ν σ a w → ∃ I' ν', SR E N I' ν' σ' a w ∧ FR E.k w I ν σ.objs w I' ν' σ'.objs
theorem Wkn.of {σ σ' : St} (h : Wk' E.k σ σ') : Wkn E N σ σ' := fun I ν a w hs => let ⟨ν', h1, h2⟩ := h.sr hs; ⟨I, ν', h1, h2⟩
theorem Wkn.refl (σ : St) : Wkn E N σ σ := fun I ν a w hs => ⟨I, ν, hs, FR.refl _ _ _ _⟩
theorem Wkn.trans {σ σ' σ2 : St} (h : Wkn E N σ σ') (k : Wkn E N σ' σ2) : Wkn E N σ σ2 := fun I ν a w hs =>
  let ⟨I1, ν1, h1, h2⟩ := h I ν a w hs
  let ⟨I2, ν2, h3, h4⟩ := k I1 ν1 a w h1
  ⟨I2, ν2, h3, h2.trans h4⟩
theorem Wkn.freeze {sl : Slots} {H H' : List AO} (t : Nat) {id ver fz e sz : Nat} {xs : List (List AV)} (ht : lk sl t = some (.os id ver)) (hU : Upd id H (.row e sz ver fz xs) (.row e sz ver xs.length xs) H') :
    Wkn E N ⟨sl, H⟩ ⟨(t, .rs xs) :: sl, H'⟩ := fun I ν a w hs => let ⟨I', h1, h2⟩ := b3q hs ht hU; ⟨I', ν, h1, h2⟩
theorem Wkn.nil {sl : Slots} {H : List AO} (t : Nat) (ht : lk sl t = some .nilsl) : Wkn E N ⟨sl, H⟩ ⟨(t, .rs []) :: sl, H⟩ := fun I ν a w hs => by
  refine ⟨I, ν, ⟨hs.hr, fun t' x hx => ?_, hs.df, hs.nt⟩, FR.refl _ _ _ _⟩
  rw [a4x] at hx
  by_cases et : t = t'
  · subst et
    rw [if_pos rfl] at hx
    obtain rfl : AV.rs [] = x := by simpa using hx
    have := (hs.sl t _ ht).nilsl_inv
    rw [this]
    exact .pure (.rs0 none 0)
  · rw [if_neg et] at hx
    exact hs.sl t' x hx
theorem Wkn.spell {sl : Slots} {H : List AO} (t : Nat) {x : AV} (y : AV) (ht : lk sl t = some x) (e : x = y) : Wkn E N ⟨sl, H⟩ ⟨(t, y) :: sl, H⟩ := fun I ν a w hs => by
  subst e
  refine ⟨I, ν, ⟨hs.hr, fun t' x' hx => ?_, hs.df, hs.nt⟩, FR.refl _ _ _ _⟩
  rw [a4x] at hx
  by_cases et : t = t'
  · subst et
    rw [if_pos rfl] at hx
    obtain rfl : x = x' := by simpa using hx
    exact hs.sl t _ ht
  · rw [if_neg et] at hx
    exact hs.sl t' x' hx
theorem a4y {c : Code} {σ σ' : St} (h : Wkn E N σ σ') (k : AWp E N c Q σ') : AWp E N c Q σ := by
  intro I ν a w hs
  obtain ⟨I', ν', h1, h2⟩ := h I ν a w hs
  exact Code.wp_mono (fun e a' w' k => Lift.step h2 k) (k I' ν' a w h1)
theorem a4j {ops : Array Oper} {l : List Oper} {σ σ' : St} (h : Wkn E N σ σ') (k : AL E N ops Q l σ') : AL E N ops Q l σ := by
  intro I ν a w hs w0 I0 ν0 o0 hf
  obtain ⟨I', ν', h1, h2⟩ := h I ν a w hs
  exact k I' ν' a w h1 w0 I0 ν0 o0 (hf.trans h2)
theorem c1l {α : Type} {c : Code} {σ : St} (inv : α → St) (ok : α → Prop) (m : α → Nat) (x0 : α) (h0 : Wkn E N σ (inv x0)) (k0 : ok x0)
    (round : ∀ x, ok x → AWp E N c (fun e σ' => match e with
      | .normal => ∃ y, ok y ∧ m y < m x ∧ Wkn E N σ' (inv y)
      | e => Q e σ') (inv x)) : AWp E N (.loop c) Q σ := by
  refine a4y h0 ?_
  intro I ν a w hs
  refine b0o (fun x a' w' => ∃ I' ν', ok x ∧ SR E N I' ν' (inv x) a' w' ∧ FR E.k w I ν (inv x0).objs w' I' ν' (inv x).objs) m x0 ⟨I, ν, k0, hs, FR.refl _ _ _ _⟩ ?_
  rintro x a1 w1 ⟨I1, ν1, hx, hs1, hf1⟩
  refine Code.wp_mono (fun e a' w' hk => ?_) (round x hx I1 ν1 a1 w1 hs1)
  obtain ⟨σ', I', ν', hq, hs', hf⟩ := hk
  cases e with
  | normal =>
    obtain ⟨y, hy, hm, hw⟩ := hq
    obtain ⟨I2, ν2, k1, k2⟩ := hw I' ν' a' w' hs'
    exact ⟨y, hm, I2, ν2, hy, k1, (hf1.trans hf).trans k2⟩
  | exit id => exact ⟨σ', I', ν', hq, hs', hf1.trans hf⟩
  | goto l => exact ⟨σ', I', ν', hq, hs', hf1.trans hf⟩
  | ret => exact ⟨σ', I', ν', hq, hs', hf1.trans hf⟩
  | panic ch => exact ⟨σ', I', ν', hq, hs', hf1.trans hf⟩
  | outgrown => exact ⟨σ', I', ν', hq, hs', hf1.trans hf⟩

theorem OR.env {E F : Env} (hb : E.base = F.base) {w : World} {I : Imm} {ν : Nu} {id : Nat} {o : AO} (h : OR E w I ν id o) : OR F w I ν id o := by
  cases h with
  | gone => exact .gone
  | box cells tyo b vs ty hv hb' hh hl hx hI hty => exact .box cells tyo b vs ty hv (hb ▸ hb') hh hl hx hI hty
  | row e sz ver fz xs inner ht' h0 ho hr hf hI => exact .row e sz ver fz xs inner ht' h0 (hb ▸ ho) hr hf hI
  | map es fl b en ck hv hb' hh hr hbn => exact .map es fl b en ck hv (hb ▸ hb') hh hr hbn
  | iter mid n seen r b hv hb' hm hmv hh hlt => exact .iter mid n seen r b hv (hb ▸ hb') hm hmv hh hlt
  | arr e sz ver xs wr g c cur fr ht0 h0 hv hb' hh hfr hl hcc hr hI => exact .arr e sz ver xs wr g c cur fr ht0 h0 hv (hb ▸ hb') hh hfr hl hcc hr hI
  | siter s pos r hv hb' hh => exact .siter s pos r hv (hb ▸ hb') hh
  | hp m hm => exact .hp m (hb ▸ hm)
theorem HR.env {E F : Env} (hb : E.base = F.base) (hw : E.w0 = F.w0) {I : Imm} {ν : Nu} {H : List AO} {w : World} (h : HR E I ν H w) : HR F I ν H w :=
  ⟨h.n, by have := h.below; rw [hb, hw] at this; exact this, hb ▸ h.base, h.imm, fun id o ho => (h.obj id o ho).env hb, h.disj⟩
abbrev Env.at (E : Env) (k : Nat) : Env := ⟨E.P, E.w0, E.base, k⟩

def ACalls (E : Env) (f : Nat) (args : List AV) (objs : List AO) (R : AV → List AO → Prop) : Prop :=
  ∀ I ν w (vs : List Value), HR E I ν objs w → args.length = vs.length → (∀ (j : Nat) x v, args[j]? = some x → vs[j]? = some v → VR w I ν x v) →
    Calls E.P f vs.toArray w fun e w' => ∃ rv objs' I' ν' v, R rv objs' ∧ e = .returned v ∧ VR w' I' ν' rv v ∧ HR E I' ν' objs' w' ∧ FR objs.length w I ν objs w' I' ν' objs'

def PCalls (E : Env) (f : Nat) (args : List AV) (R : AV → Prop) : Prop := ACalls E f args [] fun rv _ => R rv ∧ clB 0 rv = true

inductive Args : Nat → List AV → Slots → Prop where
  | nil {i : Nat} : Args i [] []
  | cons {i : Nat} {x : AV} {xs : List AV} {sl : Slots} (h : Args (i + 1) xs sl) : Args i (x :: xs) ((i, x) :: sl)
theorem Args.get {i : Nat} {xs : List AV} {sl : Slots} (h : Args i xs sl) : ∀ t x, lk sl t = some x → i ≤ t ∧ xs[t - i]? = some x := by
  induction h with
  | nil => intro t x h; simp [lk] at h
  | @cons i x xs sl h ih =>
    intro t y hy
    rw [a4x] at hy
    split at hy
    · rename_i e
      subst e
      simpa using hy
    · rename_i e
      obtain ⟨h1, h2⟩ := ih t y hy
      refine ⟨by omega, ?_⟩
      rw [show t - i = (t - (i + 1)) + 1 by omega]
      simpa using h2

inductive ResV (P : Program) (sl : Slots) (H : List AO) : List ResultVar → List AV → Prop where
  | nil : ResV P sl H [] []
  | tmp {t : Nat} {x : AV} {rs : List ResultVar} {xs : List AV} (h : lk sl t = some x) (k : ResV P sl H rs xs) : ResV P sl H (.tmp t :: rs) (x :: xs)
  | agg {p ty : Nat} {pv : AV} {cs : List AV} {n b : Nat} {z : Value} {rs : List ResultVar} {xs : List AV} [ti : TZ P ty true n b z] (h : lk sl p = some pv) (hc : cellsAt H pv = some cs) (hn : Nat.ble n cs.length = true) (k : ResV P sl H rs xs) :
      ResV P sl H (.cell p ty :: rs) (.agg (cs.take n) :: xs)
  | one {p ty : Nat} {pv x : AV} {cs : List AV} {n b : Nat} {z : Value} {rs : List ResultVar} {xs : List AV} [ti : TZ P ty false n b z] (h : lk sl p = some pv) (hc : cellsAt H pv = some (x :: cs)) (k : ResV P sl H rs xs) :
      ResV P sl H (.cell p ty :: rs) (x :: xs)
def packV : List AV → AV
  | [x] => x
  | xs => .tup xs

theorem b3l {E : Env} {I : Imm} {ν : Nu} {w : World} {sl : Slots} {H : List AO} {a : Act} (hh : HR E I ν H w) (hs : SlR w I ν sl a) {t p : Nat} {x : AV} (h : OV E sl H (.load t (.tmp p)) x) : ∃ v, VR w I ν x v ∧ (do loadVar t (← asAddr (a.tmps.getD p undef)) : Sem Value).run E.P w = .ok v w := by
  obtain ⟨v, hx, hr⟩ := h I ν a w hh hs
  refine ⟨v, hx, ?_⟩
  have := hr ⟨none, .load t (.tmp p), 0, "", #[], none⟩ w rfl (Still.refl _ _ _ _)
  simp only [execOp, Instr.loadAt, Act.eval] at this
  obtain ⟨u, hu⟩ : ∃ u, a.tmps.getD p undef = u := ⟨_, rfl⟩
  rw [hu] at this ⊢
  cases u with
  | pointer ad =>
    cases ad with
    | some ad =>
      simp only [Instr.sureAddr, asAddr, Sem.run_bind, Sem.run_pure, Result.andThen_ok] at this ⊢
      cases hl : (loadVar t ad).run E.P w with
      | ok q w' => rw [hl] at this; simp at this; rw [this.1, this.2]
      | halt q w' => rw [hl] at this; simp at this
    | none => simp [Instr.sureAddr, stuck, Sem.run] at this
  | _ => simp [Instr.sureAddr, stuck, Sem.run] at this

def resOf (a : Act) : ResultVar → Sem Value
  | .tmp t => pure (a.tmps.getD t undef)
  | .cell p t => do loadVar t (← asAddr (a.tmps.getD p undef))
theorem ResV.run {E : Env} {I : Imm} {ν : Nu} {w : World} {sl : Slots} {H : List AO} {a : Act} (hh : HR E I ν H w) (hs : SlR w I ν sl a) {rs : List ResultVar} {xs : List AV} (h : ResV E.P sl H rs xs) :
    ∃ vs : List Value, xs.length = vs.length ∧ (∀ (j : Nat) x v, xs[j]? = some x → vs[j]? = some v → VR w I ν x v) ∧
      (rs.mapM (resOf a)).run E.P w = .ok vs w := by
  induction h with
  | nil => exact ⟨[], rfl, by simp, by simp⟩
  | @tmp t x rs xs h k ih =>
    obtain ⟨vs, h1, h2, h3⟩ := ih
    refine ⟨a.tmps.getD t undef :: vs, by simp [h1], fun j y u hy hu => ?_, by rw [List.mapM_cons]; simp only [resOf, Sem.run_bind, Sem.run_pure, Result.andThen_ok, h3]⟩
    cases j with
    | zero => simp only [List.getElem?_cons_zero, Option.some.injEq] at hy hu; subst hy; subst hu; exact hs t x h
    | succ j => exact h2 j y u (by simpa using hy) (by simpa using hu)
  | @agg p ty pv cs n b z rs xs ti h hc hn k ih =>
    obtain ⟨vs, h1, h2, h3⟩ := ih
    obtain ⟨v, hv, hr⟩ := b3l hh hs (a0m (t := ty) (ti := ti) (p := .tmp p) h hc hn)
    refine ⟨v :: vs, by simp [h1], fun j y u hy hu => ?_, by rw [List.mapM_cons, Sem.run_bind, show resOf a (.cell p ty) = (do loadVar ty (← asAddr (a.tmps.getD p undef))) from rfl, hr]; simp only [Sem.run_bind, Sem.run_pure, Result.andThen_ok, h3]⟩
    cases j with
    | zero => simp only [List.getElem?_cons_zero, Option.some.injEq] at hy hu; subst hy; subst hu; exact hv
    | succ j => exact h2 j y u (by simpa using hy) (by simpa using hu)
  | @one p ty pv x cs n b z rs xs ti h hc k ih =>
    obtain ⟨vs, h1, h2, h3⟩ := ih
    obtain ⟨v, hv, hr⟩ := b3l hh hs (a0w (t := ty) (ti := ti) (p := .tmp p) h hc)
    refine ⟨v :: vs, by simp [h1], fun j y u hy hu => ?_, by rw [List.mapM_cons, Sem.run_bind, show resOf a (.cell p ty) = (do loadVar ty (← asAddr (a.tmps.getD p undef))) from rfl, hr]; simp only [Sem.run_bind, Sem.run_pure, Result.andThen_ok, h3]⟩
    cases j with
    | zero => simp only [List.getElem?_cons_zero, Option.some.injEq] at hy hu; subst hy; subst hu; exact hv
    | succ j => exact h2 j y u (by simpa using hy) (by simpa using hu)

theorem c2u {I : Imm} {ν : Nu} {w : World} {xs : List AV} {vs : List Value} (hl : xs.length = vs.length) (h : ∀ (j : Nat) x v, xs[j]? = some x → vs[j]? = some v → VR w I ν x v) :
    VR w I ν (packV xs) (if h : vs.toArray.size = 1 then vs.toArray[0] else .tuple vs.toArray) := by
  match xs, vs, hl with
  | [], [], _ => exact .tup [] [] rfl (by simp)
  | [x], [v], _ => simpa [packV] using h 0 x v rfl rfl
  | x :: y :: r, v :: u :: s, hl => simp only [packV, List.size_toArray, List.length_cons]; rw [dif_neg (by omega)]; exact .tup _ _ (by simpa using hl) h

def RetQ (E : Env) (N : Nat) (fn : Func) (R : AV → List AO → Prop) : Exit → St → Prop := fun e σ =>
  (e = .normal ∨ e = .ret) ∧ ∃ σ' rs xs, Wkn E N σ σ' ∧ fn.results = rs.toArray ∧ ResV E.P σ'.sl σ'.objs rs xs ∧ R (packV xs) σ'.objs

theorem a1s {f N : Nat} {fn : Func} {c : Code} {args : List AV} {objs : List AO} {R : AV → List AO → Prop} {sl : Slots} (hf : E.P.funcs[f]? = some fn) (hb : fn.body = some c) (hN : fn.ntmps = N) (hl : Nat.ble args.length N = true) (ha : Args 0 args sl)
    (h : AWp (E.at objs.length) N c (RetQ (E.at objs.length) N fn R) ⟨sl, objs⟩) : ACalls E f args objs R := by
  intro I ν w vs hh hlen hv
  have hl' : args.length ≤ N := Nat.le_of_ble_eq_true hl
  refine calls_of_wp hf hb (Code.wp_mono (fun e a' w' hk => ?_) (h I ν _ w ⟨HR.env (E := E) (F := E.at objs.length) rfl rfl hh, fun t x hx => ?_, rfl, ?_⟩))
  · obtain ⟨σ', I', ν', ⟨he, σ2, rs, xs, hwk, hres, hrv, hR⟩, hs', hf'⟩ := hk
    obtain ⟨I2, ν2, hs2, hf2⟩ := hwk I' ν' a' w' hs'
    obtain ⟨us, h1, h2, h3⟩ := hrv.run hs2.hr hs2.sl
    have hpost : a'.defers = [] ∧ ∃ v, (results fn a'.tmps).run E.P w' = .ok v w' ∧ ∃ rv objs' I' ν' v', R rv objs' ∧ Ending.returned v = .returned v' ∧ VR w' I' ν' rv v' ∧ HR E I' ν' objs' w' ∧ FR objs.length w I ν objs w' I' ν' objs' := by
      refine ⟨hs2.df, _, ?_, packV xs, σ2.objs, I2, ν2, _, hR, rfl, c2u h1 h2, HR.env (E := E.at objs.length) (F := E) rfl rfl hs2.hr, hf'.trans hf2⟩
      unfold results
      rw [hres, List.mapM_toArray]
      simp only [Sem.run_bind, Sem.run_map]
      have h4 : ∀ g : ResultVar → Sem Value, (∀ x, g x = resOf a' x) → rs.mapM g = rs.mapM (resOf a') := fun g hg => by
        rw [show g = resOf a' from funext hg]
      rw [h4 _ (fun x => by cases x <;> rfl), h3]
      rfl
    rcases he with rfl | rfl
    · exact hpost
    · exact hpost
  · obtain ⟨_, h2⟩ := ha.get t x hx
    simp only [Nat.sub_zero] at h2
    have hlt : t < vs.length := by rw [← hlen]; exact (List.getElem?_eq_some_iff.1 h2).1
    have h3 : vs[t]? = some vs[t] := List.getElem?_eq_getElem hlt
    have := hv t x _ h2 h3
    simpa [Array.getD_eq_getD_getElem?, Array.getElem?_append, hlt] using this
  · simp only [Array.size_append, List.size_toArray, Array.size_replicate]
    omega

theorem a2w {f : Nat} {args : List AV} {objs : List AO} {R R' : AV → List AO → Prop} (h : ACalls E f args objs R) (hr : ∀ rv o, R rv o → R' rv o) : ACalls E f args objs R' :=
  fun I ν w vs h1 h2 h3 => (h I ν w vs h1 h2 h3).mono fun e w' ⟨rv, o, I', ν', v, k, r⟩ => ⟨rv, o, I', ν', v, hr _ _ k, r⟩

class FN (P : Program) (f : Nat) : Prop where
  out : ∃ fn, P.funcs[f]? = some fn ∧ (fn.name == "runtime.NumGoroutine") = false ∧ fn.body.isNone = false

theorem a5w {P : Program} {f : Nat} [h : FN P f] (args : Array Value) (w : World) : (callFunc f args).run P w = .ok (.enter f args) w := by
  obtain ⟨fn, h1, h2, h3⟩ := h.out
  have h4 : ¬ (fn.name = "runtime.NumGoroutine") := by intro e; rw [e] at h2; simp at h2
  have h5 : ¬ (fn.body = none) := by intro e; rw [e] at h3; simp at h3
  simp [callFunc, program, Sem.run, bind, Sem.bind, h1, h4, h5, pure]

section
variable {ops : Array Oper} {rest : List Oper} {sl : Slots} {H : List AO}

theorem c0w {I : Imm} {ν : Nu} {w : World} {f : Nat} {caps : List AV} {v : Value} (h : VR w I ν (.fn f caps) v) : ∃ vs : List Value, v = .func (.func f) #[] vs.toArray ∧ caps.length = vs.length ∧ ∀ (j : Nat) x u, caps[j]? = some x → vs[j]? = some u → VR w I ν x u := by
  cases h with
  | pure h => cases h; exact ⟨[], rfl, rfl, by simp⟩
  | fn _ _ vs hl h => exact ⟨vs, rfl, hl, h⟩

theorem a6j {α : Type} {p q : List α} {r s : List Value} {T : α → Value → Prop} (h1 : p.length = r.length) (h2 : ∀ (j : Nat) x v, p[j]? = some x → r[j]? = some v → T x v) (h3 : ∀ (j : Nat) x v, q[j]? = some x → s[j]? = some v → T x v) :
    ∀ (j : Nat) x v, (p ++ q)[j]? = some x → (r ++ s)[j]? = some v → T x v := by
  intro j x v hx hv
  rcases Nat.lt_or_ge j p.length with hj | hj
  · rw [List.getElem?_append_left hj] at hx
    rw [List.getElem?_append_left (by omega)] at hv
    exact h2 j x v hx hv
  · rw [List.getElem?_append_right hj] at hx
    rw [List.getElem?_append_right (by omega), ← h1] at hv
    exact h3 _ x v hx hv

theorem a0q {f : Operand} {asq : List Operand} {tys : Array TypeId} {g : Nat} [fn : FN E.P g] {caps xs : List AV} {R : AV → Prop} {ty : TypeId} {pos : String} {after : Array Edge} {d : Nat}
    (hf : ev sl f = some (.fn g caps)) (ha : evs sl asq = some xs) (hc : clL 0 (xs ++ caps) = true) (hd : Nat.blt d N = true) (spec : PCalls (E.at 0) g (xs ++ caps) R)
    (h : ∀ rv, R rv → AL E N ops Q rest ⟨(d, rv) :: sl, H⟩) : AL E N ops Q (⟨some d, .call { callee := .value f, args := asq.toArray, argTypes := tys }, ty, pos, after, none⟩ :: rest) ⟨sl, H⟩ := by
  intro I ν a w hs w0 I0 ν0 o0 hf0
  obtain ⟨cvs, e1, e2, e3⟩ := c0w (a2q hs.sl hf)
  obtain ⟨e4, e5⟩ := b6y hs.sl asq ha
  refine wpList_plain rfl fun K hK => ?_
  unfold Oper.wp
  have hrun : (execOp a.eval ⟨some d, .call { callee := .value f, args := asq.toArray, argTypes := tys }, ty, pos, after, none⟩).run E.P w = .ok (.enter g (asq.map a.eval ++ cvs).toArray) w := by
    simp [execOp, resolve, e1, Deferred.ofValue, invoke, a5w]
  rw [hrun, Oper.upon_enter]
  have hargs := a6j (T := VR w I ν) (p := xs) (q := caps) (r := asq.map a.eval) (s := cvs) (by simp [e4]) e5 e3
  have hz : Nu.agree 0 ν ⟨0, fun _ => 0, fun _ _ => undef⟩ := ⟨Nat.le_refl _, fun _ h => by omega, fun _ _ h => by omega⟩
  have hh := hs.hr
  refine (spec I ⟨0, fun _ => 0, fun _ _ => undef⟩ w (asq.map a.eval ++ cvs) ⟨rfl, hh.below, hh.base, hh.imm, fun id o h => by simp at h, fun id id' o o' b h => by simp at h⟩ (by simp [e4, e2]) (fun j x v h1 h2 => (hargs j x v h1 h2).cut hz (a6o hc j x h1))).mono ?_
  rintro e w' ⟨rv, objs', I', ν', v, ⟨hR, hcl⟩, rfl, hv, hh', hfr⟩
  replace hh' := HR.env (E := E.at 0) (F := E) rfl rfl hh'
  have hnof : ∀ b, ¬ FB (⟨0, fun _ => 0, fun _ _ => undef⟩ : Nu) [] b := fun b ⟨id, o, h, _⟩ => by simp at h
  have hkeep : ∀ k, k < w.heap.size → w'.heap[k]? = w.heap[k]? := fun k hk => hfr.keep k hk (hnof k)
  have hnew : ∀ b o, I' b o → I b o ∨ w.heap.size ≤ b := fun b o h => by
    rcases hfr.new b o h with h | h | h
    · exact .inl h
    · exact absurd h (hnof b)
    · exact .inr h
  have hv2 : VR w' I' ν rv v := hv.cut (k := 0) ⟨Nat.zero_le _, fun _ h => by omega, fun _ _ h => by omega⟩ hcl
  have hr2 : HR E I' ν H w' := ⟨hh.n, hh'.below, Nat.le_trans hh.base hfr.size, hh'.imm, fun id o h => (hh.obj id o h).mono hfr.imm (Nu.le.refl ν) (hh.idlt h) rfl (fun b hb => hkeep b (a5j (hh.obj id o h) hb).1) (fun b o' hb hi => by
    rcases hnew b o' hi with h1 | h1
    · exact h1
    · have := (a5j (hh.obj id o h) hb).1
      omega), hh.disj⟩
  have hf2 : FR E.k w I ν H w' I' ν H := ⟨hfr.imm, hfr.size, fun b o h => by
    rcases hnew b o h with h1 | h1
    · exact .inl h1
    · exact .inr (.inr h1), fun b hb _ => hkeep b hb, fun b h => .inl h, (Nu.le.refl ν).ag _, fun _ _ h => ⟨rfl, h⟩⟩
  exact hK _ _ (h rv hR I' ν _ w' ⟨hr2, (hs.sl.mono hfr.imm (Nu.le.refl ν)).put d hv2 (by rw [hs.nt]; simpa [Nat.blt_eq] using hd), hs.df, by simp [Act.put, hs.nt]⟩ w0 I0 ν0 o0 (hf0.trans hf2))
end
end
end Go.Proofs.YtkljmljkiodnpaaGreatDoor.L

namespace Go.Proofs.YtkljmljkiodnpaaGreatDoor.L
open Go Go.RowKit

theorem w64 {n : Int} (h1 : -9223372036854775808 ≤ n) (h2 : n ≤ 9223372036854775807) : IntKind.i64.wrap n = n := by rw [IntKind.wrap_i64]; omega
theorem w8 {n : Int} (h1 : 0 ≤ n) (h2 : n ≤ 255) : IntKind.u8.wrap n = n := by rw [IntKind.wrap_u8]; omega

section
variable {E : Env} {N : Nat} {ops : Array Oper} {Q : Exit → St → Prop} {rest : List Oper} {sl : Slots} {H : List AO}

theorem a1z {op : Op} {ty : TypeId} {pos : String} {after : Array Edge} {d : Option Nat} {j t : Nat} {want : Bool} {p : Prop} [Decidable p] (hj : (ops[j]?).bind (·.dst) = some t) (hb : lk sl t = some (.bool (decide p)))
    (hy : p → AL E N ops Q (⟨d, op, ty, pos, after, some (j, want)⟩ :: rest) ⟨(t, .bool true) :: sl, H⟩) (hn : ¬ p → AL E N ops Q (⟨d, op, ty, pos, after, some (j, want)⟩ :: rest) ⟨(t, .bool false) :: sl, H⟩) :
    AL E N ops Q (⟨d, op, ty, pos, after, some (j, want)⟩ :: rest) ⟨sl, H⟩ :=
  c1p (decide p) hb (fun h => hy (of_decide_eq_true h)) (fun h => hn (of_decide_eq_false h))
theorem a3s {op : Op} {ty : TypeId} {pos : String} {after : Array Edge} {d : Option Nat} {j t : Nat} {want b : Bool} (hj : (ops[j]?).bind (·.dst) = some t) (hb : lk sl t = some (.bool b))
    (hy : b = true → AL E N ops Q (⟨d, op, ty, pos, after, some (j, want)⟩ :: rest) ⟨(t, .bool true) :: sl, H⟩) (hn : b = false → AL E N ops Q (⟨d, op, ty, pos, after, some (j, want)⟩ :: rest) ⟨(t, .bool false) :: sl, H⟩) :
    AL E N ops Q (⟨d, op, ty, pos, after, some (j, want)⟩ :: rest) ⟨sl, H⟩ :=
  c1p b hb hy hn
theorem b8l {c : Operand} {x y : Code} {σ : St} (hc : ev σ.sl c = some (.bool true)) (h : AWp E N x Q σ) : AWp E N (.cond c x y) Q σ := a8r true hc (fun _ => h) (fun e => by cases e)
theorem b8m {c : Operand} {x y : Code} {σ : St} (hc : ev σ.sl c = some (.bool false)) (h : AWp E N y Q σ) : AWp E N (.cond c x y) Q σ := a8r false hc (fun e => by cases e) (fun _ => h)
theorem a0r {c : Operand} {x y : Code} {σ : St} {p : Prop} [Decidable p] (hc : ev σ.sl c = some (.bool (decide p))) (ht : p → AWp E N x Q σ) (hf : ¬ p → AWp E N y Q σ) : AWp E N (.cond c x y) Q σ :=
  a8r (decide p) hc (fun h => ht (of_decide_eq_true h)) (fun h => hf (of_decide_eq_false h))

theorem a1j {op : Op} {ty : TypeId} {pos : String} {after : Array Edge} {d : Option Nat} {j t : Nat} {want b : Bool} (hj : (ops[j]?).bind (·.dst) = some t) (hb : lk sl t = some (.bool b)) (hw : b = want)
    (h : AL E N ops Q (⟨d, op, ty, pos, after, none⟩ :: rest) ⟨sl, H⟩) : AL E N ops Q (⟨d, op, ty, pos, after, some (j, want)⟩ :: rest) ⟨sl, H⟩ := by
  subst hw
  exact c8s hj hb h
theorem a1w {op : Op} {ty : TypeId} {pos : String} {after : Array Edge} {d j t : Nat} {b : Bool} (hj : (ops[j]?).bind (·.dst) = some t) (hb : lk sl t = some (.bool b)) (hw : b = false) (hd : Nat.blt d N = true)
    (h : AL E N ops Q rest ⟨(d, .und) :: sl, H⟩) : AL E N ops Q (⟨some d, op, ty, pos, after, some (j, true)⟩ :: rest) ⟨sl, H⟩ := by
  subst hw
  exact c7x hj hb rfl hd h
theorem a1t {op : Op} {ty : TypeId} {pos : String} {after : Array Edge} {d j t : Nat} {b : Bool} (hj : (ops[j]?).bind (·.dst) = some t) (hb : lk sl t = some (.bool b)) (hw : b = true) (hd : Nat.blt d N = true)
    (h : AL E N ops Q rest ⟨(d, .und) :: sl, H⟩) : AL E N ops Q (⟨some d, op, ty, pos, after, some (j, false)⟩ :: rest) ⟨sl, H⟩ := by
  subst hw
  exact c7x hj hb rfl hd h
theorem c6o {op : Op} {ty : TypeId} {pos : String} {after : Array Edge} {j t : Nat} {b : Bool} (hj : (ops[j]?).bind (·.dst) = some t) (hb : lk sl t = some (.bool b)) (hw : b = false)
    (h : AL E N ops Q rest ⟨sl, H⟩) : AL E N ops Q (⟨none, op, ty, pos, after, some (j, true)⟩ :: rest) ⟨sl, H⟩ := by
  subst hw
  exact c4v hj hb rfl h
theorem c6p {op : Op} {ty : TypeId} {pos : String} {after : Array Edge} {j t : Nat} {b : Bool} (hj : (ops[j]?).bind (·.dst) = some t) (hb : lk sl t = some (.bool b)) (hw : b = true)
    (h : AL E N ops Q rest ⟨sl, H⟩) : AL E N ops Q (⟨none, op, ty, pos, after, some (j, false)⟩ :: rest) ⟨sl, H⟩ := by
  subst hw
  exact c4v hj hb rfl h
theorem a0j {c x y : Operand} {v : AV} {b : Bool} (hc : ev sl c = some (.bool b)) (hb : b = true) (h : ev sl x = some v) : OV E sl H (.pick c x y) v := by subst hb; exact b9v hc h
theorem a0i {c x y : Operand} {v : AV} {b : Bool} (hc : ev sl c = some (.bool b)) (hb : b = false) (h : ev sl y = some v) : OV E sl H (.pick c x y) v := by subst hb; exact b9w hc h
theorem a0y {t : TypeId} {x : Operand} {b : Bool} (hx : ev sl x = some (.bool b)) (hb : b = true) : OV E sl H (.unOp .not t x) (.bool false) := by subst hb; exact a2z hx rfl
theorem a1r {t : TypeId} {x : Operand} {b : Bool} (hx : ev sl x = some (.bool b)) (hb : b = false) : OV E sl H (.unOp .not t x) (.bool true) := by subst hb; exact a2z hx rfl
theorem a3h {t : TypeId} {x : Operand} {p : Prop} [Decidable p] (hx : ev sl x = some (.bool (decide p))) : OV E sl H (.unOp .not t x) (.bool (decide (¬ p))) := a2z hx (by simp)
theorem a0g {c : Operand} {x y : Code} {σ : St} {b : Bool} (hc : ev σ.sl c = some (.bool b)) (hb : b = true) (h : AWp E N x Q σ) : AWp E N (.cond c x y) Q σ := by subst hb; exact b8l hc h
theorem a0h {c : Operand} {x y : Code} {σ : St} {b : Bool} (hc : ev σ.sl c = some (.bool b)) (hb : b = false) (h : AWp E N y Q σ) : AWp E N (.cond c x y) Q σ := by subst hb; exact b8m hc h

theorem a2p {c : Operand} {x y : Code} {σ : St} {b : Bool} (hc : ev σ.sl c = some (.bool b)) (ht : b = true → AWp E N x Q σ) (hf : b = false → AWp E N y Q σ) : AWp E N (.cond c x y) Q σ := a8r b hc ht hf
theorem a1n {y : Code} {σ : St} (h : AWp E N y Q σ) : Thn E N y Q .normal σ := h
theorem a0t {y : Code} {σ : St} (h : Q .ret σ) : Thn E N y Q .ret σ := h
theorem a1d {y : Code} {σ : St} {id : Nat} (h : Q (.exit id) σ) : Thn E N y Q (.exit id) σ := h
theorem a3d {y : Code} {σ : St} {id : Nat} (h : Q (.goto id) σ) : Thn E N y Q (.goto id) σ := h
theorem a1v {id : Nat} {σ : St} (h : Q .normal σ) : InB id Q .normal σ := h
theorem a1b {id : Nat} {σ : St} (h : Q .ret σ) : InB id Q .ret σ := h
theorem c3e {id l : Nat} {σ : St} (h : Q (.goto l) σ) : InB id Q (.goto l) σ := h
theorem a1e {id : Nat} {σ : St} (h : Q .normal σ) : InB id Q (.exit id) σ := by simp only [InB, c4t, if_true]; exact h
theorem a5g {id id' : Nat} {σ : St} (e : Nat.beq id' id = false) (h : Q (.exit id') σ) : InB id Q (.exit id') σ := by simp only [InB, e]; exact h

end
section
variable {E : Env} {N : Nat} {ops : Array Oper} {Q : Exit → St → Prop} {rest : List Oper} {σ : St}
theorem k_g {op : Op} {ty : TypeId} {pos : String} {after : Array Edge} {d : Option Nat} {g : Nat × Bool} (h : AL E N ops Q (⟨d, op, ty, pos, after, some g⟩ :: rest) σ) : AL E N ops Q (⟨d, op, ty, pos, after, some g⟩ :: rest) σ := h
theorem a1a {o : BinOp} {t t' : TypeId} {x y : Operand} {ty : TypeId} {pos : String} {after : Array Edge} {d : Option Nat} (h : AL E N ops Q (⟨d, .binOp o t x y t', ty, pos, after, none⟩ :: rest) σ) : AL E N ops Q (⟨d, .binOp o t x y t', ty, pos, after, none⟩ :: rest) σ := h
theorem a0d {c : Call} {ty : TypeId} {pos : String} {after : Array Edge} {d : Option Nat} (h : AL E N ops Q (⟨d, .call c, ty, pos, after, none⟩ :: rest) σ) : AL E N ops Q (⟨d, .call c, ty, pos, after, none⟩ :: rest) σ := h
theorem a1i {x y z : Operand} {ty : TypeId} {pos : String} {after : Array Edge} {d : Option Nat} (h : AL E N ops Q (⟨d, .pick x y z, ty, pos, after, none⟩ :: rest) σ) : AL E N ops Q (⟨d, .pick x y z, ty, pos, after, none⟩ :: rest) σ := h
theorem a1g {x : Operand} {t ty : TypeId} {pos : String} {after : Array Edge} {d : Option Nat} (h : AL E N ops Q (⟨d, .load t x, ty, pos, after, none⟩ :: rest) σ) : AL E N ops Q (⟨d, .load t x, ty, pos, after, none⟩ :: rest) σ := h
theorem a2k {l : List Oper} (h : AL E N ops Q l σ) : AL E N ops Q l σ := h
theorem a1o {c : Code} (h : AWp E N c Q σ) : AWp E N c Q σ := h
theorem a0x {c : Operand} {x y : Code} (h : AWp E N (.cond c x y) Q σ) : AWp E N (.cond c x y) Q σ := h
end
theorem a2m {E : Env} {N : Nat} {fn : Func} {R : AV → List AO → Prop} {e : Exit} {σ σ' : St} (h : Wkn E N σ σ') (k : RetQ E N fn R e σ') : RetQ E N fn R e σ :=
  let ⟨he, σ2, rs, xs, h1, h2, h3, h4⟩ := k; ⟨he, σ2, rs, xs, h.trans h1, h2, h3, h4⟩
theorem ret0 {E : Env} {N : Nat} {fn : Func} {R : AV → List AO → Prop} {e : Exit} {σ : St} (he : e = .normal ∨ e = .ret) (h2 : fn.results = #[]) (hR : R (.tup []) σ.objs) : RetQ E N fn R e σ :=
  ⟨he, σ, [], [], .refl _, h2, .nil, hR⟩
theorem ret1 {E : Env} {N : Nat} {fn : Func} {R : AV → List AO → Prop} {e : Exit} {σ : St} {t : Nat} {x : AV} (he : e = .normal ∨ e = .ret) (h2 : fn.results = #[.tmp t]) (h : lk σ.sl t = some x) (hR : R x σ.objs) : RetQ E N fn R e σ :=
  ⟨he, σ, [.tmp t], [x], .refl _, h2, .tmp h .nil, hR⟩
theorem ret2 {E : Env} {N : Nat} {fn : Func} {R : AV → List AO → Prop} {e : Exit} {σ : St} {t u : Nat} {x y : AV} (he : e = .normal ∨ e = .ret) (h2 : fn.results = #[.tmp t, .tmp u]) (h : lk σ.sl t = some x) (k : lk σ.sl u = some y) (hR : R (.tup [x, y]) σ.objs) : RetQ E N fn R e σ :=
  ⟨he, σ, [.tmp t, .tmp u], [x, y], .refl _, h2, .tmp h (.tmp k .nil), hR⟩
theorem ret3 {E : Env} {N : Nat} {fn : Func} {R : AV → List AO → Prop} {e : Exit} {σ : St} {t u v : Nat} {x y z : AV} (he : e = .normal ∨ e = .ret) (h2 : fn.results = #[.tmp t, .tmp u, .tmp v]) (h : lk σ.sl t = some x) (k : lk σ.sl u = some y) (l : lk σ.sl v = some z) (hR : R (.tup [x, y, z]) σ.objs) : RetQ E N fn R e σ :=
  ⟨he, σ, [.tmp t, .tmp u, .tmp v], [x, y, z], .refl _, h2, .tmp h (.tmp k (.tmp l .nil)), hR⟩
theorem b1q {E : Env} {N : Nat} {fn : Func} {R : AV → List AO → Prop} {e : Exit} {σ : St} (he : e = .normal ∨ e = .ret) (σ' : St) (rs : List ResultVar) (xs : List AV) (h1 : Wkn E N σ σ') (h2 : fn.results = rs.toArray) (h3 : ResV E.P σ'.sl σ'.objs rs xs) (h4 : R (packV xs) σ'.objs) : RetQ E N fn R e σ :=
  ⟨he, σ', rs, xs, h1, h2, h3, h4⟩

end Go.Proofs.YtkljmljkiodnpaaGreatDoor.L

namespace Go.Proofs.YtkljmljkiodnpaaGreatDoor.L
open Go Go.RowKit

theorem HR.later {E : Env} {I : Imm} {ν : Nu} {H : List AO} {w w' : World} (hh : HR E I ν H w) (hb : Below w.heap.size w w') : HR E I ν H w' ∧ FR E.k w I ν H w' I ν H ∧ ImmLe w I w' I := by
  have hI : ImmLe w I w' I := ImmLe.heap hh fun k hk _ => hb.block k hk
  refine ⟨⟨hh.n, hh.below.trans (hb.mono hh.base), Nat.le_trans hh.base hb.size, fun b o h => ?_, fun id o h => ?_, hh.disj⟩, ⟨hI, hb.size, fun b o h => .inl h, fun b hk _ => hb.block b hk, fun b h => .inl h, (Nu.le.refl ν).ag _, fun _ _ h => ⟨rfl, h⟩⟩, hI⟩
  · obtain ⟨v, hv⟩ := hh.imm b o h
    exact ⟨v, (hI.2 b o h).trans hv⟩
  · exact (hh.obj id o h).mono hI (Nu.le.refl ν) (hh.idlt h) rfl (fun b hk => hb.block b (a5j (hh.obj id o h) hk).1) (fun _ _ _ h => h)

theorem HR.still {E : Env} {I : Imm} {ν : Nu} {H : List AO} {w w' : World} (hh : HR E I ν H w) (hb : Below w.heap.size w w') : Still ν H I w w' :=
  ⟨hb.size, fun b o h => (hh.later hb).2.2.2 b o h, fun id o b h1 h2 => hb.block b (a5j (hh.obj id o h1) h2).1⟩

def QL (E : Env) (N : Nat) (ops : Array Oper) (Q : Exit → St → Prop) (l : List Oper) (σ : St) : Prop :=
  ∀ I ν a w, SR E N I ν σ a w → wpQuiet E.P ops (fun w' => Below w.heap.size w w') (fun a' => ∀ w', Below w.heap.size w w' → Lift E N w I ν σ.objs Q .normal a' w') l a

section
variable {E : Env} {N : Nat} {ops : Array Oper} {Q : Exit → St → Prop} {rest : List Oper} {sl : Slots} {H : List AO}

theorem a7c {id : Nat} {l : List Oper} {σ : St} (hm : E.P.follows .mixedOrders = true) (hB : Region.lexB .any l.toArray = true) (h : QL E N l.toArray Q l σ) : AWp E N (.region id l.toArray true) Q σ := by
  intro I ν a w hs
  exact wp_region_quiet (C := fun w' => Below w.heap.size w w') hm hB ((Below.refl _ _).drew) (by simpa using h I ν a w hs)

theorem b0u (h : Q .normal ⟨sl, H⟩) : QL E N ops Q [] ⟨sl, H⟩ := by
  intro I ν a w hs
  refine wpQuiet_nil fun w' hb => ?_
  obtain ⟨h1, h2, h3⟩ := hs.hr.later hb
  exact ⟨⟨sl, H⟩, I, ν, h, ⟨h1, hs.sl.mono h3 (Nu.le.refl ν), hs.df, hs.nt⟩, h2⟩

theorem a4c {op : Op} {ty : TypeId} {pos : String} {after : Array Edge} {d : Nat} {x : AV} (hv : OV E sl H op x) (hd : Nat.blt d N = true) (h : QL E N ops Q rest ⟨(d, x) :: sl, H⟩) :
    QL E N ops Q (⟨some d, op, ty, pos, after, none⟩ :: rest) ⟨sl, H⟩ := by
  intro I ν a w hs
  obtain ⟨v, hx, hr⟩ := hv I ν a w hs.hr hs.sl
  refine wpQuiet_step fun K hK => ?_
  rw [if_pos (by simp [Region.wanted])]
  refine ⟨v, fun w' hb => ?_, hK _ (h I ν _ w (a5o hs hd hx))⟩
  unfold Oper.quietAt
  rw [hr _ w' rfl (hs.hr.still hb)]
  exact ⟨rfl, rfl⟩

theorem c8j {op : Op} {ty : TypeId} {pos : String} {after : Array Edge} {d : Option Nat} {j t : Nat} {want b : Bool} (hj : (ops[j]?).bind (·.dst) = some t) (hb : lk sl t = some (.bool b)) (hw : b = want)
    (h : QL E N ops Q (⟨d, op, ty, pos, after, none⟩ :: rest) ⟨sl, H⟩) : QL E N ops Q (⟨d, op, ty, pos, after, some (j, want)⟩ :: rest) ⟨sl, H⟩ := by
  subst hw
  intro I ν a w hs
  have hy := a4g hs.sl hj hb
  have := h I ν a w hs
  unfold wpQuiet at this ⊢
  rw [if_pos (by simp [Region.wanted])] at this
  rw [if_pos (by simp [Region.wanted, hy])]
  exact this
theorem c7g {op : Op} {ty : TypeId} {pos : String} {after : Array Edge} {d j t : Nat} {want b : Bool} (hj : (ops[j]?).bind (·.dst) = some t) (hb : lk sl t = some (.bool b)) (hw : (b == want) = false) (hd : Nat.blt d N = true)
    (h : QL E N ops Q rest ⟨(d, .und) :: sl, H⟩) : QL E N ops Q (⟨some d, op, ty, pos, after, some (j, want)⟩ :: rest) ⟨sl, H⟩ := by
  intro I ν a w hs
  have hy := a4g hs.sl hj hb
  unfold wpQuiet
  rw [if_neg (by simp only [Region.wanted, hy]; intro e; rw [show (some b == some want) = (b == want) from rfl, hw] at e; cases e)]
  exact h I ν _ w (a5o hs hd (.und _ rfl))
theorem c7e {op : Op} {ty : TypeId} {pos : String} {after : Array Edge} {d j t : Nat} {b : Bool} (hj : (ops[j]?).bind (·.dst) = some t) (hb : lk sl t = some (.bool b)) (hw : b = false) (hd : Nat.blt d N = true)
    (h : QL E N ops Q rest ⟨(d, .und) :: sl, H⟩) : QL E N ops Q (⟨some d, op, ty, pos, after, some (j, true)⟩ :: rest) ⟨sl, H⟩ := by subst hw; exact c7g hj hb rfl hd h
theorem c7f {op : Op} {ty : TypeId} {pos : String} {after : Array Edge} {d j t : Nat} {b : Bool} (hj : (ops[j]?).bind (·.dst) = some t) (hb : lk sl t = some (.bool b)) (hw : b = true) (hd : Nat.blt d N = true)
    (h : QL E N ops Q rest ⟨(d, .und) :: sl, H⟩) : QL E N ops Q (⟨some d, op, ty, pos, after, some (j, false)⟩ :: rest) ⟨sl, H⟩ := by subst hw; exact c7g hj hb rfl hd h
theorem c8k {op : Op} {ty : TypeId} {pos : String} {after : Array Edge} {d j t : Nat} {want : Bool} (hj : (ops[j]?).bind (·.dst) = some t) (hb : lk sl t = some .und) (hd : Nat.blt d N = true)
    (h : QL E N ops Q rest ⟨(d, .und) :: sl, H⟩) : QL E N ops Q (⟨some d, op, ty, pos, after, some (j, want)⟩ :: rest) ⟨sl, H⟩ := by
  intro I ν a w hs
  have hy := a5m (ops := ops) hs.sl hj hb
  unfold wpQuiet
  rw [if_neg (by simp [Region.wanted, hy])]
  exact h I ν _ w (a5o hs hd (.und _ rfl))
def svalue : AV → Option Value
  | .bool b => some (.bool b)
  | .int k n => some (.int k n)
  | .str s => some (.string ⟨s.toArray⟩)
  | _ => none
theorem b8u {w : World} {I : Imm} {ν : Nu} {x : AV} {v u : Value} (hs : svalue x = some u) (h : VR w I ν x v) : v = u := by
  cases x <;> simp only [svalue, Option.some.injEq, reduceCtorEq] at hs <;> subst hs
  · exact h.bool_inv
  · exact h.int_inv
  · exact h.str_inv
theorem b8t {w : World} {I : Imm} {ν : Nu} {x : AV} {u : Value} (hs : svalue x = some u) : VR w I ν x u := by
  cases x <;> simp only [svalue, Option.some.injEq, reduceCtorEq] at hs <;> subst hs
  · exact .pure (.bool _)
  · exact .pure (.int _ _)
  · exact .pure (.str _)

theorem b9t {I : Imm} {ν : Nu} {w : World} (hh : HR E I ν H w) {g : Nat} {xs : List AV} {R : AV → Prop} (spec : PCalls (E.at 0) g xs R) (hc : clL 0 xs = true) {vs : List Value} (hl : xs.length = vs.length) (hv : ∀ (j : Nat) x v, xs[j]? = some x → vs[j]? = some v → VR w I ν x v) :
    Calls E.P g vs.toArray w fun e w' => ∃ rv I' v, R rv ∧ e = .returned v ∧ VR w' I' ν rv v ∧ HR E I' ν H w' ∧ FR E.k w I ν H w' I' ν H ∧ Below w.heap.size w w' := by
  have hz : Nu.agree 0 ν ⟨0, fun _ => 0, fun _ _ => undef⟩ := ⟨Nat.le_refl _, fun _ h => by omega, fun _ _ h => by omega⟩
  refine (spec I ⟨0, fun _ => 0, fun _ _ => undef⟩ w vs ⟨rfl, hh.below, hh.base, hh.imm, fun id o h => by simp at h, fun id id' o o' b h => by simp at h⟩ hl (fun j x v h1 h2 => (hv j x v h1 h2).cut hz (a6o hc j x h1))).mono ?_
  rintro e w' ⟨rv, objs', I', ν', v, ⟨hR, hcl⟩, rfl, hv', hh', hfr⟩
  replace hh' := HR.env (E := E.at 0) (F := E) rfl rfl hh'
  have hnof : ∀ b, ¬ FB (⟨0, fun _ => 0, fun _ _ => undef⟩ : Nu) [] b := fun b ⟨id, o, h, _⟩ => by simp at h
  have hkeep : ∀ k, k < w.heap.size → w'.heap[k]? = w.heap[k]? := fun k hk => hfr.keep k hk (hnof k)
  have hnew : ∀ b o, I' b o → I b o ∨ w.heap.size ≤ b := fun b o h => by
    rcases hfr.new b o h with h | h | h
    · exact .inl h
    · exact absurd h (hnof b)
    · exact .inr h
  refine ⟨rv, I', v, hR, rfl, hv'.cut (k := 0) ⟨Nat.zero_le _, fun _ h => by omega, fun _ _ h => by omega⟩ hcl, ?_, ?_, ?_⟩
  · exact ⟨hh.n, hh'.below, Nat.le_trans hh.base hfr.size, hh'.imm, fun id o h => (hh.obj id o h).mono hfr.imm (Nu.le.refl ν) (hh.idlt h) rfl (fun b hb => hkeep b (a5j (hh.obj id o h) hb).1) (fun b o' hb hi => by
      rcases hnew b o' hi with h1 | h1
      · exact h1
      · have := (a5j (hh.obj id o h) hb).1
        omega), hh.disj⟩
  · exact ⟨hfr.imm, hfr.size, fun b o h => by
      rcases hnew b o h with h1 | h1
      · exact .inl h1
      · exact .inr (.inr h1), fun b hb _ => hkeep b hb, fun b h => .inl h, (Nu.le.refl ν).ag _, fun _ _ h => ⟨rfl, h⟩⟩
  · exact ⟨hh'.below.os.trans hh.below.os.symm, hh'.below.tape.trans hh.below.tape.symm, hh'.below.output.trans hh.below.output.symm, hfr.size, hkeep⟩

theorem b9n {f : Operand} {asq : List Operand} {tys : Array TypeId} {g : Nat} [fn : FN E.P g] {caps xs : List AV} {c : AV} {u : Value} {ty : TypeId} {pos : String} {after : Array Edge} {d : Nat}
    (hf : ev sl f = some (.fn g caps)) (ha : evs sl asq = some xs) (hc : clL 0 (xs ++ caps) = true) (hd : Nat.blt d N = true) (spec : PCalls (E.at 0) g (xs ++ caps) (fun rv => rv = c)) (hu : svalue c = some u)
    (h : QL E N ops Q rest ⟨(d, c) :: sl, H⟩) : QL E N ops Q (⟨some d, .call { callee := .value f, args := asq.toArray, argTypes := tys }, ty, pos, after, none⟩ :: rest) ⟨sl, H⟩ := by
  intro I ν a w hs
  obtain ⟨cvs, e1, e2, e3⟩ := c0w (a2q hs.sl hf)
  obtain ⟨e4, e5⟩ := b6y hs.sl asq ha
  have hargs := a6j (T := VR w I ν) (p := xs) (q := caps) (r := asq.map a.eval) (s := cvs) (by simp [e4]) e5 e3
  refine wpQuiet_step fun K hK => ?_
  rw [if_pos (by simp [Region.wanted])]
  refine ⟨u, fun w' hb => ?_, hK _ (h I ν _ w (a5o hs hd (b8t hu)))⟩
  have hrun : (execOp a.eval ⟨some d, .call { callee := .value f, args := asq.toArray, argTypes := tys }, ty, pos, after, none⟩).run E.P w' = .ok (.enter g (asq.map a.eval ++ cvs).toArray) w' := by
    simp [execOp, resolve, e1, Deferred.ofValue, invoke, a5w]
  unfold Oper.quietAt
  rw [hrun]
  refine ⟨rfl, ?_⟩
  obtain ⟨h1, h2, h3⟩ := hs.hr.later hb
  refine (b9t h1 spec hc (by simp [e4, e2]) (fun j x v p q => (hargs j x v p q).mono h3 (Nu.le.refl ν))).mono ?_
  rintro e w2 ⟨rv, I', v, rfl, rfl, hv, _, _, hb2⟩
  exact ⟨by rw [b8u hu hv], hb.trans (hb2.mono hb.size)⟩
end
end Go.Proofs.YtkljmljkiodnpaaGreatDoor.L

namespace Go.Proofs.YtkljmljkiodnpaaGreatDoor.L
open Go Go.RowKit

theorem c3i (off : Nat) : ∀ (vs : List Value) (k : Nat) (us : List Value), off + k + vs.length ≤ us.length →
    (vs.zipIdx k).foldl (fun (cs : Array Value) (p : Value × Nat) => cs.setIfInBounds (off + p.2) p.1) us.toArray = (us.take (off + k) ++ vs ++ us.drop (off + k + vs.length)).toArray := by
  intro vs
  induction vs with
  | nil => intro k us h; simp
  | cons v r ih =>
    intro k us h
    simp only [List.length_cons] at h
    simp only [List.zipIdx_cons, List.foldl_cons]
    rw [List.setIfInBounds_toArray, ih (k + 1) _ (by simp; omega)]
    congr 1
    have h1 : off + k < us.length := by omega
    rw [show off + (k + 1) = off + k + 1 by omega, show off + k + 1 + r.length = off + k + (r.length + 1) by omega]
    rw [List.take_set, List.drop_set, if_pos (by omega), List.take_succ_eq_append_getElem h1]
    have e : (List.take (off + k) us ++ [us[off + k]]).set (off + k) v = List.take (off + k) us ++ [v] := by
      rw [List.set_append]
      simp [Nat.min_eq_left (show off + k ≤ us.length by omega)]
    rw [e]
    simp

inductive FillA (sl : Slots) (pl : List (Nat × Nat)) : List AV → List (Nat × Operand) → List AV → Prop where
  | nil {cells : List AV} : FillA sl pl cells [] cells
  | cons {cells cells1 cells' cs : List AV} {i off : Nat} {o : Operand} {xv : AV} {rest : List (Nat × Operand)} (h1 : ev sl o = some xv) (h2 : xv.cells = cs) (h3 : allCell cs = true) (h4 : pl[i]? = some (off, cs.length)) (h5 : PutN off cells cs cells1)
      (h6 : FillA sl pl cells1 rest cells') : FillA sl pl cells ((i, o) :: rest) cells'

theorem b6x {w : World} {I : Imm} {ν : Nu} {sl : Slots} {a : Act} (hs : SlR w I ν sl a) {pl : List (Nat × Nat)} (place : Nat → Option (Nat × Nat)) (hpl : ∀ i p, pl[i]? = some p → place i = some p)
    {cells cells' : List AV} {parts : List (Nat × Operand)} (h : FillA sl pl cells parts cells') : ∀ (us : List Value), cells.length = us.length → (∀ (j : Nat) y u, cells[j]? = some y → us[j]? = some u → VR w I ν y u) → (∀ u ∈ us, u.oneCell' = true) →
    ∃ us' : List Value, Instr.fill place us.toArray (parts.map fun p => (p.1, a.eval p.2)) = some us'.toArray ∧ cells'.length = us'.length ∧ (∀ (j : Nat) y u, cells'[j]? = some y → us'[j]? = some u → VR w I ν y u) ∧ ∀ u ∈ us', u.oneCell' = true := by
  induction h with
  | nil => intro us hl hx h1; exact ⟨us, rfl, hl, hx, h1⟩
  | @cons cells cells1 cells' cs i off o xv rest h1 h2 h3 h4 h5 h6 ih =>
    intro us hl hx hone
    obtain ⟨vs, hv, hvl, hvx, hv1⟩ := (a2q hs h1).cells_ok h2 h3
    obtain ⟨p1, p2⟩ := h5.eq
    obtain ⟨us', r1, r2, r3, r4⟩ := ih (us.take off ++ vs ++ us.drop (off + vs.length)) (by rw [p2]; simp; omega) (fun j y u g1 g2 => by
      rw [p2] at g1
      by_cases c1 : j < off
      · rw [List.append_assoc, List.getElem?_append_left (by simp; omega), List.getElem?_take_of_lt c1] at g1 g2
        exact hx j y u g1 g2
      · by_cases c2 : j < off + cs.length
        · rw [List.append_assoc, List.getElem?_append_right (by simp; omega), List.getElem?_append_left (by simp; omega)] at g1 g2
          simp only [List.length_take, Nat.min_eq_left (show off ≤ cells.length by omega), Nat.min_eq_left (show off ≤ us.length by omega)] at g1 g2
          exact hvx _ y u g1 g2
        · rw [List.getElem?_append_right (by simp; omega)] at g1 g2
          simp only [List.length_append, List.length_take, Nat.min_eq_left (show off ≤ cells.length by omega), Nat.min_eq_left (show off ≤ us.length by omega), List.getElem?_drop] at g1 g2
          rw [← hvl] at g2
          exact hx _ y u g1 g2) (fun u hu => by
      simp only [List.mem_append] at hu
      rcases hu with (hu | hu) | hu
      · exact hone u (List.mem_of_mem_take hu)
      · exact hv1 u hu
      · exact hone u (List.mem_of_mem_drop hu))
    refine ⟨us', ?_, r2, r3, r4⟩
    rw [← r1]
    simp only [List.map_cons, Instr.fill, hpl i _ h4, hv]
    have e : (vs.toArray.size ≠ cs.length || decide (off + vs.toArray.size > us.toArray.size)) = false := by
      simp
      omega
    rw [if_neg (by rw [e]; simp)]
    congr 1
    have := c3i off vs 0 us (by omega)
    simp only [Nat.add_zero] at this
    rw [← this, ← Array.foldl_toList]
    simp

inductive FSL (P : Program) : List Field → List (Nat × Nat) → Prop where
  | nil : FSL P [] []
  | cons {f : Field} {fs : List Field} {pl : List (Nat × Nat)} {n : Nat} (h : (P.info? f.type).map (·.size) = some n) (k : FSL P fs pl) : FSL P (f :: fs) ((f.offset, n) :: pl)
theorem FSL.run {P : Program} {w : World} {fs : List Field} {pl : List (Nat × Nat)} (h : FSL P fs pl) : (fs.mapM fun f => (do pure (f.offset, ← sizeOf f.type) : Sem (Nat × Nat))).run P w = .ok pl w := by
  induction h with
  | nil => simp
  | @cons f fs pl n h k ih =>
    obtain ⟨i, hi, hz⟩ := Option.map_eq_some_iff.1 h
    have e : (sizeOf f.type).run P w = .ok n w := by simp [sizeOf, a4b hi, hz]
    rw [List.mapM_cons]
    simp only [Sem.run_bind, e, Result.andThen_ok, Sem.run_pure, ih]
class FT (P : Program) (t : Nat) (pl : outParam (List (Nat × Nat))) : Prop where
  out : ∃ fs : List Field, P.underlying t = some (.struct fs.toArray) ∧ FSL P fs pl

section
variable {E : Env} {N : Nat} {ops : Array Oper} {Q : Exit → St → Prop} {rest : List Oper} {sl : Slots} {H H' : List AO}

theorem b6c {w : World} {I : Imm} {ν : Nu} {z : Value} {zv : AV} {zs : List AV} (hz : constAV z = some zv) (hzs : zv.cells = zs) (ha : allCell zs = true) :
    ∃ us : List Value, z.cells = us.toArray ∧ zs.length = us.length ∧ (∀ (j : Nat) y u, zs[j]? = some y → us[j]? = some u → VR w I ν y u) ∧ ∀ u ∈ us, u.oneCell' = true :=
  (a5c (w := w) (I := I) (ν := ν) hz).cells_ok hzs ha

theorem a1x {t : Nat} {dd : Bool} {n b : Nat} {z : Value} [tz : TZ E.P t dd n b z] {pl : List (Nat × Nat)} [ft : FT E.P t pl] {zv : AV} {zs cs : List AV} {parts : List (Nat × Operand)} (hz : constAV z = some zv) (hzs : zv.cells = zs) (ha : allCell zs = true)
    (hf : FillA sl pl zs parts cs) : OV E sl H (.build t parts.toArray) (.agg cs) := by
  intro I ν a w hh hs
  obtain ⟨us, g1, g2, g3, g4⟩ := b6c (w := w) (I := I) (ν := ν) hz hzs ha
  obtain ⟨us', r1, r2, r3, r4⟩ := b6x hs (fun i => pl.toArray[i]?) (fun i p h => by simpa using h) hf us g2 g3 g4
  refine ⟨.agg us'.toArray, .agg cs us' r2 r3, fun o w' ho hb => ?_⟩
  obtain ⟨fs, hu, hfs⟩ := ft.out
  have e1 : (underlying t).run E.P w' = .ok (.struct fs.toArray) w' := by simp [underlying, program, Sem.run, bind, Sem.bind, hu, pure]
  have e2 := hfs.run (w := w')
  have e3 : (fs.toArray.mapM fun f => (do pure (f.offset, ← sizeOf f.type) : Sem (Nat × Nat))).run E.P w' = .ok pl.toArray w' := by
    rw [List.mapM_toArray, Sem.run_map, e2]
    rfl
  have e4 : (Instr.build t ((parts.map fun p => (p.1, a.eval p.2)).toArray)).run E.P w' = .ok (.agg us'.toArray) w' := by
    unfold Instr.build
    simp only [Sem.run_bind, tz.zero, Result.andThen_ok, e1, e3, g1, List.toList_toArray, r1, Sem.run_pure]
  simp only [execOp, ho]
  rw [List.map_toArray]
  simp [e4]

inductive Sp {α : Type} : Nat → List α → List α → List α → Prop where
  | zero {l : List α} : Sp 0 l [] l
  | succ {n : Nat} {x : α} {l a b : List α} (h : Sp n l a b) : Sp (n + 1) (x :: l) (x :: a) b
theorem Sp.eq {α : Type} {n : Nat} {l a b : List α} (h : Sp n l a b) : l = a ++ b ∧ a.length = n := by
  induction h with
  | zero => simp
  | succ h ih => simp [ih.1, ih.2]
inductive Chunk {α : Type} (n : Nat) : List α → List (List α) → Prop where
  | nil : Chunk n [] []
  | cons {l a b : List α} {r : List (List α)} (h : Sp n l a b) (k : Chunk n b r) : Chunk n l (a :: r)
theorem Chunk.get {α : Type} {n : Nat} {l : List α} {r : List (List α)} (h : Chunk n l r) : l.length = r.length * n ∧ ∀ (i : Nat) c, r[i]? = some c → c.length = n ∧ ∀ (j : Nat) x, c[j]? = some x → l[i * n + j]? = some x := by
  induction h with
  | nil => simp
  | @cons l a b r h k ih =>
    obtain ⟨h1, h2⟩ := h.eq
    obtain ⟨h3, h4⟩ := ih
    subst h1
    refine ⟨by simp [h2, h3, Nat.add_mul, Nat.add_comm], fun i c hc => ?_⟩
    cases i with
    | zero =>
      simp only [List.getElem?_cons_zero, Option.some.injEq] at hc
      subst hc
      refine ⟨h2, fun j x hx => ?_⟩
      rw [Nat.zero_mul, Nat.zero_add, List.getElem?_append_left (List.getElem?_eq_some_iff.1 hx).1]
      exact hx
    | succ i =>
      obtain ⟨g1, g2⟩ := h4 i c (by simpa using hc)
      refine ⟨g1, fun j x hx => ?_⟩
      rw [show (i + 1) * n + j = a.length + (i * n + j) by rw [h2, Nat.add_mul]; omega, List.getElem?_append_right (by omega), Nat.add_sub_cancel_left]
      exact g2 j x hx

theorem b7p (zs : List Value) (n : Nat) (h0 : 0 < zs.length) : (Array.range (n * zs.length)).map (fun i => zs.toArray[i % zs.toArray.size]!) = (List.replicate n zs).flatten.toArray := by
  apply Array.ext'
  apply List.ext_getElem?
  intro i
  have key : ∀ (n i : Nat), (List.replicate n zs).flatten[i]? = if i < n * zs.length then zs[i % zs.length]? else none := by
    intro n
    induction n with
    | zero => intro i; simp
    | succ n ih =>
      intro i
      rw [List.replicate_succ, List.flatten_cons]
      by_cases hi : i < zs.length
      · rw [List.getElem?_append_left hi, if_pos (by rw [Nat.add_mul]; omega), Nat.mod_eq_of_lt hi]
      · rw [List.getElem?_append_right (by omega), ih]
        have e : (i - zs.length) % zs.length = i % zs.length := by
          conv => rhs; rw [show i = i - zs.length + zs.length by omega]
          rw [Nat.add_mod_right]
        rw [e]
        by_cases c : i < (n + 1) * zs.length
        · rw [if_pos c, if_pos (by rw [Nat.add_mul] at c; omega)]
        · rw [if_neg c, if_neg (by rw [Nat.add_mul] at c; omega)]
  rw [show (List.replicate n zs).flatten.toArray.toList = (List.replicate n zs).flatten from rfl, key]
  simp only [Array.toList_map, Array.toList_range, List.getElem?_map]
  by_cases c : i < n * zs.length
  · rw [if_pos c, List.getElem?_range c]
    have : i % zs.length < zs.length := Nat.mod_lt _ h0
    simp [this]
  · rw [if_neg c, List.getElem?_eq_none (by simpa using c)]
    rfl

theorem b3c {w : World} {I : Imm} {ν : Nu} {zs : List AV} {us : List Value} (hl : zs.length = us.length) (hx : ∀ (j : Nat) y u, zs[j]? = some y → us[j]? = some u → VR w I ν y u) (h1 : ∀ u ∈ us, u.oneCell' = true) (n : Nat) :
    ((List.replicate n zs).flatten).length = ((List.replicate n us).flatten).length ∧ (∀ (j : Nat) y u, (List.replicate n zs).flatten[j]? = some y → (List.replicate n us).flatten[j]? = some u → VR w I ν y u) ∧ ∀ u ∈ (List.replicate n us).flatten, u.oneCell' = true := by
  induction n with
  | zero => simp
  | succ n ih =>
    obtain ⟨a1, a2, a3⟩ := ih
    simp only [List.replicate_succ, List.flatten_cons]
    refine ⟨by simp [hl, a1], a6j hl hx a2, fun u hu => ?_⟩
    rcases List.mem_append.1 hu with hu | hu
    · exact h1 u hu
    · exact a3 u hu

theorem b9k {w : World} {I : Imm} {ν : Nu} {sz : Nat} {cells : List AV} {us : List Value} {rows : List (List AV)} (hp : allPu cells = true) (hc : Chunk sz cells rows) (hl : cells.length = us.length) (hx : ∀ (j : Nat) y u, cells[j]? = some y → us[j]? = some u → VR w I ν y u) : RowRel w I sz rows us := by
  obtain ⟨h1, h2⟩ := hc.get
  refine ⟨by rw [← hl, h1], fun i c hi => ⟨(h2 i c hi).1, fun j x hj => ?_⟩⟩
  have := (h2 i c hi).2 j x hj
  have hlt : i * sz + j < us.length := by rw [← hl]; exact (List.getElem?_eq_some_iff.1 this).1
  exact ⟨us[i * sz + j], List.getElem?_eq_getElem hlt, (hx _ _ _ this (List.getElem?_eq_getElem hlt)).pu (a7e hp _ x this)⟩

theorem a2e {t e : Nat} {n b sz bytes : Nat} {z0 z : Value} {d0 : Bool} [ti : TI E.P t (.slice e) n b z0] [te : TZ E.P e d0 sz bytes z] {len m : Nat} {parts : List (Nat × Operand)} {zv : AV} {zs cells0 cells : List AV} {rows : List (List AV)} {pl : List (Nat × Nat)} {ty : TypeId} {pos : String} {after : Array Edge} {d : Nat}
    (hz : constAV z = some zv) (hzs : zv.cells = zs) (ha : allCell zs = true) (hzl : zs.length = sz) (h0 : 0 < sz) (hlen : len * sz ≤ 16777216) (hpl : (List.range len).map (fun i => (i * sz, sz)) = pl) (hc0 : (List.replicate len zs).flatten = cells0)
    (hf : FillA sl pl cells0 parts cells) (hpu : allPu cells = true) (hch : Chunk sz cells rows) (hrl : rows.length = len) (hm : H.length = m) (hH : Snoc H (.row e sz 0 0 rows) H') (hd : Nat.blt d N = true)
    (h : AL E N ops Q rest ⟨(d, .os m 0) :: sl, H'⟩) : AL E N ops Q (⟨some d, .buildSlice t len parts.toArray, ty, pos, after, none⟩ :: rest) ⟨sl, H⟩ := by
  subst hm
  subst hpl
  subst hc0
  rw [hH.eq] at h
  refine a6c hd (fun I ν a w hh hs => ?_) h
  obtain ⟨us, g1, g2, g3, g4⟩ := b6c (w := w) (I := I) (ν := ν) hz hzs ha
  obtain ⟨q1, q2, q3⟩ := b3c g2 g3 g4 len
  have hul : us.length = sz := by omega
  obtain ⟨us', r1, r2, r3, r4⟩ := b6x hs (fun i => some (i * sz, sz)) (fun i p hi => by
    rw [List.getElem?_map] at hi
    obtain ⟨k, hk, rfl⟩ := Option.map_eq_some_iff.1 hi
    have := List.getElem?_eq_some_iff.1 hk
    obtain ⟨_, e⟩ := this
    rw [List.getElem_range] at e
    rw [e]) hf _ q1 q2 q3
  have hR := b9k hpu hch r2 r3
  have hl' : us'.length = len * sz := by rw [← r2, (hch.get).1, hrl]
  have hown : (w.alloc (.cells us'.toArray e)).ownsRow E.base e sz (.slice (some ⟨w.heap.size, 0, none⟩) len len) len us' :=
    ⟨hl', .inr ⟨w.heap.size, len, us'.toArray, rfl, hh.base, a5b w _, Nat.le_refl _, by
      have : len ≤ len * sz := Nat.le_mul_of_pos_right _ h0
      simp only [maxLen]; omega, by simp [hl'], by simp [← hl']⟩⟩
  obtain ⟨ν', p1, p2, p3, p4⟩ := a8m hh h0 hrl hown hR (hh.below.alloc hh.base _) (by simp) (fun k hk => a7r w _ k hk) (fun b hb => by simp [Value.ownBlock] at hb; omega)
  refine ⟨_, _, ν', fun o ho => ?_, p1, p2, p3, p4⟩
  have e4 : (Instr.buildSlice t len ((parts.map fun p => (p.1, a.eval p.2)).toArray)).run E.P w = .ok (.slice (some ⟨w.heap.size, 0, none⟩) len len) (w.alloc (.cells us'.toArray e)) := by
    unfold Instr.buildSlice
    have e5 : ¬ (len * sz > 2 ^ 24) := by omega
    have e6 : ∀ x : Array Value, (newRow e x).run E.P w = .ok ⟨w.heap.size, 0, none⟩ (w.alloc (.cells x e)) := fun x => by simp [newRow, newObj, Sem.run, bind, Sem.bind, pure]
    simp only [Sem.run_bind, ti.und, Result.andThen_ok, te.size, if_neg e5, Sem.run_pure]
    by_cases hl0 : len * sz = 0
    · have hlen0 : len = 0 := by
        rcases Nat.eq_zero_or_pos len with h | h
        · exact h
        · have := Nat.mul_pos h h0; omega
      subst hlen0
      simp only [Nat.zero_mul, if_true, pure_bind]
      have : (Array.range 0).map (fun i => (#[] : Array Value)[i % (#[] : Array Value).size]!) = (List.replicate 0 us).flatten.toArray := by simp
      rw [this, r1]
      simp only [Sem.run_bind, e6, Result.andThen_ok, Sem.run_pure]
    · simp only [if_neg hl0, Sem.run_bind, te.zero, Result.andThen_ok, Sem.run_pure, g1]
      rw [← hul, b7p us len (by omega), hul, r1]
      simp only [Sem.run_bind, e6, Result.andThen_ok, Sem.run_pure]
  simp only [execOp, ho]
  rw [List.map_toArray]
  simp [e4]

theorem c3x {I : Imm} {ν : Nu} {a : Act} {w : World} {t e sz : Nat} (hs : SR E N I ν ⟨sl, H⟩ a w) (ht : lk sl t = some .nilsl) (h0 : 0 < sz) (hH : Snoc H (.row e sz 0 0 []) H') :
    ∃ ν', SR E N I ν' ⟨(t, .os H.length 0) :: sl, H'⟩ a w ∧ FR E.k w I ν H w I ν' H' := by
  have hv := (hs.sl t _ ht).nilsl_inv
  rw [hH.eq]
  obtain ⟨ν', p1, p2, p3, p4⟩ := a8m (w' := w) hs.hr (xs := []) (v := .slice none 0 0) (inner := []) (e := e) (n := 0) h0 rfl (World.ownsRow_nil w E.base e sz) ⟨by simp, fun i c h => by simp at h⟩ hs.hr.below (Nat.le_refl _) (fun _ _ => rfl) (fun b hb => by simp [Value.ownBlock] at hb)
  refine ⟨ν', ⟨p1, fun t' x hx => ?_, hs.df, hs.nt⟩, p2⟩
  rw [a4x] at hx
  by_cases et : t = t'
  · subst et
    rw [if_pos rfl] at hx
    obtain rfl : AV.os H.length 0 = x := by simpa using hx
    rw [hv]
    exact p4
  · rw [if_neg et] at hx
    exact (hs.sl t' x hx).mono p2.imm p3
theorem b0b {c : Code} (t e sz : Nat) {m : Nat} (ht : lk sl t = some .nilsl) (h0 : 0 < sz) (hm : H.length = m) (hH : Snoc H (.row e sz 0 0 []) H') (h : AWp E N c Q ⟨(t, .os m 0) :: sl, H'⟩) : AWp E N c Q ⟨sl, H⟩ := by
  subst hm
  intro I ν a w hs
  obtain ⟨ν', h1, h2⟩ := c3x hs ht h0 hH
  exact Code.wp_mono (fun e a' w' k => Lift.step h2 k) (h I ν' a w h1)
inductive SK where
  | int (k : IntKind)
  | bool
  | str
def eqC : List AV → List AV → Bool
  | [], [] => true
  | .int _ m :: r, .int _ n :: s => decide (m = n) && eqC r s
  | .bool m :: r, .bool n :: s => decide (m = n) && eqC r s
  | .str m :: r, .str n :: s => decide (m = n) && eqC r s
  | _, _ => false
inductive OfK : List SK → List AV → Prop where
  | nil : OfK [] []
  | int {k : IntKind} {n : Int} {ks : List SK} {r : List AV} (h : OfK ks r) : OfK (.int k :: ks) (.int k n :: r)
  | bool {b : Bool} {ks : List SK} {r : List AV} (h : OfK ks r) : OfK (.bool :: ks) (.bool b :: r)
  | str {s : List UInt8} {ks : List SK} {r : List AV} (h : OfK ks r) : OfK (.str :: ks) (.str s :: r)
inductive EqF (P : Program) : Nat → List Field → List SK → Prop where
  | nil {i : Nat} : EqF P i [] []
  | int {i : Nat} {f : Field} {fs : List Field} {ks : List SK} {k : IntKind} (hn : (f.name == "_") = false) (ho : f.offset = i) (ht : P.underlying f.type = some (.int k)) (h : EqF P (i + 1) fs ks) : EqF P i (f :: fs) (.int k :: ks)
  | bool {i : Nat} {f : Field} {fs : List Field} {ks : List SK} (hn : (f.name == "_") = false) (ho : f.offset = i) (ht : P.underlying f.type = some .bool) (h : EqF P (i + 1) fs ks) : EqF P i (f :: fs) (.bool :: ks)
  | str {i : Nat} {f : Field} {fs : List Field} {ks : List SK} (hn : (f.name == "_") = false) (ho : f.offset = i) (ht : P.underlying f.type = some .string) (h : EqF P (i + 1) fs ks) : EqF P i (f :: fs) (.str :: ks)
theorem eqf1 {P : Program} {w : World} {d : Nat} {xs ys : Array Value} {f : Field} {fs : List Field} {a b : Value} {r s : Bool} {dd : TypeDesc} (hn : (f.name == "_") = false) (hu : P.underlying f.type = some dd) (hg : aggD dd = false) (ha : xs[f.offset]? = some a) (hb : ys[f.offset]? = some b)
    (he : (Op.equalIn d f.type a b).run P w = .ok r w) (hr : (Op.eqFields d xs ys fs).run P w = .ok s w) : (Op.eqFields d xs ys (f :: fs)).run P w = .ok (r && s) w := by
  have hn' : f.name ≠ "_" := by simpa using hn
  have hagg := a3o hu hg w
  have pa : (part f.type xs f.offset).run P w = .ok a w := by simp [part, hagg, ha]
  have pb : (part f.type ys f.offset).run P w = .ok b w := by simp [part, hagg, hb]
  rw [Op.eqFields]
  simp only [if_pos hn', Sem.run_bind, pa, pb, he, Result.andThen_ok]
  cases r
  · simp
  · simpa using hr
theorem c6e {P : Program} {w w0 : World} {I : Imm} {ν : Nu} {d : Nat} {i : Nat} {fs : List Field} {ks : List SK} (h : EqF P i fs ks) : ∀ {cs ds : List AV} {xs ys : List Value}, OfK ks cs → OfK ks ds →
    (∀ (j : Nat) x, cs[j]? = some x → ∃ v, xs[i + j]? = some v ∧ VR w0 I ν x v) → (∀ (j : Nat) x, ds[j]? = some x → ∃ v, ys[i + j]? = some v ∧ VR w0 I ν x v) → (Op.eqFields (d + 1) xs.toArray ys.toArray fs).run P w = .ok (eqC cs ds) w := by
  induction h with
  | nil => intro cs ds xs ys hc hd _ _; cases hc; cases hd; simp [Op.eqFields, eqC]
  | @int i f fs ks k hn ho ht h ih =>
    intro cs ds xs ys hc hd h1 h2
    cases hc with
    | int hc =>
    cases hd with
    | int hd =>
    obtain ⟨v, p1, p2⟩ := h1 0 _ rfl
    obtain ⟨u, q1, q2⟩ := h2 0 _ rfl
    have p3 := p2.int_inv
    have q3 := q2.int_inv
    subst p3; subst q3
    subst ho
    have := eqf1 (d := d + 1) hn ht rfl (xs := xs.toArray) (ys := ys.toArray) (by simpa using p1) (by simpa using q1) (run_equalIn_int w d f.type k k _ _ ht) (ih hc hd (fun j x hj => by
      have := h1 (j + 1) x (by simpa using hj); rwa [show f.offset + (j + 1) = f.offset + 1 + j by omega] at this) (fun j x hj => by
      have := h2 (j + 1) x (by simpa using hj); rwa [show f.offset + (j + 1) = f.offset + 1 + j by omega] at this))
    rw [this]
    simp only [eqC]
    congr 2
    all_goals (rw [Bool.eq_iff_iff]; simp)
  | @bool i f fs ks hn ho ht h ih =>
    intro cs ds xs ys hc hd h1 h2
    cases hc with
    | bool hc =>
    cases hd with
    | bool hd =>
    obtain ⟨v, p1, p2⟩ := h1 0 _ rfl
    obtain ⟨u, q1, q2⟩ := h2 0 _ rfl
    have p3 := p2.bool_inv
    have q3 := q2.bool_inv
    subst p3; subst q3
    subst ho
    have := eqf1 (d := d + 1) hn ht rfl (xs := xs.toArray) (ys := ys.toArray) (by simpa using p1) (by simpa using q1) (run_equalIn_bool' w d f.type _ _ ht) (ih hc hd (fun j x hj => by
      have := h1 (j + 1) x (by simpa using hj); rwa [show f.offset + (j + 1) = f.offset + 1 + j by omega] at this) (fun j x hj => by
      have := h2 (j + 1) x (by simpa using hj); rwa [show f.offset + (j + 1) = f.offset + 1 + j by omega] at this))
    rw [this]
    simp only [eqC]
    congr 2
    all_goals (rw [Bool.eq_iff_iff]; simp)
  | @str i f fs ks hn ho ht h ih =>
    intro cs ds xs ys hc hd h1 h2
    cases hc with
    | str hc =>
    cases hd with
    | str hd =>
    obtain ⟨v, p1, p2⟩ := h1 0 _ rfl
    obtain ⟨u, q1, q2⟩ := h2 0 _ rfl
    have p3 := p2.str_inv
    have q3 := q2.str_inv
    subst p3; subst q3
    subst ho
    have := eqf1 (d := d + 1) hn ht rfl (xs := xs.toArray) (ys := ys.toArray) (by simpa using p1) (by simpa using q1) (run_equalIn_string w d f.type _ _ ht) (ih hc hd (fun j x hj => by
      have := h1 (j + 1) x (by simpa using hj); rwa [show f.offset + (j + 1) = f.offset + 1 + j by omega] at this) (fun j x hj => by
      have := h2 (j + 1) x (by simpa using hj); rwa [show f.offset + (j + 1) = f.offset + 1 + j by omega] at this))
    rw [this]
    simp only [eqC, a8y]
    congr 2
    all_goals (rw [Bool.eq_iff_iff]; simp)

class EQ (P : Program) (t : Nat) (ks : outParam (List SK)) : Prop where
  held : P.stoodInHeld t = false
  guard : P.eqGuardType P.depth t = false
  out : ∃ fs : List Field, P.underlying t = some (.struct fs.toArray) ∧ EqF P 0 fs ks
theorem EQ.run {P : Program} {t : Nat} {ks : List SK} (h : EQ P t ks) {w w0 : World} {I : Imm} {ν : Nu} {cs ds : List AV} {xs ys : List Value} (hc : OfK ks cs) (hd : OfK ks ds) (hl : cs.length = xs.length) (hl' : ds.length = ys.length) (h1 : ∀ (j : Nat) x v, cs[j]? = some x → xs[j]? = some v → VR w0 I ν x v) (h2 : ∀ (j : Nat) x v, ds[j]? = some x → ys[j]? = some v → VR w0 I ν x v) :
    (Op.equalIn 10000 t (.agg xs.toArray) (.agg ys.toArray)).run P w = .ok (eqC cs ds) w := by
  obtain ⟨fs, hu, he⟩ := h.out
  have hf : P.fieldsOf t = fs.toArray := by simp [Program.fieldsOf, hu]
  rw [run_equalIn_struct (P := P) w 9999 t _ _ (by rw [hf]; exact hu) h.held, hf]
  refine c6e (w0 := w0) (I := I) (ν := ν) he hc hd (fun j x hj => ?_) (fun j x hj => ?_)
  · have hlt : j < xs.length := by rw [← hl]; exact (List.getElem?_eq_some_iff.1 hj).1
    exact ⟨xs[j], by simp [hlt], h1 j x _ hj (List.getElem?_eq_getElem hlt)⟩
  · have hlt : j < ys.length := by rw [← hl']; exact (List.getElem?_eq_some_iff.1 hj).1
    exact ⟨ys[j], by simp [hlt], h2 j x _ hj (List.getElem?_eq_getElem hlt)⟩
theorem a8a {w : World} {I : Imm} {ν : Nu} {cs : List AV} {v : Value} (h : VR w I ν (.agg cs) v) : ∃ vs : List Value, v = .agg vs.toArray ∧ cs.length = vs.length ∧ ∀ (j : Nat) x u, cs[j]? = some x → vs[j]? = some u → VR w I ν x u := by
  cases h with
  | pure h => cases h
  | agg _ vs hl h => exact ⟨vs, rfl, hl, h⟩
theorem b9y {t t' : Nat} {ks : List SK} [eq : EQ E.P t ks] {x y : Operand} {cs ds : List AV} (hx : ev sl x = some (.agg cs)) (hy : ev sl y = some (.agg ds)) (hc : OfK ks cs) (hd : OfK ks ds) : OV E sl H (.binOp .eql t x y t') (.bool (eqC cs ds)) := by
  intro I ν a w hh hs
  obtain ⟨xs, e1, l1, r1⟩ := a8a (a2q hs hx)
  obtain ⟨ys, e2, l2, r2⟩ := a8a (a2q hs hy)
  refine ⟨_, .pure (.bool _), fun o w' ho hb => ?_⟩
  have := eq.run (w := w') hc hd l1 l2 r1 r2
  simp [execOp, ho, e1, e2, run_eqGuard_agg w' _ t _ _ _ _ eq.guard, run_eql_struct, this]
theorem b9x {t t' : Nat} {ks : List SK} [eq : EQ E.P t ks] {x y : Operand} {cs ds : List AV} (hx : ev sl x = some (.agg cs)) (hy : ev sl y = some (.agg ds)) (hc : OfK ks cs) (hd : OfK ks ds) : OV E sl H (.binOp .neq t x y t') (.bool (!eqC cs ds)) := by
  intro I ν a w hh hs
  obtain ⟨xs, e1, l1, r1⟩ := a8a (a2q hs hx)
  obtain ⟨ys, e2, l2, r2⟩ := a8a (a2q hs hy)
  refine ⟨_, .pure (.bool _), fun o w' ho hb => ?_⟩
  have := eq.run (w := w') hc hd l1 l2 r1 r2
  simp [execOp, ho, e1, e2, run_eqGuard_agg w' _ t _ _ _ _ eq.guard, run_neq_struct, this]
theorem c4i {t t' : Nat} {n b : Nat} {z : Value} [ti : TI E.P t .bool n b z] {x y : Operand} {p q : Bool} (hx : ev sl x = some (.bool p)) (hy : ev sl y = some (.bool q)) : OV E sl H (.binOp .eql t x y t') (.bool (decide (p = q))) := by
  intro I ν a w hh hs
  have e1 := (a2q hs hx).bool_inv
  have e2 := (a2q hs hy).bool_inv
  refine ⟨_, .pure (.bool _), fun o w' ho hb => ?_⟩
  have := run_equalIn_bool' (P := E.P) w' 9999 t p q ti.u
  simp [execOp, ho, e1, e2, eqGuard, binOp, Op.equal, Op.maxDepth, this]
  rw [Bool.eq_iff_iff]; simp
theorem c4h {t t' : Nat} {n b : Nat} {z : Value} [ti : TI E.P t .bool n b z] {x y : Operand} {p q : Bool} (hx : ev sl x = some (.bool p)) (hy : ev sl y = some (.bool q)) : OV E sl H (.binOp .neq t x y t') (.bool (decide (p ≠ q))) := by
  intro I ν a w hh hs
  have e1 := (a2q hs hx).bool_inv
  have e2 := (a2q hs hy).bool_inv
  refine ⟨_, .pure (.bool _), fun o w' ho hb => ?_⟩
  have := run_equalIn_bool' (P := E.P) w' 9999 t p q ti.u
  simp [execOp, ho, e1, e2, eqGuard, binOp, Op.equal, Op.maxDepth, this]
  rw [Bool.eq_iff_iff]; simp

theorem b4v {t e : Nat} {n b n' b' : Nat} {z z' : Value} {d' : Bool} [ti : TI E.P t (.slice e) n b z] [te : TZ E.P e d' n' b' z'] {x : Operand} {xs : List (List AV)} {lo hi : Option Operand} {l h : Nat}
    (hx : ev sl x = some (.rs xs)) (hsz : ∀ (i : Nat) row, xs[i]? = some row → row.length = n') (h1 : l ≤ h) (h2 : h ≤ xs.length)
    (hlo : (lo = none ∧ l = 0) ∨ ∃ o k, lo = some o ∧ ev sl o = some (.int k (l : Int))) (hhi : (hi = none ∧ h = xs.length) ∨ ∃ o k, hi = some o ∧ ev sl o = some (.int k (h : Int))) : OV E sl H (.slice t x lo hi none) (.rs ((xs.take h).drop l)) := by
  intro I ν a w hh hs
  have hx' := (a2q hs hx).rs_inv
  obtain ⟨v, hv⟩ : ∃ v, a.eval x = v := ⟨_, rfl⟩
  rw [hv] at hx'
  have hfin : ∀ A c, v = .slice A xs.length c → xs.length ≤ c → ∀ (o : Oper) w', o.op = .slice t x lo hi none → (execOp a.eval o).run E.P w' = .ok (.value (.slice (if c = l then A else A.map (·.add (l * n'))) (h - l) (c - l))) w' := by
    intro A c hvv hcc o w' ho
    subst hvv
    have g2 : h ≤ c := by omega
    rcases hlo with ⟨rfl, rfl⟩ | ⟨p, k, rfl, hp⟩ <;> rcases hhi with ⟨rfl, rfl⟩ | ⟨q, k', rfl, hq⟩
    · simp [execOp, ho, hv, Instr.sliceAt, Instr.slice, Instr.sliceBounds, ti.und, te.size]
    · have e2 := (a2q hs hq).int_inv
      simp [execOp, ho, hv, e2, Instr.sliceAt, Instr.slice, Instr.sliceBounds, Instr.sliceBound, asIntOf, ti.und, te.size, g2]
    · have e1 := (a2q hs hp).int_inv
      simp [execOp, ho, hv, e1, Instr.sliceAt, Instr.slice, Instr.sliceBounds, Instr.sliceBound, asIntOf, ti.und, te.size, h1]
    · have e1 := (a2q hs hp).int_inv
      have e2 := (a2q hs hq).int_inv
      simp [execOp, ho, hv, e1, e2, Instr.sliceAt, Instr.slice, Instr.sliceBounds, Instr.sliceBound, asIntOf, ti.und, te.size, h1, g2]
  cases hx' with
  | rs0 A c =>
    have hl0 : l = 0 := by simp at h2; omega
    have hh0 : h = 0 := by simpa using h2
    subst hl0; subst hh0
    exact ⟨_, .pure (.rs0 _ _), fun o w' ho hb => hfin A c (by simp) (Nat.zero_le _) o w' ho⟩
  | rs _ sz bk off c us hsz0 hc hm hs' hu hxx =>
    refine ⟨_, ?_, fun o w' ho hb => hfin _ c rfl hc o w' ho⟩
    by_cases hlh : l = h
    · subst hlh
      rw [Nat.sub_self, List.drop_eq_nil_of_le (by simp; omega)]
      exact .pure (.rs0 _ _)
    · have hlt : l < xs.length := by omega
      have hsz' : sz = n' := by
        have := List.getElem?_eq_getElem hlt
        rw [← hs' _ _ this, hsz _ _ this]
      subst hsz'
      have hlen : ((xs.take h).drop l).length = h - l := by simp [Nat.min_eq_left h2]
      have key : ∀ i : Nat, ((xs.take h).drop l)[i]? = if l + i < h then xs[l + i]? else none := by
        intro i
        rw [List.getElem?_drop, List.getElem?_take]
      rw [if_neg (by omega), Option.map_some, a4s, ← hlen]
      refine .pure (.rs _ sz bk (off + l * sz) (c - l) (fun j => us (l * sz + j)) hsz0 (by rw [hlen]; omega) (by omega) (fun i row hi => ?_) (fun j hj => ?_) (fun i j row x hi hj => ?_))
      · rw [key] at hi
        split at hi
        · exact hs' _ _ hi
        · cases hi
      · rw [hlen] at hj
        have hj2 : l * sz + j < xs.length * sz := by
          have e1 : (h - l) * sz + l * sz = h * sz := by rw [← Nat.add_mul]; congr 1; omega
          have e2 : h * sz ≤ xs.length * sz := Nat.mul_le_mul_right _ h2
          omega
        have := hu _ hj2
        rw [Nat.add_assoc]
        exact this
      · rw [key] at hi
        split at hi
        · have := hxx _ j row x hi hj
          rwa [show (l + i) * sz + j = l * sz + (i * sz + j) by rw [Nat.add_mul]; omega] at this
        · cases hi
end

def LoopQ (E : Env) (N : Nat) {α : Type} (inv : α → St) (ok : α → Prop) (m : α → Nat) (x : α) (Q : Exit → St → Prop) : Exit → St → Prop
  | .normal, σ => ∃ y, ok y ∧ m y < m x ∧ Wkn E N σ (inv y)
  | e, σ => Q e σ
section
variable {E : Env} {N : Nat} {Q : Exit → St → Prop} {α : Type} {inv : α → St} {ok : α → Prop} {m : α → Nat} {x : α} {σ : St}
theorem a2o {c : Code} (inv : α → St) (ok : α → Prop) (m : α → Nat) (x0 : α) (h0 : Wkn E N σ (inv x0)) (k0 : ok x0) (round : ∀ x, ok x → AWp E N c (LoopQ E N inv ok m x Q) (inv x)) : AWp E N (.loop c) Q σ :=
  c1l inv ok m x0 h0 k0 fun x hx => a8q (round x hx) fun e σ h => by cases e <;> exact h
theorem a1y (y : α) (hw : Wkn E N σ (inv y)) (hk : ok y) (hm : m y < m x) : LoopQ E N inv ok m x Q .normal σ := ⟨y, hk, hm, hw⟩
theorem a1q {id : Nat} (h : Q (.exit id) σ) : LoopQ E N inv ok m x Q (.exit id) σ := h
theorem a2b (h : Q .ret σ) : LoopQ E N inv ok m x Q .ret σ := h
theorem a2n {sl sl' : Slots} {H H' : List AO} (ex : List AO) (e : H' = H ++ ex) (h : SubS sl sl') (hs : clS H.length sl' = true) (ho : ClOs H.length H) (hk : Nat.ble E.k H.length = true) : Wk' E.k ⟨sl, H'⟩ ⟨sl', H⟩ := by subst e; exact .drop h hs ho hk
end
end Go.Proofs.YtkljmljkiodnpaaGreatDoor.L

namespace Go.Proofs.YtkljmljkiodnpaaGreatDoor.L
open Go Go.RowKit Go.ChangeShapes Go.WideShapes

inductive KT where
  | bool
  | int (k : IntKind)
  | str
  | sl (ks : List KT)

def KT.w : KT → Nat
  | .bool => 1
  | .int k => k.bits / 8
  | .str => 16
  | .sl _ => 24
def ktW : List KT → Nat
  | [] => 0
  | k :: r => k.w + ktW r
theorem KT.w_pos (k : KT) : 0 < k.w := by
  cases k with
  | int k => cases k <;> decide
  | _ => simp [KT.w]
theorem c5y {ks : List KT} (h : 0 < ks.length) : 0 < ktW ks := by
  cases ks with
  | nil => simp at h
  | cons k r => have := k.w_pos; simp only [ktW]; omega
mutual
inductive OKV : KT → AV → Prop where
  | bool (b : Bool) : OKV .bool (.bool b)
  | int (k : IntKind) (n : Int) (h : (Lit.int k n).wf = true) : OKV (.int k) (.int k n)
  | str (s : List UInt8) (h : s.length ≤ 140737488351232) : OKV .str (.str s)
  | sl (ks : List KT) (xs : List (List AV)) (hl : xs.length ≤ 140737488351232) (hb : xs.length * ktW ks ≤ 140737488351232) (h : OKR ks xs) : OKV (.sl ks) (.rs xs)
inductive OKL : List KT → List AV → Prop where
  | nil : OKL [] []
  | cons {k : KT} {ks : List KT} {x : AV} {xs : List AV} (h : OKV k x) (r : OKL ks xs) : OKL (k :: ks) (x :: xs)
inductive OKR : List KT → List (List AV) → Prop where
  | nil {ks : List KT} : OKR ks []
  | cons {ks : List KT} {x : List AV} {xs : List (List AV)} (h : OKL ks x) (r : OKR ks xs) : OKR ks (x :: xs)
end

theorem OKR.get {ks : List KT} : ∀ {xs : List (List AV)}, OKR ks xs → ∀ (i : Nat) row, xs[i]? = some row → OKL ks row := by
  intro xs
  induction xs with
  | nil => intro _ i row h; simp at h
  | cons x xs ih =>
    intro h i row hi
    cases h with
    | cons h r =>
      cases i with
      | zero => simp at hi; subst hi; exact h
      | succ i => exact ih r i row (by simpa using hi)
theorem OKR.of {ks : List KT} : ∀ {xs : List (List AV)}, (∀ row ∈ xs, OKL ks row) → OKR ks xs := by
  intro xs
  induction xs with
  | nil => intro _; exact .nil
  | cons x xs ih => intro h; exact .cons (h x (by simp)) (ih fun row hr => h row (by simp [hr]))
theorem OKL.len {ks : List KT} : ∀ {xs : List AV}, OKL ks xs → xs.length = ks.length := by
  induction ks with
  | nil => intro xs h; cases h; rfl
  | cons k ks ih => intro xs h; cases h with | cons h r => simp [ih r]

inductive OpL (w : World) (I : Imm) : List KT → List Value → List AV → Prop where
  | nil : OpL w I [] [] []
  | cons {k : KT} {ks : List KT} {v : Value} {vs : List Value} {x : AV} {xs : List AV} (h : OKV k x) (hv : VP w I x v) (r : OpL w I ks vs xs) : OpL w I (k :: ks) (v :: vs) (x :: xs)
theorem OpL.append {w : World} {I : Imm} {ks ks' : List KT} {vs vs' : List Value} {xs xs' : List AV} (h : OpL w I ks vs xs) (h' : OpL w I ks' vs' xs') : OpL w I (ks ++ ks') (vs ++ vs') (xs ++ xs') := by
  induction h with
  | nil => exact h'
  | cons h hv _ ih => exact .cons h hv ih
theorem OpL.ok {w : World} {I : Imm} {ks : List KT} {vs : List Value} {xs : List AV} (h : OpL w I ks vs xs) : OKL ks xs := by
  induction h with
  | nil => exact .nil
  | cons h hv _ ih => exact .cons h ih
theorem OpL.len {w : World} {I : Imm} {ks : List KT} {vs : List Value} {xs : List AV} (h : OpL w I ks vs xs) : xs.length = vs.length ∧ vs.length = ks.length := by
  induction h with
  | nil => exact ⟨rfl, rfl⟩
  | cons h hv _ ih => simp [ih]
theorem OpL.get {w : World} {I : Imm} {ks : List KT} {vs : List Value} {xs : List AV} (h : OpL w I ks vs xs) : ∀ (j : Nat) x v, xs[j]? = some x → vs[j]? = some v → VP w I x v := by
  induction h with
  | nil => intro j x v hx; simp at hx
  | cons h hv _ ih =>
    intro j x v hx hv'
    cases j with
    | zero => simp at hx hv'; subst hx; subst hv'; exact hv
    | succ j => exact ih j x v (by simpa using hx) (by simpa using hv')

def ktF (r : TypeId → Option (List KT)) (P : Program) : List Field → Nat → Option (List KT)
  | [], _ => some []
  | f :: fs, off => match r f.type with
    | some ks => if f.offset = off ∧ P.cellsOf f.type = ks.length then
        (match ktF r P fs (off + ks.length) with
         | some ks' => some (ks ++ ks')
         | none => none)
      else none
    | none => none
def ktOf (P : Program) : Nat → TypeId → Option (List KT)
  | 0, _ => none
  | n + 1, t => match P.underlying t with
    | some .bool => some [.bool]
    | some (.int k) => some [.int k]
    | some .string => some [.str]
    | some (.slice e) => match ktOf P n e with
      | some ks => if (P.cellsOf e = ks.length ∧ 0 < ks.length) ∧ ktW ks ≤ P.bytesOf e then some [.sl ks] else none
      | none => none
    | some (.struct fs) => match ktF (ktOf P n) P fs.toList 0 with
      | some ks => if P.cellsOf t = ks.length then some ks else none
      | none => none
    | _ => none

def Rd (w : World) : Imm := fun b o => ∃ v, w.cell? ⟨b, o, none⟩ = some v

section
variable {H : Type} {enc : TypeId × Value → H} {P : Program} {w : World} {sp : Nat → Bool} {held : Bool}

theorem c1i {b o : Nat} {s : Option Nat} {v : Value} (h : w.cell? ⟨b, o, s⟩ = some v) : s = none := by
  unfold World.cell? at h
  split at h
  · cases s with
    | none => rfl
    | some s => simp at h
  · cases h

theorem b0i {e : TypeId} : ∀ {l : List (DataW H)} {d : DataW H}, d ∈ l → ∀ n ∈ d.weights P e, n ∈ DataW.weightsAll P e l := by
  intro l
  induction l with
  | nil => intro d h; cases h
  | cons x r ih =>
    intro d h n hn
    simp only [DataW.weightsAll, List.mem_append]
    rcases List.mem_cons.1 h with rfl | h
    · exact .inl hn
    · exact .inr (ih h n hn)

theorem b1h (hl : laidOutB P = true) {W W' : World} (hb : Below W.heap.size W W') : ∀ {ts : List TypeId} {vs : List Value} {ds : List (DataW H)} {ps : List MemPlace}, (∀ t ∈ ts, P.readableRec t = true ∧ t < P.types.size) →
    DataW.TrodAll enc P W 0 (fun _ => true) true ts vs ds ps → (∀ x ∈ ps, x.block < W.heap.size) → DataW.TrodAll enc P W' 0 (fun b => decide (b < W.heap.size)) true ts vs ds ps := by
  intro ts
  induction ts with
  | nil =>
    intro vs ds ps _ h _
    obtain ⟨rfl, rfl, rfl⟩ := trodAll_nil h
    exact rfl
  | cons t ts ih =>
    intro vs ds ps ht h hlt
    obtain ⟨v, vs, d, ds, p, q, rfl, rfl, rfl, h1, h2⟩ := trodAll_cons h
    exact ⟨p, q, Below.trod hl (ht t (by simp)).1 (ht t (by simp)).2 h1 hb (fun x hx => hlt x (by simp [hx])), ih (fun t' h' => ht t' (by simp [h'])) h2 (fun x hx => hlt x (by simp [hx])), rfl⟩


theorem c3f (W : World) : HR ⟨P, W, W.heap.size, 0⟩ (Rd W) nu0 [] W where
  n := rfl
  below := Below.refl _ _
  base := Nat.le_refl _
  imm _ _ h := h
  obj _ _ h := by simp at h
  disj _ _ _ _ _ h := by simp at h

theorem c1j {f : Nat} {fn : Func} {s : ChangeSpec} {W : World} {args : Array Value} {ds gs : List (DataW H)} {before : List MemPlace} {tb : TypeId} {fresh handsOn : Bool}
    (hl : laidOutB P = true) (hts : ∀ t ∈ fn.params.toList, P.readableRec t = true ∧ t < P.types.size) (hres : fn.resultTypes = #[tb]) (hb : P.underlying tb = some .bool) (hvars : s.vars = [])
    (hW : DataW.Whole enc P fn.params.toList s.vars false W args.toList ds gs before) (hfn : s.fn H ds = { results := [.lit (.bool true)], args := ds })
    {avs : List AV} (hav : avs.length = args.toList.length ∧ ∀ (j : Nat) x v, avs[j]? = some x → args.toList[j]? = some v → VR W (Rd W) nu0 x v)
    (spec : PCalls ⟨P, W, W.heap.size, 0⟩ f avs fun rv => rv = .bool true) :
    Calls P f args W fun e W' => ∃ v, e = .returned v ∧ s.post enc P fn false fresh handsOn false W args v W' := by
  have hlt := hW.lt
  have hW' := hW
  obtain ⟨p, q, hA, hV, rfl, _⟩ := hW
  rw [hvars] at hV
  obtain ⟨rfl, rfl⟩ := trodVars_none hV
  have h := spec (Rd W) nu0 W args.toList (c3f W) hav.1 hav.2
  refine h.mono ?_
  rintro e W' ⟨rv, objs', I', ν', v, ⟨rfl, _⟩, rfl, hv, hh, _⟩
  have hv' := hv.bool_inv
  subst hv'
  have bel : Below W.heap.size W W' := hh.below
  rw [List.append_nil] at hlt
  refine ⟨_, rfl, ds, [], p ++ [], [], p, [], hW', ?_, ?_, ?_, bel.frame _, fun h => by cases h⟩
  · rw [List.append_nil, hfn, hres]
    exact trodAll_mk1 (shut_bool hb true)
  · rw [List.append_nil, hfn]
    exact b1h hl bel hts hA hlt
  · rw [hvars, List.append_nil, hfn]
    exact rfl

inductive AK where
  | one (k : KT)
  | agg (ks : List KT)
inductive OKA : List AK → List AV → Prop where
  | nil : OKA [] []
  | one {k : KT} {asq : List AK} {x : AV} {xs : List AV} (h : OKV k x) (r : OKA asq xs) : OKA (.one k :: asq) (x :: xs)
  | agg {ks : List KT} {asq : List AK} {ys : List AV} {xs : List AV} (h : OKL ks ys) (r : OKA asq xs) : OKA (.agg ks :: asq) (.agg ys :: xs)
def akOf (P : Program) (n : Nat) (t : TypeId) : Option AK := match P.underlying t with
  | some (.struct _) => match ktOf P n t with
    | some ks => some (.agg ks)
    | none => none
  | some (.array _ _) => none
  | _ => match ktOf P n t with
    | some [k] => some (.one k)
    | _ => none
def aksOf (P : Program) (n : Nat) : List TypeId → Option (List AK)
  | [] => some []
  | t :: ts => match akOf P n t with
    | some a => match aksOf P n ts with
      | some asq => some (a :: asq)
      | none => none
    | none => none

theorem c1h {r : Reach} {b : Nat} {t : TypeId} {v : Value} (hval : Value.okWide P w r b t v) (hs : ∀ fs, P.underlying t ≠ some (.struct fs)) (ha : ∀ n e, P.underlying t ≠ some (.array n e)) {n : Nat} {k : KT} (hk : ktOf P n t = some [k]) : v.cells.toList = [v] := by
  cases n with
  | zero => cases hk
  | succ n =>
    unfold ktOf at hk
    split at hk
    · rename_i hu; obtain ⟨b, rfl⟩ := okWide_bool hu hval; rfl
    · rename_i hu; obtain ⟨b, rfl⟩ := okWide_int hu hval; rfl
    · rename_i hu; obtain ⟨b, rfl⟩ := okWide_string hu hval; rfl
    · rename_i hu; obtain ⟨a, b, c, rfl⟩ := okWide_slice hu hval; rfl
    · rename_i hu; exact absurd hu (hs _)
    · cases hk

end
end Go.Proofs.YtkljmljkiodnpaaGreatDoor.L

namespace Go.Proofs.YtkljmljkiodnpaaGreatDoor.L
open Go Go.RowKit
variable {E : Env} {N : Nat} {ops : Array Oper} {Q : Exit → St → Prop} {sl : Slots} {H H' : List AO} {rest : List Oper}

theorem Sp.of {α : Type} {a b : List α} : Sp a.length (a ++ b) a b := by
  induction a with
  | nil => exact .zero
  | cons x a ih => exact .succ ih
inductive AvLe1 : AV → AV → Prop where
  | refl (x : AV) : AvLe1 x x
  | nil : AvLe1 .nilsl (.rs [])
  | any (x : AV) : AvLe1 x .any
inductive AvLeL : List AV → List AV → Prop where
  | nil : AvLeL [] []
  | cons {x y : AV} {xs ys : List AV} (h : AvLe1 x y) (r : AvLeL xs ys) : AvLeL (x :: xs) (y :: ys)
inductive AvLe : AV → AV → Prop where
  | one {x y : AV} (h : AvLe1 x y) : AvLe x y
  | agg {xs ys : List AV} (h : AvLeL xs ys) : AvLe (.agg xs) (.agg ys)
theorem AvLe1.vr {w : World} {I : Imm} {ν : Nu} {x y : AV} (h : AvLe1 x y) {v : Value} (k : VR w I ν x v) : VR w I ν y v := by
  cases h with
  | refl => exact k
  | nil => rw [k.nilsl_inv]; exact .pure (.rs0 none 0)
  | any => exact .any v
theorem AvLeL.get {xs ys : List AV} (h : AvLeL xs ys) : xs.length = ys.length ∧ ∀ (j : Nat) y, ys[j]? = some y → ∃ x, xs[j]? = some x ∧ AvLe1 x y := by
  induction h with
  | nil => exact ⟨rfl, fun j y h => by simp at h⟩
  | @cons x y xs ys h r ih =>
    refine ⟨by simp [ih.1], fun j z hz => ?_⟩
    cases j with
    | zero => simp at hz; subst hz; exact ⟨x, rfl, h⟩
    | succ j => exact ih.2 j z (by simpa using hz)
theorem AvLe.vr {w : World} {I : Imm} {ν : Nu} {x y : AV} (h : AvLe x y) {v : Value} (k : VR w I ν x v) : VR w I ν y v := by
  cases h with
  | one h => exact h.vr k
  | agg h =>
    obtain ⟨vs, rfl, hl, hx⟩ := a8a k
    obtain ⟨g1, g2⟩ := h.get
    exact .agg _ vs (by omega) fun j y v hy hv => by
      obtain ⟨x, h1, h2⟩ := g2 j y hy
      exact h2.vr (hx j x v h1 hv)
theorem Wkn.le {sl : Slots} {H : List AO} (t : Nat) (y : AV) {x : AV} (ht : lk sl t = some x) (e : AvLe x y) : Wkn E N ⟨sl, H⟩ ⟨(t, y) :: sl, H⟩ := fun I ν a w hs =>
  ⟨I, ν, ⟨hs.hr, fun k z hz => by
    rw [a4x] at hz
    split at hz
    · rename_i h
      subst h
      injection hz with hz; subst hz
      exact e.vr (hs.sl t x ht)
    · exact hs.sl k z hz, hs.df, hs.nt⟩, FR.refl _ _ _ _⟩
end Go.Proofs.YtkljmljkiodnpaaGreatDoor.L
