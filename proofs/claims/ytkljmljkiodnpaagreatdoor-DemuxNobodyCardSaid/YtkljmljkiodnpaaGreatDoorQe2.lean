/- Part 2 of the texts behind the theorem of this claim: The logic, part 14: data that a row hands in, as abstract values; a law that answers true; The logic, part 15: make; The logic, part 16: calls that are given objects: pointers, own slices, maps, closures over them; The logic, part 17: maps of the call's own; The logic, part 18: what is done with map -/
import Derived.Test.YtkljmljkiodnpaaGreatDoorQe1
import Derived.ChangeArms
import Derived.ChangeOld
import Derived.Carry
import Derived.SizedLaws
import Derived.WideShapes
import Derived.ChangeSame
import Derived.Laws.MakeOwn
import Derived.MapKept
import Derived.WideKeyRuns
import Derived.ChangeKeysEq
import Derived.Maps.RangeRun
import Derived.Laws.IdiomRangeMap
import Derived.OrdersHeld
import Derived.KernelRfl
import Derived.LaidEqlPtr
import Derived.Laws.Externs
import Derived.Laws.IdiomStrings
import Derived.Lib.ConvBytes
import Derived.Lib.UnsafeStr
import Derived.Lib.Builder
import Derived.Scope
import Derived.Laws.RangeString
import Derived.Shelf.Strings.Builder1
import Derived.Shelf.Strings.Trim
import Derived.Shelf.Small.Utf8
import Derived.Shelf.Small.Strs
import Derived.Shelf.Strings.BuilderF
import Derived.Shelf.Strings.BuilderK
import Derived.Shelf.Utf8.RuneCount
import Derived.Shelf.Strconv.Atoi
import Derived.Shelf.Strconv.Itoa0
import Derived.Shelf.Strconv.Itoa1
import Derived.Shelf.LaysM
import Derived.Shelf.Strconv.Itoa2
import Derived.Shelf.Strconv.Itoa3
import Derived.Shelf.Strconv.AtoiErrFast
import Derived.Shelf.Strconv.ParseIntEmpty
import Derived.Shelf.Strconv.AtoiFail
import Derived.Shelf.Strconv.Clone
import Derived.Shelf.Strconv.SyntaxError
import Derived.Shelf.LaysC
import Derived.Shelf.Strconv.ToError
import Derived.Shelf.Strconv.Lower
import Derived.Shelf.Strconv.ParseUint10
import Derived.Shelf.Strconv.ParseUint10Empty
import Derived.Shelf.Strconv.ParseUint10Any
import Derived.Shelf.Strconv.ParseInt10
import Derived.Shelf.Strconv.AtoiLong
import Derived.Shelf.Strconv.AtoiInnerAll
import Derived.Shelf.Strconv.RangeError
import Derived.Shelf.Strconv.ToErrorRange
import Derived.Shelf.Strconv.AtoiAll
import Derived.Shelf.Strings.Search1
import Derived.Shelf.Strings.Search2
import Derived.Shelf.Strings.Search3
import Derived.Shelf.Strings.Cut
import Derived.Shelf.Strings.Count
import Derived.Shelf.Strings.Shaped
import Derived.Shelf.Strings.Prefix
import Derived.Shelf.Strings.Split
import Derived.Shelf.Strings.SplitShaped
import Derived.Shelf.Unicode.Decode
import Derived.Shelf.Strings.Runes
import Derived.Shelf.Strings.RuneCount
import Derived.Shelf.Strings.IndexAny
import Derived.Shelf.Strings.AsciiSet
import Derived.Shelf.Strings.IndexAnyAll
import Derived.Shelf.Strings.Explode
import Derived.Shelf.Unicode.DecodeSlow
import Derived.Shelf.Unicode.DecodeAny
import Derived.Shelf.Unicode.DecodeLast
import Derived.Shelf.Strings.BuilderCap
import Derived.Test.YtkljmljkiodnpaaGreatDoorProg
set_option linter.unusedVariables false
set_option linter.unusedSimpArgs false
set_option maxRecDepth 100000
namespace Go.Proofs.YtkljmljkiodnpaaGreatDoor.L
open Go Go.RowKit Go.ChangeShapes Go.WideShapes

inductive KT where
  | bool
  | int (k : IntKind)
  | str
  | sl (ks : List KT)

def KT.w : KT → Nat
  | .bool => 1
  | .int k => k.bits / 8
  | .str => 16
  | .sl _ => 24
def ktW : List KT → Nat
  | [] => 0
  | k :: r => k.w + ktW r
theorem KT.w_pos (k : KT) : 0 < k.w := by
  cases k with
  | int k => cases k <;> decide
  | _ => simp [KT.w]
theorem b8r {ks : List KT} (h : 0 < ks.length) : 0 < ktW ks := by
  cases ks with
  | nil => simp at h
  | cons k r => have := k.w_pos; simp only [ktW]; omega
mutual
inductive OKV : KT → AV → Prop where
  | bool (b : Bool) : OKV .bool (.bool b)
  | int (k : IntKind) (n : Int) (h : (Lit.int k n).wf = true) : OKV (.int k) (.int k n)
  | str (s : List UInt8) (h : s.length ≤ 140737488351232) : OKV .str (.str s)
  | sl (ks : List KT) (xs : List (List AV)) (hl : xs.length ≤ 140737488351232) (hb : xs.length * ktW ks ≤ 140737488351232) (h : OKR ks xs) : OKV (.sl ks) (.rs xs)
inductive OKL : List KT → List AV → Prop where
  | nil : OKL [] []
  | cons {k : KT} {ks : List KT} {x : AV} {xs : List AV} (h : OKV k x) (r : OKL ks xs) : OKL (k :: ks) (x :: xs)
inductive OKR : List KT → List (List AV) → Prop where
  | nil {ks : List KT} : OKR ks []
  | cons {ks : List KT} {x : List AV} {xs : List (List AV)} (h : OKL ks x) (r : OKR ks xs) : OKR ks (x :: xs)
end

theorem OKR.get {ks : List KT} : ∀ {xs : List (List AV)}, OKR ks xs → ∀ (i : Nat) row, xs[i]? = some row → OKL ks row := by
  intro xs
  induction xs with
  | nil => intro _ i row h; simp at h
  | cons x xs ih =>
    intro h i row hi
    cases h with
    | cons h r =>
      cases i with
      | zero => simp at hi; subst hi; exact h
      | succ i => exact ih r i row (by simpa using hi)
theorem OKR.of {ks : List KT} : ∀ {xs : List (List AV)}, (∀ row ∈ xs, OKL ks row) → OKR ks xs := by
  intro xs
  induction xs with
  | nil => intro _; exact .nil
  | cons x xs ih => intro h; exact .cons (h x (by simp)) (ih fun row hr => h row (by simp [hr]))
theorem OKL.len {ks : List KT} : ∀ {xs : List AV}, OKL ks xs → xs.length = ks.length := by
  induction ks with
  | nil => intro xs h; cases h; rfl
  | cons k ks ih => intro xs h; cases h with | cons h r => simp [ih r]

inductive OpL (w : World) (I : Imm) : List KT → List Value → List AV → Prop where
  | nil : OpL w I [] [] []
  | cons {k : KT} {ks : List KT} {v : Value} {vs : List Value} {x : AV} {xs : List AV} (h : OKV k x) (hv : VP w I x v) (r : OpL w I ks vs xs) : OpL w I (k :: ks) (v :: vs) (x :: xs)
theorem OpL.append {w : World} {I : Imm} {ks ks' : List KT} {vs vs' : List Value} {xs xs' : List AV} (h : OpL w I ks vs xs) (h' : OpL w I ks' vs' xs') : OpL w I (ks ++ ks') (vs ++ vs') (xs ++ xs') := by
  induction h with
  | nil => exact h'
  | cons h hv _ ih => exact .cons h hv ih
theorem OpL.ok {w : World} {I : Imm} {ks : List KT} {vs : List Value} {xs : List AV} (h : OpL w I ks vs xs) : OKL ks xs := by
  induction h with
  | nil => exact .nil
  | cons h hv _ ih => exact .cons h ih
theorem OpL.len {w : World} {I : Imm} {ks : List KT} {vs : List Value} {xs : List AV} (h : OpL w I ks vs xs) : xs.length = vs.length ∧ vs.length = ks.length := by
  induction h with
  | nil => exact ⟨rfl, rfl⟩
  | cons h hv _ ih => simp [ih]
theorem OpL.get {w : World} {I : Imm} {ks : List KT} {vs : List Value} {xs : List AV} (h : OpL w I ks vs xs) : ∀ (j : Nat) x v, xs[j]? = some x → vs[j]? = some v → VP w I x v := by
  induction h with
  | nil => intro j x v hx; simp at hx
  | cons h hv _ ih =>
    intro j x v hx hv'
    cases j with
    | zero => simp at hx hv'; subst hx; subst hv'; exact hv
    | succ j => exact ih j x v (by simpa using hx) (by simpa using hv')

def ktF (r : TypeId → Option (List KT)) (P : Program) : List Field → Nat → Option (List KT)
  | [], _ => some []
  | f :: fs, off => match r f.type with
    | some ks => if f.offset = off ∧ P.cellsOf f.type = ks.length then
        (match ktF r P fs (off + ks.length) with
         | some ks' => some (ks ++ ks')
         | none => none)
      else none
    | none => none
def ktOf (P : Program) : Nat → TypeId → Option (List KT)
  | 0, _ => none
  | n + 1, t => match P.underlying t with
    | some .bool => some [.bool]
    | some (.int k) => some [.int k]
    | some .string => some [.str]
    | some (.slice e) => match ktOf P n e with
      | some ks => if (P.cellsOf e = ks.length ∧ 0 < ks.length) ∧ ktW ks ≤ P.bytesOf e then some [.sl ks] else none
      | none => none
    | some (.struct fs) => match ktF (ktOf P n) P fs.toList 0 with
      | some ks => if P.cellsOf t = ks.length then some ks else none
      | none => none
    | _ => none

def Rd (w : World) : Imm := fun b o => ∃ v, w.cell? ⟨b, o, none⟩ = some v

section
variable {H : Type} {enc : TypeId × Value → H} {P : Program} {w : World} {sp : Nat → Bool} {held : Bool}

theorem b2z {b o : Nat} {s : Option Nat} {v : Value} (h : w.cell? ⟨b, o, s⟩ = some v) : s = none := by
  unfold World.cell? at h
  split at h
  · cases s with
    | none => rfl
    | some s => simp at h
  · cases h

theorem c3c {ks : List KT} (R : Nat → List Value) : ∀ n, (∀ i, i < n → ∃ avs, OpL w (Rd w) ks (R i) avs) → ∃ xs : List (List AV), xs.length = n ∧ ∀ (i : Nat) row, xs[i]? = some row → OpL w (Rd w) ks (R i) row := by
  intro n
  induction n with
  | zero => intro _; exact ⟨[], rfl, fun i row h => by simp at h⟩
  | succ n ih =>
    intro h
    obtain ⟨xs, h1, h2⟩ := ih fun i hi => h i (by omega)
    obtain ⟨avs, ha⟩ := h n (by omega)
    refine ⟨xs ++ [avs], by simp [h1], fun i row hi => ?_⟩
    rw [List.getElem?_append] at hi
    split at hi
    · exact h2 i row hi
    · rename_i hn
      have : i = n := by
        by_cases e : i - xs.length = 0
        · omega
        · rw [List.getElem?_eq_none (by simp; omega)] at hi; cases hi
      subst this
      rw [h1, Nat.sub_self] at hi
      simp at hi
      subst hi
      exact ha

theorem a5u {e : TypeId} : ∀ {l : List (DataW H)} {d : DataW H}, d ∈ l → ∀ n ∈ d.weights P e, n ∈ DataW.weightsAll P e l := by
  intro l
  induction l with
  | nil => intro d h; cases h
  | cons x r ih =>
    intro d h n hn
    simp only [DataW.weightsAll, List.mem_append]
    rcases List.mem_cons.1 h with rfl | h
    · exact .inl hn
    · exact .inr (ih h n hn)

theorem a9x : ∀ (n : Nat) (t : TypeId) (ks : List KT) (fuel : Nat) (cs : List Value) (x : DataW H × List MemPlace), ktOf P n t = some ks → DataW.trod enc P w 0 sp held fuel t cs = some x → (∀ m ∈ x.1.weights P t, m ≤ reachBytes) → ∃ avs, OpL w (Rd w) ks cs avs := by
  intro n
  induction n with
  | zero => intro t ks fuel cs x h; cases h
  | succ n ih =>
    intro t ks fuel cs x hk h hw
    unfold ktOf at hk
    split at hk
    · rename_i hu
      injection hk with hk; subst hk
      obtain ⟨b, rfl, _⟩ := DataW.trod_bool hu h
      exact ⟨_, .cons (.bool b) (.bool b) .nil⟩
    · rename_i k hu
      injection hk with hk; subst hk
      obtain ⟨m, rfl, _, hwf⟩ := DataW.trod_int hu h
      exact ⟨_, .cons (.int _ m hwf) (.int _ m) .nil⟩
    · rename_i hu
      injection hk with hk; subst hk
      obtain ⟨s, rfl, rfl, _⟩ := DataW.trod_string hu h
      obtain ⟨⟨s⟩⟩ := s
      exact ⟨_, .cons (.str s (by have := hw s.length (by simp [DataW.weights]); simpa [reachBytes] using this)) (by simpa using VP.str (w := w) (I := Rd w) s) .nil⟩
    · rename_i e hu
      split at hk
      · rename_i es he
        split at hk
        · rename_i hc0
          have hc := hc0.1
          injection hk with hk; subst hk
          rcases DataW.trod_slice hu h with ⟨rfl, _⟩ | ⟨a, len, cap, elems, rest, m, _, rfl, hx0, _, hl, hm, hlen, hel, _⟩
          · exact ⟨_, .cons (.sl _ [] (by simp) (by simp) .nil) (.rs0 none 0) .nil⟩
          · by_cases h0 : len = 0
            · subst h0
              exact ⟨_, .cons (.sl _ [] (by simp) (by simp) .nil) (.rs0 (some a) cap) .nil⟩
            · have row : ∀ i, i < len → ∃ R : List Value, w.cells? 0 (a.add (i * P.cellsOf e)) (P.cellsOf e) = some R ∧ ∃ avs, OpL w (Rd w) es R avs := by
                intro i hi
                have := hel i hi
                rw [List.getElem?_eq_getElem (by omega)] at this
                obtain ⟨R, h1, h2⟩ := Option.bind_eq_some_iff.1 this
                refine ⟨R, h1, ih _ _ _ _ _ he h2 fun q hq => hw q ?_⟩
                rw [hx0]
                simp only [DataW.weights, hu, List.mem_cons, List.mem_append]
                exact .inr (.inl (a5u (List.mem_map.2 ⟨_, List.getElem_mem _, rfl⟩) q hq))
              have hex : ∀ i, ∃ R : List Value, i < len → w.cells? 0 (a.add (i * P.cellsOf e)) (P.cellsOf e) = some R ∧ ∃ avs, OpL w (Rd w) es R avs := by
                intro i
                by_cases hi : i < len
                · obtain ⟨R, hR⟩ := row i hi
                  exact ⟨R, fun _ => hR⟩
                · exact ⟨[], fun h => absurd h hi⟩
              obtain ⟨R, hR⟩ := Classical.axiomOfChoice hex
              obtain ⟨xs, hx1, hx2⟩ := c3c R len fun i hi => (hR i hi).2
              have cell : ∀ i j, i < len → j < es.length → w.cell? (a.add (i * es.length + j)) = (R i)[j]? := by
                intro i j hi hj
                have h1 := (World.cells?_some (hR i hi).1).2.2 j (by omega)
                rw [← h1, hc.1]
                congr 1
                unfold Addr.add
                by_cases e1 : i * es.length = 0
                · rw [if_pos e1, e1, Nat.zero_add]
                · rw [if_neg e1, if_neg (by omega)]
                  by_cases e2 : j = 0
                  · subst e2; simp
                  · rw [if_neg e2]; simp [Nat.add_assoc]
              have hRl : ∀ i, i < len → (R i).length = es.length := fun i hi => by rw [(World.cells?_some (hR i hi).1).2.1, hc.1]
              have hsp : a.spot = none := by
                have h1 := cell 0 0 (by omega) hc.2
                rw [List.getElem?_eq_getElem (by rw [hRl 0 (by omega)]; exact hc.2)] at h1
                simp only [Nat.zero_mul, Nat.zero_add, Addr.add, if_true] at h1
                obtain ⟨b, o, s⟩ := a
                exact b2z h1
              obtain ⟨b, off, s⟩ := a
              simp only at hsp
              subst hsp
              have add : ∀ k, (⟨b, off, none⟩ : Addr).add k = ⟨b, off + k, none⟩ := fun k => a4c b off k
              have us : ∀ j, j < len * es.length → w.cell? ⟨b, off + j, none⟩ = (R (j / es.length))[j % es.length]? := by
                intro j hj
                have h1 : j / es.length < len := Nat.div_lt_of_lt_mul (by rw [Nat.mul_comm]; exact hj)
                have h2 : j % es.length < es.length := Nat.mod_lt _ hc.2
                rw [← cell _ _ h1 h2, add, Nat.mul_comm, Nat.div_add_mod]
              have us' : ∀ j, j < len * es.length → w.cell? ⟨b, off + j, none⟩ = some ((R (j / es.length)).getD (j % es.length) (.bool false)) := by
                intro j hj
                have h1 : j / es.length < len := Nat.div_lt_of_lt_mul (by rw [Nat.mul_comm]; exact hj)
                have h2 : j % es.length < es.length := Nat.mod_lt _ hc.2
                rw [us j hj, List.getElem?_eq_getElem (by rw [hRl _ h1]; exact h2), List.getD_eq_getElem?_getD, List.getElem?_eq_getElem (by rw [hRl _ h1]; exact h2)]
                rfl
              have hrow : ∀ (i : Nat) row, xs[i]? = some row → i < len := fun i row hi => by
                have := (List.getElem?_eq_some_iff.1 hi).1
                omega
              have hbig : xs.length ≤ 140737488351232 := by
                have := hw ((elems.length + rest.length) * P.bytesOf e) (by rw [hx0]; simp [DataW.weights, hu])
                have h2 : (elems.length + rest.length) * 1 ≤ (elems.length + rest.length) * P.bytesOf e := Nat.mul_le_mul_left _ (Nat.le_trans (b8r hc.2) hc0.2)
                simp only [reachBytes] at this
                omega
              have hbig2 : xs.length * ktW es ≤ 140737488351232 := by
                have := hw ((elems.length + rest.length) * P.bytesOf e) (by rw [hx0]; simp [DataW.weights, hu])
                have h2 : xs.length * ktW es ≤ (elems.length + rest.length) * P.bytesOf e := Nat.mul_le_mul (by omega) hc0.2
                simp only [reachBytes] at this
                omega
              refine ⟨_, .cons (.sl _ xs hbig hbig2 (OKR.of fun row hr => ?_)) ?_ .nil⟩
              · obtain ⟨i, hi⟩ := List.mem_iff_getElem?.1 hr
                exact (hx2 i row hi).ok
              · have := VP.rs (w := w) (I := Rd w) xs es.length b off cap (fun j => (R (j / es.length)).getD (j % es.length) (.bool false)) hc.2 (by omega) hm
                  (fun i row hi => by have h1 := (hx2 i row hi).len; omega)
                  (fun j hj => ⟨us' j (by rw [← hx1]; exact hj), _, us' j (by rw [← hx1]; exact hj)⟩)
                  (fun i j row y hi hj => by
                    have h1 := hx2 i row hi
                    have h2 := hrow i row hi
                    have h3 : j < row.length := (List.getElem?_eq_some_iff.1 hj).1
                    have h4 : j < es.length := by have := h1.len; omega
                    have e1 : (i * es.length + j) / es.length = i := by rw [Nat.mul_comm, Nat.mul_add_div hc.2, Nat.div_eq_of_lt h4, Nat.add_zero]
                    have e2 : (i * es.length + j) % es.length = j := by rw [Nat.mul_comm, Nat.mul_add_mod, Nat.mod_eq_of_lt h4]
                    simp only [e1, e2]
                    refine h1.get j y _ hj ?_
                    rw [List.getD_eq_getElem?_getD, List.getElem?_eq_getElem (by rw [hRl i h2]; exact h4)]
                    rfl)
                rw [hx1] at this
                exact this
        · cases hk
      · cases hk
    · rename_i fs hu
      split at hk
      · rename_i es he
        split at hk
        · rename_i hc
          injection hk with hk; subst hk
          obtain ⟨xs, m, _, hx0, hcl, hxl, hxs⟩ := DataW.trod_struct hu h
          have key : ∀ (l : List Field) (off : Nat) (ks : List KT), (∀ f ∈ l, ∃ y : DataW H × List MemPlace, DataW.trod enc P w 0 sp held m f.type ((cs.drop f.offset).take (P.cellsOf f.type)) = some y ∧ ∀ q ∈ y.1.weights P f.type, q ≤ reachBytes) → ktF (ktOf P n) P l off = some ks → ∃ avs, OpL w (Rd w) ks ((cs.drop off).take ks.length) avs := by
            intro l
            induction l with
            | nil => intro off ks _ hk; injection hk with hk; subst hk; exact ⟨[], by simpa using OpL.nil⟩
            | cons f l ihl =>
              intro off ks hf hk
              unfold ktF at hk
              split at hk
              · rename_i k1 hk1
                split at hk
                · rename_i hcc
                  split at hk
                  · rename_i k2 hk2
                    injection hk with hk; subst hk
                    obtain ⟨y, hy, hyw⟩ := hf f (by simp)
                    obtain ⟨a1, h1⟩ := ih _ _ _ _ _ hk1 hy hyw
                    obtain ⟨a2, h2⟩ := ihl _ _ (fun g hg => hf g (by simp [hg])) hk2
                    refine ⟨a1 ++ a2, ?_⟩
                    rw [List.length_append, List.take_add, List.drop_drop]
                    rw [hcc.1, hcc.2] at h1
                    exact h1.append h2
                  · cases hk
                · cases hk
              · cases hk
          obtain ⟨avs, ha⟩ := key fs.toList 0 es (fun f hf => by
            obtain ⟨i, hi⟩ := List.mem_iff_getElem?.1 hf
            have hi' : fs[i]? = some f := by simpa using hi
            have hlt : i < xs.length := by
              have := (Array.getElem?_eq_some_iff.1 hi').1
              omega
            refine ⟨_, (hxs i f hi').trans (List.getElem?_eq_getElem hlt), fun q hq => hw q ?_⟩
            rw [hx0]
            simp only [DataW.weights, hu]
            exact DataW.weights_mem_each (j := i) (t := f.type) (by simp [hi']) (by rw [List.getElem?_map, List.getElem?_eq_getElem hlt]; rfl) q hq) he
          refine ⟨avs, ?_⟩
          rw [List.drop_zero, List.take_of_length_le (by omega)] at ha
          exact ha
        · cases hk
      · cases hk
    · cases hk

theorem b0h (hl : laidOutB P = true) {W W' : World} (hb : Below W.heap.size W W') : ∀ {ts : List TypeId} {vs : List Value} {ds : List (DataW H)} {ps : List MemPlace}, (∀ t ∈ ts, P.readableRec t = true ∧ t < P.types.size) →
    DataW.TrodAll enc P W 0 (fun _ => true) true ts vs ds ps → (∀ x ∈ ps, x.block < W.heap.size) → DataW.TrodAll enc P W' 0 (fun b => decide (b < W.heap.size)) true ts vs ds ps := by
  intro ts
  induction ts with
  | nil =>
    intro vs ds ps _ h _
    obtain ⟨rfl, rfl, rfl⟩ := trodAll_nil h
    exact rfl
  | cons t ts ih =>
    intro vs ds ps ht h hlt
    obtain ⟨v, vs, d, ds, p, q, rfl, rfl, rfl, h1, h2⟩ := trodAll_cons h
    exact ⟨p, q, Below.trod hl (ht t (by simp)).1 (ht t (by simp)).2 h1 hb (fun x hx => hlt x (by simp [hx])), ih (fun t' h' => ht t' (by simp [h'])) h2 (fun x hx => hlt x (by simp [hx])), rfl⟩


theorem c1d (W : World) : HR ⟨P, W, W.heap.size, 0⟩ (Rd W) nu0 [] W where
  n := rfl
  below := Below.refl _ _
  base := Nat.le_refl _
  imm _ _ h := h
  obj _ _ h := by simp at h
  disj _ _ _ _ _ h := by simp at h

theorem b3b {f : Nat} {fn : Func} {s : ChangeSpec} {W : World} {args : Array Value} {ds gs : List (DataW H)} {before : List MemPlace} {tb : TypeId} {fresh handsOn : Bool}
    (hl : laidOutB P = true) (hts : ∀ t ∈ fn.params.toList, P.readableRec t = true ∧ t < P.types.size) (hres : fn.resultTypes = #[tb]) (hb : P.underlying tb = some .bool) (hvars : s.vars = [])
    (hW : DataW.Whole enc P fn.params.toList s.vars false W args.toList ds gs before) (hfn : s.fn H ds = { results := [.lit (.bool true)], args := ds })
    {avs : List AV} (hav : avs.length = args.toList.length ∧ ∀ (j : Nat) x v, avs[j]? = some x → args.toList[j]? = some v → VR W (Rd W) nu0 x v)
    (spec : PCalls ⟨P, W, W.heap.size, 0⟩ f avs fun rv => rv = .bool true) :
    Calls P f args W fun e W' => ∃ v, e = .returned v ∧ s.post enc P fn false fresh handsOn false W args v W' := by
  have hlt := hW.lt
  have hW' := hW
  obtain ⟨p, q, hA, hV, rfl, _⟩ := hW
  rw [hvars] at hV
  obtain ⟨rfl, rfl⟩ := trodVars_none hV
  have h := spec (Rd W) nu0 W args.toList (c1d W) hav.1 hav.2
  refine h.mono ?_
  rintro e W' ⟨rv, objs', I', ν', v, ⟨rfl, _⟩, rfl, hv, hh, _⟩
  have hv' := hv.bool_inv
  subst hv'
  have bel : Below W.heap.size W W' := hh.below
  rw [List.append_nil] at hlt
  refine ⟨_, rfl, ds, [], p ++ [], [], p, [], hW', ?_, ?_, ?_, bel.frame _, fun h => by cases h⟩
  · rw [List.append_nil, hfn, hres]
    exact trodAll_mk1 (shut_bool hb true)
  · rw [List.append_nil, hfn]
    exact b0h hl bel hts hA hlt
  · rw [hvars, List.append_nil, hfn]
    exact rfl

inductive AK where
  | one (k : KT)
  | agg (ks : List KT)
inductive OKA : List AK → List AV → Prop where
  | nil : OKA [] []
  | one {k : KT} {asq : List AK} {x : AV} {xs : List AV} (h : OKV k x) (r : OKA asq xs) : OKA (.one k :: asq) (x :: xs)
  | agg {ks : List KT} {asq : List AK} {ys : List AV} {xs : List AV} (h : OKL ks ys) (r : OKA asq xs) : OKA (.agg ks :: asq) (.agg ys :: xs)
def akOf (P : Program) (n : Nat) (t : TypeId) : Option AK := match P.underlying t with
  | some (.struct _) => match ktOf P n t with
    | some ks => some (.agg ks)
    | none => none
  | some (.array _ _) => none
  | _ => match ktOf P n t with
    | some [k] => some (.one k)
    | _ => none
def aksOf (P : Program) (n : Nat) : List TypeId → Option (List AK)
  | [] => some []
  | t :: ts => match akOf P n t with
    | some a => match aksOf P n ts with
      | some asq => some (a :: asq)
      | none => none
    | none => none

theorem b2y {r : Reach} {b : Nat} {t : TypeId} {v : Value} (hval : Value.okWide P w r b t v) (hs : ∀ fs, P.underlying t ≠ some (.struct fs)) (ha : ∀ n e, P.underlying t ≠ some (.array n e)) {n : Nat} {k : KT} (hk : ktOf P n t = some [k]) : v.cells.toList = [v] := by
  cases n with
  | zero => cases hk
  | succ n =>
    unfold ktOf at hk
    split at hk
    · rename_i hu; obtain ⟨b, rfl⟩ := okWide_bool hu hval; rfl
    · rename_i hu; obtain ⟨b, rfl⟩ := okWide_int hu hval; rfl
    · rename_i hu; obtain ⟨b, rfl⟩ := okWide_string hu hval; rfl
    · rename_i hu; obtain ⟨a, b, c, rfl⟩ := okWide_slice hu hval; rfl
    · rename_i hu; exact absurd hu (hs _)
    · cases hk

theorem c0x {r : Reach} {b n : Nat} {t : TypeId} {v : Value} {d : DataW H} {p : List MemPlace} {a : AK} (hk : akOf P n t = some a) (hval : Value.okWide P w r b t v) (h : DataW.Trod enc P w 0 sp held t v d p) (hw : ∀ m ∈ d.weights P t, m ≤ reachBytes) : ∃ x, (∀ asq xs, OKA asq xs → OKA (a :: asq) (x :: xs)) ∧ VR w (Rd w) nu0 x v := by
  obtain ⟨fuel, h⟩ := h
  unfold akOf at hk
  split at hk
  · rename_i fs hu
    split at hk
    · rename_i ks hks
      injection hk with hk; subst hk
      obtain ⟨xs, hx⟩ := a9x _ _ _ _ _ _ hks h hw
      obtain ⟨cs, rfl, _⟩ := okWide_struct hu hval
      have hx' : OpL w (Rd w) ks cs.toList xs := hx
      exact ⟨.agg xs, fun asq ys hr => .agg hx'.ok hr, by simpa using VR.agg (w := w) (I := Rd w) (ν := nu0) xs cs.toList hx'.len.1 fun j x v h1 h2 => .pure (hx'.get j x v h1 h2)⟩
    · cases hk
  · cases hk
  · rename_i h1 h2
    split at hk
    · rename_i k hks
      injection hk with hk; subst hk
      obtain ⟨xs, hx⟩ := a9x _ _ _ _ _ _ hks h hw
      rw [b2y hval h1 h2 hks] at hx
      cases hx with
      | cons ho hv hr =>
        cases hr
        exact ⟨_, fun asq ys hr => .one ho hr, .pure hv⟩
    · cases hk

theorem b8g {r : Reach} {b n : Nat} : ∀ {ts : List TypeId} {aks : List AK} {vs : List Value} {ds : List (DataW H)} {p : List MemPlace}, aksOf P n ts = some aks → (∀ (j : Nat) t v, ts[j]? = some t → vs[j]? = some v → Value.okWide P w r b t v) → DataW.TrodAll enc P w 0 sp held ts vs ds p → (∀ m ∈ DataW.weightsEach P ts ds, m ≤ reachBytes) →
    ∃ xs, OKA aks xs ∧ xs.length = vs.length ∧ ds.length = ts.length ∧ ∀ (j : Nat) x v, xs[j]? = some x → vs[j]? = some v → VR w (Rd w) nu0 x v := by
  intro ts
  induction ts with
  | nil =>
    intro aks vs ds p hk _ h hw
    injection hk with hk; subst hk
    obtain ⟨rfl, rfl, rfl⟩ := trodAll_nil h
    exact ⟨[], .nil, rfl, rfl, fun j x v h => by simp at h⟩
  | cons t ts ih =>
    intro aks vs ds p hk hval h hw
    unfold aksOf at hk
    split at hk
    · rename_i a ha
      split at hk
      · rename_i asq has
        injection hk with hk; subst hk
        obtain ⟨v, vs, d, ds, p, q, rfl, rfl, rfl, h1, h2⟩ := trodAll_cons h
        obtain ⟨x, hx, hv⟩ := c0x ha (hval 0 t v rfl rfl) h1 (fun m hm => hw m (by simp [DataW.weightsEach, hm]))
        obtain ⟨xs, g1, g2, g4, g3⟩ := ih has (fun j t v h1 h2 => hval (j + 1) t v (by simpa using h1) (by simpa using h2)) h2 (fun m hm => hw m (by simp [DataW.weightsEach, hm]))
        refine ⟨x :: xs, hx _ _ g1, by simp [g2], by simp [g4], fun j y u hy hu => ?_⟩
        cases j with
        | zero => simp at hy hu; subst hy; subst hu; exact hv
        | succ j => exact g3 j y u (by simpa using hy) (by simpa using hu)
      · cases hk
    · cases hk

theorem b8p {f n : Nat} {fn : Func} {s : ChangeSpec} {W : World} {base : Nat} {args : Array Value} {ds gs : List (DataW H)} {before : List MemPlace} {tb : TypeId} {fresh handsOn : Bool} {aks : List AK}
    (hl : laidOutB P = true) (hts : (fn.params.toList.all fun t => P.readableRec t && decide (t < P.types.size)) = true) (hres : fn.resultTypes = #[tb]) (hb : P.underlying tb = some .bool) (hvars : s.vars = []) (hk : aksOf P n fn.params.toList = some aks)
    (hfn : ∀ ds : List (DataW H), ds.length = fn.params.toList.length → s.fn H ds = { results := [.lit (.bool true)], args := ds })
    (spec : ∀ xs, OKA aks xs → PCalls ⟨P, W, W.heap.size, 0⟩ f xs fun rv => rv = .bool true)
    (hval : ∀ (j : Nat) t v, fn.params[j]? = some t → args[j]? = some v → Value.okWide P W .any base t v)
    (hW : DataW.Whole enc P fn.params.toList s.vars false W args.toList ds gs before) (hsz : (DataW.weightsEach P (fn.params.toList ++ s.plain.varTypes P) (ds ++ gs)).all (· ≤ reachBytes) = true) :
    Calls P f args W fun e W' => ∃ v, e = .returned v ∧ s.post enc P fn false fresh handsOn false W args v W' := by
  have hW' := hW
  obtain ⟨p, q, hA, hV, _, _⟩ := hW
  rw [hvars] at hV
  obtain ⟨rfl, rfl⟩ := trodVars_none hV
  have hvt : s.plain.varTypes P = [] := by simp [ChangeSpec.plain, DataSpec.varTypes, hvars]
  rw [hvt, List.append_nil, List.append_nil] at hsz
  have hsz' : ∀ m ∈ DataW.weightsEach P fn.params.toList ds, m ≤ reachBytes := fun m hm => by simpa using List.all_eq_true.1 hsz m hm
  obtain ⟨xs, g1, g2, g4, g3⟩ := b8g hk (fun j t v h1 h2 => hval j t v (by simpa using h1) (by simpa using h2)) hA hsz'
  exact b3b hl (fun t ht => by simpa using List.all_eq_true.1 hts t ht) hres hb hvars hW' (hfn ds g4) ⟨g2, g3⟩ (spec xs g1)
end
end Go.Proofs.YtkljmljkiodnpaaGreatDoor.L

namespace Go.Proofs.YtkljmljkiodnpaaGreatDoor.L
open Go Go.RowKit
variable {E : Env} {N : Nat} {ops : Array Oper} {Q : Exit → St → Prop} {sl : Slots} {H H' : List AO} {rest : List Oper}

theorem Sp.of {α : Type} {a b : List α} : Sp a.length (a ++ b) a b := by
  induction a with
  | nil => exact .zero
  | cons x a ih => exact .succ ih
inductive AvLe1 : AV → AV → Prop where
  | refl (x : AV) : AvLe1 x x
  | nil : AvLe1 .nilsl (.rs [])
  | any (x : AV) : AvLe1 x .any
inductive AvLeL : List AV → List AV → Prop where
  | nil : AvLeL [] []
  | cons {x y : AV} {xs ys : List AV} (h : AvLe1 x y) (r : AvLeL xs ys) : AvLeL (x :: xs) (y :: ys)
inductive AvLe : AV → AV → Prop where
  | one {x y : AV} (h : AvLe1 x y) : AvLe x y
  | agg {xs ys : List AV} (h : AvLeL xs ys) : AvLe (.agg xs) (.agg ys)
theorem AvLe1.vr {w : World} {I : Imm} {ν : Nu} {x y : AV} (h : AvLe1 x y) {v : Value} (k : VR w I ν x v) : VR w I ν y v := by
  cases h with
  | refl => exact k
  | nil => rw [k.nilsl_inv]; exact .pure (.rs0 none 0)
  | any => exact .any v
theorem AvLeL.get {xs ys : List AV} (h : AvLeL xs ys) : xs.length = ys.length ∧ ∀ (j : Nat) y, ys[j]? = some y → ∃ x, xs[j]? = some x ∧ AvLe1 x y := by
  induction h with
  | nil => exact ⟨rfl, fun j y h => by simp at h⟩
  | @cons x y xs ys h r ih =>
    refine ⟨by simp [ih.1], fun j z hz => ?_⟩
    cases j with
    | zero => simp at hz; subst hz; exact ⟨x, rfl, h⟩
    | succ j => exact ih.2 j z (by simpa using hz)
theorem AvLe.vr {w : World} {I : Imm} {ν : Nu} {x y : AV} (h : AvLe x y) {v : Value} (k : VR w I ν x v) : VR w I ν y v := by
  cases h with
  | one h => exact h.vr k
  | agg h =>
    obtain ⟨vs, rfl, hl, hx⟩ := b1j k
    obtain ⟨g1, g2⟩ := h.get
    exact .agg _ vs (by omega) fun j y v hy hv => by
      obtain ⟨x, h1, h2⟩ := g2 j y hy
      exact h2.vr (hx j x v h1 hv)
theorem Wkn.le {sl : Slots} {H : List AO} (t : Nat) (y : AV) {x : AV} (ht : lk sl t = some x) (e : AvLe x y) : Wkn E N ⟨sl, H⟩ ⟨(t, y) :: sl, H⟩ := fun I ν a w hs =>
  ⟨I, ν, ⟨hs.hr, fun k z hz => by
    rw [a4h] at hz
    split at hz
    · rename_i h
      subst h
      injection hz with hz; subst hz
      exact e.vr (hs.sl t x ht)
    · exact hs.sl k z hz, hs.df, hs.nt⟩, FR.refl _ _ _ _⟩
end Go.Proofs.YtkljmljkiodnpaaGreatDoor.L

namespace Go.Proofs.YtkljmljkiodnpaaGreatDoor.L
open Go Go.RowKit

def rn (ρ : List Nat) (m k : Nat) : Nat := match ρ[k]? with
  | some j => j
  | none => m + (k - ρ.length)

mutual
inductive Rn (r : Nat → Nat) : AV → AV → Prop where
  | op {i j off : Nat} (h : r i = j) : Rn r (.op i off) (.op j off)
  | os {i j ver : Nat} (h : r i = j) : Rn r (.os i ver) (.os j ver)
  | er {i j ver sz k off : Nat} (h : r i = j) : Rn r (.er i ver sz k off) (.er j ver sz k off)
  | mp {i j : Nat} (h : r i = j) : Rn r (.mp i) (.mp j)
  | agg {xs ys : List AV} (h : RnL r xs ys) : Rn r (.agg xs) (.agg ys)
  | tup {xs ys : List AV} (h : RnL r xs ys) : Rn r (.tup xs) (.tup ys)
  | fn {f : Nat} {xs ys : List AV} (h : RnL r xs ys) : Rn r (.fn f xs) (.fn f ys)
  | same {x : AV} (h : clB 0 x = true) : Rn r x x
inductive RnL (r : Nat → Nat) : List AV → List AV → Prop where
  | nil : RnL r [] []
  | cons {x y : AV} {xs ys : List AV} (h : Rn r x y) (k : RnL r xs ys) : RnL r (x :: xs) (y :: ys)
end
theorem RnL.get {r : Nat → Nat} : ∀ {xs ys : List AV}, RnL r xs ys → xs.length = ys.length ∧ (∀ (j : Nat) x, xs[j]? = some x → ∃ y, ys[j]? = some y ∧ Rn r x y) ∧ ∀ (j : Nat) y, ys[j]? = some y → ∃ x, xs[j]? = some x ∧ Rn r x y := by
  intro xs
  induction xs with
  | nil => intro ys h; cases h; exact ⟨rfl, fun j x h => by simp at h, fun j x h => by simp at h⟩
  | cons x xs ih =>
    intro ys h
    cases h with
    | @cons _ y _ ys h k =>
      obtain ⟨g1, g2, g3⟩ := ih k
      refine ⟨by simp [g1], fun j z hz => ?_, fun j z hz => ?_⟩
      · cases j with
        | zero => simp at hz; subst hz; exact ⟨y, rfl, h⟩
        | succ j => simpa using g2 j z (by simpa using hz)
      · cases j with
        | zero => simp at hz; subst hz; exact ⟨x, rfl, h⟩
        | succ j => simpa using g3 j z (by simpa using hz)

inductive RnO (r : Nat → Nat) : AO → AO → Prop where
  | gone : RnO r .gone .gone
  | box {xs ys : List AV} {tyo : Option Nat} (h : RnL r xs ys) : RnO r (.box xs tyo) (.box ys tyo)
  | row {e : TypeId} {sz ver fz : Nat} {xs : List (List AV)} : RnO r (.row e sz ver fz xs) (.row e sz ver fz xs)
  | map {es : List (AV × AV)} : RnO r (.map es) (.map es)
  | arr {e : TypeId} {sz ver : Nat} {xs : List (List AV)} {wr : Bool} : RnO r (.arr e sz ver xs wr) (.arr e sz ver xs wr)
  | siter {s : List UInt8} {pos : Nat} : RnO r (.siter s pos) (.siter s pos)
  | hp {m : Nat → Option (List AV)} : RnO r (.hp m) (.hp m)
inductive RnF (r : Nat → Nat) : AO → AO → Prop where
  | of {o o' : AO} (h : RnO r o o') : RnF r o o'
  | forget {o : AO} : RnF r o .gone
inductive PickO (r : Nat → Nat) (H : List AO) : List Nat → List AO → Prop where
  | nil : PickO r H [] []
  | cons {i : Nat} {ρ : List Nat} {o o' : AO} {os : List AO} (h : H[i]? = some o') (k : RnO r o o') (t : PickO r H ρ os) : PickO r H (i :: ρ) (o :: os)
inductive RnFs (r : Nat → Nat) : List AO → List AO → Prop where
  | nil : RnFs r [] []
  | cons {o o' : AO} {os os' : List AO} (h : RnF r o o') (t : RnFs r os os') : RnFs r (o :: os) (o' :: os')
inductive PutO (r : Nat → Nat) : List Nat → List AO → List AO → List AO → Prop where
  | nil {os ext H H' : List AO} (h : RnFs r os ext) (e : H ++ ext = H') : PutO r [] os H H'
  | cons {i : Nat} {ρ : List Nat} {o o1 o2 : AO} {os H H1 H' : List AO} (k : RnF r o o2) (h : Upd i H o1 o2 H1) (t : PutO r ρ os H1 H') : PutO r (i :: ρ) (o :: os) H H'

def ndup : List Nat → Bool
  | [] => true
  | i :: r => match r.contains i with
    | true => false
    | false => ndup r
theorem b5k : ∀ {ρ : List Nat}, ndup ρ = true → ∀ (i i' j : Nat), ρ[i]? = some j → ρ[i']? = some j → i = i' := by
  intro ρ
  induction ρ with
  | nil => intro _ i i' j h; simp at h
  | cons a r ih =>
    intro h i i' j h1 h2
    simp only [ndup] at h
    split at h
    · cases h
    · rename_i hc
      have hn : ∀ k : Nat, r[k]? ≠ some a := fun k hk => by
        have := List.mem_of_getElem? hk
        simp at hc
        exact hc this
      cases i with
      | zero =>
        cases i' with
        | zero => rfl
        | succ i' => simp at h1 h2; subst h1; exact absurd h2 (hn i')
      | succ i =>
        cases i' with
        | zero => simp at h1 h2; subst h2; exact absurd h1 (hn i)
        | succ i' => rw [ih h i i' j (by simpa using h1) (by simpa using h2)]

theorem RnFs.get {r : Nat → Nat} {os ext : List AO} (h : RnFs r os ext) : os.length = ext.length ∧ ∀ (j : Nat) o', ext[j]? = some o' → ∃ o, os[j]? = some o ∧ RnF r o o' := by
  induction h with
  | nil => exact ⟨rfl, fun j o h => by simp at h⟩
  | @cons o o' os os' h t ih =>
    refine ⟨by simp [ih.1], fun j z hz => ?_⟩
    cases j with
    | zero => simp at hz; subst hz; exact ⟨o, rfl, h⟩
    | succ j => simpa using ih.2 j z (by simpa using hz)
theorem PickO.get {r : Nat → Nat} {H : List AO} {ρ : List Nat} {os : List AO} (h : PickO r H ρ os) : ρ.length = os.length ∧ ∀ (i : Nat) o, os[i]? = some o → ∃ j o', ρ[i]? = some j ∧ H[j]? = some o' ∧ RnO r o o' := by
  induction h with
  | nil => exact ⟨rfl, fun j o h => by simp at h⟩
  | @cons i ρ o o' os h k t ih =>
    refine ⟨by simp [ih.1], fun j z hz => ?_⟩
    cases j with
    | zero => simp at hz; subst hz; exact ⟨i, o', rfl, h, k⟩
    | succ j => simpa using ih.2 j z (by simpa using hz)

theorem PutO.get {r : Nat → Nat} {ρ : List Nat} {os H H' : List AO} (h : PutO r ρ os H H') : ndup ρ = true →
    ρ.length ≤ os.length ∧ H'.length = H.length + (os.length - ρ.length) ∧ (∀ (i j : Nat), ρ[i]? = some j → j < H.length ∧ ∃ o o', os[i]? = some o ∧ H'[j]? = some o' ∧ RnF r o o') ∧
      (∀ j : Nat, j < H.length → (∀ i : Nat, ρ[i]? ≠ some j) → H'[j]? = H[j]?) ∧ ∀ (j : Nat) o', H.length ≤ j → H'[j]? = some o' → ∃ o, os[j - H.length + ρ.length]? = some o ∧ RnF r o o' := by
  induction h with
  | @nil os ext H H' h e =>
    intro _
    subst e
    obtain ⟨h1, h2⟩ := h.get
    refine ⟨Nat.zero_le _, by simp [h1], fun i j h => by simp at h, fun j hj _ => List.getElem?_append_left hj, fun j o' hj ho => ?_⟩
    rw [List.getElem?_append_right hj] at ho
    simpa using h2 _ o' ho
  | @cons i ρ o o1 o2 os H H1 H' k h t ih =>
    intro hn
    have hn' : ndup ρ = true ∧ ∀ q : Nat, ρ[q]? ≠ some i := by
      simp only [ndup] at hn
      split at hn
      · cases hn
      · rename_i hc
        refine ⟨hn, fun q hq => ?_⟩
        have := List.mem_of_getElem? hq
        simp at hc
        exact hc this
    obtain ⟨g1, g2, g3, g4, g5⟩ := ih hn'.1
    obtain ⟨e1, e2⟩ := h.eq
    subst e2
    have hi : i < H.length := (List.getElem?_eq_some_iff.1 e1).1
    simp only [List.length_set] at g2 g3 g4 g5
    refine ⟨by simp; omega, by simp only [List.length_cons]; omega, fun a j ha => ?_, fun j hj hne => ?_, fun j o' hj ho => ?_⟩
    · cases a with
      | zero =>
        simp at ha
        subst ha
        exact ⟨hi, o, o2, rfl, by rw [g4 i hi hn'.2, List.getElem?_set_self hi], k⟩
      | succ a => simpa using g3 a j (by simpa using ha)
    · rw [g4 j hj (fun q hq => hne (q + 1) (by simpa using hq)), List.getElem?_set_ne (fun e => hne 0 (by simp [e]))]
    · obtain ⟨q, hq, hq'⟩ := g5 j o' hj ho
      exact ⟨q, by simp only [List.length_cons]; rw [← Nat.add_assoc, List.getElem?_cons_succ]; exact hq, hq'⟩

theorem c0p {ρ : List Nat} {m i j : Nat} (h : ρ[i]? = some j) : rn ρ m i = j := by simp [rn, h]
theorem b5d {ρ : List Nat} {m i : Nat} (h : ρ.length ≤ i) : rn ρ m i = m + (i - ρ.length) := by simp [rn, List.getElem?_eq_none h]
theorem c5o {ρ : List Nat} {m i j : Nat} (h : rn ρ m i = j) (hj : j < m) : ρ[i]? = some j := by
  rcases Nat.lt_or_ge i ρ.length with hi | hi
  · rw [List.getElem?_eq_getElem hi]
    rw [c0p (List.getElem?_eq_getElem hi)] at h
    rw [h]
  · rw [b5d hi] at h
    omega

def nuC (ρ : List Nat) (ν : Nu) : Nu := ⟨ρ.length, fun i => ν.top ((ρ[i]?).getD 0), fun i ver => ν.val ((ρ[i]?).getD 0) ver⟩
def invR (ρ : List Nat) (j : Nat) : Option Nat := (List.range ρ.length).find? fun i => ρ[i]? == some j
theorem a3v {ρ : List Nat} {i j : Nat} (h : invR ρ j = some i) : ρ[i]? = some j := by
  have := List.find?_some h
  simpa using this
theorem a6k {ρ : List Nat} {j : Nat} (h : invR ρ j = none) (i : Nat) : ρ[i]? ≠ some j := by
  intro hi
  have h1 := List.find?_eq_none.1 h i (by simpa using (List.getElem?_eq_some_iff.1 hi).1)
  simp [hi] at h1
theorem c3o {ρ : List Nat} (hn : ndup ρ = true) {i j : Nat} (h : ρ[i]? = some j) : invR ρ j = some i := by
  cases hi : invR ρ j with
  | none => exact absurd h (a6k hi i)
  | some i' => rw [b5k hn i' i j (a3v hi) h]
def nuF (ρ : List Nat) (m k : Nat) (ν ν' : Nu) : Nu :=
  ⟨m + (k - ρ.length), fun j => match invR ρ j with
    | some i => ν'.top i
    | none => if j < m then ν.top j else ν'.top (j - m + ρ.length),
   fun j ver => match invR ρ j with
    | some i => ν'.val i ver
    | none => if j < m then ν.val j ver else ν'.val (j - m + ρ.length) ver⟩

section
variable {w : World} {I : Imm} {ν ν' : Nu} {ρ : List Nat} {m k : Nat}

theorem c5p {y : AV} {v : Value} (hm : ν.n = m) (h : VR w I ν y v) : ∀ {x : AV}, Rn (rn ρ m) x y → VR w I (nuC ρ ν) x v := by
  have lt : ∀ {i j : Nat}, rn ρ m i = j → j < ν.n → ρ[i]? = some j ∧ i < ρ.length := fun h hj => by
    have := c5o h (by omega)
    exact ⟨this, (List.getElem?_eq_some_iff.1 this).1⟩
  have cl : ∀ {x : AV} {v : Value}, clB 0 x = true → VR w I ν x v → VR w I (nuC ρ ν) x v := fun hc hv => hv.cut (k := 0) ⟨Nat.zero_le _, fun _ h => by omega, fun _ _ h => by omega⟩ hc
  induction h with
  | any v => intro x h; cases h; exact .any v
  | und v e => intro x h; cases h; exact .und v e
  | pure h =>
    intro x hx
    cases hx with
    | same hc => exact .pure h
    | fn hl =>
      cases h
      cases hl
      exact .pure (.fn _)
    | op _ => cases h
    | os _ => cases h
    | er _ => cases h
    | mp _ => cases h
    | agg _ => cases h
    | tup _ => cases h
  | op id off b hi h =>
    intro x hx
    cases hx with
    | same hc => exact cl hc (.op id off b hi h)
    | @op i _ _ e =>
      obtain ⟨h1, h2⟩ := lt e hi
      exact .op i off b h2 (by simp only [nuC, h1, Option.getD_some]; exact h)
  | os id ver A n c hi hv hs =>
    intro x hx
    cases hx with
    | same hc => exact cl hc (.os id ver A n c hi hv hs)
    | @os i _ _ e =>
      obtain ⟨h1, h2⟩ := lt e hi
      exact .os i ver A n c h2 (by simp only [nuC, h1, Option.getD_some]; exact hv) (by simp only [nuC, h1, Option.getD_some]; exact hs)
  | er id ver sz i off g n c hi hv h =>
    intro x hx
    cases hx with
    | same hc => exact cl hc (.er id ver sz i off g n c hi hv h)
    | @er q _ _ _ _ _ e =>
      obtain ⟨h1, h2⟩ := lt e hi
      exact .er q ver sz i off g n c h2 (by simp only [nuC, h1, Option.getD_some]; exact hv) (by simp only [nuC, h1, Option.getD_some]; exact h)
  | mp id r hi hs =>
    intro x hx
    cases hx with
    | same hc => exact cl hc (.mp id r hi hs)
    | @mp q _ e =>
      obtain ⟨h1, h2⟩ := lt e hi
      exact .mp q r h2 (by simp only [nuC, h1, Option.getD_some]; exact hs)
  | fn f caps vs hl h ih =>
    intro x hx
    cases hx with
    | same hc => exact cl hc (.fn f caps vs hl h)
    | @fn _ xs _ hr =>
      obtain ⟨g1, g2, g3⟩ := hr.get
      exact .fn f xs vs (by omega) fun j x v h1 h2 => by
        obtain ⟨y, hy, hxy⟩ := g2 j x h1
        exact ih j y v hy h2 hxy
  | agg cs vs hl h ih =>
    intro x hx
    cases hx with
    | same hc => exact cl hc (.agg cs vs hl h)
    | @agg xs _ hr =>
      obtain ⟨g1, g2, g3⟩ := hr.get
      exact .agg xs vs (by omega) fun j x v h1 h2 => by
        obtain ⟨y, hy, hxy⟩ := g2 j x h1
        exact ih j y v hy h2 hxy
  | tup cs vs hl h ih =>
    intro x hx
    cases hx with
    | same hc => exact cl hc (.tup cs vs hl h)
    | @tup xs _ hr =>
      obtain ⟨g1, g2, g3⟩ := hr.get
      exact .tup xs vs (by omega) fun j x v h1 h2 => by
        obtain ⟨y, hy, hxy⟩ := g2 j x h1
        exact ih j y v hy h2 hxy

theorem b8j (hn : ndup ρ = true) (hρ : ∀ (i j : Nat), ρ[i]? = some j → j < m) {i j : Nat} (h : rn ρ m i = j) : (nuF ρ m k ν ν').top j = ν'.top i ∧ ∀ ver, (nuF ρ m k ν ν').val j ver = ν'.val i ver := by
  rcases Nat.lt_or_ge i ρ.length with hi | hi
  · have h1 : ρ[i]? = some j := by rw [List.getElem?_eq_getElem hi, ← h, c0p (List.getElem?_eq_getElem hi)]
    simp only [nuF, c3o hn h1]
    exact ⟨trivial, fun _ => trivial⟩
  · rw [b5d hi] at h
    have h1 : invR ρ j = none := by
      cases e : invR ρ j with
      | none => rfl
      | some q => have := hρ q j (a3v e); omega
    have h2 : j - m + ρ.length = i := by omega
    simp only [nuF, h1]
    rw [if_neg (by omega), h2]
    exact ⟨rfl, fun ver => by rw [if_neg (by omega)]⟩

theorem c5v (hn : ndup ρ = true) (hρ : ∀ (i j : Nat), ρ[i]? = some j → j < m) (hk : ν'.n = k) (hk' : ρ.length ≤ k) {x : AV} {v : Value} (h : VR w I ν' x v) : ∀ {y : AV}, Rn (rn ρ m) x y → VR w I (nuF ρ m k ν ν') y v := by
  have lt : ∀ {i j : Nat}, rn ρ m i = j → i < ν'.n → j < (nuF ρ m k ν ν').n := fun {i j} h hi => by
    simp only [nuF]
    rcases Nat.lt_or_ge i ρ.length with h1 | h1
    · have : ρ[i]? = some j := by rw [List.getElem?_eq_getElem h1, ← h, c0p (List.getElem?_eq_getElem h1)]
      have := hρ i j this
      omega
    · rw [b5d h1] at h
      omega
  have ft : ∀ {i j : Nat}, rn ρ m i = j → (nuF ρ m k ν ν').top j = ν'.top i := fun h => (b8j hn hρ h).1
  have fv : ∀ {i j : Nat} (ver : Nat), rn ρ m i = j → (nuF ρ m k ν ν').val j ver = ν'.val i ver := fun ver h => (b8j hn hρ h).2 ver
  have cl : ∀ {x : AV} {v : Value}, clB 0 x = true → VR w I ν' x v → VR w I (nuF ρ m k ν ν') x v := fun hc hv => hv.cut (k := 0) ⟨Nat.zero_le _, fun _ h => by omega, fun _ _ h => by omega⟩ hc
  induction h with
  | any v => intro x h; cases h; exact .any v
  | und v e => intro x h; cases h; exact .und v e
  | pure h =>
    intro x hx
    cases hx with
    | same hc => exact .pure h
    | fn hl =>
      cases h
      cases hl
      exact .pure (.fn _)
    | op _ => cases h
    | os _ => cases h
    | er _ => cases h
    | mp _ => cases h
    | agg _ => cases h
    | tup _ => cases h
  | op id off b hi h =>
    intro x hx
    cases hx with
    | same hc => exact cl hc (.op id off b hi h)
    | @op _ j _ e => exact .op j off b (lt e hi) ((fv 0 e).trans h)
  | os id ver A n c hi hv hs =>
    intro x hx
    cases hx with
    | same hc => exact cl hc (.os id ver A n c hi hv hs)
    | @os _ j _ e => exact .os j ver A n c (lt e hi) (by rw [ft e]; exact hv) ((fv ver e).trans hs)
  | er id ver sz i off g n c hi hv h =>
    intro x hx
    cases hx with
    | same hc => exact cl hc (.er id ver sz i off g n c hi hv h)
    | @er _ j _ _ _ _ e => exact .er j ver sz i off g n c (lt e hi) (by rw [ft e]; exact hv) ((fv ver e).trans h)
  | mp id r hi hs =>
    intro x hx
    cases hx with
    | same hc => exact cl hc (.mp id r hi hs)
    | @mp _ j e => exact .mp j r (lt e hi) ((fv 0 e).trans hs)
  | fn f caps vs hl h ih =>
    intro x hx
    cases hx with
    | same hc => exact cl hc (.fn f caps vs hl h)
    | @fn _ _ ys hr =>
      obtain ⟨g1, g2, g3⟩ := hr.get
      exact .fn f ys vs (by omega) fun j x v h1 h2 => by
        obtain ⟨y, hy, hxy⟩ := g3 j x h1
        exact ih j y v hy h2 hxy
  | agg cs vs hl h ih =>
    intro x hx
    cases hx with
    | same hc => exact cl hc (.agg cs vs hl h)
    | @agg _ ys hr =>
      obtain ⟨g1, g2, g3⟩ := hr.get
      exact .agg ys vs (by omega) fun j x v h1 h2 => by
        obtain ⟨y, hy, hxy⟩ := g3 j x h1
        exact ih j y v hy h2 hxy
  | tup cs vs hl h ih =>
    intro x hx
    cases hx with
    | same hc => exact cl hc (.tup cs vs hl h)
    | @tup _ ys hr =>
      obtain ⟨g1, g2, g3⟩ := hr.get
      exact .tup ys vs (by omega) fun j x v h1 h2 => by
        obtain ⟨y, hy, hxy⟩ := g3 j x h1
        exact ih j y v hy h2 hxy
end

section
variable {E : Env} {N : Nat} {ops : Array Oper} {Q : Exit → St → Prop} {sl : Slots} {H : List AO} {rest : List Oper}

theorem c5y {w : World} {I : Imm} {ν : Nu} {ρ : List Nat} {m : Nat} (hm : ν.n = m) {i j : Nat} (hi : ρ[i]? = some j) {o o' : AO} (h : OR E w I ν j o') (hr : RnO (rn ρ m) o o') : OR E w I (nuC ρ ν) i o ∧ OB (nuC ρ ν) i o = OB ν j o' := by
  have hv : ∀ ver, (nuC ρ ν).val i ver = ν.val j ver := fun ver => by simp only [nuC, hi, Option.getD_some]
  have ht : (nuC ρ ν).top i = ν.top j := by simp only [nuC, hi, Option.getD_some]
  cases hr with
  | gone => exact ⟨.gone, rfl⟩
  | @box xs ys tyo hb =>
    obtain ⟨g1, g2, g3⟩ := hb.get
    cases h with
    | box _ _ b vs ty h1 h2 h3 h4 h5 h6 h7 =>
      refine ⟨.box xs tyo b vs ty ((hv 0).trans h1) h2 h3 (by omega) (fun q x v hx hv' => ?_) h6 h7, by funext b; simp only [OB, OB1, hv]⟩
      obtain ⟨y, hy, hxy⟩ := g2 q x hx
      exact c5p hm (h5 q y v hy hv') hxy
  | row =>
    cases h with
    | row e sz ver fz xs inner h1 h2 h3 h4 h5 h6 => exact ⟨.row _ _ _ _ _ inner (ht.trans h1) h2 (by rw [hv]; exact h3) h4 h5 (by rw [hv]; exact h6), by funext b; simp only [OB, OB1, hv]⟩
  | map =>
    cases h with
    | map es b en h1 h2 h3 h4 => exact ⟨.map _ b en ((hv 0).trans h1) h2 h3 h4, by funext b; simp only [OB, OB1, hv]⟩
  | arr =>
    cases h with
    | arr e sz ver xs wr g c cur fr h1 h2 h3 h4 h5 h6 h7 h8 h9 h10 => exact ⟨.arr _ _ _ _ _ g c cur fr (by rw [ht]; exact h1) h2 ((hv _).trans h3) h4 h5 h6 h7 h8 h9 h10, by funext b; simp only [OB, OB1, hv]⟩
  | siter =>
    cases h with
    | siter s pos r h1 h2 h3 => exact ⟨.siter _ _ r ((hv 0).trans h1) h2 h3, by funext b; simp only [OB, OB1, hv]⟩
  | hp =>
    cases h with
    | hp m h1 => exact ⟨.hp _ h1, rfl⟩

theorem c5x {w : World} {I : Imm} {ν ν' : Nu} {ρ : List Nat} {m k : Nat} (hn : ndup ρ = true) (hρ : ∀ (i j : Nat), ρ[i]? = some j → j < m) (hk : ν'.n = k) (hk' : ρ.length ≤ k) {i j : Nat} (hi : rn ρ m i = j) {o o' : AO} (h : OR E w I ν' i o) (hr : RnF (rn ρ m) o o') :
    OR E w I (nuF ρ m k ν ν') j o' ∧ ∀ b, OB (nuF ρ m k ν ν') j o' b → OB ν' i o b := by
  obtain ⟨ht, hv⟩ := b8j (ν := ν) (ν' := ν') (k := k) hn hρ hi
  cases hr with
  | forget => exact ⟨.gone, fun b h => h.elim⟩
  | of hr =>
    cases hr with
    | gone => exact ⟨.gone, fun b h => h⟩
    | @box xs ys tyo hb =>
      obtain ⟨g1, g2, g3⟩ := hb.get
      cases h with
      | box _ _ b vs ty h1 h2 h3 h4 h5 h6 h7 =>
        refine ⟨.box ys tyo b vs ty ((hv 0).trans h1) h2 h3 (by omega) (fun q x v hx hv' => ?_) h6 h7, fun b' h => by simpa only [OB, OB1, hv] using h⟩
        obtain ⟨y, hy, hxy⟩ := g3 q x hx
        exact c5v hn hρ hk hk' (h5 q y v hy hv') hxy
    | row =>
      cases h with
      | row e sz ver fz xs inner h1 h2 h3 h4 h5 h6 => exact ⟨.row _ _ _ _ _ inner (ht.trans h1) h2 (by rw [hv]; exact h3) h4 h5 (by rw [hv]; exact h6), fun b' h => by simpa only [OB, OB1, hv] using h⟩
    | map =>
      cases h with
      | map es b en h1 h2 h3 h4 => exact ⟨.map _ b en ((hv 0).trans h1) h2 h3 h4, fun b' h => by simpa only [OB, OB1, hv] using h⟩
    | arr =>
      cases h with
      | arr e sz ver xs wr g c cur fr h1 h2 h3 h4 h5 h6 h7 h8 h9 h10 => exact ⟨.arr _ _ _ _ _ g c cur fr (by rw [ht]; exact h1) h2 ((hv _).trans h3) h4 h5 h6 h7 h8 h9 h10, fun b' h => by simpa only [OB, OB1, hv] using h⟩
    | siter =>
      cases h with
      | siter s pos r h1 h2 h3 => exact ⟨.siter _ _ r ((hv 0).trans h1) h2 h3, fun b' h => by simpa only [OB, OB1, hv] using h⟩
    | hp =>
      cases h with
      | hp m h1 => exact ⟨.hp _ h1, fun b' h => h⟩

theorem c5s {w : World} {I : Imm} {ν : Nu} {ρ : List Nat} {os : List AO} (hh : HR E I ν H w) (hp : PickO (rn ρ H.length) H ρ os) (hn : ndup ρ = true) :
    HR (E.at 0) I (nuC ρ ν) os w ∧ ∀ b, FB (nuC ρ ν) os b → ∃ (i j : Nat) (o' : AO), ρ[i]? = some j ∧ H[j]? = some o' ∧ OB ν j o' b := by
  obtain ⟨g1, g2⟩ := hp.get
  have hob : ∀ (i : Nat) o, os[i]? = some o → ∃ (j : Nat) (o' : AO), ρ[i]? = some j ∧ H[j]? = some o' ∧ OR E w I (nuC ρ ν) i o ∧ OB (nuC ρ ν) i o = OB ν j o' := fun i o ho => by
    obtain ⟨j, o', h1, h2, h3⟩ := g2 i o ho
    have := c5y (E := E) hh.n h1 (hh.obj j o' h2) h3
    exact ⟨j, o', h1, h2, this.1, this.2⟩
  refine ⟨⟨by simp [nuC, g1], hh.below, hh.base, hh.imm, fun i o ho => ?_, fun i i' o o' b h1 h2 e1 e2 => ?_⟩, fun b ⟨i, o, ho, hb⟩ => ?_⟩
  · obtain ⟨j, o', _, _, h3, _⟩ := hob i o ho
    exact OR.env (E := E) (F := E.at 0) rfl h3
  · obtain ⟨j, q, k1, k2, _, k4⟩ := hob i o h1
    obtain ⟨j', q', l1, l2, _, l4⟩ := hob i' o' h2
    have := hh.disj j j' q q' b k2 l2 (k4 ▸ e1) (l4 ▸ e2)
    subst this
    exact b5k hn i i' j k1 l1
  · obtain ⟨j, q, k1, k2, _, k4⟩ := hob i o ho
    exact ⟨i, j, q, k1, k2, k4 ▸ hb⟩

theorem b6q {w w' : World} {I I' : Imm} {ν ν' : Nu} {ρ : List Nat} {os os' H' : List AO} (hh : HR E I ν H w) (hp : PickO (rn ρ H.length) H ρ os) (hn : ndup ρ = true)
    (hh' : HR (E.at 0) I' ν' os' w') (hfr : FR os.length w I (nuC ρ ν) os w' I' ν' os') (hput : PutO (rn ρ H.length) ρ os' H H') :
    ν.le (nuF ρ H.length os'.length ν ν') ∧ HR E I' (nuF ρ H.length os'.length ν ν') H' w' ∧ FR E.k w I ν H w' I' (nuF ρ H.length os'.length ν ν') H' := by
  obtain ⟨p1, p2, p3, p4, p5⟩ := hput.get hn
  have hρ : ∀ (i j : Nat), ρ[i]? = some j → j < H.length := fun i j h => (p3 i j h).1
  obtain ⟨_, hfb⟩ := c5s hh hp hn
  have hol : ρ.length = os.length := hp.get.1
  have hle : ν.le (nuF ρ H.length os'.length ν ν') := by
    have hag : ∀ (i j : Nat), ρ[i]? = some j → ν.top j ≤ ν'.top i ∧ ∀ ver, ver ≤ ν.top j → ν'.val i ver = ν.val j ver := fun i j h => by
      have hi : i < ρ.length := (List.getElem?_eq_some_iff.1 h).1
      obtain ⟨_, a2, a3⟩ := hfr.ag i (by omega) hi
      simp only [nuC, h, Option.getD_some] at a2 a3
      exact ⟨a2, a3⟩
    refine ⟨by simp only [nuF, hh.n]; omega, fun id hi => ?_, fun id ver hi hv => ?_⟩
    · simp only [nuF]
      cases e : invR ρ id with
      | some i => exact (hag i id (a3v e)).1
      | none => simp only []; rw [if_pos (by rw [← hh.n]; exact hi)]; exact Nat.le_refl _
    · simp only [nuF]
      cases e : invR ρ id with
      | some i => exact (hag i id (a3v e)).2 ver hv
      | none => simp only []; rw [if_pos (by rw [← hh.n]; exact hi)]
  have hkeep : ∀ (j : Nat) o b, H[j]? = some o → (∀ i : Nat, ρ[i]? ≠ some j) → OB ν j o b → ¬ FB (nuC ρ ν) os b := fun j o b hj hne hb hf => by
    obtain ⟨i, j', o', h1, h2, h3⟩ := hfb b hf
    have := hh.disj j j' o o' b hj h2 hb h3
    subst this
    exact hne i h1
  have hcase : ∀ (j : Nat) o, H'[j]? = some o → (j < H.length ∧ (∀ i : Nat, ρ[i]? ≠ some j) ∧ H[j]? = some o) ∨ ∃ (i : Nat) (q : AO), os'[i]? = some q ∧ rn ρ H.length i = j ∧ RnF (rn ρ H.length) q o := fun j o ho => by
    rcases Nat.lt_or_ge j H.length with hj | hj
    · cases e : invR ρ j with
      | none => exact .inl ⟨hj, a6k e, by rw [← p4 j hj (a6k e)]; exact ho⟩
      | some i =>
        obtain ⟨_, q, o', h1, h2, h3⟩ := p3 i j (a3v e)
        rw [ho] at h2
        injection h2 with h2
        subst h2
        exact .inr ⟨i, q, h1, c0p (a3v e), h3⟩
    · obtain ⟨q, h1, h2⟩ := p5 j o hj ho
      exact .inr ⟨_, q, h1, by rw [b5d (by omega)]; omega, h2⟩
  have hB : ∀ (i j : Nat) q o, os'[i]? = some q → rn ρ H.length i = j → RnF (rn ρ H.length) q o → OR E w' I' (nuF ρ H.length os'.length ν ν') j o ∧ ∀ b, OB (nuF ρ H.length os'.length ν ν') j o b → OB ν' i q b := fun i j q o h1 h2 h3 =>
    c5x hn hρ hh'.n p1 h2 (OR.env (E := E.at 0) (F := E) rfl (hh'.obj i q h1)) h3
  have hold : ∀ (j : Nat) o, H[j]? = some o → OB (nuF ρ H.length os'.length ν ν') j o = OB ν j o := fun j o h => a9g (hh.obj j o h) hle (hh.idlt h)
  refine ⟨hle, ⟨by simp only [nuF]; rw [p2], hh'.below, hh'.base, hh'.imm, fun j o ho => ?_, fun j j' o o' b h1 h2 e1 e2 => ?_⟩, ⟨hfr.imm, hfr.size, fun b o h => ?_, fun b hb hnf => ?_, fun b ⟨j, o, ho, hb⟩ => ?_, hle.ag _, fun j _ h => ?_⟩⟩
  · rcases hcase j o ho with ⟨h1, h2, h3⟩ | ⟨i, q, h1, h2, h3⟩
    · have hor := hh.obj j o h3
      refine hor.mono hfr.imm hle (hh.idlt h3) ?_ (fun b hb => hfr.keep b (a4w hor hb).1 (hkeep j o b h3 h2 hb)) (fun b o' hb hi => ?_)
      · simp only [nuF]
        cases e : invR ρ j with
        | some i => exact absurd (a3v e) (h2 i)
        | none => simp only []; rw [if_pos h1]
      · rcases hfr.new b o' hi with k | k | k
        · exact k
        · exact absurd k (hkeep j o b h3 h2 hb)
        · have := (a4w hor hb).1; omega
    · exact (hB i j q o h1 h2 h3).1
  · rcases hcase j o h1 with ⟨a1, a2, a3⟩ | ⟨i, q, a1, a2, a3⟩ <;> rcases hcase j' o' h2 with ⟨b1, b2, b3⟩ | ⟨i', q', b1, b2, b3⟩
    · rw [hold j o a3] at e1
      rw [hold j' o' b3] at e2
      exact hh.disj j j' o o' b a3 b3 e1 e2
    · rw [hold j o a3] at e1
      have e2' := (hB i' j' q' o' b1 b2 b3).2 b e2
      rcases hfr.foot b ⟨i', q', b1, e2'⟩ with k | k
      · exact absurd k (hkeep j o b a3 a2 e1)
      · have := (a4w (hh.obj j o a3) e1).1; omega
    · rw [hold j' o' b3] at e2
      have e1' := (hB i j q o a1 a2 a3).2 b e1
      rcases hfr.foot b ⟨i, q, a1, e1'⟩ with k | k
      · exact absurd k (hkeep j' o' b b3 b2 e2)
      · have := (a4w (hh.obj j' o' b3) e2).1; omega
    · have := hh'.disj i i' q q' b a1 b1 ((hB i j q o a1 a2 a3).2 b e1) ((hB i' j' q' o' b1 b2 b3).2 b e2)
      subst this
      exact a2.symm.trans b2
  · rcases hfr.new b o h with k | k | k
    · exact .inl k
    · obtain ⟨i, j, o', h1, h2, h3⟩ := hfb b k
      exact .inr (.inl ⟨j, o', h2, h3⟩)
    · exact .inr (.inr k)
  · refine hfr.keep b hb fun hf => hnf ?_
    obtain ⟨i, j, o', h1, h2, h3⟩ := hfb b hf
    exact ⟨j, o', h2, h3⟩
  · rcases hcase j o ho with ⟨h1, h2, h3⟩ | ⟨i, q, h1, h2, h3⟩
    · rw [hold j o h3] at hb
      exact .inl ⟨j, o, h3, hb⟩
    · rcases hfr.foot b ⟨i, q, h1, (hB i j q o h1 h2 h3).2 b hb⟩ with k | k
      · obtain ⟨i', j', o', k1, k2, k3⟩ := hfb b k
        exact .inl ⟨j', o', k2, k3⟩
      · exact .inr k
  · have hj := (List.getElem?_eq_some_iff.1 h).1
    cases e : invR ρ j with
    | none => exact ⟨by simp only [nuF, e]; rw [if_pos hj], by rw [p4 j hj (a6k e)]; exact h⟩
    | some i =>
      have hi := (List.getElem?_eq_some_iff.1 (a3v e)).1
      obtain ⟨_, q, o', h1, h2, h3⟩ := p3 i j (a3v e)
      have hos : os[i]? = some .gone := by
        have hi' : i < os.length := by omega
        obtain ⟨j0, o0, g1, g2, g3⟩ := hp.get.2 i os[i] (List.getElem?_eq_getElem hi')
        rw [a3v e] at g1
        injection g1 with g1
        subst g1
        rw [h] at g2
        injection g2 with g2
        subst g2
        rw [List.getElem?_eq_getElem hi']
        generalize os[i] = q0 at g3
        cases g3
        rfl
      obtain ⟨t1, t2⟩ := hfr.gone i (by omega) hos
      rw [h1] at t2
      injection t2 with t2
      subst t2
      have h4 : o' = .gone := by
        cases h3 with
        | of h3 => cases h3; rfl
        | forget => rfl
      subst h4
      refine ⟨?_, h2⟩
      simp only [nuF, e]
      rw [t1]
      simp only [nuC, a3v e, Option.getD_some]

theorem a0q (ρ : List Nat) {f : Operand} {asq : List Operand} {tys : Array TypeId} {g : Nat} [fn : FN E.P g] {caps xs ys : List AV} {os : List AO} {R : AV → List AO → Prop} {ty : TypeId} {pos : String} {after : Array Edge} {d : Nat}
    (hf : ev sl f = some (.fn g caps)) (ha : evs sl asq = some xs) (spec : ACalls (E.at 0) g ys os R) (hx : RnL (rn ρ H.length) ys (xs ++ caps)) (hp : PickO (rn ρ H.length) H ρ os) (hn : ndup ρ = true) (hd : Nat.blt d N = true)
    (h : ∀ rv os', R rv os' → ∃ rv' H', Rn (rn ρ H.length) rv rv' ∧ PutO (rn ρ H.length) ρ os' H H' ∧ AL E N ops Q rest ⟨(d, rv') :: sl, H'⟩) : AL E N ops Q (⟨some d, .call { callee := .value f, args := asq.toArray, argTypes := tys }, ty, pos, after, none⟩ :: rest) ⟨sl, H⟩ := by
  intro I ν a w hs w0 I0 ν0 o0 hf0
  obtain ⟨cvs, e1, e2, e3⟩ := b9a (a2p hs.sl hf)
  obtain ⟨e4, e5⟩ := b5p hs.sl asq ha
  refine wpList_plain rfl fun K hK => ?_
  unfold Oper.wp
  have hrun : (execOp a.eval ⟨some d, .call { callee := .value f, args := asq.toArray, argTypes := tys }, ty, pos, after, none⟩).run E.P w = .ok (.enter g (asq.map a.eval ++ cvs).toArray) w := by
    simp [execOp, resolve, e1, Deferred.ofValue, invoke, a5i]
  rw [hrun, Oper.upon_enter]
  have hargs := a5s (T := VR w I ν) (p := xs) (q := caps) (r := asq.map a.eval) (s := cvs) (by simp [e4]) e5 e3
  have hh := hs.hr
  obtain ⟨x1, x2, x3⟩ := hx.get
  refine (spec I (nuC ρ ν) w (asq.map a.eval ++ cvs) (c5s hh hp hn).1 (by rw [x1]; simp [e4, e2]) (fun j x v h1 h2 => ?_)).mono ?_
  · obtain ⟨y, hy, hxy⟩ := x2 j x h1
    exact c5p hh.n (hargs j y v hy h2) hxy
  rintro e w' ⟨rv, os', I', ν', v, hR, rfl, hv, hh', hfr⟩
  obtain ⟨rv', H', hrv, hput, hal⟩ := h rv os' hR
  obtain ⟨p1, p2, p3, p4, p5⟩ := hput.get hn
  obtain ⟨hle, hr2, hf2⟩ := b6q hh hp hn hh' hfr hput
  have hv2 := c5v (ν := ν) hn (fun i j h => (p3 i j h).1) hh'.n p1 hv hrv
  exact hK _ _ (hal I' _ _ w' ⟨hr2, (hs.sl.mono hfr.imm hle).put d hv2 (by rw [hs.nt]; simpa [Nat.blt_eq] using hd), hs.df, by simp [Act.put, hs.nt]⟩ w0 I0 ν0 o0 (hf0.trans hf2))
end
end Go.Proofs.YtkljmljkiodnpaaGreatDoor.L

namespace Go.Proofs.YtkljmljkiodnpaaGreatDoor.L
open Go Go.RowKit

inductive KD where
  | one (k : SK)
  | agg (ks : List SK)
class KK (P : Program) (t : Nat) (kd : outParam KD) : Prop where
  out : match kd with
    | .one (.int k) => P.underlying t = some (.int k)
    | .one .bool => P.underlying t = some .bool
    | .one .str => P.underlying t = some .string
    | .agg ks => EQ P t ks
instance {P : Program} {t n b : Nat} {k : IntKind} {z : Value} [ti : TI P t (.int k) n b z] : KK P t (.one (.int k)) := ⟨ti.u⟩
instance {P : Program} {t n b : Nat} {z : Value} [ti : TI P t .string n b z] : KK P t (.one .str) := ⟨ti.u⟩
instance {P : Program} {t : Nat} {ks : List SK} [e : EQ P t ks] : KK P t (.agg ks) := ⟨e⟩

inductive OKk : KD → AV → Prop where
  | int {k : IntKind} {n : Int} : OKk (.one (.int k)) (.int k n)
  | bool {b : Bool} : OKk (.one .bool) (.bool b)
  | str {s : List UInt8} : OKk (.one .str) (.str s)
  | agg {ks : List SK} {cs : List AV} (h : OfK ks cs) : OKk (.agg ks) (.agg cs)

def keq : AV → AV → Bool
  | .int _ m, .int _ n => decide (m = n)
  | .bool m, .bool n => decide (m = n)
  | .str m, .str n => decide (m = n)
  | .agg cs, .agg ds => eqC cs ds
  | _, _ => false

theorem c5c {ks : List SK} : ∀ {cs ds : List AV}, OfK ks cs → OfK ks ds → eqC cs ds = true → cs = ds := by
  induction ks with
  | nil => intro cs ds h1 h2 _; cases h1; cases h2; rfl
  | cons k ks ih =>
    intro cs ds h1 h2 h
    cases h1 with
    | int h1 => cases h2 with
      | int h2 => simp only [eqC, Bool.and_eq_true, decide_eq_true_eq] at h; rw [h.1, ih h1 h2 h.2]
    | bool h1 => cases h2 with
      | bool h2 => simp only [eqC, Bool.and_eq_true, decide_eq_true_eq] at h; rw [h.1, ih h1 h2 h.2]
    | str h1 => cases h2 with
      | str h2 => simp only [eqC, Bool.and_eq_true, decide_eq_true_eq] at h; rw [h.1, ih h1 h2 h.2]
theorem c5a {kd : KD} {x y : AV} (hx : OKk kd x) (hy : OKk kd y) (h : keq x y = true) : x = y := by
  cases hx with
  | int => cases hy with
    | int => simp only [keq, decide_eq_true_eq] at h; rw [h]
  | bool => cases hy with
    | bool => simp only [keq, decide_eq_true_eq] at h; rw [h]
  | str => cases hy with
    | str => simp only [keq, decide_eq_true_eq] at h; rw [h]
  | agg hx => cases hy with
    | agg hy => rw [c5c hx hy h]
inductive KV : KD → AV → Value → Prop where
  | int {k : IntKind} {n : Int} : KV (.one (.int k)) (.int k n) (.int k n)
  | bool {b : Bool} : KV (.one .bool) (.bool b) (.bool b)
  | str {s : List UInt8} : KV (.one .str) (.str s) (.string ⟨s.toArray⟩)
  | agg {ks : List SK} {cs : List AV} {vs : List Value} (h : OfK ks cs) (hl : cs.length = vs.length) (hx : ∀ (w : World) (I : Imm) (j : Nat) x v, cs[j]? = some x → vs[j]? = some v → VR w I nu0 x v) : KV (.agg ks) (.agg cs) (.agg vs.toArray)

theorem OfK.get {ks : List SK} : ∀ {cs : List AV}, OfK ks cs → ∀ (j : Nat) x, cs[j]? = some x → (∃ k n, x = .int k n) ∨ (∃ b, x = .bool b) ∨ ∃ s, x = .str s := by
  induction ks with
  | nil => intro cs h j x hx; cases h; simp at hx
  | cons k ks ih =>
    intro cs h j x hx
    cases h with
    | int h => cases j with
      | zero => simp at hx; subst hx; exact .inl ⟨_, _, rfl⟩
      | succ j => exact ih h j x (by simpa using hx)
    | bool h => cases j with
      | zero => simp at hx; subst hx; exact .inr (.inl ⟨_, rfl⟩)
      | succ j => exact ih h j x (by simpa using hx)
    | str h => cases j with
      | zero => simp at hx; subst hx; exact .inr (.inr ⟨_, rfl⟩)
      | succ j => exact ih h j x (by simpa using hx)

theorem b8q {w : World} {I : Imm} {ν : Nu} {kd : KD} {x : AV} {v : Value} (hx : OKk kd x) (hv : VR w I ν x v) : KV kd x v := by
  cases hx with
  | int => rw [hv.int_inv]; exact .int
  | bool => rw [hv.bool_inv]; exact .bool
  | str => rw [hv.str_inv]; exact .str
  | agg hx =>
    obtain ⟨vs, rfl, hl, h⟩ := b1j hv
    refine .agg hx hl fun w' I' j x v h1 h2 => ?_
    have h3 := h j x v h1 h2
    rcases hx.get j x h1 with ⟨k, n, rfl⟩ | ⟨b, rfl⟩ | ⟨s, rfl⟩
    · rw [h3.int_inv]; exact .pure (.int _ _)
    · rw [h3.bool_inv]; exact .pure (.bool _)
    · rw [h3.str_inv]; exact .pure (.str _)
theorem KV.ok {kd : KD} {x : AV} {v : Value} (h : KV kd x v) : OKk kd x := by
  cases h with
  | int => exact .int
  | bool => exact .bool
  | str => exact .str
  | agg h _ _ => exact .agg h
theorem KV.vr {kd : KD} {x : AV} {v : Value} (h : KV kd x v) (w : World) (I : Imm) : VR w I nu0 x v := by
  cases h with
  | int => exact .pure (.int _ _)
  | bool => exact .pure (.bool _)
  | str => exact .pure (.str _)
  | agg h hl hx => exact .agg _ _ hl (hx w I)
theorem KV.det {kd : KD} {x : AV} {v u : Value} (h : KV kd x v) (k : KV kd x u) : v = u := by
  cases h with
  | int => cases k; rfl
  | bool => cases k; rfl
  | str => cases k; rfl
  | @agg ks cs vs h hl hx =>
    cases k with
    | @agg _ _ us _ hl' hx' =>
      have : vs = us := by
        apply List.ext_getElem?
        intro j
        rcases Nat.lt_or_ge j cs.length with hj | hj
        · have e1 := List.getElem?_eq_getElem hj
          have e2 : vs[j]? = some vs[j] := List.getElem?_eq_getElem (by omega)
          have e3 : us[j]? = some us[j] := List.getElem?_eq_getElem (by omega)
          have p := hx default (fun _ _ => False) j _ _ e1 e2
          have q := hx' default (fun _ _ => False) j _ _ e1 e3
          rw [e2, e3]
          rcases h.get j _ e1 with ⟨k, n, e⟩ | ⟨b, e⟩ | ⟨s, e⟩ <;> rw [e] at p q
          · rw [p.int_inv, q.int_inv]
          · rw [p.bool_inv, q.bool_inv]
          · rw [p.str_inv, q.str_inv]
        · rw [List.getElem?_eq_none (by omega), List.getElem?_eq_none (by omega)]
      rw [this]
theorem KV.bits {kd : KD} {x : AV} {v : Value} (h : KV kd x v) : Instr.sameBits 10000 v v = true := by
  cases h with
  | int => simp [Instr.sameBits]
  | bool => simp [Instr.sameBits]
  | str => simp only [Instr.sameBits]; rw [MapKept.bytes_beq]
  | @agg ks cs vs h hl hx =>
    simp only [Instr.sameBits, beq_self_eq_true, Bool.true_and, List.toList_toArray, List.all_eq_true]
    rintro ⟨p, q⟩ hpq
    obtain ⟨j, hj⟩ := List.mem_iff_getElem?.1 hpq
    rw [List.getElem?_zip_eq_some] at hj
    obtain ⟨h1, h2⟩ := hj
    rw [h1] at h2
    injection h2 with h2
    simp only at h2
    subst h2
    have hlt : j < cs.length := by rw [hl]; exact (List.getElem?_eq_some_iff.1 h1).1
    have e1 := List.getElem?_eq_getElem hlt
    have p := hx default (fun _ _ => False) j _ _ e1 h1
    rcases h.get j _ e1 with ⟨k, n, e⟩ | ⟨b, e⟩ | ⟨s, e⟩ <;> rw [e] at p
    · have p := p.int_inv; simp only at p; subst p; simp [Instr.sameBits]
    · have p := p.bool_inv; simp only at p; subst p; simp [Instr.sameBits]
    · have p := p.str_inv; simp only at p; subst p; simp only [Instr.sameBits]; rw [MapKept.bytes_beq]

theorem b9h {P : Program} {w : World} {em : Bool} {i m : Nat} {fs : List Field} {ks : List SK} (h : EqF P i fs ks) : ∀ {cs : List AV} {xs : List Value}, OfK ks cs →
    (∀ (j : Nat) x, cs[j]? = some x → ∃ v, xs[i + j]? = some v ∧ VR w (fun _ _ => False) nu0 x v) →
    (forIn fs PUnit.unit fun f _ => (do if f.name ≠ "_" then Instr.checkKey em (m + 1) f.type (← part f.type xs.toArray f.offset)
                                        pure (ForInStep.yield PUnit.unit) : Sem (ForInStep PUnit))).run P w = .ok PUnit.unit w := by
  have one : ∀ {f : Field} {fs : List Field} {dd : TypeDesc} {v : Value} {xs : List Value}, (f.name == "_") = false → P.underlying f.type = some dd → aggD dd = false → xs[f.offset]? = some v → MapKept.IsKey dd v →
      (forIn fs PUnit.unit fun f _ => (do if f.name ≠ "_" then Instr.checkKey em (m + 1) f.type (← part f.type xs.toArray f.offset)
                                          pure (ForInStep.yield PUnit.unit) : Sem (ForInStep PUnit))).run P w = .ok PUnit.unit w →
      (forIn (f :: fs) PUnit.unit fun f _ => (do if f.name ≠ "_" then Instr.checkKey em (m + 1) f.type (← part f.type xs.toArray f.offset)
                                                 pure (ForInStep.yield PUnit.unit) : Sem (ForInStep PUnit))).run P w = .ok PUnit.unit w := by
    intro f fs dd v xs hn hu hg hv hk hr
    have hn' : f.name ≠ "_" := by simpa using hn
    have hp : (part f.type xs.toArray f.offset).run P w = .ok v w := by
      have hi : (isAgg f.type).run P w = .ok false w := a3k hu hg w
      simp only [part, Sem.run_bind, hi, Result.andThen_ok, Bool.false_eq_true, if_false]
      simp [hv]
    rw [List.forIn_cons]
    simp only [hn', ne_eq, not_false_eq_true, if_true, Sem.run_bind, hp, Result.andThen_ok, MapKept.run_checkKey hu hk em m, Sem.run_pure]
    exact hr
  induction h with
  | nil => intro cs xs hc _; simp
  | @int i f fs ks k hn ho ht h ih =>
    intro cs xs hc h1
    cases hc with
    | int hc =>
    obtain ⟨v, p1, p2⟩ := h1 0 _ rfl
    have p3 := p2.int_inv
    subst p3; subst ho
    exact one (v := .int k _) hn ht rfl (by simpa using p1) (by simp [MapKept.IsKey]) (ih hc fun j x hj => by
      have := h1 (j + 1) x (by simpa using hj); rwa [show f.offset + (j + 1) = f.offset + 1 + j by omega] at this)
  | @bool i f fs ks hn ho ht h ih =>
    intro cs xs hc h1
    cases hc with
    | bool hc =>
    obtain ⟨v, p1, p2⟩ := h1 0 _ rfl
    have p3 := p2.bool_inv
    subst p3; subst ho
    exact one (v := .bool _) hn ht rfl (by simpa using p1) (by simp [MapKept.IsKey]) (ih hc fun j x hj => by
      have := h1 (j + 1) x (by simpa using hj); rwa [show f.offset + (j + 1) = f.offset + 1 + j by omega] at this)
  | @str i f fs ks hn ho ht h ih =>
    intro cs xs hc h1
    cases hc with
    | str hc =>
    obtain ⟨v, p1, p2⟩ := h1 0 _ rfl
    have p3 := p2.str_inv
    subst p3; subst ho
    exact one (v := .string _) hn ht rfl (by simpa using p1) (by simp [MapKept.IsKey]) (ih hc fun j x hj => by
      have := h1 (j + 1) x (by simpa using hj); rwa [show f.offset + (j + 1) = f.offset + 1 + j by omega] at this)

theorem a8w {P : Program} {t : Nat} {kd : KD} [h : KK P t kd] {x : AV} {v : Value} (hv : KV kd x v) (em : Bool) (w : World) : (Instr.checkKey em 10000 t v).run P w = .ok () w := by
  have ho := h.out
  cases hv with
  | int => exact MapKept.run_checkKey ho (by simp [MapKept.IsKey]) em 9999
  | bool => exact MapKept.run_checkKey ho (by simp [MapKept.IsKey]) em 9999
  | str => exact MapKept.run_checkKey ho (by simp [MapKept.IsKey]) em 9999
  | @agg ks cs vs hc hl hx =>
    have ho : EQ P t ks := ho
    obtain ⟨fs, hu, he⟩ := ho.out
    rw [show (10000 : Nat) = 9999 + 1 from rfl, Instr.checkKey]
    simp only [Sem.run_bind, run_underlying hu, Result.andThen_ok]
    rw [← Array.forIn_toList]
    have := b9h (w := w) (em := em) (m := 9998) he (xs := vs) hc fun j x hj => by
      have hlt : j < vs.length := by rw [← hl]; exact (List.getElem?_eq_some_iff.1 hj).1
      exact ⟨_, by rw [Nat.zero_add]; exact List.getElem?_eq_getElem hlt, hx w _ j x _ hj (List.getElem?_eq_getElem hlt)⟩
    simp at this ⊢
    rw [this]
    rfl

def mfind (x : AV) : List (AV × AV) → Nat → Option Nat
  | [], _ => none
  | p :: r, i => if keq x p.1 = true then some i else mfind x r (i + 1)
def mget (x : AV) : List (AV × AV) → Option AV
  | [] => none
  | p :: r => if keq x p.1 = true then some p.2 else mget x r
def mset (x y : AV) : List (AV × AV) → List (AV × AV)
  | [] => [(x, y)]
  | p :: r => if keq x p.1 = true then (p.1, y) :: r else p :: mset x y r
theorem a8q (x : AV) : ∀ (es : List (AV × AV)) (i : Nat), (match mfind x es i with
    | none => mget x es = none ∧ ∀ y, mset x y es = es ++ [(x, y)]
    | some j => ∃ k p, j = i + k ∧ es[k]? = some p ∧ keq x p.1 = true ∧ mget x es = some p.2 ∧ ∀ y, mset x y es = es.set k (p.1, y)) := by
  intro es
  induction es with
  | nil => intro i; exact ⟨rfl, fun y => rfl⟩
  | cons p r ih =>
    intro i
    unfold mfind mget
    by_cases h : keq x p.1 = true
    · rw [if_pos h]
      simp only []
      exact ⟨0, p, rfl, rfl, h, by rw [if_pos h], fun y => by simp [mset, h]⟩
    · rw [if_neg h]
      have := ih (i + 1)
      split at this
      · rename_i e
        exact ⟨by rw [if_neg h]; exact this.1, fun y => by simp [mset, h, this.2 y]⟩
      · rename_i j e
        obtain ⟨k, q, h1, h2, h3, h4, h5⟩ := this
        exact ⟨k + 1, q, by omega, by simpa using h2, h3, by rw [if_neg h]; exact h4, fun y => by simp [mset, h, h5 y]⟩

theorem a7t {P : Program} {t : Nat} {kd : KD} [h : KK P t kd] {w0 : World} {I : Imm} {x : AV} {v : Value} (hv : KV kd x v) (w : World) {es : List (AV × AV)} {en : List MapEntry} (hr : MapRel w0 I es en) (hk : ∀ p ∈ es, OKk kd p.1) :
    (match mfind x es 0 with
    | none => (Instr.findKey t v en).run P w = .ok none w
    | some i => ∃ p e, es[i]? = some p ∧ en[i]? = some e ∧ keq x p.1 = true ∧ (Instr.findKey t v en).run P w = .ok (some (i, e.val)) w) := by
  have ho := h.out
  have rel : ∀ (i : Nat) p e, es[i]? = some p → en[i]? = some e → KV kd p.1 e.key := fun i p e h1 h2 => b8q (hk p (List.mem_of_getElem? h1)) (hr.2 i p e h1 h2).2.1
  have hlen := hr.1
  have scal : ∀ (dd : TypeDesc), P.underlying t = some dd → (∀ y u, KV kd y u → Instr.sameNow dd v u = some (keq x y)) → (match mfind x es 0 with
    | none => (Instr.findKey t v en).run P w = .ok none w
    | some i => ∃ p e, es[i]? = some p ∧ en[i]? = some e ∧ keq x p.1 = true ∧ (Instr.findKey t v en).run P w = .ok (some (i, e.val)) w) := by
    intro dd hu hs
    have key : ∀ (es : List (AV × AV)) (en : List MapEntry) (i : Nat), es.length = en.length → (∀ (i : Nat) p e, es[i]? = some p → en[i]? = some e → KV kd p.1 e.key) → (match mfind x es i with
        | none => Instr.findNow dd v en i = some none
        | some j => ∃ k p e, j = i + k ∧ es[k]? = some p ∧ en[k]? = some e ∧ keq x p.1 = true ∧ Instr.findNow dd v en i = some (some (j, e.val))) := by
      intro es
      induction es with
      | nil => intro en i hl _; cases en with
        | nil => rfl
        | cons e en => simp at hl
      | cons p r ih =>
        intro en i hl hr
        cases en with
        | nil => simp at hl
        | cons e en =>
          have h1 := hs _ _ (hr 0 p e rfl rfl)
          unfold mfind
          by_cases hq : keq x p.1 = true
          · rw [if_pos hq]
            rw [hq] at h1
            exact ⟨0, p, e, rfl, rfl, rfl, hq, by simp [Instr.findNow, h1]⟩
          · rw [if_neg hq]
            have hq' : keq x p.1 = false := by simpa using hq
            rw [hq'] at h1
            have := ih en (i + 1) (by simpa using hl) (fun i p e a b => hr (i + 1) p e (by simpa using a) (by simpa using b))
            split at this
            · rename_i e1
              simpa [Instr.findNow, h1] using this
            · rename_i j e1
              obtain ⟨k, q, e2, a1, a2, a3, a4, a5⟩ := this
              exact ⟨k + 1, q, e2, by omega, by simpa using a2, by simpa using a3, a4, by simpa [Instr.findNow, h1] using a5⟩
    have := key es en 0 hlen rel
    split at this
    · rename_i e1
      exact MapKept.run_findKey hu this
    · rename_i j e1
      obtain ⟨k, p, e, a1, a2, a3, a4, a5⟩ := this
      rw [Nat.zero_add] at a1
      subst a1
      exact ⟨p, e, a2, a3, a4, MapKept.run_findKey hu a5⟩
  cases hv with
  | @int k n => exact scal _ ho fun y u hy => by cases hy; simp [Instr.sameNow, keq]; rw [Bool.eq_iff_iff]; simp
  | @bool b => exact scal _ ho fun y u hy => by cases hy; simp [Instr.sameNow, keq]; rw [Bool.eq_iff_iff]; simp
  | @str s => exact scal _ ho fun y u hy => by cases hy; simp only [Instr.sameNow, keq, Option.some.injEq]; rw [Bool.eq_iff_iff, MapKept.bytes_beq]; simp
  | @agg ks cs vs hc hl hx =>
    have ho : EQ P t ks := ho
    obtain ⟨fs, hu, he⟩ := ho.out
    have key : ∀ (es : List (AV × AV)) (en : List MapEntry) (i : Nat), es.length = en.length → (∀ (i : Nat) p e, es[i]? = some p → en[i]? = some e → KV (.agg ks) p.1 e.key) → (match mfind (.agg cs) es i with
        | none => (Instr.findAsking t (.agg vs.toArray) en i).run P w = .ok none w
        | some j => ∃ k p e, j = i + k ∧ es[k]? = some p ∧ en[k]? = some e ∧ keq (.agg cs) p.1 = true ∧ (Instr.findAsking t (.agg vs.toArray) en i).run P w = .ok (some (j, e.val)) w) := by
      intro es
      induction es with
      | nil => intro en i hl _; cases en with
        | nil => simp [mfind, Instr.findAsking]
        | cons e en => simp at hl
      | cons p r ih =>
        intro en i hl' hr
        cases en with
        | nil => simp at hl'
        | cons e en =>
          have hkv := hr 0 p e rfl rfl
          obtain ⟨p1, p2⟩ := p
          obtain ⟨ek, ev, eb⟩ := e
          simp only at hkv
          cases hkv with
          | @agg _ ds us hd hdl hdx =>
          have h1 : (Op.equal t (.agg vs.toArray) (.agg us.toArray)).run P w = .ok (eqC cs ds) w := ho.run (w := w) (w0 := w) (I := fun _ _ => False) (ν := nu0) hc hd hl hdl (hx w _) (hdx w _)
          unfold mfind
          by_cases hq : keq (.agg cs) (.agg ds) = true
          · rw [if_pos hq]
            have hq2 : eqC cs ds = true := hq
            rw [hq2] at h1
            exact ⟨0, _, _, rfl, rfl, rfl, hq, by simp [Instr.findAsking, h1]⟩
          · rw [if_neg hq]
            have hq' : eqC cs ds = false := by simpa [keq] using hq
            rw [hq'] at h1
            have := ih en (i + 1) (by simpa using hl') (fun i p e a b => hr (i + 1) p e (by simpa using a) (by simpa using b))
            split at this
            · rename_i e1
              simpa [Instr.findAsking, h1] using this
            · rename_i j e1
              obtain ⟨k, q, e2, a1, a2, a3, a4, a5⟩ := this
              exact ⟨k + 1, q, e2, by omega, by simpa using a2, by simpa using a3, a4, by simpa [Instr.findAsking, h1] using a5⟩
    have hfk : (Instr.findKey t (.agg vs.toArray) en).run P w = (Instr.findAsking t (.agg vs.toArray) en).run P w := run_findKey_eq w (by simp [hu]) _ _
    have := key es en 0 hlen rel
    rw [hfk]
    split at this
    · rename_i e1
      exact this
    · rename_i j e1
      obtain ⟨k, p, e, a1, a2, a3, a4, a5⟩ := this
      rw [Nat.zero_add] at a1
      subst a1
      exact ⟨p, e, a2, a3, a4, a5⟩
end Go.Proofs.YtkljmljkiodnpaaGreatDoor.L

namespace Go.Proofs.YtkljmljkiodnpaaGreatDoor.L
open Go Go.RowKit

section
variable {E : Env} {N : Nat} {ops : Array Oper} {Q : Exit → St → Prop} {sl : Slots} {H H' : List AO} {rest : List Oper} {I : Imm} {ν : Nu} {w : World}

theorem c4y {id : Nat} {v : Value} (h : VR w I ν (.mp id) v) : ∃ r, v = .map (some r) ∧ id < ν.n ∧ ν.val id 0 = .map (some r) := by
  cases h with
  | pure h => cases h
  | mp _ r hi hs => exact ⟨r, rfl, hi, hs⟩
theorem b0z (hh : HR E I ν H w) {id : Nat} {es : List (AV × AV)} (hH : H[id]? = some (.map es)) {v : Value} (h : VR w I ν (.mp id) v) : ∃ b en, v = .map (some b) ∧ E.base ≤ b ∧ w.heap[b]? = some (.map (List.toArray en) en.length) ∧ MapRel w I es en ∧ OB ν id (.map es) b ∧ ν.val id 0 = .map (some b) := by
  obtain ⟨r, rfl, _, hs⟩ := c4y h
  cases hh.obj id _ hH with
  | map _ b en hv hb hhp hr =>
    rw [hs] at hv
    injection hv with hv; injection hv with hv
    subst hv
    exact ⟨r, en, rfl, hb, hhp, hr, by simp only [OB, OB1, hs], hs⟩

theorem map_set (hh : HR E I ν H w) {id b : Nat} {es es' : List (AV × AV)} {en en' : List MapEntry} (hH : H[id]? = some (.map es)) (hb : E.base ≤ b) (hv : ν.val id 0 = .map (some b)) (hhp : w.heap[b]? = some (.map en.toArray en.length)) (hr : MapRel w I es' en') :
    HR E I ν (H.set id (.map es')) { w with heap := w.heap.setIfInBounds b (.map en'.toArray en'.length) } ∧ FR E.k w I ν H { w with heap := w.heap.setIfInBounds b (.map en'.toArray en'.length) } I ν (H.set id (.map es')) := by
  have h2 := MapKept.heap_set (o' := .map en'.toArray en'.length) hhp
  have hlt : b < w.heap.size := (Array.getElem?_eq_some_iff.1 hhp).1
  have hOB : OB ν id (.map es) b := by simp only [OB, OB1, hv]
  have hI : ImmLe w I { w with heap := w.heap.setIfInBounds b (.map en'.toArray en'.length) } I := ImmLe.heap hh fun k hk ⟨o, ho⟩ => h2.2 k fun e => by
    subst e
    obtain ⟨u, hu⟩ := hh.imm k o ho
    simp [World.cell?, hhp] at hu
  refine hh.set hH (fun e => by cases e) (Nu.le.refl ν) rfl (fun _ _ => rfl) (hh.below.trans ⟨rfl, rfl, rfl, by simp, fun k hk => h2.2 k (by omega)⟩) (by simp) (fun k _ hk => h2.2 k (fun e => hk (by rw [e]; exact hOB))) hI
    (.map es' b en' hv hb h2.1 (hr.mono hI)) (fun b' h => .inl (by simpa only [OB, OB1, hv] using h))

theorem b6w {x : AV} {v : Value} (h : VR w I ν x v) (hc : clB 0 x = true) : VR w I nu0 x v := h.cut (k := 0) ⟨Nat.zero_le _, fun _ h => by omega, fun _ _ h => by omega⟩ hc

theorem b0e {t : Nat} {m : Nat} {ty : TypeId} {pos : String} {after : Array Edge} {d : Nat} (hm : H.length = m) (hH : Snoc H (.map []) H') (hd : Nat.blt d N = true)
    (h : AL E N ops Q rest ⟨(d, .mp m) :: sl, H'⟩) : AL E N ops Q (⟨some d, .makeMap t none, ty, pos, after, none⟩ :: rest) ⟨sl, H⟩ := by
  subst hm
  rw [hH.eq] at h
  refine a5l hd (fun I ν a w hh hs => ?_) h
  have := hh.push (o := .map []) (t := 0) (f := fun _ => .map (some w.heap.size)) (w' := w.alloc (.map #[] 0)) (hh.below.alloc hh.base _) (by simp) (fun k hk => Below.heap_alloc w _ k hk)
    (.map [] w.heap.size [] (by simp [Nu.add]) hh.base (a4p w _) ⟨rfl, fun i p x h => by simp at h⟩) (fun b hb => by simp [OB, OB1, Nu.add] at hb; omega)
  refine ⟨_, _, _, fun o ho => ?_, this.1, this.2.1, ν.add_le _ _, .mp _ w.heap.size (by simp [Nu.add, hh.n]) (by simp [Nu.add, hh.n])⟩
  have hr : (Instr.makeMap t none).run E.P w = .ok (.map (some w.heap.size)) (w.alloc (.map #[] 0)) := rfl
  simp [execOp, ho, hr]

theorem a7k {t kt et : Nat} {n b : Nat} {z : Value} {kd : KD} [tm : TI E.P t (.map kt et) n b z] [kk : KK E.P kt kd] {m x y : Operand} {id : Nat} {es es' : List (AV × AV)} {xv yv : AV} {ty : TypeId} {pos : String} {after : Array Edge}
    (hm : ev sl m = some (.mp id)) (hx : ev sl x = some xv) (hy : ev sl y = some yv) (hU : Upd id H (.map es) (.map es') H') (hxo : OKk kd xv) (hyc : clB 0 yv = true) (hk : ∀ p ∈ es, OKk kd p.1) (he : mset xv yv es = es')
    (h : AL E N ops Q rest ⟨sl, H'⟩) : AL E N ops Q (⟨none, .mapUpdate t m x y, ty, pos, after, none⟩ :: rest) ⟨sl, H⟩ := by
  subst he
  obtain ⟨hid, hset⟩ := hU.eq
  subst hset
  refine b1h (fun I ν a w hh hs => ?_) h
  have hm' := a2p hs hm
  obtain ⟨mv, hmv⟩ : ∃ v, a.eval m = v := ⟨_, rfl⟩
  rw [hmv] at hm'
  obtain ⟨bk, en, rfl, hb, hhp, hr, hob, hval⟩ := b0z hh hid hm'
  have hxv := b8q hxo (a2p hs hx)
  have hyv := b6w (a2p hs hy) hyc
  have hf := a7t (P := E.P) (t := kt) hxv w hr hk
  have hg := a8q xv es 0
  have hck := a8w (P := E.P) (t := kt) hxv false w
  cases hfi : mfind xv es 0 with
  | none =>
    rw [hfi] at hf hg
    simp only at hf hg
    have hnew : MapRel w I (mset xv yv es) (en ++ [(⟨a.eval x, a.eval y, en.length⟩ : MapEntry)]) := by
      rw [hg.2 yv]
      refine ⟨by simp [hr.1], fun i p e h1 h2 => ?_⟩
      rcases Nat.lt_or_ge i es.length with hi | hi
      · rw [List.getElem?_append_left hi] at h1
        rw [List.getElem?_append_left (by rw [← hr.1]; exact hi)] at h2
        exact hr.2 i p e h1 h2
      · have h3 : i = es.length := by
          have := (List.getElem?_eq_some_iff.1 h1).1
          simp at this
          omega
        subst h3
        rw [List.getElem?_append_right (Nat.le_refl _), Nat.sub_self] at h1
        rw [List.getElem?_append_right (by rw [hr.1]; exact Nat.le_refl _), hr.1, Nat.sub_self] at h2
        simp at h1 h2
        subst h1; subst h2
        exact ⟨hr.1.symm, hxv.vr w I, hyv⟩
    have := map_set hh hid hb hval hhp hnew
    refine ⟨_, ν, fun o ho => ?_, this.1, this.2, Nu.le.refl ν⟩
    have hrun : (Instr.mapUpdate t (.map (some bk)) (a.eval x) (a.eval y)).run E.P w = .ok () { w with heap := w.heap.setIfInBounds bk (.map (en ++ [(⟨a.eval x, a.eval y, en.length⟩ : MapEntry)]).toArray (en ++ [(⟨a.eval x, a.eval y, en.length⟩ : MapEntry)]).length) } := by
      unfold Instr.mapUpdate
      simp only [Sem.run_bind, tm.und, Result.andThen_ok, MapKept.run_getObj_map hhp, hck, List.toList_toArray, hf]
      rw [MapKept.run_setObj_map _ hhp]
      simp
    simp [execOp, ho, hmv, hrun]
  | some i =>
    rw [hfi] at hf hg
    simp only at hf hg
    obtain ⟨p, e, p1, p2, p3, p4⟩ := hf
    obtain ⟨k, q, q1, q2, q3, q4, q5⟩ := hg
    rw [Nat.zero_add] at q1
    subst q1
    rw [p1] at q2
    injection q2 with q2
    subst q2
    have hpo := hk p (List.mem_of_getElem? p1)
    have hxe := c5a hxo hpo p3
    have hke : a.eval x = e.key := hxv.det (by rw [hxe]; exact b8q hpo (hr.2 i p e p1 p2).2.1)
    have hnew : MapRel w I (mset xv yv es) (en.set i (⟨a.eval x, a.eval y, e.born⟩ : MapEntry)) := by
      rw [q5 yv]
      refine ⟨by simp [hr.1], fun j p' e' h1 h2 => ?_⟩
      by_cases hj : j = i
      · subst hj
        rw [List.getElem?_set_self (List.getElem?_eq_some_iff.1 p1).1] at h1
        rw [List.getElem?_set_self (List.getElem?_eq_some_iff.1 p2).1] at h2
        simp at h1 h2
        subst h1; subst h2
        exact ⟨(hr.2 j p e p1 p2).1, by rw [hke]; exact (hr.2 j p e p1 p2).2.1, hyv⟩
      · rw [List.getElem?_set_ne (Ne.symm hj)] at h1 h2
        exact hr.2 j p' e' h1 h2
    have := map_set hh hid hb hval hhp hnew
    refine ⟨_, ν, fun o ho => ?_, this.1, this.2, Nu.le.refl ν⟩
    have hrun : (Instr.mapUpdate t (.map (some bk)) (a.eval x) (a.eval y)).run E.P w = .ok () { w with heap := w.heap.setIfInBounds bk (.map (en.set i (⟨a.eval x, a.eval y, e.born⟩ : MapEntry)).toArray (en.set i (⟨a.eval x, a.eval y, e.born⟩ : MapEntry)).length) } := by
      have hst : (Instr.keyThatStays e.key (a.eval x)).run E.P w = .ok (a.eval x) w := by
        unfold Instr.keyThatStays
        rw [hke, (by rw [← hke]; exact hxv.bits : Instr.sameBits 10000 e.key e.key = true)]
        simp
      have hmod : en.toArray.modify i (fun q => { q with key := a.eval x, val := a.eval y }) = (en.set i (⟨a.eval x, a.eval y, e.born⟩ : MapEntry)).toArray := by
        apply Array.ext'
        simp only [Array.toList_modify, List.toList_toArray]
        rw [List.modify_eq_set]
        simp [p2]
      unfold Instr.mapUpdate
      simp only [Sem.run_bind, tm.und, Result.andThen_ok, MapKept.run_getObj_map hhp, hck, List.toList_toArray, p4]
      have hg : (((en.toArray[i]?).map (·.key)).getD (a.eval x)) = e.key := by simp [p2]
      rw [hg, hst]
      simp only [Result.andThen_ok]
      rw [MapKept.run_setObj_map _ hhp, hmod]
      simp
    simp [execOp, ho, hmv, hrun]

theorem b2l {t kt et : Nat} {n b : Nat} {z : Value} {kd : KD} [tm : TI E.P t (.map kt et) n b z] [kk : KK E.P kt kd] {m x : Operand} {id : Nat} {es : List (AV × AV)} {xv yv : AV}
    (hm : ev sl m = some (.mp id)) (hx : ev sl x = some xv) (hH : H[id]? = some (.map es)) (hxo : OKk kd xv) (hk : ∀ p ∈ es, OKk kd p.1) (hg : mget xv es = some yv) : OV E sl H (.lookup t m x true) (.tup [yv, .bool true]) ∧ OV E sl H (.lookup t m x false) yv := by
  have key : ∀ c : Bool, ∀ I ν a w, HR E I ν H w → SlR w I ν sl a → ∃ v, VR w I nu0 yv v ∧ ∀ (o : Oper) w', o.op = .lookup t m x c → Still ν H I w w' → (execOp a.eval o).run E.P w' = .ok (.value (if c then .tuple #[v, .bool true] else v)) w' := by
    intro c I ν a w hh hs
    have hm' := a2p hs hm
    obtain ⟨mv, hmv⟩ : ∃ v, a.eval m = v := ⟨_, rfl⟩
    rw [hmv] at hm'
    obtain ⟨bk, en, rfl, hb, hhp, hr, hob, hval⟩ := b0z hh hH hm'
    have hxv := b8q hxo (a2p hs hx)
    have hg' := a8q xv es 0
    cases hfi : mfind xv es 0 with
    | none =>
      rw [hfi] at hg'
      simp only at hg'
      rw [hg'.1] at hg
      cases hg
    | some i =>
      have hf := a7t (P := E.P) (t := kt) hxv w hr hk
      rw [hfi] at hg' hf
      simp only at hg' hf
      obtain ⟨p, e, p1, p2, p3, _⟩ := hf
      obtain ⟨k, q, q1, q2, q3, q4, q5⟩ := hg'
      rw [Nat.zero_add] at q1
      subst q1
      rw [p1] at q2
      injection q2 with q2
      subst q2
      rw [hg] at q4
      injection q4 with q4
      subst q4
      refine ⟨e.val, (hr.2 i p e p1 p2).2.2, fun o w' ho hbel => ?_⟩
      have hhp' : w'.heap[bk]? = some (.map en.toArray en.length) := (hbel.obj id _ bk hH hob).trans hhp
      have hf' := a7t (P := E.P) (t := kt) hxv w' hr hk
      rw [hfi] at hf'
      simp only at hf'
      obtain ⟨p', e', r1, r2, _, r4⟩ := hf'
      rw [p2] at r2
      injection r2 with r2
      subst r2
      have hrun : (Instr.lookup t (.map (some bk)) (a.eval x) c).run E.P w' = .ok (if c then .tuple #[e.val, .bool true] else e.val) w' := by
        unfold Instr.lookup
        simp only [Sem.run_bind, tm.und, Result.andThen_ok, MapKept.run_getObj_map hhp', Sem.run_pure, a8w (P := E.P) (t := kt) hxv _ w', List.toList_toArray, r4]
      simp [execOp, ho, hmv, hrun]
  refine ⟨fun I ν a w hh hs => ?_, fun I ν a w hh hs => ?_⟩
  · obtain ⟨v, hv, hr⟩ := key true I ν a w hh hs
    refine ⟨_, .tup [yv, .bool true] [v, .bool true] rfl (fun j x u h1 h2 => ?_), fun o w' ho hb => by simpa using hr o w' ho hb⟩
    match j, h1, h2 with
    | 0, h1, h2 => simp at h1 h2; subst h1; subst h2; exact hv.mono (ImmLe.refl _ _) (a9y ν)
    | 1, h1, h2 => simp at h1 h2; subst h1; subst h2; exact .pure (.bool _)
  · obtain ⟨v, hv, hr⟩ := key false I ν a w hh hs
    exact ⟨v, hv.mono (ImmLe.refl _ _) (a9y ν), fun o w' ho hb => by simpa using hr o w' ho hb⟩

theorem a7f {t kt et : Nat} {n b n' b' : Nat} {z z' : Value} {dd : Bool} {kd : KD} [tm : TI E.P t (.map kt et) n b z] [kk : KK E.P kt kd] [te : TZ E.P et dd n' b' z'] {m x : Operand} {id : Nat} {es : List (AV × AV)} {xv zv : AV}
    (hm : ev sl m = some (.mp id)) (hx : ev sl x = some xv) (hH : H[id]? = some (.map es)) (hxo : OKk kd xv) (hk : ∀ p ∈ es, OKk kd p.1) (hg : mget xv es = none) (hz : constAV z' = some zv) : OV E sl H (.lookup t m x true) (.tup [zv, .bool false]) ∧ OV E sl H (.lookup t m x false) zv := by
  have key : ∀ c : Bool, ∀ I ν a w, HR E I ν H w → SlR w I ν sl a → ∀ (o : Oper) w', o.op = .lookup t m x c → Still ν H I w w' → (execOp a.eval o).run E.P w' = .ok (.value (if c then .tuple #[z', .bool false] else z')) w' := by
    intro c I ν a w hh hs
    have hm' := a2p hs hm
    obtain ⟨mv, hmv⟩ : ∃ v, a.eval m = v := ⟨_, rfl⟩
    rw [hmv] at hm'
    obtain ⟨bk, en, rfl, hb, hhp, hr, hob, hval⟩ := b0z hh hH hm'
    have hxv := b8q hxo (a2p hs hx)
    have hg' := a8q xv es 0
    cases hfi : mfind xv es 0 with
    | some i =>
      rw [hfi] at hg'
      simp only at hg'
      obtain ⟨k, q, q1, q2, q3, q4, q5⟩ := hg'
      rw [hg] at q4
      cases q4
    | none =>
      intro o w' ho hbel
      have hhp' : w'.heap[bk]? = some (.map en.toArray en.length) := (hbel.obj id _ bk hH hob).trans hhp
      have hf' := a7t (P := E.P) (t := kt) hxv w' hr hk
      rw [hfi] at hf'
      simp only at hf'
      have hrun : (Instr.lookup t (.map (some bk)) (a.eval x) c).run E.P w' = .ok (if c then .tuple #[z', .bool false] else z') w' := by
        unfold Instr.lookup
        simp only [Sem.run_bind, tm.und, Result.andThen_ok, MapKept.run_getObj_map hhp', Sem.run_pure, a8w (P := E.P) (t := kt) hxv _ w', List.toList_toArray, hf', te.zero]
      simp [execOp, ho, hmv, hrun]
  refine ⟨fun I ν a w hh hs => ?_, fun I ν a w hh hs => ?_⟩
  · refine ⟨_, .tup [zv, .bool false] [z', .bool false] rfl (fun j x u h1 h2 => ?_), fun o w' ho hb => by simpa using key true I ν a w hh hs o w' ho hb⟩
    match j, h1, h2 with
    | 0, h1, h2 => simp at h1 h2; subst h1; subst h2; exact a4q hz
    | 1, h1, h2 => simp at h1 h2; subst h1; subst h2; exact .pure (.bool _)
  · exact ⟨_, a4q hz, fun o w' ho hb => by simpa using key false I ν a w hh hs o w' ho hb⟩

theorem a3b {t kt et : Nat} {n b : Nat} {z : Value} {kd : KD} [tm : TI E.P t (.map kt et) n b z] [kk : KK E.P kt kd] {m x : Operand} {id : Nat} {es : List (AV × AV)} {xv yv : AV}
    (hm : ev sl m = some (.mp id)) (hx : ev sl x = some xv) (hH : H[id]? = some (.map es)) (hxo : OKk kd xv) (hk : ∀ p ∈ es, OKk kd p.1) (hg : mget xv es = some yv) : OV E sl H (.lookup t m x true) (.tup [yv, .bool true]) := (b2l hm hx hH hxo hk hg).1
theorem a2t {t kt et : Nat} {n b : Nat} {z : Value} {kd : KD} [tm : TI E.P t (.map kt et) n b z] [kk : KK E.P kt kd] {m x : Operand} {id : Nat} {es : List (AV × AV)} {xv yv : AV}
    (hm : ev sl m = some (.mp id)) (hx : ev sl x = some xv) (hH : H[id]? = some (.map es)) (hxo : OKk kd xv) (hk : ∀ p ∈ es, OKk kd p.1) (hg : mget xv es = some yv) : OV E sl H (.lookup t m x false) yv := (b2l hm hx hH hxo hk hg).2
theorem a9w {t kt et : Nat} {n b n' b' : Nat} {z z' : Value} {dd : Bool} {kd : KD} [tm : TI E.P t (.map kt et) n b z] [kk : KK E.P kt kd] [te : TZ E.P et dd n' b' z'] {m x : Operand} {id : Nat} {es : List (AV × AV)} {xv zv : AV}
    (hm : ev sl m = some (.mp id)) (hx : ev sl x = some xv) (hH : H[id]? = some (.map es)) (hxo : OKk kd xv) (hk : ∀ p ∈ es, OKk kd p.1) (hg : mget xv es = none) (hz : constAV z' = some zv) : OV E sl H (.lookup t m x true) (.tup [zv, .bool false]) := (a7f hm hx hH hxo hk hg hz).1
theorem a5c {t kt et : Nat} {n b n' b' : Nat} {z z' : Value} {dd : Bool} {kd : KD} [tm : TI E.P t (.map kt et) n b z] [kk : KK E.P kt kd] [te : TZ E.P et dd n' b' z'] {m x : Operand} {id : Nat} {es : List (AV × AV)} {xv zv : AV}
    (hm : ev sl m = some (.mp id)) (hx : ev sl x = some xv) (hH : H[id]? = some (.map es)) (hxo : OKk kd xv) (hk : ∀ p ∈ es, OKk kd p.1) (hg : mget xv es = none) (hz : constAV z' = some zv) : OV E sl H (.lookup t m x false) zv := (a7f hm hx hH hxo hk hg hz).2
theorem c1u {t kt et : Nat} {n b : Nat} {z : Value} [tm : TI E.P t (.map kt et) n b z] {x : Operand} {id m : Nat} {es : List (AV × AV)} {ty : TypeId} {pos : String} {after : Array Edge} {d : Nat} (hx : ev sl x = some (.mp id)) (hH : H[id]? = some (.map es)) (hm : H.length = m) (hS : Snoc H (.iter id es.length []) H') (hd : Nat.blt d N = true)
    (h : AL E N ops Q rest ⟨(d, .op m 0) :: sl, H'⟩) : AL E N ops Q (⟨some d, .range t x, ty, pos, after, none⟩ :: rest) ⟨sl, H⟩ := by
  subst hm
  rw [hS.eq] at h
  refine a5l hd (fun I ν a w hh hs => ?_) h
  have hm' := a2p hs hx
  obtain ⟨mv, hmv⟩ : ∃ v, a.eval x = v := ⟨_, rfl⟩
  rw [hmv] at hm'
  obtain ⟨bk, en, rfl, hb, hhp, hr, hob, hval⟩ := b0z hh hH hm'
  have hid := hh.idlt hH
  have := hh.push (o := .iter id es.length []) (t := 0) (f := fun _ => .pointer (some ⟨w.heap.size, 0, none⟩)) (w' := w.alloc (.mapIter (some bk) en.length #[] en.length)) (hh.below.alloc hh.base _) (by simp) (fun k hk => Below.heap_alloc w _ k hk)
    (.iter id es.length [] w.heap.size bk (by simp [Nu.add]) hh.base (by simp only [Nu.add]; omega) (by simp only [Nu.add]; rw [if_neg (by omega)]; exact hval) (by rw [hr.1]; exact a4p w _) hid) (fun b hb => by simp [OB, OB1, Nu.add] at hb; omega)
  refine ⟨_, _, _, fun o ho => ?_, this.1, this.2.1, ν.add_le _ _, .op _ 0 w.heap.size (by simp [Nu.add, hh.n]) (by simp [Nu.add, hh.n])⟩
  have hrun := run_range_map (P := E.P) w t kt et bk en.toArray en.length tm.u hhp
  simp [execOp, ho, hmv, hrun]

def leftN (n : Nat) (seen : List Nat) : Nat := ((List.range n).filter fun i => !seen.contains i).length
theorem c1c {n i : Nat} {seen : List Nat} (hi : i < n) (hs : seen.contains i = false) : leftN n (seen ++ [i]) < leftN n seen := by
  unfold leftN
  have h1 : (List.range n).filter (fun j => !(seen ++ [i]).contains j) = ((List.range n).filter fun j => !seen.contains j).filter fun j => !(j == i) := by
    rw [List.filter_filter]
    congr 1
    funext j
    simp only [List.contains_append, Bool.not_or]
    rw [Bool.and_comm]
    congr 2
    rw [Bool.eq_iff_iff]
    simp
  rw [h1]
  have hm : i ∈ (List.range n).filter fun j => !seen.contains j := by simp [hi]; simpa using hs
  exact List.length_filter_lt_length_iff_exists.2 ⟨i, hm, by simp⟩

theorem b5n (hh : HR E I ν H w) {iid mid n : Nat} {seen : List Nat} {es : List (AV × AV)} (hI : H[iid]? = some (.iter mid n seen)) (hH : H[mid]? = some (.map es)) (hn : n = es.length) {v : Value} (h : VR w I ν (.op iid 0) v) :
    ∃ r b en, v = .pointer (some ⟨r, 0, none⟩) ∧ E.base ≤ r ∧ r ≠ b ∧ ν.val iid 0 = .pointer (some ⟨r, 0, none⟩) ∧ ν.val mid 0 = .map (some b) ∧ mid < ν.n ∧ mid < iid ∧ w.heap[r]? = some (.mapIter (some b) (List.length en) seen.toArray en.length) ∧ w.heap[b]? = some (.map en.toArray en.length) ∧ MapRel w I es en := by
  cases h with
  | pure h => cases h
  | op _ _ r hi hs =>
    cases hh.obj iid _ hI with
    | iter _ _ _ r' b hv hb hm hmv hhp hlt =>
      rw [hs] at hv
      injection hv with hv; injection hv with hv; injection hv with hv
      subst hv
      cases hh.obj mid _ hH with
      | map _ b' en hv' hb' hhp' hr =>
        rw [hmv] at hv'
        injection hv' with hv'; injection hv' with hv'
        subst hv'
        rw [hn, hr.1] at hhp
        exact ⟨r, b, en, rfl, hb, (fun e => by rw [e, hhp'] at hhp; cases hhp), hs, hmv, hm, hlt, hhp, hhp', hr⟩

theorem c4b {it : Operand} {iid mid n : Nat} {seen : List Nat} {es : List (AV × AV)} {H' : Nat → List AO} {ty : TypeId} {pos : String} {after : Array Edge} {d : Nat} (hit : ev sl it = some (.op iid 0)) (hI : H[iid]? = some (.iter mid n seen)) (hH : H[mid]? = some (.map es)) (hn : n = es.length)
    (hU : ∀ i, Upd iid H (.iter mid n seen) (.iter mid n (seen ++ [i])) (H' i)) (hd : Nat.blt d N = true)
    (h0 : (∀ i, i < es.length → seen.contains i = true) → AL E N ops Q rest ⟨(d, .tup [.bool false]) :: sl, H⟩)
    (h1 : ∀ i p, es[i]? = some p → seen.contains i = false → AL E N ops Q rest ⟨(d, .tup [.bool true, p.1, p.2]) :: sl, H' i⟩) :
    AL E N ops Q (⟨some d, .next it false, ty, pos, after, none⟩ :: rest) ⟨sl, H⟩ := by
  intro I ν a w hs w0 I0 ν0 o0 hf0
  have hh := hs.hr
  have hit' := a2p hs.sl hit
  obtain ⟨iv, hiv⟩ : ∃ v, a.eval it = v := ⟨_, rfl⟩
  rw [hiv] at hit'
  obtain ⟨r, b, en, rfl, hb, hne, hval, hmv, hmn, hlt, hhr, hhb, hr⟩ := b5n hh hI hH hn hit'
  refine wpList_plain rfl fun K hK => ?_
  unfold Oper.wp
  have hborn : ∀ (i : Nat) e, en[i]? = some e → e.born = i := fun i e he => by
    have hi : i < es.length := by rw [hr.1]; exact (List.getElem?_eq_some_iff.1 he).1
    exact (hr.2 i _ e (List.getElem?_eq_getElem hi) he).1
  rcases run_next_at (P := E.P) w ty r b en.length en.length seen.toArray en.toArray en.length hhr hhb (fun x hx => by
    obtain ⟨i, hi⟩ := List.mem_iff_getElem?.1 hx
    rw [hborn i x hi]
    exact (List.getElem?_eq_some_iff.1 hi).1) (Nat.le_refl _) with ⟨hz, hrun⟩ | ⟨e, he, w1, hw1, hrun⟩
  · have hall : ∀ i, i < es.length → seen.contains i = true := fun i hi => by
      have hi' : i < en.length := by rw [← hr.1]; exact hi
      have := all_seen en.toArray seen.toArray hz en[i] (by simp)
      rw [hborn i _ (List.getElem?_eq_getElem hi')] at this
      simpa using this
    have hx : (execOp a.eval ⟨some d, .next it false, ty, pos, after, none⟩).run E.P w = .ok (.value (.tuple #[.bool false])) w := by simp [execOp, hiv, hrun]
    rw [hx]
    exact hK _ _ (h0 hall I ν _ w ⟨hh, hs.sl.put d (.tup [.bool false] [.bool false] rfl (fun j x v h1 h2 => by
      cases j with
      | zero => simp at h1 h2; subst h1; subst h2; exact .pure (.bool _)
      | succ j => simp at h1)) (by rw [hs.nt]; simpa [Nat.blt_eq] using hd), hs.df, by simp [Act.put, hs.nt]⟩ w0 I0 ν0 o0 hf0)
  · obtain ⟨hem, hes⟩ := mem_left he
    obtain ⟨i, hi⟩ := List.mem_iff_getElem?.1 hem
    have hi : en[i]? = some e := by simpa using hi
    have hie := hborn i e hi
    have hilt : i < es.length := by rw [hr.1]; exact (List.getElem?_eq_some_iff.1 hi).1
    obtain ⟨p, hp⟩ : ∃ p, es[i]? = some p := ⟨_, List.getElem?_eq_getElem hilt⟩
    obtain ⟨_, hk, hv⟩ := hr.2 i p e hp hi
    obtain ⟨hid, hset⟩ := (hU i).eq
    have hwh : w1.heap = w.heap := by rcases hw1 with rfl | rfl <;> rfl
    have hb1 : Below w.heap.size w w1 := by
      rcases hw1 with rfl | rfl
      · exact Below.refl _ _
      · exact (Below.refl _ _).drew
    obtain ⟨w2, hw2⟩ : ∃ w2, w2 = ChangeMaps.setBlock w1 r (.mapIter (some b) en.length (seen.toArray.push e.born) en.length) := ⟨_, rfl⟩
    rw [← hw2] at hrun
    have hset2 := MapKept.heap_set (o' := .mapIter (some b) en.length (seen.toArray.push e.born) en.length) hhr
    have hh2 : w2.heap[r]? = some (.mapIter (some b) en.length (seen ++ [i]).toArray en.length) := by
      rw [hw2]
      show (w1.heap.setIfInBounds r _)[r]? = _
      rw [hwh, hset2.1, hie]
      simp
    have hfar : ∀ k, k ≠ r → w2.heap[k]? = w.heap[k]? := fun k hk => by
      rw [hw2]
      show (w1.heap.setIfInBounds r _)[k]? = _
      rw [hwh]
      exact hset2.2 k hk
    have hsz : w2.heap.size = w.heap.size := by
      rw [hw2]
      show (w1.heap.setIfInBounds r _).size = _
      rw [hwh]
      simp
    have hOB : OB ν iid (.iter mid n seen) r := by simp only [OB, OB1, hval]
    have hbel : Below E.base E.w0 w2 := by
      refine (hh.below.trans (hb1.mono hh.base)).trans ?_
      rw [hw2]
      exact ⟨rfl, rfl, rfl, by simp [ChangeMaps.setBlock], fun k hk => by
        show (w1.heap.setIfInBounds r _)[k]? = _
        simp [show r ≠ k by omega]⟩
    have hIm : ImmLe w I w2 I := ImmLe.heap hh fun k hk ⟨o, ho⟩ => hfar k fun e => by
      subst e
      obtain ⟨u, hu⟩ := hh.imm k o ho
      simp [World.cell?, hhr] at hu
    have hnew := hh.set (o' := .iter mid n (seen ++ [i])) (w' := w2) hI (fun e => by cases e) (Nu.le.refl ν) rfl (fun _ _ => rfl) hbel (by omega) (fun k _ hk => hfar k (fun e => hk (by rw [e]; exact hOB))) hIm
      (.iter mid n (seen ++ [i]) r b hval hb hmn hmv (by rw [hn, hr.1]; exact hh2) hlt) (fun b' h => .inl (by simpa only [OB, OB1, hval] using h))
    rw [← hset] at hnew
    have hx : (execOp a.eval ⟨some d, .next it false, ty, pos, after, none⟩).run E.P w = .ok (.value (.tuple #[.bool true, e.key, e.val])) w2 := by simp [execOp, hiv, hrun]
    rw [hx]
    refine hK _ _ (h1 i p hp (by rw [hie] at hes; simpa using hes) I ν _ w2 ⟨hnew.1, (hs.sl.mono hnew.2.imm (Nu.le.refl ν)).put d (.tup [.bool true, p.1, p.2] [.bool true, e.key, e.val] rfl (fun j x v h1 h2 => ?_)) (by rw [hs.nt]; simpa [Nat.blt_eq] using hd), hs.df, by simp [Act.put, hs.nt]⟩ w0 I0 ν0 o0 (hf0.trans hnew.2))
    match j, h1, h2 with
    | 0, h1, h2 => simp at h1 h2; subst h1; subst h2; exact .pure (.bool _)
    | 1, h1, h2 => simp at h1 h2; subst h1; subst h2; exact hk.mono hIm (a9y ν)
    | 2, h1, h2 => simp at h1 h2; subst h1; subst h2; exact hv.mono hIm (a9y ν)
    | j + 3, h1, h2 => simp at h1

theorem c0v {it : Operand} {iid mid n i : Nat} {seen : List Nat} {es : List (AV × AV)} {p : AV × AV} (hit : ev sl it = some (.op iid 0)) (hI : H[iid]? = some (.iter mid n (seen ++ [i]))) (hH : H[mid]? = some (.map es)) (hn : n = es.length) (hp : es[i]? = some p) :
    OV E sl H (.entry it) (.tup [p.1, p.2]) := by
  intro I ν a w hh hs
  have hit' := a2p hs hit
  obtain ⟨iv, hiv⟩ : ∃ v, a.eval it = v := ⟨_, rfl⟩
  rw [hiv] at hit'
  obtain ⟨r, b, en, rfl, hb, hne, hval, hmv, hmn, hlt, hhr, hhb, hr⟩ := b5n hh hI hH hn hit'
  have hborn : ∀ (i : Nat) e, en[i]? = some e → e.born = i := fun i e he => by
    have hi : i < es.length := by rw [hr.1]; exact (List.getElem?_eq_some_iff.1 he).1
    exact (hr.2 i _ e (List.getElem?_eq_getElem hi) he).1
  have hi : i < en.length := by rw [← hr.1]; exact (List.getElem?_eq_some_iff.1 hp).1
  have he : en[i]? = some en[i] := List.getElem?_eq_getElem hi
  obtain ⟨h1, h2, h3⟩ := hr.2 i p _ hp he
  refine ⟨_, .tup [p.1, p.2] [en[i].key, en[i].val] rfl (fun j x v k1 k2 => ?_), fun o w' ho hbel => ?_⟩
  · match j, k1, k2 with
    | 0, k1, k2 => simp at k1 k2; subst k1; subst k2; exact h2.mono (ImmLe.refl _ _) (a9y ν)
    | 1, k1, k2 => simp at k1 k2; subst k1; subst k2; exact h3.mono (ImmLe.refl _ _) (a9y ν)
  · have hr' := (hbel.obj iid _ r hI (by simp only [OB, OB1, hval])).trans hhr
    have hb' := (hbel.obj mid _ b hH (by simp only [OB, OB1, hmv])).trans hhb
    have hrun := run_entry_at (P := E.P) w' r b en.length seen.toArray en.toArray en.length en[i] (by rw [hr', h1]; simp) hb' (by simp) (by
      have : en.map (·.born) = List.range en.length := by
        apply List.ext_getElem?
        intro x
        rw [List.getElem?_map]
        rcases Nat.lt_or_ge x en.length with hx | hx
        · rw [List.getElem?_eq_getElem hx, List.getElem?_range hx]
          simp only [Option.map_some]
          rw [hborn x _ (List.getElem?_eq_getElem hx)]
        · rw [List.getElem?_eq_none hx, List.getElem?_eq_none (by simpa using hx)]
          rfl
      show (en.map (·.born)).Nodup
      rw [this]
      exact List.nodup_range)
    simp [execOp, ho, hiv, hrun]
end
end Go.Proofs.YtkljmljkiodnpaaGreatDoor.L

namespace Go.Proofs.YtkljmljkiodnpaaGreatDoor.L
open Go Go.RowKit

section
variable {P : Program} {ops : Array Oper} {Q : Exit → Act → World → Prop} {md : Region.Mode} {S S' : Array Bool → World → Prop}

def wpAnyP (P : Program) (md : Region.Mode) (ops : Array Oper) (Q : Exit → Act → World → Prop) (S : Array Bool → World → Prop) : Nat → Array Bool → Act → World → Prop
  | 0, L, a, w => Region.ready md ops L = [] ∧ Q .normal a w
  | n + 1, L, a, w => (Region.ready md ops L = [] → Q .normal a w) ∧
    ∀ i ∈ Region.ready md ops L, wpOp P ops Q i (fun a' w' => S (L.setIfInBounds i true) w' ∧ wpAnyP P md ops Q S n (L.setIfInBounds i true) a' w') a w

theorem a9o : ∀ (n : Nat) (L : Array Bool) (a : Act) (w : World), wpAnyP P md ops Q S n L a w → wpAny P md ops Q n L a w
  | 0, _, _, _, h => h
  | n + 1, _, _, _, h => ⟨h.1, fun i hi => wpOp_mono (fun a' w' h' => a9o n _ a' w' h'.2) (h.2 i hi)⟩

def LLe (L L' : Array Bool) : Prop := ∀ k, L.getD k true = true → L'.getD k true = true
theorem LLe.set (L : Array Bool) (i : Nat) : LLe L (L.setIfInBounds i true) := fun k h => by
  by_cases e : i = k
  · subst e
    by_cases hi : i < L.size
    · simp [hi]
    · simp [hi]
  · rw [getD_set_ne true e]; exact h
theorem b4w (L : Array Bool) (i : Nat) : (L.setIfInBounds i true).getD i true = true := by
  by_cases hi : i < L.size
  · simp [hi]
  · simp [hi]

theorem a5w : ∀ (n : Nat) (L : Array Bool) (a : Act) (w : World), (∀ L' w', LLe L L' → S L' w' → S' L' w') → wpAnyP P md ops Q S n L a w → wpAnyP P md ops Q S' n L a w
  | 0, _, _, _, _, h => h
  | n + 1, L, _, _, hS, h => ⟨h.1, fun i hi => wpOp_mono (fun a' w' h' => ⟨hS _ _ (LLe.set L i) h'.1, a5w n _ a' w' (fun L' w' hl hs => hS L' w' (fun k hk => hl k (LLe.set L i k hk)) hs) h'.2⟩) (h.2 i hi)⟩

theorem b1l {i : Nat} {oi : Oper} {v : Value} {R : Array Bool} (hi : ops[i]? = some oi) (hsel : ∀ (j : Nat) (o : Oper) cs b, ops[j]? = some o → o.op ≠ .select cs b)
    (hQ : ∀ c a w, Q (.panic c) (a.put oi.dst v) w → Q (.panic c) a w) (hRs : R.size = ops.size) (hR : ∀ j ∈ Region.ready md ops R, j = i) (hS : ∀ L w, S (L.setIfInBounds i true) w ↔ S L w) :
    ∀ (n : Nat) (L : Array Bool) (a : Act) (w : World), L.size = ops.size → LLe L R →
      (∀ j oj, ops[j]? = some oj → j ≠ i → L.getD j true = false → (∀ e ∈ oj.after, Region.binds md e = true → e.on ≠ i) → oi.apart ops oj = true) →
      i ∈ Region.ready md ops L → YieldsIf P ops (fun w' => ∃ L', LLe L L' ∧ LLe L' R ∧ S L' w') oi v a → S L w →
      wpAnyP P md ops Q S n (L.setIfInBounds i true) (a.put oi.dst v) w → wpAnyP P md ops Q S (n + 1) L a w := by
  intro n
  induction n with
  | zero =>
    intro L a w hLs hLR _ hr hy hSL H
    refine ⟨fun h => (by rw [h] at hr; cases hr), fun j hj => ?_⟩
    by_cases hji : j = i
    · subst hji; exact hy.wpOp hi ⟨L, fun _ h => h, hLR, hSL⟩ ⟨(hS L w).2 hSL, H⟩
    · have := ready_mono hj hji
      rw [H.1] at this
      cases this
  | succ n ih =>
    intro L a w hLs hLR hfree hr hy hSL H
    refine ⟨fun h => (by rw [h] at hr; cases hr), fun j hj => ?_⟩
    by_cases hji : j = i
    · subst hji; exact hy.wpOp hi ⟨L, fun _ h => h, hLR, hSL⟩ ⟨(hS L w).2 hSL, H⟩
    · have h1 := H.2 j (ready_mono hj hji)
      obtain ⟨hjun, oj, hoj, hall⟩ := mem_ready.1 hj
      have hjs : j < L.size := by rw [hLs]; exact (Array.getElem?_eq_some_iff.1 hoj).1
      have hnot : ∀ e ∈ oj.after, Region.binds md e = true → e.on ≠ i := fun e he hb heq => by
        have h1 := hall e he hb
        have h0 := (mem_ready.1 hr).1
        rw [heq] at h1
        rcases Nat.lt_or_ge i L.size with h' | h'
        · simp [h'] at h0 h1; rw [h0] at h1; cases h1
        · simp [Array.getElem?_eq_none h'] at h1
      have hjR : R.getD j true = true := by
        cases hRj : R.getD j true with
        | true => rfl
        | false =>
          refine absurd (hR j (mem_ready.2 ⟨hRj, oj, hoj, fun e he hb => ?_⟩)) hji
          have h2 := hall e he hb
          have hlt : e.on < L.size := by
            rcases Nat.lt_or_ge e.on L.size with h' | h'
            · exact h'
            · simp [Array.getElem?_eq_none h'] at h2
          have h3 : L.getD e.on true = true := by simpa [hlt] using h2
          have h4 := hLR _ h3
          have hlt' : e.on < R.size := by rw [hRs, ← hLs]; exact hlt
          simpa [hlt'] using h4
      have hLR' : LLe (L.setIfInBounds j true) R := fun k hk => by
        by_cases e : j = k
        · subst e; exact hjR
        · rw [getD_set_ne true e] at hk; exact hLR k hk
      have h2 := wpOp_putIf hoj (hfree j oj hoj hji hjun hnot) (fun cs b => hsel i oi cs b hi) (fun cs b => hsel j oj cs b hoj) hQ hy h1
      refine wpOp_mono (fun a' w' h3 => ?_) h2
      have hc : (L.setIfInBounds i true).setIfInBounds j true = (L.setIfInBounds j true).setIfInBounds i true := Array.setIfInBounds_comm _ _ (Ne.symm hji)
      obtain ⟨k1, k2, k3⟩ := h3
      rw [hc] at k2 k3
      have k4 := (hS _ _).1 k2
      refine ⟨k4, ih (L.setIfInBounds j true) a' w' (by simpa using hLs) hLR' (fun k ok hk hki hun hno => ?_) (ready_mono hr (Ne.symm hji)) ?_ k4 k3⟩
      · refine hfree k ok hk hki ?_ hno
        by_cases hjk : j = k
        · subst hjk; exact hjun
        · rw [getD_set_ne true hjk] at hun; exact hun
      · exact k1.imp (fun ⟨g1, g2⟩ => ⟨g1, fun w2 ⟨L', l1, l2, l3⟩ => g2 w2 ⟨L', fun k hk => l1 k (LLe.set L j k hk), l2, l3⟩⟩) id

theorem c0c {o : Oper} {a : Act} {w : World} {K : Act → World → Prop} {Q' : Exit → Act → World → Prop} (h : ∀ e a w, e ≠ .normal → Q e a w → Q' e a w) (hh : o.wp P a w K Q) : o.wp P a w K Q' := by
  unfold Oper.wp at *
  generalize (execOp a.eval o).run P w = r at *
  cases r with
  | ok n w' =>
    cases n <;> simp only [Oper.upon] at hh ⊢ <;>
      first
        | exact hh
        | exact h _ _ _ (by simp) hh
        | exact Calls.mono hh (fun e w'' he => by cases e <;> first | exact he | exact h _ _ _ (by simp) he | exact he.imp fun a he => he.imp fun w he => h _ _ _ (by simp) he)
        | exact Rows.mono hh (fun _ _ he => he)
  | halt x w' => cases x <;> simp only [Oper.upon] at hh ⊢ <;> first | exact hh | exact h _ _ _ (by simp) hh
end

def inl (n : Nat) : List Nat → Bool
  | [] => false
  | x :: r => match Nat.beq x n with
    | true => true
    | false => inl n r
def gnl (G : List Nat) : Nat → List AO → List AO
  | _, [] => []
  | i, h :: hs => (match inl i G with
    | true => .gone
    | false => h) :: gnl G (i + 1) hs
def mkl (T : List Nat) : Nat → List AO → List AO
  | _, [] => []
  | i, h :: hs => (match inl i T with
    | true => h
    | false => .gone) :: mkl T (i + 1) hs
def rsl (T : List Nat) : Nat → List AO → List AO → List AO
  | _, [], ys => ys
  | _, _ :: _, [] => []
  | i, h :: hs, y :: ys => (match inl i T with
    | true => y
    | false => h) :: rsl T (i + 1) hs ys

theorem b8x (G : List Nat) : ∀ (H : List AO) (i k : Nat) o, (gnl G i H)[k]? = some o → o = .gone ∨ (inl (i + k) G = false ∧ H[k]? = some o) := by
  intro H
  induction H with
  | nil => intro i k o h; simp [gnl] at h
  | cons x r ih =>
    intro i k o h
    cases k with
    | zero =>
      simp only [gnl, List.getElem?_cons_zero, Option.some.injEq] at h
      split at h
      · exact .inl h.symm
      · rename_i e; subst h; exact .inr ⟨e, rfl⟩
    | succ k =>
      simp only [gnl, List.getElem?_cons_succ] at h
      rcases ih _ _ _ h with h | ⟨h1, h2⟩
      · exact .inl h
      · exact .inr ⟨by rw [← h1]; congr 1; omega, h2⟩
theorem c3q (G : List Nat) : ∀ (H : List AO) (i : Nat), (gnl G i H).length = H.length := by
  intro H
  induction H with
  | nil => intro i; rfl
  | cons x r ih => intro i; simp [gnl, ih]
theorem c3m (T : List Nat) : ∀ (H : List AO) (i : Nat), (mkl T i H).length = H.length := by
  intro H
  induction H with
  | nil => intro i; rfl
  | cons x r ih => intro i; simp [mkl, ih]
theorem b8l (T : List Nat) : ∀ (H : List AO) (i k : Nat) o, (mkl T i H)[k]? = some o → o = .gone ∨ (inl (i + k) T = true ∧ H[k]? = some o) := by
  intro H
  induction H with
  | nil => intro i k o h; simp [mkl] at h
  | cons x r ih =>
    intro i k o h
    cases k with
    | zero =>
      simp only [mkl, List.getElem?_cons_zero, Option.some.injEq] at h
      split at h
      · rename_i e; subst h; exact .inr ⟨e, rfl⟩
      · exact .inl h.symm
    | succ k =>
      simp only [mkl, List.getElem?_cons_succ] at h
      rcases ih _ _ _ h with h | ⟨h1, h2⟩
      · exact .inl h
      · exact .inr ⟨by rw [← h1]; congr 1; omega, h2⟩
theorem c0y (T : List Nat) : ∀ (H : List AO) (i k : Nat), k < H.length → inl (i + k) T = false → (mkl T i H)[k]? = some .gone := by
  intro H
  induction H with
  | nil => intro i k h; simp at h
  | cons x r ih =>
    intro i k h he
    cases k with
    | zero =>
      rw [Nat.add_zero] at he
      simp [mkl, he]
    | succ k =>
      simp only [mkl, List.getElem?_cons_succ]
      exact ih _ _ (by simpa using h) (by rw [← he]; congr 1; omega)
theorem b8k (T : List Nat) : ∀ (H : List AO) (i k : Nat), H[k]? = some .gone → (mkl T i H)[k]? = some .gone := by
  intro H
  induction H with
  | nil => intro i k h; simp at h
  | cons x r ih =>
    intro i k h
    cases k with
    | zero =>
      simp only [List.getElem?_cons_zero, Option.some.injEq] at h
      subst h
      simp only [mkl, List.getElem?_cons_zero, Option.some.injEq]
      split <;> rfl
    | succ k =>
      simp only [mkl, List.getElem?_cons_succ]
      exact ih _ _ (by simpa using h)
theorem c3b (T : List Nat) : ∀ (H ys : List AO) (i : Nat), H.length ≤ ys.length → (rsl T i H ys).length = ys.length := by
  intro H
  induction H with
  | nil => intro ys i _; simp [rsl]
  | cons x r ih =>
    intro ys i h
    cases ys with
    | nil => simp at h
    | cons y ys => simp [rsl, ih ys (i + 1) (by simpa using h)]
theorem b3r (T : List Nat) : ∀ (H ys : List AO) (i k : Nat), H.length ≤ ys.length → (k < H.length ∧ inl (i + k) T = false ∧ (rsl T i H ys)[k]? = H[k]?) ∨ ((H.length ≤ k ∨ inl (i + k) T = true) ∧ (rsl T i H ys)[k]? = ys[k]?) := by
  intro H
  induction H with
  | nil => intro ys i k _; exact .inr ⟨.inl (Nat.zero_le _), by simp [rsl]⟩
  | cons x r ih =>
    intro ys i k h
    cases ys with
    | nil => simp at h
    | cons y ys =>
      cases k with
      | zero =>
        rw [Nat.add_zero]
        cases e : inl i T with
        | true => exact .inr ⟨.inr rfl, by simp [rsl, e]⟩
        | false => exact .inl ⟨by simp, rfl, by simp [rsl, e]⟩
      | succ k =>
        have e : i + 1 + k = i + (k + 1) := by omega
        rcases ih ys (i + 1) k (by simpa using h) with ⟨h1, h2, h3⟩ | ⟨h1, h3⟩
        · exact .inl ⟨by simpa using h1, by rw [← e]; exact h2, by simpa [rsl] using h3⟩
        · refine .inr ⟨?_, by simpa [rsl] using h3⟩
          rcases h1 with h1 | h1
          · exact .inl (by simpa using h1)
          · exact .inr (by rw [← e]; exact h1)

section
variable {E : Env} {I I1 : Imm} {ν ν1 : Nu} {w w1 : World} {H H1 : List AO}

theorem HR.less {H' : List AO} (hh : HR E I ν H w) (hl : H'.length = H.length) (hm : ∀ (id : Nat) o, H'[id]? = some o → o = .gone ∨ H[id]? = some o) : HR E I ν H' w := by
  refine ⟨by rw [hl]; exact hh.n, hh.below, hh.base, hh.imm, fun id o h => ?_, fun id id' o o' b h1 h2 e1 e2 => ?_⟩
  · rcases hm id o h with rfl | h
    · exact .gone
    · exact hh.obj id o h
  · rcases hm id o h1 with rfl | h1
    · simp [OB, OB1] at e1
    · rcases hm id' o' h2 with rfl | h2
      · simp [OB, OB1] at e2
      · exact hh.disj id id' o o' b h1 h2 e1 e2

theorem unmask (T : List Nat) (hh : HR E I ν H w) (hh1 : HR (E.at H.length) I1 ν1 H1 w1) (fr : FR H.length w I ν (mkl T 0 H) w1 I1 ν1 H1) :
    HR E I1 ν1 (rsl T 0 H H1) w1 ∧ FR E.k w I ν H w1 I1 ν1 (rsl T 0 H H1) ∧ ν.le ν1 ∧
      ∀ (id : Nat) o b, H[id]? = some o → inl id T = false → OB ν id o b → w1.heap[b]? = w.heap[b]? ∧ (rsl T 0 H H1)[id]? = some o ∧ OB ν1 id o b := by
  have hn : ∀ id, id < H.length → id < ν.n := fun id h => by rw [hh.n]; exact h
  have hlen : H.length ≤ H1.length := by
    rcases Nat.eq_zero_or_pos H.length with h | h
    · omega
    · have := (fr.ag (H.length - 1) (by omega) (hn _ (by omega))).1
      rw [hh1.n] at this
      omega
  have hle : ν.le ν1 := ⟨by rw [hh.n, hh1.n]; exact hlen, fun id hi => (fr.ag id (by rw [← hh.n]; exact hi) hi).2.1, fun id ver hi hv => (fr.ag id (by rw [← hh.n]; exact hi) hi).2.2 ver hv⟩
  have hFm : ∀ b, FB ν (mkl T 0 H) b → ∃ (id : Nat) (o : AO), inl id T = true ∧ H[id]? = some o ∧ OB ν id o b := by
    rintro b ⟨id, o, h1, h2⟩
    rcases b8l T H 0 id o h1 with rfl | ⟨h3, h4⟩
    · simp [OB, OB1] at h2
    · exact ⟨id, o, by simpa using h3, h4, h2⟩
  have hfree : ∀ (id : Nat) o b, H[id]? = some o → inl id T = false → OB ν id o b → ¬ FB ν (mkl T 0 H) b := fun id o b h1 h2 h3 hf => by
    obtain ⟨id', o', g1, g2, g3⟩ := hFm b hf
    have := hh.disj id id' o o' b h1 g2 h3 g3
    subst this
    rw [h2] at g1
    cases g1
  have hOB : ∀ (id : Nat) o, H[id]? = some o → OB ν1 id o = OB ν id o := fun id o h => a9g (hh.obj id o h) hle (hh.idlt h)
  have hcase : ∀ (id : Nat) o, (rsl T 0 H H1)[id]? = some o → (inl id T = false ∧ H[id]? = some o) ∨ H1[id]? = some o := fun id o h => by
    rcases b3r T H H1 0 id hlen with ⟨h1, h2, h3⟩ | ⟨_, h3⟩
    · exact .inl ⟨by simpa using h2, by rw [← h3]; exact h⟩
    · exact .inr (by rw [← h3]; exact h)
  have hun : ∀ (id : Nat) o, H[id]? = some o → inl id T = false → (rsl T 0 H H1)[id]? = some o := fun id o h h2 => by
    rcases b3r T H H1 0 id hlen with ⟨_, _, h3⟩ | ⟨h1, _⟩
    · rw [h3]; exact h
    · rcases h1 with h1 | h1
      · have := (List.getElem?_eq_some_iff.1 h).1; omega
      · rw [Nat.zero_add, h2] at h1; cases h1
  have hold : ∀ (id : Nat) o b, H[id]? = some o → inl id T = false → OB ν id o b → w1.heap[b]? = w.heap[b]? := fun id o b h1 h2 h3 => fr.keep b (a4w (hh.obj id o h1) h3).1 (hfree id o b h1 h2 h3)
  have hapart : ∀ (id id' : Nat) o o' b, inl id T = false → H[id]? = some o → H1[id']? = some o' → OB ν id o b → OB ν1 id' o' b → False := fun id id' o o' b g1 g2 g3 g4 g5 => by
    rcases fr.foot b ⟨id', o', g3, g5⟩ with h | h
    · exact hfree id o b g2 g1 g4 h
    · have := (a4w (hh.obj id o g2) g4).1; omega
  refine ⟨⟨by rw [c3b T H H1 0 hlen]; exact hh1.n, hh1.below, hh1.base, hh1.imm, fun id o h => ?_, fun id id' o o' b h1 h2 e1 e2 => ?_⟩,
    ⟨fr.imm, fr.size, fun b o h => ?_, fun b hb hnf => fr.keep b hb fun hf => ?_, fun b ⟨id, o, h, h2⟩ => ?_, fun id _ hi => fr.ag id (by rw [← hh.n]; exact hi) hi, fun id _ h => ?_⟩, hle, fun id o b h1 h2 h3 => ⟨hold id o b h1 h2 h3, hun id o h1 h2, (hOB id o h1).symm ▸ h3⟩⟩
  · rcases hcase id o h with ⟨h1, h2⟩ | h2
    · have hlt := (List.getElem?_eq_some_iff.1 h2).1
      refine (hh.obj id o h2).mono fr.imm hle (hh.idlt h2) (fr.gone id hlt (c0y T H 0 id hlt (by simpa using h1))).1 (fun b hb => hold id o b h2 h1 hb) (fun b o' hb hi => ?_)
      rcases fr.new b o' hi with k | k | k
      · exact k
      · exact absurd k (hfree id o b h2 h1 hb)
      · have := (a4w (hh.obj id o h2) hb).1; omega
    · exact OR.env (E := E.at H.length) (F := E) rfl (hh1.obj id o h2)
  · rcases hcase id o h1 with ⟨k1, k2⟩ | k2 <;> rcases hcase id' o' h2 with ⟨l1, l2⟩ | l2
    · rw [hOB id o k2] at e1
      rw [hOB id' o' l2] at e2
      exact hh.disj id id' o o' b k2 l2 e1 e2
    · rw [hOB id o k2] at e1
      exact absurd (hapart id id' o o' b k1 k2 l2 e1 e2) (fun h => h)
    · rw [hOB id' o' l2] at e2
      exact absurd (hapart id' id o' o b l1 l2 k2 e2 e1) (fun h => h)
    · exact hh1.disj id id' o o' b k2 l2 e1 e2
  · rcases fr.new b o h with h | h | h
    · exact .inl h
    · obtain ⟨id', o', _, g2, g3⟩ := hFm b h
      exact .inr (.inl ⟨id', o', g2, g3⟩)
    · exact .inr (.inr h)
  · obtain ⟨id', o', _, g2, g3⟩ := hFm b hf
    exact hnf ⟨id', o', g2, g3⟩
  · rcases hcase id o h with ⟨h1, h3⟩ | h3
    · rw [hOB id o h3] at h2
      exact .inl ⟨id, o, h3, h2⟩
    · rcases fr.foot b ⟨id, o, h3, h2⟩ with k | k
      · obtain ⟨id', o', _, g2, g3⟩ := hFm b k
        exact .inl ⟨id', o', g2, g3⟩
      · exact .inr k
  · have hlt := (List.getElem?_eq_some_iff.1 h).1
    obtain ⟨g1, g2⟩ := fr.gone id hlt (b8k T H 0 id h)
    refine ⟨g1, ?_⟩
    rcases b3r T H H1 0 id hlen with ⟨_, _, h3⟩ | ⟨_, h3⟩
    · rw [h3]; exact h
    · rw [h3]; exact g2
end
end Go.Proofs.YtkljmljkiodnpaaGreatDoor.L

namespace Go.Proofs.YtkljmljkiodnpaaGreatDoor.L
open Go Go.RowKit

structure PS where
  i : Nat
  q : Bool
  G : List Nat
  R : List Bool
def tau : List (Nat × List Nat) → Nat → List Nat
  | [], _ => []
  | (j, T) :: r, i => match Nat.beq j i with
    | true => T
    | false => tau r i
def allIn : List Nat → List Nat → Bool
  | [], _ => true
  | t :: r, G => match inl t G with
    | true => allIn r G
    | false => false
theorem b9n : ∀ {T G : List Nat}, allIn T G = true → ∀ t, inl t T = true → inl t G = true := by
  intro T
  induction T with
  | nil => intro G _ t h; simp [inl] at h
  | cons x r ih =>
    intro G h t ht
    simp only [allIn] at h
    split at h
    · rename_i hx
      simp only [inl] at ht
      split at ht
      · rename_i e
        rw [← Nat.eq_of_beq_eq_true e]; exact hx
      · exact ih h t ht
    · cases h
def bl : Nat → Nat → List Bool
  | 0, _ => []
  | n + 1, m => Nat.beq (m % 2) 1 :: bl n (m / 2)
def qOK (ops : Array Oper) (τ : List (Nat × List Nat)) (L R : List Bool) (i : Nat) (G : List Nat) : Bool :=
  Region.free .any ops L.toArray i && (Region.ready .any ops L.toArray).contains i && Nat.beq R.length ops.size && (Region.ready .any ops R.toArray).all (fun j => Nat.beq j i) && (tau τ i).isEmpty &&
    (List.range ops.size).all fun j => (!L.toArray.getD j true || R.toArray.getD j true) && (!R.toArray.getD j true || (L.toArray.getD j true || allIn (tau τ j) G))
def planOK (ops : Array Oper) (τ : List (Nat × List Nat)) : List Bool → List PS → Bool
  | L, [] => (Region.ready .any ops L.toArray).isEmpty
  | L, p :: r => (match p.q with
    | true => qOK ops τ L p.R p.i p.G
    | false => Region.ready .any ops L.toArray == [p.i]) && planOK ops τ (L.set p.i true) r

def SS (τ : List (Nat × List Nat)) (L : Array Bool) (I : Imm) (ν : Nu) (H : List AO) (w : World) : Array Bool → World → Prop := fun L' w' =>
  w.heap.size ≤ w'.heap.size ∧ (∀ b o, I b o → w'.cell? ⟨b, o, none⟩ = w.cell? ⟨b, o, none⟩) ∧
    ∀ (id : Nat) o b, H[id]? = some o → OB ν id o b → (∀ j, inl id (tau τ j) = true → L'.getD j true = true → L.getD j true = true) → w'.heap[b]? = w.heap[b]?

def LN (E : Env) (N : Nat) (w : World) (I : Imm) (ν : Nu) (objs : List AO) (Q : Exit → St → Prop) : Exit → Act → World → Prop := fun e a' w' => e = .normal ∧ Lift E N w I ν objs Q .normal a' w'

def HL (E : Env) (N : Nat) (ops : Array Oper) (τ : List (Nat × List Nat)) (Q : Exit → St → Prop) (pl : List PS) (σ : St) : Prop :=
  Region.noSelect ops = true → ∀ L : List Bool, L.length = ops.size → planOK ops τ L pl = true → ∀ I ν a w, SR E N I ν σ a w → ∀ w0 I0 ν0 o0, FR E.k w0 I0 ν0 o0 w I ν σ.objs →
    wpAnyP E.P .any ops (LN E N w0 I0 ν0 o0 Q) (SS τ L.toArray I ν σ.objs w) pl.length L.toArray a w
def HO (E : Env) (N : Nat) (ops : Array Oper) (τ : List (Nat × List Nat)) (Q : Exit → St → Prop) (p : PS) (pl : List PS) (o : Oper) (σ : St) : Prop :=
  ops[p.i]? = some o → HL E N ops τ Q (p :: pl) σ
def HW (E : Env) (N : Nat) (ops : Array Oper) (τ : List (Nat × List Nat)) (Q : Exit → St → Prop) (p : PS) (pl : List PS) (d : Option Nat) (op : Op) (ty : TypeId) (pos : String) (after : Array Edge) (σ : St) : Prop :=
  ∀ g : Option (Nat × Bool), (∀ I ν a w, SR E N I ν σ a w → Region.wanted ⟨d, op, ty, pos, after, g⟩ (yielded ops a.tmps) = true) → HO E N ops τ Q p pl ⟨d, op, ty, pos, after, g⟩ σ

theorem a2y {E : Env} {N : Nat} {Q : Exit → St → Prop} {id : Nat} {l : List Oper} {σ : St} (τ : List (Nat × List Nat)) (pl : List PS) (hm : E.P.follows .mixedOrders = true) (hn : Region.noSelect l.toArray = true) (hl : Nat.beq pl.length l.length = true)
    (hp : planOK l.toArray τ (List.replicate l.length false) pl = true) (h : HL E N l.toArray τ Q pl σ) : AWp E N (.region id l.toArray true) Q σ := by
  intro I ν a w hs
  obtain ⟨h1, h2, h3⟩ := hs.hr.later (w' := { w with drawn := w.drawn + 1 }) ((Below.refl _ _).drew)
  have := h hn (List.replicate l.length false) (by simp) hp I ν a _ ⟨h1, hs.sl.mono h3 (Nu.le.refl ν), hs.df, hs.nt⟩ w I ν σ.objs h2
  have h4 := a9o _ _ _ _ this
  rw [Nat.eq_of_beq_eq_true hl] at h4
  have h5 := wp_region_any (P := E.P) (ops := l.toArray) (id := id) (a := a) (w := w) (Q := LN E N w I ν σ.objs Q) hm (by simpa using h4)
  exact Code.wp_mono (fun e a' w' ⟨he, k⟩ => by subst he; exact k) h5

section
variable {E : Env} {N : Nat} {ops : Array Oper} {τ : List (Nat × List Nat)} {Q : Exit → St → Prop} {p : PS} {pl : List PS} {sl : Slots} {H : List AO}

theorem a4n {o : Oper} {σ : St} (hi : ops[p.i]? = some o) (h : HO E N ops τ Q p pl o σ) : HL E N ops τ Q (p :: pl) σ := h hi

theorem a3r (h : Q .normal ⟨sl, H⟩) : HL E N ops τ Q [] ⟨sl, H⟩ := by
  intro hns L hL hp I ν a w hs w0 I0 ν0 o0 hf
  simp only [planOK, List.isEmpty_iff] at hp
  exact ⟨hp, rfl, ⟨sl, H⟩, I, ν, h, hs, hf⟩

theorem LN.panic {E : Env} {N : Nat} {w : World} {I : Imm} {ν : Nu} {objs : List AO} {Q : Exit → St → Prop} {e : Exit} {a : Act} {w' : World} (hn : e ≠ .normal) (h : LN E N w I ν objs Q e a w') {p : Prop} : p := absurd h.1 hn

theorem c1f {L : List Bool} (hL : L.length = ops.size) (hns : Region.noSelect ops = true) (hp : planOK ops τ L (p :: pl) = true) (hq : p.q = true) {o : Oper} (hi : ops[p.i]? = some o) {v : Value} {σ σ' : St} {I : Imm} {ν : Nu} {a : Act} {w w0 : World} {I0 : Imm} {ν0 : Nu} {o0 : List AO}
    (hH : σ'.objs = σ.objs) (hs : SR E N I ν σ a w) (hf : FR E.k w0 I0 ν0 o0 w I ν σ.objs)
    (hy : (Region.wanted o (yielded ops a.tmps) = true ∧ ∀ w', Still ν (gnl p.G 0 σ.objs) I w w' → (execOp a.eval o).run E.P w' = .ok (.value v) w') ∨ (Region.wanted o (yielded ops a.tmps) = false ∧ v = undef))
    (hs' : SR E N I ν σ' (a.put o.dst v) w) (h : HL E N ops τ Q pl σ') : wpAnyP E.P .any ops (LN E N w0 I0 ν0 o0 Q) (SS τ L.toArray I ν σ.objs w) (p :: pl).length L.toArray a w := by
  simp only [planOK, hq, Bool.and_eq_true] at hp
  obtain ⟨hq1, hp'⟩ := hp
  simp only [qOK, Bool.and_eq_true, List.all_eq_true, List.mem_range] at hq1
  obtain ⟨⟨⟨⟨⟨g1, g2⟩, g3⟩, g4⟩, g5⟩, g6⟩ := hq1
  have hRs : p.R.length = ops.size := Nat.eq_of_beq_eq_true g3
  have hti : tau τ p.i = [] := by simpa [List.isEmpty_iff] using g5
  have hLR : LLe L.toArray p.R.toArray := fun k hk => by
    rcases Nat.lt_or_ge k ops.size with h1 | h1
    · have := (g6 k h1).1
      simpa [hk] using this
    · have : p.R.length ≤ k := by omega
      simp [this]
  have hh := h hns (L.set p.i true) (by simpa using hL) hp' I ν _ w hs' w0 I0 ν0 o0 (by rw [hH]; exact hf)
  rw [hH] at hh
  have hset : (L.set p.i true).toArray = L.toArray.setIfInBounds p.i true := by simp
  rw [hset] at hh
  refine b1l (R := p.R.toArray) hi (Region.noSelect_spec hns) (fun c a w hh => LN.panic (by simp) hh) (by simpa using hRs) (fun j hj => ?_) (fun L' w' => ?_) _ _ _ _ (by simpa using hL) hLR (Region.free_spec hi g1) (by simpa using g2) ?_ ?_ (a5w _ _ _ _ (fun L' w' hl hs => ?_) hh)
  · exact Nat.eq_of_beq_eq_true (g4 j hj)
  · refine ⟨fun ⟨a1, a2, a3⟩ => ⟨a1, a2, fun id o b h1 h2 h3 => a3 id o b h1 h2 fun j hj hl => h3 j hj ?_⟩, fun ⟨a1, a2, a3⟩ => ⟨a1, a2, fun id o b h1 h2 h3 => a3 id o b h1 h2 fun j hj hl => h3 j hj (LLe.set L' p.i j hl)⟩⟩
    by_cases e : p.i = j
    · subst e; rw [hti] at hj; simp [inl] at hj
    · rw [getD_set_ne true e] at hl; exact hl
  · rcases hy with ⟨y1, y2⟩ | hy
    · refine .inl ⟨y1, fun w' ⟨L', l1, l2, a1, a2, a3⟩ => y2 w' ⟨a1, a2, fun id o b h1 h2 => ?_⟩⟩
      rcases b8x p.G σ.objs 0 id o h1 with rfl | ⟨h3, h4⟩
      · simp [OB, OB1] at h2
      · refine a3 id o b h4 h2 fun j hj hl => ?_
        cases hLj : L.toArray.getD j true with
        | true => rfl
        | false =>
          have hjs : j < ops.size := by
            rcases Nat.lt_or_ge j ops.size with h5 | h5
            · exact h5
            · have : L.length ≤ j := by omega
              simp [this] at hLj
          have := (g6 j hjs).2
          rw [l2 j hl, hLj] at this
          have := b9n (by simpa using this) id hj
          rw [Nat.zero_add, this] at h3
          cases h3
    · exact .inr hy
  · exact ⟨Nat.le_refl _, fun _ _ _ => rfl, fun _ _ _ _ _ _ => rfl⟩
  · obtain ⟨a1, a2, a3⟩ := hs
    exact ⟨a1, a2, fun id o b h1 h2 h3 => a3 id o b h1 h2 fun j hj hl => LLe.set _ _ _ (h3 j hj hl)⟩

theorem b7d {P : Program} {ops : Array Oper} {Q : Exit → Act → World → Prop} {i : Nat} {o : Oper} {K : Act → World → Prop} {a : Act} {w : World} (hi : ops[i]? = some o) (hw : Region.wanted o (yielded ops a.tmps) = true) (h : o.wp P a w K Q) : wpOp P ops Q i K a w := by
  unfold wpOp
  simp only [hi, hw, if_true]
  exact .inl h

theorem c2h {L : List Bool} (hL : L.length = ops.size) (hns : Region.noSelect ops = true) (hp : planOK ops τ L (p :: pl) = true) (hq : p.q = false) {o : Oper} (hi : ops[p.i]? = some o) {σ : St} {I : Imm} {ν : Nu} {a : Act} {w w0 : World} {I0 : Imm} {ν0 : Nu} {o0 : List AO}
    (hs : SR E N I ν σ a w) (hf : FR E.k w0 I0 ν0 o0 w I ν σ.objs)
    (h : wpOp E.P ops (LN E N w0 I0 ν0 o0 Q) p.i (fun a' w' => ∃ σ' I' ν', HL E N ops τ Q pl σ' ∧ SR E N I' ν' σ' a' w' ∧ FR E.k w I ν σ.objs w' I' ν' σ'.objs ∧
      ∀ (id : Nat) o b, σ.objs[id]? = some o → inl id (tau τ p.i) = false → OB ν id o b → w'.heap[b]? = w.heap[b]? ∧ σ'.objs[id]? = some o ∧ OB ν' id o b) a w) :
    wpAnyP E.P .any ops (LN E N w0 I0 ν0 o0 Q) (SS τ L.toArray I ν σ.objs w) (p :: pl).length L.toArray a w := by
  simp only [planOK, hq, Bool.and_eq_true, beq_iff_eq] at hp
  obtain ⟨hr, hp'⟩ := hp
  refine ⟨fun h0 => (by rw [hr] at h0; cases h0), fun j hj => ?_⟩
  have hrd : p.i ∈ Region.ready .any ops L.toArray := by rw [hr]; simp
  rw [hr] at hj
  obtain rfl : j = p.i := by simpa using hj
  refine wpOp_mono (fun a' w' ⟨σ', I', ν', k1, k2, k3, k4⟩ => ?_) h
  have hun : L.toArray.getD p.i true = false := (mem_ready.1 hrd).1
  have hset : (L.set p.i true).toArray = L.toArray.setIfInBounds p.i true := by simp
  have hnt : ∀ (L' : Array Bool) (id : Nat), L'.getD p.i true = true → (∀ j, inl id (tau τ j) = true → L'.getD j true = true → L.toArray.getD j true = true) → inl id (tau τ p.i) = false := fun L' id h1 h2 => by
    cases e : inl id (tau τ p.i) with
    | false => rfl
    | true => have := h2 p.i e h1; rw [hun] at this; cases this
  refine ⟨⟨k3.size, k3.imm.2, fun id o b h1 h2 h3 => (k4 id o b h1 (hnt _ id (b4w _ _) h3) h2).1⟩, ?_⟩
  have hh := k1 hns (L.set p.i true) (by simpa using hL) hp' I' ν' a' w' k2 w0 I0 ν0 o0 (hf.trans k3)
  rw [hset] at hh
  refine a5w _ _ _ _ (fun L' w2 hl hs2 => ?_) hh
  obtain ⟨a1, a2, a3⟩ := hs2
  refine ⟨Nat.le_trans k3.size a1, fun b o hb => (a2 b o (k3.imm.1 b o hb)).trans (k3.imm.2 b o hb), fun id o b h1 h2 h3 => ?_⟩
  obtain ⟨m1, m2, m3⟩ := k4 id o b h1 (hnt L' id (hl _ (b4w _ _)) h3) h2
  exact (a3 id o b m2 m3 fun j hj hl' => LLe.set _ _ _ (h3 j hj hl')).trans m1

theorem a7s {d : Option Nat} {op : Op} {ty : TypeId} {pos : String} {after : Array Edge} {σ : St} (h : HW E N ops τ Q p pl d op ty pos after σ) : HO E N ops τ Q p pl ⟨d, op, ty, pos, after, none⟩ σ := h none fun _ _ _ _ _ => by simp [Region.wanted]
theorem c1e {d : Option Nat} {op : Op} {ty : TypeId} {pos : String} {after : Array Edge} {j t : Nat} {want b : Bool} (hj : (ops[j]?).bind (·.dst) = some t) (hb : lk sl t = some (.bool b)) (hw : b = want) (h : HW E N ops τ Q p pl d op ty pos after ⟨sl, H⟩) :
    HO E N ops τ Q p pl ⟨d, op, ty, pos, after, some (j, want)⟩ ⟨sl, H⟩ := h _ fun I ν a w hs => by
  subst hw
  simp [Region.wanted, a6q hs.sl hj hb]

theorem a2k {op : Op} {ty : TypeId} {pos : String} {after : Array Edge} {d : Nat} {x : AV} (hv : OV E sl (gnl p.G 0 H) op x) (hd : Nat.blt d N = true) (h : HL E N ops τ Q pl ⟨(d, x) :: sl, H⟩) (hq : p.q = true := by rfl) :
    HW E N ops τ Q p pl (some d) op ty pos after ⟨sl, H⟩ := by
  intro g hg hi hns L hL hp I ν a w hs w0 I0 ν0 o0 hf
  obtain ⟨v, hx, hr⟩ := hv I ν a w (hs.hr.less (c3q _ _ _) fun id o h => (b8x p.G H 0 id o h).imp (fun e => e) (fun e => e.2)) hs.sl
  exact c1f (σ := ⟨sl, H⟩) (σ' := ⟨(d, x) :: sl, H⟩) hL hns hp hq hi rfl hs hf (.inl ⟨hg I ν a w hs, fun w' hw => hr _ w' rfl hw⟩) (a6t hs hd hx) h

def HQ (E : Env) (N : Nat) (ops : Array Oper) (τ : List (Nat × List Nat)) (Q : Exit → St → Prop) (T : List Nat) (H : List AO) (pl : List PS) : Exit → St → Prop := fun e s => e = .normal ∧ HL E N ops τ Q pl ⟨s.sl, rsl T 0 H s.objs⟩
theorem a3h {T : List Nat} {H1 : List AO} (h : HL E N ops τ Q pl ⟨sl, rsl T 0 H H1⟩) : HQ E N ops τ Q T H pl .normal ⟨sl, H1⟩ := ⟨rfl, h⟩

theorem a7r {op : Op} {ty : TypeId} {pos : String} {after : Array Edge} {d : Option Nat} (hq : p.q = false) (h : AL (E.at H.length) N ops (HQ E N ops τ Q (tau τ p.i) H pl) [⟨d, op, ty, pos, after, none⟩] ⟨sl, mkl (tau τ p.i) 0 H⟩) :
    HW E N ops τ Q p pl d op ty pos after ⟨sl, H⟩ := by
  intro g hg hi hns L hL hp I ν a w hs w0 I0 ν0 o0 hf
  refine c2h hL hns hp hq hi hs hf ?_
  have hm : HR E I ν (mkl (tau τ p.i) 0 H) w := hs.hr.less (c3m _ _ _) fun id o h => (b8l _ H 0 id o h).imp (fun e => e) (fun e => e.2)
  have := h I ν a w ⟨HR.env (E := E) (F := E.at H.length) rfl rfl hm, hs.sl, hs.df, hs.nt⟩ w I ν _ (FR.refl _ _ _ _)
  unfold wpList at this
  rw [if_pos (by simp [Region.wanted])] at this
  refine b7d hi (hg I ν a w hs) ?_
  rcases this with this | ⟨_, a', w', σ', _, _, ⟨e, _⟩, _⟩
  · refine c0c (fun e a' w' he ⟨σ', I', ν', ⟨h1, _⟩, _⟩ => absurd h1 he) (Oper.wp_mono (fun a' w' hk => ?_) this)
    obtain ⟨σ', I', ν', ⟨_, h2⟩, hs2, hf2⟩ := hk
    obtain ⟨u1, u2, u3, u4⟩ := unmask (E := E) (tau τ p.i) hs.hr hs2.hr hf2
    exact ⟨⟨σ'.sl, rsl (tau τ p.i) 0 H σ'.objs⟩, I', ν', h2, ⟨u1, hs2.sl, hs2.df, hs2.nt⟩, u2, u4⟩
  · cases e
theorem a7p {d : Option Nat} {op : Op} {ty : TypeId} {pos : String} {after : Array Edge} {σ : St} (h : HW E N ops τ Q p pl d op ty pos after σ) : HW E N ops τ Q p pl d op ty pos after σ := h
theorem a7q {o : Oper} {σ : St} (h : HO E N ops τ Q p pl o σ) : HO E N ops τ Q p pl o σ := h
end
end Go.Proofs.YtkljmljkiodnpaaGreatDoor.L

namespace Go.Proofs.YtkljmljkiodnpaaGreatDoor.L
open Go Go.RowKit

section
variable {E : Env} {N : Nat} {sl : Slots} {H : List AO}
theorem b5h {t e : Nat} {n b n' b' : Nat} {z z' : Value} {dd : Bool} [ti : TI E.P t (.slice e) n b z] [te : TZ E.P e dd n' b' z'] {x lo : Operand} {xs : List (List AV)} {k : IntKind} {l : Int}
    (hx : ev sl x = some (.rs xs)) (hlo : ev sl lo = some (.int k l)) (h0 : 0 ≤ l) (h2 : l ≤ (xs.length : Int)) (hsz : ∀ (i : Nat) row, xs[i]? = some row → row.length = n') : OV E sl H (.slice t x (some lo) none none) (.rs (xs.drop l.toNat)) := by
  have := b3v (E := E) (sl := sl) (H := H) (t := t) (e := e) hx hsz (l := l.toNat) (h := xs.length) (by omega) (Nat.le_refl _) (.inr ⟨lo, k, rfl, by rw [hlo, Int.toNat_of_nonneg h0]⟩) (.inl ⟨rfl, rfl⟩)
  rw [List.take_length] at this
  exact this
end
end Go.Proofs.YtkljmljkiodnpaaGreatDoor.L

namespace Go.Proofs.YtkljmljkiodnpaaGreatDoor.L
open Go Go.RowKit

section
variable {E : Env} {I : Imm} {ν : Nu} {w w' : World} {H : List AO}
theorem b6d {sz i off : Nat} {xs xs' : List (List AV)} {inner vs : List Value} {c c' cs : List AV} (hr : RowRel w I sz xs inner) (hi : xs[i]? = some c) (hP : PutN off c cs c') (hxs : xs' = xs.set i c') (hvl : cs.length = vs.length) (hI : ImmLe w I w' I)
    (hv : ∀ (j : Nat) x v, cs[j]? = some x → vs[j]? = some v → VP w I x v) : RowRel w' I sz xs' (inner.take (i * sz + off) ++ vs ++ inner.drop (i * sz + off + vs.length)) ∧ i * sz + off + vs.length ≤ xs.length * sz := by
  obtain ⟨hpl, hpe⟩ := hP.eq
  have hil := (List.getElem?_eq_some_iff.1 hi).1
  have hcl := (hr.2 i c hi).1
  have hmul : (i + 1) * sz ≤ xs.length * sz := Nat.mul_le_mul_right _ hil
  rw [Nat.add_mul, Nat.one_mul] at hmul
  have hp : i * sz + off + vs.length ≤ inner.length := by rw [hr.1]; omega
  refine ⟨⟨?_, fun k row hk => ?_⟩, by omega⟩
  · rw [hxs]
    simp only [List.length_append, List.length_take, List.length_drop, List.length_set]
    rw [hr.1] at hp ⊢
    omega
  rw [hxs] at hk
  have hnew : ∀ n : Nat, (inner.take (i * sz + off) ++ vs ++ inner.drop (i * sz + off + vs.length))[n]? = if n < i * sz + off then inner[n]? else if n < i * sz + off + vs.length then vs[n - (i * sz + off)]? else inner[n]? := by
    intro n
    by_cases c1 : n < i * sz + off
    · rw [if_pos c1, List.append_assoc, List.getElem?_append_left (by simp; omega), List.getElem?_take_of_lt c1]
    · rw [if_neg c1]
      by_cases c2 : n < i * sz + off + vs.length
      · rw [if_pos c2, List.append_assoc, List.getElem?_append_right (by simp; omega), List.getElem?_append_left (by simp; omega)]
        simp only [List.length_take, Nat.min_eq_left (show i * sz + off ≤ inner.length by omega)]
      · rw [if_neg c2, List.getElem?_append_right (by simp; omega)]
        simp only [List.length_append, List.length_take, Nat.min_eq_left (show i * sz + off ≤ inner.length by omega), List.getElem?_drop]
        congr 1
        omega
  by_cases e : i = k
  · subst e
    rw [List.getElem?_set_self hil] at hk
    injection hk with hk
    subst hk
    refine ⟨by rw [hpe]; simp; omega, fun j x hj => ?_⟩
    have hjl : j < sz := by
      have := (List.getElem?_eq_some_iff.1 hj).1
      rw [hpe] at this
      simp at this
      omega
    rw [hpe] at hj
    rw [hnew]
    by_cases c1 : j < off
    · rw [if_pos (by omega)]
      rw [List.append_assoc, List.getElem?_append_left (by simp; omega), List.getElem?_take_of_lt c1] at hj
      obtain ⟨u, h1, h2⟩ := (hr.2 i c hi).2 j x hj
      exact ⟨u, h1, h2.mono hI⟩
    · rw [if_neg (by omega)]
      by_cases c2 : j < off + cs.length
      · rw [if_pos (by omega)]
        rw [List.append_assoc, List.getElem?_append_right (by simp; omega), List.getElem?_append_left (by simp; omega)] at hj
        simp only [List.length_take, Nat.min_eq_left (show off ≤ c.length by omega)] at hj
        have hjv : j - off < vs.length := by omega
        refine ⟨vs[j - off], ?_, (hv _ x _ hj (List.getElem?_eq_getElem hjv)).mono hI⟩
        rw [show i * sz + j - (i * sz + off) = j - off by omega]
        exact List.getElem?_eq_getElem hjv
      · rw [if_neg (by omega)]
        rw [List.getElem?_append_right (by simp; omega)] at hj
        simp only [List.length_append, List.length_take, Nat.min_eq_left (show off ≤ c.length by omega), List.getElem?_drop] at hj
        rw [show off + cs.length + (j - (off + cs.length)) = j by omega] at hj
        obtain ⟨u, h1, h2⟩ := (hr.2 i c hi).2 j x hj
        exact ⟨u, h1, h2.mono hI⟩
  · rw [List.getElem?_set_ne e] at hk
    obtain ⟨h1, h2⟩ := hr.2 k row hk
    refine ⟨h1, fun j x hj => ?_⟩
    obtain ⟨u, h3, h4⟩ := h2 j x hj
    have hjl : j < sz := by rw [← h1]; exact (List.getElem?_eq_some_iff.1 hj).1
    refine ⟨u, ?_, h4.mono hI⟩
    rw [hnew]
    have hcase : k * sz + j < i * sz + off ∨ i * sz + off + vs.length ≤ k * sz + j := by
      rcases Nat.lt_or_ge k i with h5 | h5
      · have : (k + 1) * sz ≤ i * sz := Nat.mul_le_mul_right _ h5
        rw [Nat.add_mul, Nat.one_mul] at this
        exact .inl (by omega)
      · have : (i + 1) * sz ≤ k * sz := Nat.mul_le_mul_right _ (by omega)
        rw [Nat.add_mul, Nat.one_mul] at this
        exact .inr (by omega)
    rcases hcase with h5 | h5
    · rw [if_pos h5]; exact h3
    · rw [if_neg (by omega), if_neg (by omega)]; exact h3
end

section
variable {E : Env} {N : Nat} {ops : Array Oper} {Q : Exit → St → Prop} {rest : List Oper} {sl : Slots} {H H' : List AO}
end
end Go.Proofs.YtkljmljkiodnpaaGreatDoor.L

namespace Go.Proofs.YtkljmljkiodnpaaGreatDoor.L
open Go Go.RowKit

def immNew (w w' : World) (I : Imm) : Imm := fun b o => I b o ∨ (w.heap.size ≤ b ∧ ∃ v, w'.cell? ⟨b, o, none⟩ = some v)
theorem b4b {E : Env} {I : Imm} {ν : Nu} {H : List AO} {w w' : World} (hh : HR E I ν H w) (hb : Below w.heap.size w w') : ImmLe w I w' (immNew w w' I) :=
  ⟨fun b o h => .inl h, fun b o h => (hh.later hb).2.2.2 b o h⟩

theorem a8j {E : Env} {f : Nat} {args : List AV} {R : AV → Prop} (h : ∀ I ν w (vs : List Value), HR E I ν [] w → args.length = vs.length → (∀ (j : Nat) x v, args[j]? = some x → vs[j]? = some v → VR w I ν x v) →
      Calls E.P f vs.toArray w fun e w' => ∃ rv v, R rv ∧ clB 0 rv = true ∧ e = .returned v ∧ Below w.heap.size w w' ∧ VR w' (immNew w w' I) ν rv v) : PCalls E f args R := by
  intro I ν w vs hh hl hv
  refine (h I ν w vs hh hl hv).mono ?_
  rintro e w' ⟨rv, v, hR, hc, rfl, hb, hvr⟩
  have hI := b4b hh hb
  refine ⟨rv, [], immNew w w' I, ν, v, ⟨hR, hc⟩, rfl, hvr, ⟨hh.n, hh.below.trans (hb.mono hh.base), Nat.le_trans hh.base hb.size, fun b o hi => ?_, fun id o h => by simp at h, fun id id' o o' b h => by simp at h⟩,
    ⟨hI, hb.size, fun b o hi => ?_, fun b hk _ => hb.block b hk, fun b ⟨id, o, h, _⟩ => by simp at h, fun id hk _ => by simp at hk, fun id hk _ => by simp at hk⟩⟩
  · rcases hi with hi | ⟨_, hi⟩
    · obtain ⟨u, hu⟩ := hh.imm b o hi
      exact ⟨u, (hI.2 b o hi).trans hu⟩
    · exact hi
  · rcases hi with hi | ⟨hi, _⟩
    · exact .inl hi
    · exact .inr (.inr hi)

theorem a3m {E : Env} {f : Nat} {args : List AV} {c : AV} (hc : clB 0 c = true) (h : ∀ I ν w (vs : List Value), HR E I ν [] w → args.length = vs.length → (∀ (j : Nat) x v, args[j]? = some x → vs[j]? = some v → VR w I ν x v) →
      ∃ u, (∀ w I, VR w I ν c u) ∧ Calls E.P f vs.toArray w fun e w' => e = .returned u ∧ Below w.heap.size w w') : PCalls E f args fun rv => rv = c := by
  refine a8j fun I ν w vs hh hl hv => ?_
  obtain ⟨u, h1, h2⟩ := h I ν w vs hh hl hv
  exact h2.mono fun e w' ⟨he, hb⟩ => ⟨c, u, rfl, hc, he, hb, h1 _ _⟩

theorem FR.same {k k' : Nat} {w w' : World} {I I' : Imm} {ν : Nu} {objs objs' : List AO} (h : FR k w I ν objs w' I' ν objs') (hg : ∀ id, id < k' → objs[id]? = some .gone → objs'[id]? = some .gone) : FR k' w I ν objs w' I' ν objs' :=
  ⟨h.imm, h.size, h.new, h.keep, h.foot, (Nu.le.refl ν).ag _, fun id hk h1 => ⟨rfl, hg id hk h1⟩⟩

def row1 (enc : AV) : List AV := [enc]
end Go.Proofs.YtkljmljkiodnpaaGreatDoor.L

namespace Go.Proofs.YtkljmljkiodnpaaGreatDoor.L
open Go Go.RowKit

abbrev bytesAV (l : List UInt8) : List (List AV) := l.map fun b => [.int .u8 (b.toNat : Int)]
def isPtr : AV → Bool
  | .op _ _ => true
  | .rp _ => true
  | .ad _ _ => true
  | .er _ _ _ _ _ => true
  | _ => false
theorem VR.ptr {w : World} {I : Imm} {ν : Nu} {x : AV} {v : Value} (h : VR w I ν x v) (hp : isPtr x = true) : ∃ a : Addr, v = .pointer (some a) := by
  cases h with
  | op id off b hi h => exact ⟨_, rfl⟩
  | er id ver sz i off g n c hi hv h => exact ⟨_, rfl⟩
  | pure h => cases h <;> first | exact ⟨_, rfl⟩ | simp [isPtr] at hp
  | _ => simp [isPtr] at hp

section
variable {E : Env} {N : Nat} {ops : Array Oper} {Q : Exit → St → Prop} {rest : List Oper} {sl : Slots} {H H' : List AO}
theorem VR.nilp_inv {w : World} {I : Imm} {ν : Nu} {v : Value} (h : VR w I ν .nilp v) : v = .pointer none := by
  cases h with
  | pure h => cases h; rfl
theorem a8k {t t' e : Nat} {n b : Nat} {z : Value} [ti : TI E.P t (.pointer e) n b z] {x y : Operand} (hx : ev sl x = some .nilp) (hy : ev sl y = some .nilp) : OV E sl H (.binOp .eql t x y t') (.bool true) := by
  intro I ν a w hh hs
  have e1 := (a2p hs hx).nilp_inv
  have e2 := (a2p hs hy).nilp_inv
  refine ⟨_, .pure (.bool true), fun o w' ho _ => ?_⟩
  have h : ∀ d : Nat, (Op.equalIn (d + 1) t (.pointer none) (.pointer none)).run E.P w' = .ok true w' := fun d => by simp [Op.equalIn, run_underlying ti.u]
  simp [execOp, ho, e1, e2, eqGuard, binOp, Op.equal, Op.maxDepth, h 9999]
theorem a4t {t t' e : Nat} {n b : Nat} {z : Value} [ti : TI E.P t (.pointer e) n b z] {x y : Operand} {pv : AV} (hx : ev sl x = some pv) (hp : isPtr pv = true) (hy : ev sl y = some .nilp) : OV E sl H (.binOp .eql t x y t') (.bool false) := by
  intro I ν a w hh hs
  obtain ⟨p, e1⟩ := (a2p hs hx).ptr hp
  have e2 := (a2p hs hy).nilp_inv
  refine ⟨_, .pure (.bool false), fun o w' ho _ => ?_⟩
  have h : ∀ d : Nat, (Op.equalIn (d + 1) t (.pointer (some p)) (.pointer none)).run E.P w' = .ok false w' := fun d => by simp [Op.equalIn, run_underlying ti.u]
  simp [execOp, ho, e1, e2, eqGuard, binOp, Op.equal, Op.maxDepth, h 9999]
theorem b3w {t t' e : Nat} {n b n' b' : Nat} {z z' : Value} {dd : Bool} [ti : TI E.P t (.pointer e) n b z] [te : TZ E.P e dd n' b' z'] {x y : Operand} {id off : Nat} (hx : ev sl x = some (.op id off)) (hy : ev sl y = some (.op id off)) : OV E sl H (.binOp .neq t x y t') (.bool false) := by
  intro I ν a w hh hs
  have e1 := a2p hs hx
  have e2 := a2p hs hy
  obtain ⟨v1, h1⟩ : ∃ v, a.eval x = v := ⟨_, rfl⟩
  obtain ⟨v2, h2⟩ : ∃ v, a.eval y = v := ⟨_, rfl⟩
  rw [h1] at e1
  rw [h2] at e2
  obtain ⟨j, hj, _⟩ := te.bytes
  cases e1 with
  | pure h => cases h
  | op _ _ b1 hi1 hb1 =>
    cases e2 with
    | pure h => cases h
    | op _ _ b2 hi2 hb2 =>
      rw [hb1] at hb2
      injection hb2 with hb2; injection hb2 with hb2; injection hb2 with hb2
      subst hb2
      refine ⟨_, .pure (.bool false), fun o w' ho _ => ?_⟩
      have := Lib.run_neq_ptr_same (P := E.P) (w := w') (tp := t) ⟨b1, off, none⟩ ti.u hj
      simp [execOp, ho, h1, h2, eqGuard, this]

theorem b3d {I : Imm} {ν : Nu} {w : World} (hh : HR E I ν H w) {id T : Nat} {cells : List AV} (hH : H[id]? = some (.box cells (some T))) {off : Nat} {v : Value} (hv : VR w I ν (.op id off) v) : ∃ b, v = .pointer (some ⟨b, off, none⟩) ∧ ∀ w', Still ν H I w w' → w'.shape? b = some (T, cells.length) := by
  cases hv with
  | pure h => cases h
  | op _ _ b hi hb =>
    cases hh.obj id _ hH with
    | box _ _ b' vs ty hv' hbase hheap hl hx hI hty =>
      rw [hb] at hv'
      injection hv' with e; injection e with e; injection e with e
      subst e
      have hT := hty T rfl
      subst hT
      refine ⟨b, rfl, fun w' hw => ?_⟩
      have := (hw.obj id _ b hH (by simp only [OB, OB1, hb])).trans hheap
      simp [World.shape?, this, hl]
theorem b6i {src dst t n b n' b' n2 b2 : Nat} {z z' z2 : Value} {dd : Bool} [ts : TI E.P src (.pointer t) n b z] [td : TI E.P dst .unsafePointer n' b' z'] [te : TZ E.P t dd n2 b2 z2] {x : Operand} {id off T : Nat} {cells : List AV} (hx : ev sl x = some (.op id off)) (hH : H[id]? = some (.box cells (some T))) (hn : n2 ≠ 0) (ho : off < cells.length) :
    OV E sl H (.convert src dst x) (.op id off) := by
  intro I ν a w hh hs
  obtain ⟨bk, hv, hsh⟩ := b3d hh hH (a2p hs hx)
  obtain ⟨j, hj1, hj2, hj3, _⟩ := te.bytes
  refine ⟨_, a2p hs hx, fun o w' ho' hw => ?_⟩
  have := Lib.run_to_unsafe (P := E.P) (w := w') (src := src) (dst := dst) ⟨bk, off, none⟩ ts.u td.u hj1 (by omega) (hsh w' hw) ho
  simp [execOp, ho', hv, this]
theorem b2m {src dst u n b n' b' n2 b2 : Nat} {z z' z2 : Value} {dd : Bool} [ts : TI E.P src .unsafePointer n b z] [td : TI E.P dst (.pointer u) n' b' z'] [te : TZ E.P u dd n2 b2 z2] {x : Operand} {id off T : Nat} {cells : List AV} (hx : ev sl x = some (.op id off)) (hH : H[id]? = some (.box cells (some T))) (hl : liesAt E.P E.P.depth T (cells.length / E.P.cellsOf T) off u 1 = true) :
    OV E sl H (.convert src dst x) (.op id off) := by
  intro I ν a w hh hs
  obtain ⟨bk, hv, hsh⟩ := b3d hh hH (a2p hs hx)
  obtain ⟨j, hj1, _⟩ := te.bytes
  refine ⟨_, a2p hs hx, fun o w' ho' hw => ?_⟩
  have := Lib.run_from_unsafe (P := E.P) (w := w') (src := src) (dst := dst) ⟨bk, off, none⟩ ts.u td.u hj1 (hsh w' hw) hl
  simp [execOp, ho', hv, this]
theorem c3h {g : Nat} (hf : ∀ x w, (callFunc g #[x]).run E.P w = .ok (.value x) w) {x : Operand} {xv : AV} (hx : ev sl x = some xv) {tys : Array TypeId} : OV E sl H (.call { callee := .value (.func g), args := #[x], argTypes := tys }) xv := by
  intro I ν a w hh hs
  refine ⟨_, a2p hs hx, fun o w' ho _ => ?_⟩
  have e1 : a.eval (.func g) = .func (.func g) #[] #[] := rfl
  simp [execOp, ho, resolve, e1, Deferred.ofValue, invoke, hf]

theorem b9i {l : List UInt8} {i : Nat} {row : List AV} (h : (bytesAV l)[i]? = some row) : ∃ b, l[i]? = some b ∧ row = [.int .u8 (b.toNat : Int)] := by
  rw [List.getElem?_map] at h
  obtain ⟨z, h1, h2⟩ := Option.map_eq_some_iff.1 h
  exact ⟨z, h1, h2.symm⟩
theorem a7e {w : World} {I : Imm} {l : List UInt8} : RowRel w I 1 (bytesAV l) (l.map fun b => Value.int .u8 (b.toNat : Int)) := by
  refine ⟨by simp, fun i c hc => ?_⟩
  obtain ⟨z, h1, rfl⟩ := b9i hc
  refine ⟨rfl, fun j x hj => ?_⟩
  cases j with
  | zero =>
    simp at hj
    subst hj
    exact ⟨_, by simp [h1], .int .u8 _⟩
  | succ j => simp at hj
theorem a4v {w : World} {I : Imm} {l : List UInt8} {inner : List Value} (h : RowRel w I 1 (bytesAV l) inner) : inner = l.map fun b => Value.int .u8 (b.toNat : Int) := by
  refine List.ext_getElem? fun i => ?_
  rw [List.getElem?_map]
  rcases Nat.lt_or_ge i l.length with hi | hi
  · obtain ⟨u, h1, h2⟩ := (h.2 i [.int .u8 (l[i].toNat : Int)] (by simp [hi])).2 0 _ rfl
    rw [Nat.mul_one, Nat.add_zero] at h1
    rw [h1, List.getElem?_eq_getElem hi]
    cases h2
    rfl
  · rw [List.getElem?_eq_none (by rw [h.1]; simpa using hi), List.getElem?_eq_none hi]
    rfl

inductive IsBytes (l : List UInt8) (ver : Nat) : AO → Prop where
  | row (e fz : Nat) : IsBytes l ver (.row e 1 ver fz (bytesAV l))
  | arr (e : Nat) (wr : Bool) : IsBytes l ver (.arr e 1 ver (bytesAV l) wr)
theorem a8y {I : Imm} {ν : Nu} {w : World} (hh : HR E I ν H w) {id ver : Nat} {l : List UInt8} {o : AO} (hH : H[id]? = some o) (hb : IsBytes l ver o) {v : Value} (hv : VR w I ν (.os id ver) v) :
    v = ν.val id ver ∧ ((v = .slice none 0 0 ∧ l = []) ∨ ∃ g c cur e fr, v = .slice (some ⟨g, 0, none⟩) l.length c ∧ l.length ≤ c ∧ OB ν id o g ∧ w.heap[g]? = some (.cells cur e fr) ∧ l.length ≤ cur.size ∧ cur.toList.take l.length = l.map fun b => Value.int .u8 (b.toNat : Int)) := by
  cases hv with
  | pure h => cases h
  | os _ _ A n c hi hver hs =>
  refine ⟨hs.symm, ?_⟩
  cases hb with
  | row e fz =>
    cases hh.obj id _ hH with
    | row _ _ _ _ _ inner ht h0 ho hr hf hI =>
      have hin := a4v hr
      subst hin
      rw [hs] at ho
      have hbl : (bytesAV l).length = l.length := List.length_map _
      rcases ho.2 with ⟨h1, h2⟩ | ⟨g, cap, cur, h1, h2, h3, h4, h5, h6, h7⟩
      · exact .inl ⟨h1, List.eq_nil_of_length_eq_zero (by omega)⟩
      · rw [Nat.mul_one] at h6 h7
        refine .inr ⟨g, cap, cur, e, _, by rw [h1, hbl], by omega, by simp only [OB, OB1, hs, h1, Value.ownBlock], h3, by omega, by rw [← hbl]; exact h7⟩
  | arr e wr =>
    cases hh.obj id _ hH with
    | arr _ _ _ _ _ g c' cur fr ht h0 hv hb hheap hfr hl hcc hr hI =>
      have hin := a4v hr
      have hbl : (bytesAV l).length = l.length := List.length_map _
      rw [Nat.mul_one, hbl] at hin hl
      rw [hs] at hv
      exact .inr ⟨g, c', cur, e, fr, by rw [hv, hbl], by omega, by simp only [OB, OB1, hs, hv, Value.ownBlock], hheap, hl, hin⟩

theorem b0c {w : World} {g : Nat} {cur : Array Value} {e : TypeId} {fr : Nat × Nat} {l : List UInt8} (h : w.heap[g]? = some (.cells cur e fr)) (ht : cur.toList.take l.length = l.map fun b => Value.int .u8 (b.toNat : Int)) {j : Nat} {x : UInt8} (hj : l[j]? = some x) : w.cell? ((⟨g, 0, none⟩ : Addr).add j) = some (.int .u8 (x.toNat : Int)) := by
  rw [a4c]
  have h1 : (cur.toList.take l.length)[j]? = some (.int .u8 (x.toNat : Int)) := by rw [ht]; simp [hj]
  rw [List.getElem?_take] at h1
  split at h1
  · simp only [World.cell?, h, Nat.zero_add]
    simpa using h1
  · cases h1

theorem b0v {src dst e n b n' b' n2 b2 : Nat} {z z' z2 : Value} [ts : TI E.P src (.slice e) n b z] [td : TI E.P dst .string n' b' z'] [te : TI E.P e (.int .u8) n2 b2 z2] {x : Operand} {id ver : Nat} {l : List UInt8} {o : AO} (hx : ev sl x = some (.os id ver)) (hH : H[id]? = some o) (hb : IsBytes l ver o) :
    OV E sl H (.convert src dst x) (.str l) := by
  intro I ν a w hh hs
  obtain ⟨_, hv⟩ := a8y hh hH hb (a2p hs hx)
  refine ⟨_, .pure (.str l), fun o' w' ho hw => ?_⟩
  rcases hv with ⟨hv, rfl⟩ | ⟨g, c, cur, e', fr, hv, hlc, hob, hheap, hl, ht⟩
  · have := run_convert_bytes_string (P := E.P) w' src dst e none 0 0 ts.u te.u td.u
    simp [execOp, ho, hv, this, Conv.bytesToString]
    rfl
  · have hheap' := (hw.obj id _ g hH hob).trans hheap
    have := run_convert_bytes_back (P := E.P) w' src dst e ⟨g, 0, none⟩ c l ts.u te.u td.u (fun j hj => b0c hheap' ht (List.getElem?_eq_getElem hj))
    simp [execOp, ho, hv, this]

theorem b4n {src dst e n b n' b' n2 b2 : Nat} {z z' z2 : Value} [ts : TI E.P src .string n b z] [td : TI E.P dst (.slice e) n' b' z'] [te : TI E.P e (.int .u8) n2 b2 z2] {x : Operand} {s : List UInt8} {ty : TypeId} {pos : String} {after : Array Edge} {d m : Nat} (hx : ev sl x = some (.str s)) (hm : H.length = m) (hH : Snoc H (.arr e 1 0 (bytesAV s) true) H') (hd : Nat.blt d N = true)
    (h : AL E N ops Q rest ⟨(d, .os m 0) :: sl, H'⟩) : AL E N ops Q (⟨some d, .convert src dst x, ty, pos, after, none⟩ :: rest) ⟨sl, H⟩ := by
  subst hm
  rw [hH.eq] at h
  refine a5l hd (fun I ν a w hh hs => ?_) h
  have e1 := (a2p hs hx).str_inv
  obtain ⟨w', hw'⟩ : ∃ w', w' = Lib.bytesWorld w e ⟨s.toArray⟩ := ⟨_, rfl⟩
  have hrun := Lib.run_convert_string_bytes (P := E.P) w src dst e ⟨s.toArray⟩ ts.u td.u te.u
  rw [← hw'] at hrun
  have hold : ∀ k, k < w.heap.size → w'.heap[k]? = w.heap[k]? := fun k hk => by rw [hw']; exact Lib.bytesWorld_at_old w e _ k hk
  have hnew : w'.heap[w.heap.size]? = some (.cells (Lib.bytesCells w e ⟨s.toArray⟩) e ((Lib.bytesCells w e ⟨s.toArray⟩).size, (Lib.bytesCells w e ⟨s.toArray⟩).size + 1)) := by rw [hw']; exact Lib.bytesWorld_at_new w e _
  have hbs : s.length ≤ (Lib.bytesCells w e ⟨s.toArray⟩).size := by simp [Lib.bytesCells]
  have hbel : Below E.base E.w0 w' := by
    refine hh.below.trans ⟨?_, ?_, ?_, ?_, fun k hk => hold k (Nat.lt_of_lt_of_le hk hh.base)⟩
    all_goals rw [hw']
    · simp [Lib.bytesWorld, World.freeze, World.alloc, World.drew, -World.alloc_eq, -World.drew_eq]
    · simp [Lib.bytesWorld, World.freeze, World.alloc, World.drew, -World.alloc_eq, -World.drew_eq]
    · simp [Lib.bytesWorld, World.freeze, World.alloc, World.drew, -World.alloc_eq, -World.drew_eq]
    · rw [Lib.bytesWorld_size]; omega
  have hbl : (bytesAV s).length = s.length := List.length_map _
  have hp := hh.push (o := .arr e 1 0 (bytesAV s) true) (t := 0) (f := fun _ => .slice (some ⟨w.heap.size, 0, none⟩) s.length (grownCap w s.length 0 e)) (w' := w') hbel (by rw [hw', Lib.bytesWorld_size]; omega) hold
    (.arr e 1 0 (bytesAV s) true w.heap.size _ _ _ (Nat.zero_le _) (by decide) (by simp [Nu.add]; rfl) hh.base hnew (fun _ => by rw [hbl]; simpa using hbs) (by rw [hbl]; simpa using hbs) (by rw [hbl]; exact grownCap_ge w s.length 0 e) (by
      rw [hbl, Nat.mul_one]
      have : (Lib.bytesCells w e ⟨s.toArray⟩).toList.take s.length = s.map fun b => Value.int .u8 (b.toNat : Int) := by
        simp only [Lib.bytesCells, Array.toList_append]
        rw [List.take_append_of_le_length (by simp)]
        rw [List.take_of_length_le (by simp)]
        simp
      rw [this]
      exact a7e) (fun o ho => by
        obtain ⟨v, hv⟩ := hh.imm _ _ ho
        have := World.block_lt_of_cell? w _ hv
        simp at this))
    (fun b hb => by simp [OB, OB1, Nu.add, Value.ownBlock] at hb; omega)
  refine ⟨_, _, _, fun o ho => ?_, hp.1, hp.2.1, ν.add_le _ _, .os _ 0 (some ⟨w.heap.size, 0, none⟩) s.length (grownCap w s.length 0 e) (by simp [Nu.add, hh.n]) (by simp [Nu.add, hh.n]) (by simp [Nu.add, hh.n])⟩
  simp [execOp, ho, e1, hrun]
  exact ⟨rfl, rfl⟩
end
end Go.Proofs.YtkljmljkiodnpaaGreatDoor.L

namespace Go.Proofs.YtkljmljkiodnpaaGreatDoor.L
open Go Go.RowKit

section
variable {E : Env} {N : Nat} {ops : Array Oper} {Q : Exit → St → Prop} {rest : List Oper} {sl : Slots} {H H' : List AO}
theorem b9l {I : Imm} {ν : Nu} {w : World} (hh : HR E I ν H w) {id ver sz e : Nat} {wr : Bool} {xs : List (List AV)} (hH : H[id]? = some (.arr e sz ver xs wr)) {v : Value} (hv : VR w I ν (.os id ver) v) :
    ∃ g c, v = .slice (some ⟨g, 0, none⟩) xs.length c ∧ ν.val id ver = v ∧ id < ν.n ∧ ver ≤ ν.top id := by
  cases hv with
  | pure h => cases h
  | os _ _ A n c hi hver hs =>
    cases hh.obj id _ hH with
    | arr _ _ _ _ _ g c' cur fr ht h0 hv hb hheap hfr hl hcc hr hI =>
      rw [hs] at hv
      exact ⟨g, c', hv, hs, hi, hver⟩
theorem a5f {t e : Nat} {n b n' b' : Nat} {z z' : Value} {d' : Bool} [ti : TI E.P t (.slice e) n b z] [te : TZ E.P e d' n' b' z'] {x i : Operand} {id ver ver' sz e' : Nat} {wr : Bool} {xs : List (List AV)} {k : IntKind} {m : Int}
    (hx : ev sl x = some (.os id ver)) (hi : ev sl i = some (.int k m)) (hH : H[id]? = some (.arr e' sz ver' xs wr)) (hver : ver = ver') (hsz : sz = n') (h0 : 0 ≤ m) (h1 : m < (xs.length : Int)) : OV E sl H (.indexAddr t x i) (.er id ver sz m.toNat 0) := by
  intro I ν a w hh hs
  have hi' := (a2p hs hi).int_inv
  subst hver; subst hsz
  obtain ⟨g, c, hv, hval, hid, hle⟩ := b9l hh hH (a2p hs hx)
  refine ⟨.pointer (some ⟨g, m.toNat * sz + 0, none⟩), .er id ver sz m.toNat 0 g xs.length c hid hle (hval.trans hv), fun o w' ho hb => ?_⟩
  simp [execOp, ho, hv, hi', Instr.indexAt, asIntOf, ti.und, h0, h1, te.size, a4c]
theorem a6u {t e : Nat} {n b : Nat} {z : Value} [ti : TI E.P t (.slice e) n b z] {x : Operand} {id ver ver' sz e' : Nat} {wr : Bool} {xs : List (List AV)} (hx : ev sl x = some (.os id ver)) (hH : H[id]? = some (.arr e' sz ver' xs wr)) (hver : ver = ver') :
    OV E sl H (.call { callee := .builtin .len, args := #[x], argTypes := #[t] }) (.int .i64 (xs.length : Int)) := by
  intro I ν a w hh hs
  subst hver
  obtain ⟨g, c, hv, hval, hid, hle⟩ := b9l hh hH (a2p hs hx)
  refine ⟨_, .pure (.int .i64 _), fun o w' ho hb => ?_⟩
  simp [execOp, ho, hv, resolve, invoke, builtin, Builtin.len_, ti.und, goInt]

theorem b3h {t : Nat} {dd : Bool} {b : Nat} {z : Value} [ti : TZ E.P t dd 1 b z] {p x : Operand} {id ver ver' e i : Nat} {xs xs' : List (List AV)} {c : List AV} {xv : AV} {ty : TypeId} {pos : String} {after : Array Edge}
    (hp : ev sl p = some (.er id ver 1 i 0)) (hx : ev sl x = some xv) (hpu : xv.pu = true) (hce : xv.cell = true)
    (hU : Upd id H (.arr e 1 ver' xs true) (.arr e 1 ver' xs' true) H') (hv : ver = ver') (hi : xs[i]? = some c) (hxs : xs' = xs.set i [xv])
    (h : AL E N ops Q rest ⟨sl, H'⟩) : AL E N ops Q (⟨none, .store t p x, ty, pos, after, none⟩ :: rest) ⟨sl, H⟩ := by
  obtain ⟨hid, hset⟩ := hU.eq
  subst hset; subst hv
  refine b1h (fun I ν a w hh hs => ?_) h
  have hxv := a2p hs hx
  obtain ⟨hcv, hone⟩ := hxv.cell1 hce
  have hxp := hxv.pu hpu
  have hp' := a2p hs hp
  obtain ⟨pv, hpv⟩ : ∃ v, a.eval p = v := ⟨_, rfl⟩
  rw [hpv] at hp'
  cases hp' with
  | pure hp' => cases hp'
  | er _ _ _ _ _ g nn cc hidl hver hval =>
  cases hh.obj id _ hid with
  | arr _ _ _ _ _ g' c' cur fr ht h0 hv' hb hheap hfr hl hcc hr hI =>
  rw [hval] at hv'
  injection hv' with e1 e2 e3
  injection e1 with e1
  injection e1 with e1
  subst e1
  rw [Nat.mul_one] at hl hfr hr
  have hil := (List.getElem?_eq_some_iff.1 hi).1
  obtain ⟨u, hu⟩ : ∃ u, a.eval x = u := ⟨_, rfl⟩
  rw [hu] at hxp hcv hone hxv
  have hcl : c = [c.getD 0 .any] := by
    have := (hr.2 i c hi).1
    match c, this with
    | [y], _ => rfl
  have hP : PutN 0 c [xv] [xv] := by rw [hcl]; exact .here .done
  obtain ⟨w', hw'⟩ : ∃ w', w' = w.setCell ⟨g, i, none⟩ u := ⟨_, rfl⟩
  have hcell : w.cell? ⟨g, i, none⟩ = some (cur[i]'(by omega)) := by simp [World.cell?, hheap]
  have hfz : w.frozen? ⟨g, i, none⟩ = false := by
    have := hfr rfl
    simp [World.frozen?, hheap]
    intro h
    omega
  have hst := run_store E.P w ⟨g, i, none⟩ u .plain hone
  rw [hcell] at hst
  simp only [hfz, Bool.false_eq_true, if_false] at hst
  rw [← hw'] at hst
  have hheap' : w'.heap[g]? = some (.cells (cur.setIfInBounds i u) e fr) := by
    rw [hw']
    simp [World.setCell, Array.getElem?_modify, hheap]
  have hfar : ∀ k, k ≠ g → w'.heap[k]? = w.heap[k]? := fun k hk => by
    rw [hw']
    simp [World.setCell, Array.getElem?_modify, Ne.symm hk]
  have hsz : w'.heap.size = w.heap.size := by rw [hw']; simp [World.setCell]
  have hIm : ImmLe w I w' I := ImmLe.heap hh fun k _ ⟨o, ho⟩ => hfar k fun e => hI o (e ▸ ho)
  obtain ⟨hrel, hin⟩ := b6d (w' := w') (vs := [u]) hr hi hP hxs rfl hIm (fun j y v h1 h2 => by
    cases j with
    | zero => simp at h1 h2; subst h1; subst h2; exact hxp
    | succ j => simp at h1)
  rw [Nat.mul_one, Nat.add_zero] at hrel
  have htake : (cur.setIfInBounds i u).toList.take xs'.length = (cur.toList.take xs.length).take i ++ [u] ++ (cur.toList.take xs.length).drop (i + [u].length) := by
    have hlx : xs'.length = xs.length := by rw [hxs]; simp
    rw [hlx]
    refine List.ext_getElem? fun k => ?_
    rw [List.getElem?_take, Array.getElem?_toList, Array.getElem?_setIfInBounds]
    by_cases k1 : k < i
    · rw [List.append_assoc, List.getElem?_append_left (by simp; omega), List.getElem?_take_of_lt k1, List.getElem?_take_of_lt (by omega), if_pos (by omega), if_neg (by omega), Array.getElem?_toList]
    · by_cases k2 : k = i
      · subst k2
        rw [if_pos hil, if_pos rfl, if_pos (by omega), List.append_assoc, List.getElem?_append_right (by simp; omega)]
        simp only [List.length_take, Array.length_toList, List.singleton_append]
        rw [show k - min k (min xs.length cur.size) = 0 by omega]
        rfl
      · rw [List.getElem?_append_right (by simp; omega)]
        have e : ((cur.toList.take xs.length).take i ++ [u]).length = i + 1 := by simp; omega
        rw [e, List.getElem?_drop, show i + [u].length + (k - (i + 1)) = k by simp; omega, List.getElem?_take, if_neg (Ne.symm k2), Array.getElem?_toList]
  have hlx : xs'.length = xs.length := by rw [hxs]; simp
  have hOB : OB ν id (.arr e 1 ver xs true) g := by simp only [OB, OB1, hval, Value.ownBlock]
  have hbel : Below E.base E.w0 w' := by
    refine hh.below.trans ⟨?_, ?_, ?_, by omega, fun k hk => hfar k (by omega)⟩
    all_goals rw [hw']; rfl
  have := hh.set (o' := .arr e 1 ver xs' true) (w' := w') hid (fun e => by cases e) (Nu.le.refl ν) rfl (fun _ _ => rfl) hbel (by omega) (fun k _ hk => hfar k (fun e => hk (by rw [e]; exact hOB))) hIm
    (.arr e 1 ver xs' true g c' (cur.setIfInBounds i u) fr ht (by decide) (by rw [hval, hlx, e2, e3]) hb hheap' (fun _ => by rw [hlx, Nat.mul_one]; exact hfr rfl) (by rw [hlx, Nat.mul_one]; simpa using hl) (by omega) (by rw [Nat.mul_one, htake]; exact hrel) hI)
    (fun b' hb' => by simp only [OB, OB1, hval, Value.ownBlock, Option.some.injEq] at hb'; exact .inl (by rw [← hb']; exact hOB))
  refine ⟨w', ν, fun o ho => ?_, this.1, this.2, Nu.le.refl ν⟩
  simp [execOp, ho, Instr.storeAt, Instr.sureAddr, hpv, storeVar, hu, hcv, ti.size, storeCells, Addr.add, hst]

theorem VR.os_id {w : World} {I : Imm} {ν : Nu} {id ver : Nat} {v : Value} (h : VR w I ν (.os id ver) v) : id < ν.n ∧ ver ≤ ν.top id := by
  cases h with
  | pure h => cases h
  | os _ _ A n c hi hver hs => exact ⟨hi, hver⟩
theorem c2d {x : Operand} {id ver : Nat} {l : List UInt8} {o : AO} {tys : Array TypeId} (hx : ev sl x = some (.os id ver)) (hH : H[id]? = some o) (hb : IsBytes l ver o) (hne : l ≠ []) :
    OV E sl H (.call { callee := .builtin .unsafeSliceData, args := #[x], argTypes := tys }) (.er id ver 1 0 0) := by
  intro I ν a w hh hs
  have hos := a2p hs hx
  obtain ⟨hval, hv⟩ := a8y hh hH hb hos
  rcases hv with ⟨_, e⟩ | ⟨g, c, cur, e', fr, hv, hlc, hob, hheap, hl, ht⟩
  · exact absurd e hne
  have hlp : 0 < l.length := List.length_pos_iff.2 hne
  obtain ⟨hid, hle⟩ := hos.os_id
  refine ⟨.pointer (some ⟨g, 0 * 1 + 0, none⟩), .er id ver 1 0 0 g l.length c hid hle (by rw [← hval, hv]), fun o' w' ho hw => ?_⟩
  have := Lib.run_unsafeSliceData_row (P := E.P) (w := w') tys o'.type ⟨g, 0, none⟩ l.length c (by omega)
  simp [execOp, ho, hv, resolve, invoke, builtin, this]
theorem c0d {I : Imm} {ν : Nu} {a : Act} {w : World} {x : Operand} {id ver e : Nat} {n b : Nat} {z : Value} {o : AO} {tys : Array TypeId} {ty : TypeId} [ti : TI E.P ty (.pointer e) n b z] (hh : HR E I ν H w) (hs : SlR w I ν sl a) (hx : ev sl x = some (.os id ver)) (hH : H[id]? = some o) (hb : IsBytes [] ver o) (d : Option Nat) (pos : String) (after : Array Edge) (g : Option (Nat × Bool)) :
    ∃ w' q, (execOp a.eval ⟨d, .call { callee := .builtin .unsafeSliceData, args := #[x], argTypes := tys }, ty, pos, after, g⟩).run E.P w = .ok (.value (.pointer q)) w' ∧ Below w.heap.size w w' ∧ ∀ A, q = some A → ∃ g, A = ⟨g, 0, none⟩ := by
  obtain ⟨hval, hv⟩ := a8y hh hH hb (a2p hs hx)
  rcases hv with ⟨hv, _⟩ | ⟨g, c, cur, e', fr, hv, hlc, hob, hheap, hl, ht⟩
  · have := Lib.run_unsafeSliceData_nil (P := E.P) (w := w) tys ty 0 0
    exact ⟨w, none, by simp [execOp, hv, resolve, invoke, builtin, this], Below.refl _ _, fun A h => by cases h⟩
  · by_cases hc : c = 0
    · subst hc
      have := Lib.run_unsafeSliceData_zero (P := E.P) (w := w) tys ty e ti.u ⟨g, 0, none⟩ 0 (e', cur.size) (by simp [World.shape?, hheap])
      exact ⟨w.alloc (.view ⟨g, 0, none⟩ e), some ⟨w.heap.size, 0, none⟩, by simp [execOp, hv, resolve, invoke, builtin, this], Below.alloc (Below.refl _ _) (Nat.le_refl _) _, fun A h => ⟨_, by injection h with h; exact h.symm⟩⟩
    · have := Lib.run_unsafeSliceData_row (P := E.P) (w := w) tys ty ⟨g, 0, none⟩ 0 c hc
      exact ⟨w, some ⟨g, 0, none⟩, by simp [execOp, hv, resolve, invoke, builtin, this], Below.refl _ _, fun A h => ⟨_, by injection h with h; exact h.symm⟩⟩
theorem b7f {I : Imm} {ν : Nu} {w w' : World} {q : Option Addr} (hh : HR E I ν H w) (hb : Below w.heap.size w w') (hq : ∀ A, q = some A → ∃ g, A = ⟨g, 0, none⟩) : ∃ ν' pv, (isPtr pv = true ∨ pv = .nilp) ∧ HR E I ν' (H ++ [AO.gone]) w' ∧ FR E.k w I ν H w' I ν' (H ++ [AO.gone]) ∧ ν.le ν' ∧ VR w' I ν' pv (.pointer q) := by
  have hp := hh.push (o := .gone) (t := 0) (f := fun _ => .pointer q) (w' := w') (hh.below.trans (hb.mono hh.base)) hb.size (fun k hk => hb.block k hk) .gone (fun b h => by simp [OB, OB1] at h)
  cases q with
  | none => exact ⟨_, .nilp, .inr rfl, hp.1, hp.2.1, ν.add_le _ _, .pure .nilp⟩
  | some A =>
    obtain ⟨g, rfl⟩ := hq A rfl
    exact ⟨_, .op H.length 0, .inl rfl, hp.1, hp.2.1, ν.add_le _ _, .op _ 0 g (by simp [Nu.add, hh.n]) (by simp [Nu.add, hh.n])⟩
theorem b8s {τ : List (Nat × List Nat)} {p : PS} {pl : List PS} {x : Operand} {id ver e : Nat} {n b : Nat} {z : Value} {o : AO} {tys : Array TypeId} {ty : TypeId} [ti : TI E.P ty (.pointer e) n b z] {pos : String} {after : Array Edge} {d : Nat} (hx : ev sl x = some (.os id ver)) (hH : H[id]? = some o) (hb : IsBytes [] ver o) (hS : Snoc H .gone H') (hd : Nat.blt d N = true) (hq : p.q = false)
    (h : ∀ pv, isPtr pv = true ∨ pv = .nilp → HL E N ops τ Q pl ⟨(d, pv) :: sl, H'⟩) : HW E N ops τ Q p pl (some d) (.call { callee := .builtin .unsafeSliceData, args := #[x], argTypes := tys }) ty pos after ⟨sl, H⟩ := by
  rw [hS.eq] at h
  intro g hg hi hns L hL hp I ν a w hs w0 I0 ν0 o0 hf
  refine c2h hL hns hp hq hi hs hf ?_
  obtain ⟨w', q, hrun, hbel, hqq⟩ := c0d (tys := tys) (ty := ty) hs.hr hs.sl hx hH hb (some d) pos after g
  obtain ⟨ν', pv, hpv, p1, p2, p3, p4⟩ := b7f hs.hr hbel hqq
  refine b7d hi (hg I ν a w hs) ?_
  unfold Oper.wp
  rw [hrun]
  refine ⟨⟨(d, pv) :: sl, H ++ [AO.gone]⟩, I, ν', h pv hpv, ⟨p1, (hs.sl.mono p2.imm p3).put d p4 (by rw [hs.nt]; simpa [Nat.blt_eq] using hd), hs.df, by simp [Act.put, hs.nt]⟩, p2, fun id o b h1 _ h2 => ⟨hbel.block b (a4w (hs.hr.obj id o h1) h2).1, ?_, ?_⟩⟩
  · exact (List.getElem?_append_left (List.getElem?_eq_some_iff.1 h1).1).trans h1
  · rw [a9g (hs.hr.obj id o h1) p3 (hs.hr.idlt h1)]; exact h2
theorem b5g {p n : Operand} {pv : AV} {pt it : Nat} (hp : ev sl p = some pv) (hpp : isPtr pv = true ∨ pv = .nilp) (hn : ev sl n = some (.int .i64 0)) :
    OV E sl H (.call { callee := .builtin .unsafeString, args := #[p, n], argTypes := #[pt, it] }) (.str []) := by
  intro I ν a w hh hs
  have e2 := (a2p hs hn).int_inv
  obtain ⟨q, e1⟩ : ∃ q, a.eval p = .pointer q := by
    rcases hpp with h | rfl
    · obtain ⟨A, hA⟩ := (a2p hs hp).ptr h
      exact ⟨_, hA⟩
    · exact ⟨_, (a2p hs hp).nilp_inv⟩
  refine ⟨_, .pure (.str []), fun o w' ho hw => ?_⟩
  have := Lib.run_unsafeString_none (P := E.P) (w := w') pt it o.type q
  simp [execOp, ho, e1, e2, resolve, invoke, builtin, this]
  rfl

inductive Shares (l : List UInt8) (ver : Nat) : AO → AO → Prop where
  | row (e : Nat) : Shares l ver (.row e 1 ver 0 (bytesAV l)) (.arr e 1 ver (bytesAV l) false)
  | arr (e : Nat) (wr : Bool) : Shares l ver (.arr e 1 ver (bytesAV l) wr) (.arr e 1 ver (bytesAV l) false)
end
end Go.Proofs.YtkljmljkiodnpaaGreatDoor.L

namespace Go.Proofs.YtkljmljkiodnpaaGreatDoor.L
open Go Go.RowKit

theorem b8z {w : World} {g n : Nat} {cur : Array Value} {e : TypeId} {fr : Nat × Nat} (h : w.heap[g]? = some (.cells cur e fr)) : ∃ fr', (w.freeze ⟨g, 0, none⟩ n).heap[g]? = some (.cells cur e fr') := by
  unfold World.freeze
  split
  · exact ⟨fr, h⟩
  · simp only [Array.getElem?_modify, if_true, h, Option.map_some]
    exact ⟨_, rfl⟩
theorem b6p {w : World} {g n k : Nat} (hk : k ≠ g) : (w.freeze ⟨g, 0, none⟩ n).heap[k]? = w.heap[k]? := by
  unfold World.freeze
  split
  · rfl
  · simp only [Array.getElem?_modify]
    rw [if_neg (Ne.symm hk)]
theorem b4d {w : World} {g n : Nat} : (w.freeze ⟨g, 0, none⟩ n).heap.size = w.heap.size := by
  unfold World.freeze
  split
  · rfl
  · simp
section
variable {E : Env} {N : Nat} {ops : Array Oper} {Q : Exit → St → Prop} {rest : List Oper} {sl : Slots} {H H' : List AO}
theorem b9p {p n : Operand} {id ver e : Nat} {l : List UInt8} {o o' : AO} {pt it : Nat} {nn b : Nat} {z : Value} [ti : TI E.P pt (.pointer e) nn b z] {ty : TypeId} {pos : String} {after : Array Edge} {d : Nat} (hce : E.P.cellsOf e = 1)
    (hp : ev sl p = some (.er id ver 1 0 0)) (hn : ev sl n = some (.int .i64 (l.length : Int))) (hU : Upd id H o o' H') (hsh : (o = .row e 1 ver 0 (bytesAV l) ∨ ∃ wr, o = .arr e 1 ver (bytesAV l) wr) ∧ o' = .arr e 1 ver (bytesAV l) false) (hne : l ≠ []) (hlen : l.length ≤ 9223372036854775807) (hd : Nat.blt d N = true)
    (h : AL E N ops Q rest ⟨(d, .str l) :: sl, H'⟩) : AL E N ops Q (⟨some d, .call { callee := .builtin .unsafeString, args := #[p, n], argTypes := #[pt, it] }, ty, pos, after, none⟩ :: rest) ⟨sl, H⟩ := by
  obtain ⟨hid, hset⟩ := hU.eq
  subst hset
  obtain ⟨ho, rfl⟩ := hsh
  refine a5l hd (fun I ν a w hh hs => ?_) h
  have e2 := (a2p hs hn).int_inv
  have hp' := a2p hs hp
  obtain ⟨pv, hpv⟩ : ∃ v, a.eval p = v := ⟨_, rfl⟩
  rw [hpv] at hp'
  have hbl : (bytesAV l).length = l.length := List.length_map _
  have hlp : 0 < l.length := List.length_pos_iff.2 hne
  cases hp' with
  | pure hp' => cases hp'
  | er _ _ _ _ _ g n2 c hidl hver hval =>
  have key : ∃ cur fr, w.heap[g]? = some (.cells cur e fr) ∧ l.length ≤ cur.size ∧ n2 = l.length ∧ l.length ≤ c ∧ cur.toList.take l.length = (l.map fun b => Value.int .u8 (b.toNat : Int)) ∧ (∀ o, ¬ I g o) ∧ OB ν id o g ∧ o ≠ .gone ∧ E.base ≤ g := by
    rcases ho with rfl | ⟨wr, rfl⟩
    · cases hh.obj id _ hid with
      | row _ _ _ _ _ inner ht h0 hown hr hf hI =>
        have hin := a4v hr
        subst hin
        rw [hval] at hown hI
        rcases hown.2 with ⟨e1, e2⟩ | ⟨g', cap, cur, h1, h2, h3, h4, h5, h6, h7⟩
        · cases e1
        · injection h1 with h1 h1b h1c
          injection h1 with h1; injection h1 with h1
          subst h1
          rw [Nat.mul_one] at h6 h7
          refine ⟨cur, _, h3, by omega, by omega, by omega, by rw [← hbl]; exact h7, fun o hio => ?_, by simp only [OB, OB1, hval, Value.ownBlock], (fun e => by cases e), h2⟩
          have := hI g o rfl hio
          omega
    · cases hh.obj id _ hid with
      | arr _ _ _ _ _ g' c' cur fr ht h0 hv' hb hheap hfr hl hcc hr hI =>
        rw [hval] at hv'
        injection hv' with e1 e2 e3
        injection e1 with e1
        injection e1 with e1
        subst e1
        have hin := a4v hr
        rw [Nat.mul_one, hbl] at hl hin
        exact ⟨cur, fr, hheap, hl, by omega, by omega, hin, hI, by simp only [OB, OB1, hval, Value.ownBlock], (fun e => by cases e), hb⟩
  obtain ⟨cur, fr, hheap, hl, hn2, hlc, ht, hI, hOB, hng, hbase⟩ := key
  obtain ⟨w', hw'⟩ : ∃ w', w' = w.freeze ⟨g, 0, none⟩ l.length := ⟨_, rfl⟩
  obtain ⟨fr', hheap'⟩ := b8z (n := l.length) hheap
  rw [← hw'] at hheap'
  have hfar : ∀ k, k ≠ g → w'.heap[k]? = w.heap[k]? := fun k hk => by rw [hw']; exact b6p hk
  have hsz : w'.heap.size = w.heap.size := by rw [hw']; exact b4d
  have hIm : ImmLe w I w' I := ImmLe.heap hh fun k _ ⟨o, ho⟩ => hfar k fun e => hI o (e ▸ ho)
  have hrun := Lib.run_unsafeString_row (P := E.P) (w := w) pt it ty e ti.u hce g cur.size (by simp [World.shape?, hheap]) l hne hl hlen (fun j x hj => b0c hheap ht hj)
  rw [← hw'] at hrun
  have hbel : Below E.base E.w0 w' := by rw [hw']; exact Lib.below_freeze hh.below hbase _
  have htop : ver ≤ ν.top id := hver
  have := hh.set (o' := .arr e 1 ver (bytesAV l) false) (w' := w') hid hng (Nu.le.refl ν) rfl (fun _ _ => rfl) hbel (by omega) (fun k _ hk => hfar k (fun e => hk (by rw [e]; exact hOB))) hIm
    (.arr e 1 ver (bytesAV l) false g c cur fr' htop (by decide) (by rw [hval, hn2, hbl]) hbase hheap' (fun h => by cases h) (by rw [hbl, Nat.mul_one]; exact hl) (by rw [hbl]; exact hlc) (by rw [hbl, Nat.mul_one, ht]; exact a7e) hI)
    (fun b' hb' => by simp only [OB, OB1, hval, Value.ownBlock, Option.some.injEq] at hb'; exact .inl (by rw [← hb']; exact hOB))
  refine ⟨_, w', ν, fun o ho => ?_, this.1, this.2, Nu.le.refl ν, .pure (.str l)⟩
  have hz : (⟨g, 0 * 1 + 0, none⟩ : Addr) = ⟨g, 0, none⟩ := rfl
  have : (Builtin.unsafeString_ #[pt, it] o.type #[.pointer (some ⟨g, 0 * 1 + 0, none⟩), .int .i64 l.length]).run E.P w = .ok (.string ⟨l.toArray⟩) w' := hrun
  simp [execOp, ho, hpv, e2, resolve, invoke, builtin]
  simp at this
  rw [this]
  rfl

theorem b4o {I : Imm} {ν : Nu} {a : Act} {w : World} {id k e sz : Nat} {cells : List AV} {tyo : Option Nat} (hs : SR E N I ν ⟨sl, H⟩ a w) (hH : H[id]? = some (.box cells tyo)) (hk : cells[k]? = some .nilsl) (h0 : 0 < sz) :
    ∃ ν', SR E N I ν' ⟨sl, (H ++ [AO.row e sz 0 0 []]).set id (.box (cells.set k (.os H.length 0)) tyo)⟩ a w ∧ FR E.k w I ν H w I ν' ((H ++ [AO.row e sz 0 0 []]).set id (.box (cells.set k (.os H.length 0)) tyo)) := by
  have hh := hs.hr
  obtain ⟨ν', p1, p2, p3, p4⟩ := a7o (w' := w) hh (xs := []) (v := .slice none 0 0) (inner := []) (e := e) (n := 0) h0 rfl (World.ownsRow_nil w E.base e sz) ⟨by simp, fun i c h => by simp at h⟩ hh.below (Nat.le_refl _) (fun _ _ => rfl) (fun b hb => by simp [Value.ownBlock] at hb)
  have hlt : id < H.length := (List.getElem?_eq_some_iff.1 hH).1
  have hH' : (H ++ [AO.row e sz 0 0 []])[id]? = some (.box cells tyo) := by rw [List.getElem?_append_left hlt]; exact hH
  have hset := (show HR E I ν' ((H ++ [AO.row e sz 0 0 []]).set id (.box (cells.set k (.os H.length 0)) tyo)) w ∧ FR E.k w I ν' (H ++ [AO.row e sz 0 0 []]) w I ν' ((H ++ [AO.row e sz 0 0 []]).set id (.box (cells.set k (.os H.length 0)) tyo)) by
    cases p1.obj id _ hH' with
    | box _ _ b vs ty hv hb hheap hl hx hI hty =>
      have hOB : OB ν' id (.box cells tyo) b := by simp only [OB, OB1, hv]
      have hkl : k < cells.length := (List.getElem?_eq_some_iff.1 hk).1
      refine p1.set (o' := .box (cells.set k (.os H.length 0)) tyo) hH' (fun e => by cases e) (Nu.le.refl ν') rfl (fun _ _ => rfl) p1.below (Nat.le_refl _) (fun _ _ _ => rfl) (ImmLe.refl _ _)
        (.box _ tyo b vs ty hv hb hheap (by simpa using hl) (fun j x v h1 h2 => ?_) hI hty) (fun b' hb' => by simp only [OB, OB1, hv, Option.some.injEq] at hb'; exact .inl (by rw [← hb']; exact hOB))
      by_cases e1 : j = k
      · subst e1
        rw [List.getElem?_set_self hkl] at h1
        injection h1 with h1
        subst h1
        have := (hx j .nilsl v hk h2).nilsl_inv
        rw [this]
        exact p4
      · rw [List.getElem?_set_ne (Ne.symm e1)] at h1
        exact hx j x v h1 h2)
  exact ⟨ν', ⟨hset.1, hs.sl.mono p2.imm p3, hs.df, hs.nt⟩, p2.trans hset.2⟩
theorem Wkn.adoptBox {id k e sz m : Nat} {cells cells' : List AV} {tyo : Option Nat} {H1 : List AO} (hH : H[id]? = some (.box cells tyo)) (hk : cells[k]? = some .nilsl) (h0 : 0 < sz) (hm : H.length = m) (hc : cells' = cells.set k (.os m 0)) (h1 : H1 = (H ++ [AO.row e sz 0 0 []]).set id (.box cells' tyo)) : Wkn E N ⟨sl, H⟩ ⟨sl, H1⟩ := fun I ν a w hs => by
  subst hm; subst hc; subst h1
  obtain ⟨ν', h2, h3⟩ := b4o (e := e) (sz := sz) hs hH hk h0
  exact ⟨I, ν', h2, h3⟩
end
end Go.Proofs.YtkljmljkiodnpaaGreatDoor.L

namespace Go.Proofs.YtkljmljkiodnpaaGreatDoor.L
open Go Go.RowKit

def NoG (Q : Exit → St → Prop) : Exit → St → Prop
  | .goto _, _ => False
  | e, σ => Q e σ
section
variable {E : Env} {N : Nat} {ops : Array Oper} {Q : Exit → St → Prop} {rest : List Oper} {sl : Slots} {H H' : List AO}
theorem a6n {c : Code} {σ : St} (h : AWp E N c (NoG Q) σ) : AWp E N (.scope c) Q σ := by
  intro I ν a w hs
  refine wp_scope_straight (Code.wp_mono (fun e a' w' hk => ?_) (h I ν a w hs))
  obtain ⟨σ', I', ν', hq, hs', hf⟩ := hk
  cases e with
  | goto l => exact hq.elim
  | normal => exact ⟨σ', I', ν', hq, hs', hf⟩
  | exit id => exact ⟨σ', I', ν', hq, hs', hf⟩
  | ret => exact ⟨σ', I', ν', hq, hs', hf⟩
  | panic ch => exact ⟨σ', I', ν', hq, hs', hf⟩
  | outgrown => exact ⟨σ', I', ν', hq, hs', hf⟩
theorem b0x {σ : St} (h : Q .ret σ) : NoG Q .ret σ := h
structure DecF (s : List UInt8) (pos c wd : Nat) : Prop where
  wd1 : 1 ≤ wd
  kind : (∃ b : UInt8, s[pos]? = some b ∧ b.toNat < 128 ∧ c = b.toNat ∧ wd = 1) ∨ (128 ≤ c ∧ ∀ (k : Nat) (b : UInt8), k < wd → s[pos + k]? = some b → 128 ≤ b.toNat)
theorem get!_mk (s : List UInt8) (i : Nat) (b : UInt8) (h : s[i]? = some b) : (ByteArray.mk s.toArray).get! i = b := by
  have hlt := (List.getElem?_eq_some_iff.1 h).1
  have h2 := (List.getElem?_eq_some_iff.1 h).2
  show s.toArray[i]! = b
  simp [hlt, h2]
theorem decF (s : List UInt8) (pos : Nat) (h : pos < s.length) : DecF s pos (Utf8.decode ⟨s.toArray⟩ pos).1 (Utf8.decode ⟨s.toArray⟩ pos).2 := by
  have hb : s[pos]? = some s[pos] := List.getElem?_eq_getElem h
  have e0 := get!_mk s pos _ hb
  have hsz : (ByteArray.mk s.toArray).size = s.length := rfl
  have cont : ∀ (k : Nat) (b : UInt8), s[pos + k]? = some b → ((ByteArray.mk s.toArray).get! (pos + k)).toNat = b.toNat := fun k b hk => by rw [get!_mk s _ b hk]
  obtain ⟨b0, hb0⟩ : ∃ b, s[pos] = b := ⟨_, rfl⟩
  rw [hb0] at hb e0
  have big : ¬ b0.toNat < 128 → 128 ≤ b0.toNat := fun h => by omega
  have one : ¬ b0.toNat < 128 → ∀ (k : Nat) (b : UInt8), k < 1 → s[pos + k]? = some b → 128 ≤ b.toNat := fun hn k b hk hbk => by
    obtain rfl : k = 0 := by omega
    rw [Nat.add_zero, hb] at hbk
    injection hbk with hbk
    subst hbk
    omega
  unfold Utf8.decode
  simp only [Nat.add_zero, e0, hsz]
  have re : (128 : Nat) ≤ Utf8.runeError := by decide
  split
  · rename_i h1
    exact ⟨Nat.le_refl _, .inl ⟨b0, hb, h1, rfl, rfl⟩⟩
  rename_i h1
  split
  · rename_i h2
    simp only [Bool.and_eq_true, decide_eq_true_eq, beq_iff_eq] at h2
    split
    · rename_i h3
      refine ⟨by dsimp only; omega, .inr ⟨h3, fun k b hk hbk => ?_⟩⟩
      rcases (show k = 0 ∨ k = 1 by omega) with rfl | rfl
      · exact one h1 0 b (by decide) hbk
      · have := cont 1 b hbk; omega
    · exact ⟨Nat.le_refl _, .inr ⟨re, one h1⟩⟩
  · split
    · rename_i h2
      simp only [Bool.and_eq_true, decide_eq_true_eq, beq_iff_eq] at h2
      split
      · rename_i h3
        simp only [Bool.and_eq_true, decide_eq_true_eq] at h3
        refine ⟨by dsimp only; omega, .inr ⟨by omega, fun k b hk hbk => ?_⟩⟩
        rcases (show k = 0 ∨ k = 1 ∨ k = 2 by omega) with rfl | rfl | rfl
        · exact one h1 0 b (by decide) hbk
        · have := cont 1 b hbk; omega
        · have := cont 2 b hbk; omega
      · exact ⟨Nat.le_refl _, .inr ⟨re, one h1⟩⟩
    · split
      · rename_i h2
        simp only [Bool.and_eq_true, decide_eq_true_eq, beq_iff_eq] at h2
        split
        · rename_i h3
          simp only [Bool.and_eq_true, decide_eq_true_eq] at h3
          refine ⟨by dsimp only; omega, .inr ⟨by omega, fun k b hk hbk => ?_⟩⟩
          rcases (show k = 0 ∨ k = 1 ∨ k = 2 ∨ k = 3 by omega) with rfl | rfl | rfl | rfl
          · exact one h1 0 b (by decide) hbk
          · have := cont 1 b hbk; omega
          · have := cont 2 b hbk; omega
          · have := cont 3 b hbk; omega
        · exact ⟨Nat.le_refl _, .inr ⟨re, one h1⟩⟩
      · exact ⟨Nat.le_refl _, .inr ⟨re, one h1⟩⟩

theorem a7j {t : Nat} {n b : Nat} {z : Value} [ti : TI E.P t .string n b z] {x : Operand} {s : List UInt8} {m : Nat} {ty : TypeId} {pos : String} {after : Array Edge} {d : Nat} (hx : ev sl x = some (.str s)) (hm : H.length = m) (hS : Snoc H (.siter s 0) H') (hd : Nat.blt d N = true)
    (h : AL E N ops Q rest ⟨(d, .op m 0) :: sl, H'⟩) : AL E N ops Q (⟨some d, .range t x, ty, pos, after, none⟩ :: rest) ⟨sl, H⟩ := by
  subst hm
  rw [hS.eq] at h
  refine a5l hd (fun I ν a w hh hs => ?_) h
  have e1 := (a2p hs hx).str_inv
  have := hh.push (o := .siter s 0) (t := 0) (f := fun _ => .pointer (some ⟨w.heap.size, 0, none⟩)) (w' := w.iter ⟨s.toArray⟩ 0) (hh.below.alloc hh.base _) (by simp [World.iter]) (fun k hk => Below.heap_alloc w _ k hk)
    (.siter s 0 w.heap.size (by simp [Nu.add]) hh.base (World.iter_heap w _ 0)) (fun b hb => by simp [OB, OB1, Nu.add] at hb; omega)
  refine ⟨_, _, _, fun o ho => ?_, this.1, this.2.1, ν.add_le _ _, .op _ 0 w.heap.size (by simp [Nu.add, hh.n]) (by simp [Nu.add, hh.n])⟩
  have hrun := run_range_string (P := E.P) w t ⟨s.toArray⟩ ti.u
  simp [execOp, ho, e1, hrun]

theorem a9e {it : Operand} {id pos : Nat} {s : List UInt8} {ty : TypeId} {p : String} {after : Array Edge} {d : Nat} {Hf : Nat → List AO} (hit : ev sl it = some (.op id 0)) (hI : H[id]? = some (.siter s pos)) (hU : ∀ wd, Upd id H (.siter s pos) (.siter s (pos + wd)) (Hf wd)) (hd : Nat.blt d N = true)
    (h0 : s.length ≤ pos → AL E N ops Q rest ⟨(d, .tup [.bool false]) :: sl, H⟩) (h1 : ∀ c wd, pos < s.length → DecF s pos c wd → AL E N ops Q rest ⟨(d, .tup [.bool true, .int .i64 (pos : Int), .int .i32 (c : Int)]) :: sl, Hf wd⟩) :
    AL E N ops Q (⟨some d, .next it true, ty, p, after, none⟩ :: rest) ⟨sl, H⟩ := by
  intro I ν a w hs w0 I0 ν0 o0 hf0
  have hh := hs.hr
  have hit' := a2p hs.sl hit
  obtain ⟨iv, hiv⟩ : ∃ v, a.eval it = v := ⟨_, rfl⟩
  rw [hiv] at hit'
  cases hit' with
  | pure h => cases h
  | op _ _ r hi hval =>
  cases hh.obj id _ hI with
  | siter _ _ r' hv hb hheap =>
  rw [hval] at hv
  injection hv with e; injection e with e; injection e with e
  subst e
  refine wpList_plain rfl fun K hK => ?_
  unfold Oper.wp
  have hsz : (ByteArray.mk s.toArray).size = s.length := rfl
  by_cases hp : pos < s.length
  · obtain ⟨w', hw'⟩ : ∃ w', w' = { w with heap := w.heap.setIfInBounds r (.stringIter ⟨s.toArray⟩ (pos + (Utf8.decode ⟨s.toArray⟩ pos).2)) } := ⟨_, rfl⟩
    have hrl : r < w.heap.size := (Array.getElem?_eq_some_iff.1 hheap).1
    have hrun : (execOp a.eval ⟨some d, .next it true, ty, p, after, none⟩).run E.P w = .ok (.value (.tuple #[.bool true, .int .i64 (pos : Int), .int .i32 ((Utf8.decode ⟨s.toArray⟩ pos).1 : Int)])) w' := by
      have hr : w.heap[r] = .stringIter ⟨s.toArray⟩ pos := (Array.getElem?_eq_some_iff.1 hheap).2
      simp [execOp, hiv, Instr.next, getObj, setObj, Sem.run, hheap, hsz, hp, goInt, hw']
    rw [hrun]
    have hnew : w'.heap[r]? = some (.stringIter ⟨s.toArray⟩ (pos + (Utf8.decode ⟨s.toArray⟩ pos).2)) := by rw [hw']; simp [hrl]
    have hfar : ∀ k, k ≠ r → w'.heap[k]? = w.heap[k]? := fun k hk => by rw [hw']; simp [Array.getElem?_setIfInBounds, Ne.symm hk]
    have hszw : w'.heap.size = w.heap.size := by rw [hw']; simp
    have hOB : OB ν id (.siter s pos) r := by simp only [OB, OB1, hval]
    obtain ⟨hid, hset⟩ := (hU (Utf8.decode ⟨s.toArray⟩ pos).2).eq
    have hnoI : ∀ o, ¬ I r o := fun o ho => by
      obtain ⟨v, hv⟩ := hh.imm r o ho
      simp [World.cell?, hheap] at hv
    have hIm : ImmLe w I w' I := ImmLe.heap hh fun k _ ⟨o, ho⟩ => hfar k fun e => hnoI o (e ▸ ho)
    have hbel : Below E.base E.w0 w' := by
      refine hh.below.trans ⟨?_, ?_, ?_, by omega, fun k hk => hfar k (by omega)⟩
      all_goals rw [hw']
    have := hh.set (o' := .siter s (pos + (Utf8.decode ⟨s.toArray⟩ pos).2)) (w' := w') hid (fun e => by cases e) (Nu.le.refl ν) rfl (fun _ _ => rfl) hbel (by omega) (fun k _ hk => hfar k (fun e => hk (by rw [e]; exact hOB))) hIm
      (.siter _ _ r hval hb hnew) (fun b' hb' => by simp only [OB, OB1, hval, Option.some.injEq] at hb'; exact .inl (by rw [← hb']; exact hOB))
    have hal := h1 _ _ hp (decF s pos hp)
    rw [hset] at hal
    exact hK _ _ (hal I ν _ w' ⟨this.1, (hs.sl.mono hIm (Nu.le.refl ν)).put d (.tup [.bool true, .int .i64 (pos : Int), .int .i32 ((Utf8.decode ⟨s.toArray⟩ pos).1 : Int)] [.bool true, .int .i64 (pos : Int), .int .i32 ((Utf8.decode ⟨s.toArray⟩ pos).1 : Int)] rfl (fun j x v k1 k2 => by
      match j, k1, k2 with
      | 0, k1, k2 => simp at k1 k2; subst k1; subst k2; exact .pure (.bool _)
      | 1, k1, k2 => simp at k1 k2; subst k1; subst k2; exact .pure (.int _ _)
      | 2, k1, k2 => simp at k1 k2; subst k1; subst k2; exact .pure (.int _ _)
      | j + 3, k1, k2 => simp at k1)) (by rw [hs.nt]; simpa [Nat.blt_eq] using hd), hs.df, by simp [Act.put, hs.nt]⟩ w0 I0 ν0 o0 (hf0.trans this.2))
  · have hrun : (execOp a.eval ⟨some d, .next it true, ty, p, after, none⟩).run E.P w = .ok (.value (.tuple #[.bool false])) w := by
      simp [execOp, hiv, Instr.next, getObj, Sem.run, hheap, hsz, hp]
    rw [hrun]
    exact hK _ _ (h0 (by omega) I ν _ w ⟨hh, hs.sl.put d (.tup [.bool false] [.bool false] rfl (fun j x v k1 k2 => by
      match j, k1, k2 with
      | 0, k1, k2 => simp at k1 k2; subst k1; subst k2; exact .pure (.bool _)
      | j + 1, k1, k2 => simp at k1)) (by rw [hs.nt]; simpa [Nat.blt_eq] using hd), hs.df, by simp [Act.put, hs.nt]⟩ w0 I0 ν0 o0 hf0)

theorem c3i {src dst n b n' b' : Nat} {k k' : IntKind} {z z' : Value} [ts : TI E.P src (.int k) n b z] [td : TI E.P dst .string n' b' z'] {x : Operand} {m : Int} (hx : ev sl x = some (.int k' m)) : OV E sl H (.convert src dst x) (.str (Utf8.encode m).data.toList) := by
  intro I ν a w hh hs
  have e1 := (a2p hs hx).int_inv
  refine ⟨_, .pure (.str _), fun o w' ho hw => ?_⟩
  simp [execOp, ho, e1, convert, run_underlying ts.u, run_underlying td.u, Conv.intToString]
theorem b6t {c : Nat} (h : 128 ≤ c) : ∃ (l : List UInt8) (b : UInt8), (Utf8.encode (c : Int)).data.toList = l ++ [b] ∧ 1 ≤ l.length ∧ l.length ≤ 3 ∧ 128 ≤ b.toNat := by
  unfold Utf8.encode
  obtain ⟨d, hd⟩ : ∃ d, d = if Utf8.valid (c : Int) = true then (c : Int).toNat else Utf8.runeError := ⟨_, rfl⟩
  have hd' : 128 ≤ d := by
    rw [hd]
    split
    · simpa using h
    · decide
  simp only [← hd]
  have key : 128 ≤ (UInt8.ofNat (128 + d % 64)).toNat := by
    rw [UInt8.toNat_ofNat']
    omega
  rw [if_neg (by omega)]
  split
  · exact ⟨[_], _, rfl, by simp, by simp, key⟩
  · split
    · exact ⟨[_, _], _, rfl, by simp, by simp, key⟩
    · exact ⟨[_, _, _], _, rfl, by simp, by simp, key⟩
end
end Go.Proofs.YtkljmljkiodnpaaGreatDoor.L

namespace Go.Proofs
open Go.Shelf
def Tryz.lays160_ren : Go.Shelf.Ren := ⟨fun|160 => 89|232 => 132|231 => 131|227 => 133|234 => 135|233 => 134|236 => 137|235 => 136|228 => 153|271 => 163|151 => 162|197 => 161|120 => 175|152 => 151|260 => 174|137 => 147|119 => 168|224 => 113|225 => 112|217 => 111|266 => 149|n => n,fun|9 => 9|4 => 4|3 => 3|5 => 5|117 => 179|116 => 178|0 => 0|124 => 182|21 => 21|105 => 203|46 => 149|119 => 226|139 => 229|138 => 228|n => n,fun|3 => 4|4 => 5|n => n⟩
theorem Tryz.lays160 : Go.Proofs.Lays.n160 Tryz.prog Tryz.lays160_ren := {
  mixed := by kernel_rfl
  f119 := Tryz.func168.trans (congrArg some (by kernel_rfl))
  f120 := Tryz.func175.trans (congrArg some (by kernel_rfl))
  f137 := Tryz.func147.trans (congrArg some (by kernel_rfl))
  f151 := Tryz.func162.trans (congrArg some (by kernel_rfl))
  f152 := Tryz.func151.trans (congrArg some (by kernel_rfl))
  f160 := Tryz.func89.trans (congrArg some (by kernel_rfl))
  f197 := Tryz.func161.trans (congrArg some (by kernel_rfl))
  f217 := Tryz.func111.trans (congrArg some (by kernel_rfl))
  f224 := Tryz.func113.trans (congrArg some (by kernel_rfl))
  f225 := Tryz.func112.trans (congrArg some (by kernel_rfl))
  f227 := Tryz.func133.trans (congrArg some (by kernel_rfl))
  f228 := Tryz.func153.trans (congrArg some (by kernel_rfl))
  f231 := Tryz.func131.trans (congrArg some (by kernel_rfl))
  f232 := Tryz.func132.trans (congrArg some (by kernel_rfl))
  f233 := Tryz.func134.trans (congrArg some (by kernel_rfl))
  f234 := Tryz.func135.trans (congrArg some (by kernel_rfl))
  f235 := Tryz.func136.trans (congrArg some (by kernel_rfl))
  f236 := Tryz.func137.trans (congrArg some (by kernel_rfl))
  f260 := Tryz.func174.trans (congrArg some (by kernel_rfl))
  f266 := Tryz.func149.trans (congrArg some (by kernel_rfl))
  f271 := Tryz.func163.trans (congrArg some (by kernel_rfl))
  t0 := Tryz.underlying0
  a0 := Tryz.isAgg0
  z0 := Tryz.sizeOf0
  v0 := Tryz.zeroValue0
  t3 := Tryz.underlying3
  a3 := Tryz.isAgg3
  z3 := Tryz.sizeOf3
  v3 := Tryz.zeroValue3
  t4 := Tryz.underlying4
  a4 := Tryz.isAgg4
  z4 := Tryz.sizeOf4
  v4 := Tryz.zeroValue4
  t5 := Tryz.underlying5
  a5 := Tryz.isAgg5
  z5 := Tryz.sizeOf5
  v5 := Tryz.zeroValue5
  t9 := Tryz.underlying9
  a9 := Tryz.isAgg9
  z9 := Tryz.sizeOf9
  v9 := Tryz.zeroValue9
  t21 := Tryz.underlying21
  a21 := Tryz.isAgg21
  z21 := Tryz.sizeOf21
  v21 := Tryz.zeroValue21
  t46 := Tryz.underlying149
  a46 := Tryz.isAgg149
  z46 := Tryz.sizeOf149
  v46 := Tryz.zeroValue149
  t105 := Tryz.underlying203
  a105 := Tryz.isAgg203
  z105 := Tryz.sizeOf203
  v105 := Tryz.zeroValue203
  t116 := Tryz.underlying178
  a116 := Tryz.isAgg178
  z116 := Tryz.sizeOf178
  t117 := Tryz.underlying179
  a117 := Tryz.isAgg179
  z117 := Tryz.sizeOf179
  v117 := Tryz.zeroValue179
  t119 := Tryz.underlying226
  a119 := Tryz.isAgg226
  z119 := Tryz.sizeOf226
  t124 := Tryz.underlying182
  a124 := Tryz.isAgg182
  z124 := Tryz.sizeOf182
  v124 := Tryz.zeroValue182
  t138 := Tryz.underlying228
  a138 := Tryz.isAgg228
  z138 := Tryz.sizeOf228
  v138 := Tryz.zeroValue228
  t139 := Tryz.underlying229
  a139 := Tryz.isAgg229
  z139 := Tryz.sizeOf229
  v139 := Tryz.zeroValue229
  g3 := by kernel_rfl
  g4 := by kernel_rfl }
def Tryz.lays137_ren : Go.Shelf.Ren := ⟨fun | 137 => 147 | 217 => 111 | 266 => 149 | n => n, fun | 9 => 9 | 5 => 5 | 3 => 3 | n => n, fun | n => n⟩
theorem Tryz.lays137 : Go.Proofs.Lays.n137 Tryz.prog Tryz.lays137_ren := {
  mixed := by kernel_rfl
  f137 := Tryz.func147.trans (congrArg some (by kernel_rfl))
  f217 := Tryz.func111.trans (congrArg some (by kernel_rfl))
  f266 := Tryz.func149.trans (congrArg some (by kernel_rfl))
  t3 := Tryz.underlying3
  a3 := Tryz.isAgg3
  z3 := Tryz.sizeOf3
  v3 := Tryz.zeroValue3
  t5 := Tryz.underlying5
  a5 := Tryz.isAgg5
  z5 := Tryz.sizeOf5
  v5 := Tryz.zeroValue5
  t9 := Tryz.underlying9
  a9 := Tryz.isAgg9
  z9 := Tryz.sizeOf9
  v9 := Tryz.zeroValue9 }
open Go.RowKit in
theorem Tryz.strings_IndexByte (s : ByteArray) (c : Int) (w : World) :
    Calls Tryz.prog 147 #[.string s, .int .u8 c] w fun e w' => e = .returned (.int .i64 (Lib.indexByte s.data.toList c.toNat.toUInt8)) ∧ w' = w := Any.strings_IndexByte Tryz.lays137 s c w
def Tryz.lays172_ren : Go.Shelf.Ren := ⟨fun|172 => 80|244 => 123|245 => 124|247 => 154|279 => 155|280 => 156|281 => 157|282 => 158|287 => 169|316 => 170|171 => 56|205 => 171|321 => 181|322 => 182|243 => 96|246 => 140|283 => 164|284 => 165|285 => 166|286 => 167|129 => 177|317 => 176|318 => 178|319 => 179|320 => 180|337 => 183|338 => 184|n => n,fun|9 => 9|3 => 3|75 => 130|76 => 131|4 => 4|5 => 5|167 => 196|37 => 126|0 => 0|85 => 197|2 => 2|168 => 199|53 => 207|175 => 213|46 => 149|210 => 216|127 => 168|145 => 225|143 => 223|21 => 21|171 => 206|173 => 210|212 => 219|51 => 192|20 => 20|213 => 220|232 => 231|233 => 232|80 => 134|n => n,fun|15 => 1|16 => 2|17 => 3|18 => 6|19 => 7|n => n⟩
theorem Tryz.lays172 : Go.Proofs.Lays.n172 Tryz.prog Tryz.lays172_ren := {
  mixed := by kernel_rfl
  f129 := Tryz.func177.trans (congrArg some (by kernel_rfl))
  f171 := Tryz.func56.trans (congrArg some (by kernel_rfl))
  f172 := Tryz.func80.trans (congrArg some (by kernel_rfl))
  f205 := Tryz.func171.trans (congrArg some (by kernel_rfl))
  f243 := Tryz.func96.trans (congrArg some (by kernel_rfl))
  f244 := Tryz.func123.trans (congrArg some (by kernel_rfl))
  f245 := Tryz.func124.trans (congrArg some (by kernel_rfl))
  f246 := Tryz.func140.trans (congrArg some (by kernel_rfl))
  f247 := Tryz.func154.trans (congrArg some (by kernel_rfl))
  f279 := Tryz.func155.trans (congrArg some (by kernel_rfl))
  f280 := Tryz.func156.trans (congrArg some (by kernel_rfl))
  f281 := Tryz.func157.trans (congrArg some (by kernel_rfl))
  f282 := Tryz.func158.trans (congrArg some (by kernel_rfl))
  f283 := Tryz.func164.trans (congrArg some (by kernel_rfl))
  f284 := Tryz.func165.trans (congrArg some (by kernel_rfl))
  f285 := Tryz.func166.trans (congrArg some (by kernel_rfl))
  f286 := Tryz.func167.trans (congrArg some (by kernel_rfl))
  f287 := Tryz.func169.trans (congrArg some (by kernel_rfl))
  f316 := Tryz.func170.trans (congrArg some (by kernel_rfl))
  f317 := Tryz.func176.trans (congrArg some (by kernel_rfl))
  f318 := Tryz.func178.trans (congrArg some (by kernel_rfl))
  f319 := Tryz.func179.trans (congrArg some (by kernel_rfl))
  f320 := Tryz.func180.trans (congrArg some (by kernel_rfl))
  f321 := Tryz.func181.trans (congrArg some (by kernel_rfl))
  f322 := Tryz.func182.trans (congrArg some (by kernel_rfl))
  f337 := Tryz.func183.trans (congrArg some (by kernel_rfl))
  f338 := Tryz.func184.trans (congrArg some (by kernel_rfl))
  t0 := Tryz.underlying0
  a0 := Tryz.isAgg0
  z0 := Tryz.sizeOf0
  v0 := Tryz.zeroValue0
  t2 := Tryz.underlying2
  a2 := Tryz.isAgg2
  z2 := Tryz.sizeOf2
  v2 := Tryz.zeroValue2
  t3 := Tryz.underlying3
  a3 := Tryz.isAgg3
  z3 := Tryz.sizeOf3
  v3 := Tryz.zeroValue3
  t4 := Tryz.underlying4
  a4 := Tryz.isAgg4
  z4 := Tryz.sizeOf4
  v4 := Tryz.zeroValue4
  t5 := Tryz.underlying5
  a5 := Tryz.isAgg5
  z5 := Tryz.sizeOf5
  v5 := Tryz.zeroValue5
  t9 := Tryz.underlying9
  a9 := Tryz.isAgg9
  z9 := Tryz.sizeOf9
  v9 := Tryz.zeroValue9
  t20 := Tryz.underlying20
  a20 := Tryz.isAgg20
  z20 := Tryz.sizeOf20
  v20 := Tryz.zeroValue20
  t21 := Tryz.underlying21
  a21 := Tryz.isAgg21
  z21 := Tryz.sizeOf21
  v21 := Tryz.zeroValue21
  t37 := Tryz.underlying126
  a37 := Tryz.isAgg126
  z37 := Tryz.sizeOf126
  v37 := Tryz.zeroValue126
  t46 := Tryz.underlying149
  a46 := Tryz.isAgg149
  z46 := Tryz.sizeOf149
  v46 := Tryz.zeroValue149
  t51 := Tryz.underlying192
  a51 := Tryz.isAgg192
  z51 := Tryz.sizeOf192
  v51 := Tryz.zeroValue192
  t53 := Tryz.underlying207
  a53 := Tryz.isAgg207
  z53 := Tryz.sizeOf207
  v53 := Tryz.zeroValue207
  t75 := Tryz.underlying130
  a75 := Tryz.isAgg130
  z75 := Tryz.sizeOf130
  v75 := Tryz.zeroValue130
  t76 := Tryz.underlying131
  a76 := Tryz.isAgg131
  z76 := Tryz.sizeOf131
  v76 := Tryz.zeroValue131
  t85 := Tryz.underlying197
  a85 := Tryz.isAgg197
  z85 := Tryz.sizeOf197
  v85 := Tryz.zeroValue197
  t127 := Tryz.underlying168
  a127 := Tryz.isAgg168
  z127 := Tryz.sizeOf168
  v127 := Tryz.zeroValue168
  t143 := Tryz.underlying223
  a143 := Tryz.isAgg223
  z143 := Tryz.sizeOf223
  v143 := Tryz.zeroValue223
  t145 := Tryz.underlying225
  a145 := Tryz.isAgg225
  z145 := Tryz.sizeOf225
  v145 := Tryz.zeroValue225
  t167 := Tryz.underlying196
  a167 := Tryz.isAgg196
  z167 := Tryz.sizeOf196
  v167 := Tryz.zeroValue196
  t168 := Tryz.underlying199
  a168 := Tryz.isAgg199
  z168 := Tryz.sizeOf199
  v168 := Tryz.zeroValue199
  t171 := Tryz.underlying206
  a171 := Tryz.isAgg206
  z171 := Tryz.sizeOf206
  v171 := Tryz.zeroValue206
  t173 := Tryz.underlying210
  a173 := Tryz.isAgg210
  z173 := Tryz.sizeOf210
  v173 := Tryz.zeroValue210
  t175 := Tryz.underlying213
  a175 := Tryz.isAgg213
  z175 := Tryz.sizeOf213
  v175 := Tryz.zeroValue213
  t210 := Tryz.underlying216
  a210 := Tryz.isAgg216
  z210 := Tryz.sizeOf216
  v210 := Tryz.zeroValue216
  t212 := Tryz.underlying219
  a212 := Tryz.isAgg219
  z212 := Tryz.sizeOf219
  v212 := Tryz.zeroValue219
  t213 := Tryz.underlying220
  a213 := Tryz.isAgg220
  z213 := Tryz.sizeOf220
  t232 := Tryz.underlying231
  a232 := Tryz.isAgg231
  z232 := Tryz.sizeOf231
  v232 := Tryz.zeroValue231
  t233 := Tryz.underlying232
  a233 := Tryz.isAgg232
  z233 := Tryz.sizeOf232
  v233 := Tryz.zeroValue232
  g15 := by kernel_rfl
  g16 := by kernel_rfl
  g17 := by kernel_rfl
  g18 := by kernel_rfl
  g19 := by kernel_rfl }
open Go.RowKit in
theorem Tryz.strconv_Atoi (s : ByteArray) (n : Int) (hl : s.size ≤ 18) (h : Lib.atoi s.data.toList = some n) (w : World) :
    Calls Tryz.prog 80 #[.string s] w fun e w' => e = .returned (.tuple #[.int .i64 n, .nilIface]) ∧ ∃ t, w' = Lib.bytesWorld w 5 t := Any.strconv_Atoi Tryz.lays172 s n hl h w
def Tryz.laysM246_ren : Go.Shelf.Ren := ⟨fun|246 => 140|283 => 164|284 => 165|285 => 166|286 => 167|129 => 177|317 => 176|318 => 178|319 => 179|320 => 180|337 => 183|338 => 184|n => n,fun|2 => 2|3 => 3|9 => 9|4 => 4|171 => 206|0 => 0|53 => 207|37 => 126|5 => 5|173 => 210|212 => 219|51 => 192|20 => 20|213 => 220|46 => 149|232 => 231|233 => 232|n => n,fun|17 => 3|18 => 6|19 => 7|n => n⟩
def Tryz.laysM243_ren : Go.Shelf.Ren := ⟨fun|243 => 96|246 => 140|283 => 164|284 => 165|285 => 166|286 => 167|129 => 177|317 => 176|318 => 178|319 => 179|320 => 180|337 => 183|338 => 184|n => n,fun|3 => 3|9 => 9|2 => 2|4 => 4|171 => 206|0 => 0|53 => 207|37 => 126|5 => 5|173 => 210|212 => 219|51 => 192|20 => 20|213 => 220|46 => 149|232 => 231|233 => 232|n => n,fun|17 => 3|18 => 6|19 => 7|n => n⟩
def Tryz.laysM171_ren : Go.Shelf.Ren := ⟨fun|171 => 56|243 => 96|246 => 140|283 => 164|284 => 165|285 => 166|286 => 167|129 => 177|317 => 176|318 => 178|319 => 179|320 => 180|337 => 183|338 => 184|n => n,fun|3 => 3|9 => 9|2 => 2|4 => 4|171 => 206|0 => 0|53 => 207|37 => 126|5 => 5|173 => 210|212 => 219|51 => 192|20 => 20|213 => 220|46 => 149|232 => 231|233 => 232|n => n,fun|17 => 3|18 => 6|19 => 7|n => n⟩
theorem Tryz.laysM171 : Go.Proofs.LaysM.n171 Tryz.prog Tryz.laysM171_ren := {
  mixed := by kernel_rfl
  f129 := Tryz.func177.trans (congrArg some (by kernel_rfl))
  f171 := Tryz.func56.trans (congrArg some (by kernel_rfl))
  f243 := Tryz.func96.trans (congrArg some (by kernel_rfl))
  f246 := Tryz.func140.trans (congrArg some (by kernel_rfl))
  f283 := Tryz.func164.trans (congrArg some (by kernel_rfl))
  f284 := Tryz.func165.trans (congrArg some (by kernel_rfl))
  f285 := Tryz.func166.trans (congrArg some (by kernel_rfl))
  f286 := Tryz.func167.trans (congrArg some (by kernel_rfl))
  f317 := Tryz.func176.trans (congrArg some (by kernel_rfl))
  f318 := Tryz.func178.trans (congrArg some (by kernel_rfl))
  f319 := Tryz.func179.trans (congrArg some (by kernel_rfl))
  f320 := Tryz.func180.trans (congrArg some (by kernel_rfl))
  f337 := Tryz.func183.trans (congrArg some (by kernel_rfl))
  f338 := Tryz.func184.trans (congrArg some (by kernel_rfl))
  t0 := Tryz.underlying0
  a0 := Tryz.isAgg0
  z0 := Tryz.sizeOf0
  v0 := Tryz.zeroValue0
  t2 := Tryz.underlying2
  a2 := Tryz.isAgg2
  z2 := Tryz.sizeOf2
  v2 := Tryz.zeroValue2
  t3 := Tryz.underlying3
  a3 := Tryz.isAgg3
  z3 := Tryz.sizeOf3
  v3 := Tryz.zeroValue3
  t4 := Tryz.underlying4
  a4 := Tryz.isAgg4
  z4 := Tryz.sizeOf4
  v4 := Tryz.zeroValue4
  t5 := Tryz.underlying5
  a5 := Tryz.isAgg5
  z5 := Tryz.sizeOf5
  v5 := Tryz.zeroValue5
  t9 := Tryz.underlying9
  a9 := Tryz.isAgg9
  z9 := Tryz.sizeOf9
  v9 := Tryz.zeroValue9
  t20 := Tryz.underlying20
  a20 := Tryz.isAgg20
  z20 := Tryz.sizeOf20
  v20 := Tryz.zeroValue20
  t37 := Tryz.underlying126
  a37 := Tryz.isAgg126
  z37 := Tryz.sizeOf126
  v37 := Tryz.zeroValue126
  t46 := Tryz.underlying149
  a46 := Tryz.isAgg149
  z46 := Tryz.sizeOf149
  v46 := Tryz.zeroValue149
  t51 := Tryz.underlying192
  a51 := Tryz.isAgg192
  z51 := Tryz.sizeOf192
  v51 := Tryz.zeroValue192
  t53 := Tryz.underlying207
  a53 := Tryz.isAgg207
  z53 := Tryz.sizeOf207
  v53 := Tryz.zeroValue207
  t171 := Tryz.underlying206
  a171 := Tryz.isAgg206
  z171 := Tryz.sizeOf206
  v171 := Tryz.zeroValue206
  t173 := Tryz.underlying210
  a173 := Tryz.isAgg210
  z173 := Tryz.sizeOf210
  v173 := Tryz.zeroValue210
  t212 := Tryz.underlying219
  a212 := Tryz.isAgg219
  z212 := Tryz.sizeOf219
  v212 := Tryz.zeroValue219
  t213 := Tryz.underlying220
  a213 := Tryz.isAgg220
  z213 := Tryz.sizeOf220
  t232 := Tryz.underlying231
  a232 := Tryz.isAgg231
  z232 := Tryz.sizeOf231
  v232 := Tryz.zeroValue231
  t233 := Tryz.underlying232
  a233 := Tryz.isAgg232
  z233 := Tryz.sizeOf232
  v233 := Tryz.zeroValue232
  g17 := by kernel_rfl
  g18 := by kernel_rfl
  g19 := by kernel_rfl
  i0 := by kernel_rfl
  i2 := by kernel_rfl
  i3 := by kernel_rfl
  i4 := by kernel_rfl
  i5 := by kernel_rfl
  i9 := by kernel_rfl
  i20 := by kernel_rfl
  i37 := by kernel_rfl
  i46 := by kernel_rfl
  i51 := by kernel_rfl
  i53 := by kernel_rfl
  i171 := by kernel_rfl
  i173 := by kernel_rfl
  i212 := by kernel_rfl
  i232 := by kernel_rfl
  i233 := by kernel_rfl
  m17 := by kernel_rfl
  m18 := by kernel_rfl
  m19 := by kernel_rfl }
open Go.RowKit Go.Sort Go.Lib in
theorem Tryz.strconv_Itoa (n : Int) (h0 : -9223372036854775808 ≤ n) (h1 : n ≤ 9223372036854775807) (w : World) (htab : Lib.TabIs Tryz.prog w "internal/strconv.uint64pow10" .u64 Lib.pow10Tab) :
    Calls Tryz.prog 56 #[.int .i64 n] w fun e w' => e = .returned (.string ⟨(Lib.itoa n).toArray⟩) ∧ ∃ k os, w' = grow (w.drewN k) os := Any.strconv_Itoa Tryz.laysM171 n h0 h1 w htab
def Tryz.lays219_ren : Go.Shelf.Ren := ⟨fun | 219 => 69 | 217 => 111 | 225 => 112 | 224 => 113 | 267 => 114 | 266 => 149 | 314 => 150 | n => n, fun | 9 => 9 | 3 => 3 | 4 => 4 | 5 => 5 | 46 => 149 | 146 => 193 | 51 => 192 | n => n, fun | 1 => 0 | n => n⟩
def Tryz.lays143_ren : Go.Shelf.Ren := ⟨fun | 143 => 44 | 219 => 69 | 217 => 111 | 225 => 112 | 224 => 113 | 267 => 114 | 266 => 149 | 314 => 150 | n => n, fun | 9 => 9 | 3 => 3 | 4 => 4 | 5 => 5 | 46 => 149 | 146 => 193 | 51 => 192 | n => n, fun | 1 => 0 | n => n⟩
theorem Tryz.lays143 : Go.Proofs.Lays.n143 Tryz.prog Tryz.lays143_ren := {
  mixed := by kernel_rfl
  f143 := Tryz.func44.trans (congrArg some (by kernel_rfl))
  f217 := Tryz.func111.trans (congrArg some (by kernel_rfl))
  f219 := Tryz.func69.trans (congrArg some (by kernel_rfl))
  f224 := Tryz.func113.trans (congrArg some (by kernel_rfl))
  f225 := Tryz.func112.trans (congrArg some (by kernel_rfl))
  f266 := Tryz.func149.trans (congrArg some (by kernel_rfl))
  f267 := Tryz.func114.trans (congrArg some (by kernel_rfl))
  f314 := Tryz.func150.trans (congrArg some (by kernel_rfl))
  t3 := Tryz.underlying3
  a3 := Tryz.isAgg3
  z3 := Tryz.sizeOf3
  v3 := Tryz.zeroValue3
  t4 := Tryz.underlying4
  a4 := Tryz.isAgg4
  z4 := Tryz.sizeOf4
  v4 := Tryz.zeroValue4
  t5 := Tryz.underlying5
  a5 := Tryz.isAgg5
  z5 := Tryz.sizeOf5
  v5 := Tryz.zeroValue5
  t9 := Tryz.underlying9
  a9 := Tryz.isAgg9
  z9 := Tryz.sizeOf9
  v9 := Tryz.zeroValue9
  t46 := Tryz.underlying149
  a46 := Tryz.isAgg149
  z46 := Tryz.sizeOf149
  v46 := Tryz.zeroValue149
  t51 := Tryz.underlying192
  a51 := Tryz.isAgg192
  z51 := Tryz.sizeOf192
  v51 := Tryz.zeroValue192
  t146 := Tryz.underlying193
  a146 := Tryz.isAgg193
  z146 := Tryz.sizeOf193
  v146 := Tryz.zeroValue193
  g1 := by kernel_rfl }
open Go.RowKit Go.Lib in
theorem Tryz.strings_Index (s sub : ByteArray) (m : Int) (w : World) (hs : s.size < 4294967281) (hm : w.cell? ⟨0, 0, none⟩ = some (.int .i64 m)) :
    Calls Tryz.prog 44 #[.string s, .string sub] w fun e w' => e = .returned (.int .i64 (Lib.index s.data.toList sub.data.toList)) ∧ w' = w := Any.strings_Index Tryz.lays143 s sub m w hs hm
def Tryz.lays145_ren : Go.Shelf.Ren := ⟨fun | 145 => 72 | 220 => 120 | 219 => 69 | 217 => 111 | 225 => 112 | 224 => 113 | 267 => 114 | 266 => 149 | 314 => 150 | n => n, fun | 9 => 9 | 4 => 4 | 59 => 139 | 3 => 3 | 5 => 5 | 46 => 149 | 146 => 193 | 51 => 192 | n => n, fun | 1 => 0 | n => n⟩
theorem Tryz.lays145 : Go.Proofs.Lays.n145 Tryz.prog Tryz.lays145_ren := {
  mixed := by kernel_rfl
  f145 := Tryz.func72.trans (congrArg some (by kernel_rfl))
  f217 := Tryz.func111.trans (congrArg some (by kernel_rfl))
  f219 := Tryz.func69.trans (congrArg some (by kernel_rfl))
  f220 := Tryz.func120.trans (congrArg some (by kernel_rfl))
  f224 := Tryz.func113.trans (congrArg some (by kernel_rfl))
  f225 := Tryz.func112.trans (congrArg some (by kernel_rfl))
  f266 := Tryz.func149.trans (congrArg some (by kernel_rfl))
  f267 := Tryz.func114.trans (congrArg some (by kernel_rfl))
  f314 := Tryz.func150.trans (congrArg some (by kernel_rfl))
  t3 := Tryz.underlying3
  a3 := Tryz.isAgg3
  z3 := Tryz.sizeOf3
  v3 := Tryz.zeroValue3
  t4 := Tryz.underlying4
  a4 := Tryz.isAgg4
  z4 := Tryz.sizeOf4
  v4 := Tryz.zeroValue4
  t5 := Tryz.underlying5
  a5 := Tryz.isAgg5
  z5 := Tryz.sizeOf5
  v5 := Tryz.zeroValue5
  t9 := Tryz.underlying9
  a9 := Tryz.isAgg9
  z9 := Tryz.sizeOf9
  v9 := Tryz.zeroValue9
  t46 := Tryz.underlying149
  a46 := Tryz.isAgg149
  z46 := Tryz.sizeOf149
  v46 := Tryz.zeroValue149
  t51 := Tryz.underlying192
  a51 := Tryz.isAgg192
  z51 := Tryz.sizeOf192
  v51 := Tryz.zeroValue192
  t59 := Tryz.underlying139
  a59 := Tryz.isAgg139
  z59 := Tryz.sizeOf139
  v59 := Tryz.zeroValue139
  t146 := Tryz.underlying193
  a146 := Tryz.isAgg193
  z146 := Tryz.sizeOf193
  v146 := Tryz.zeroValue193
  g1 := by kernel_rfl }
open Go.RowKit Go.Lib in
theorem Tryz.strings_Cut (s sep : ByteArray) (m : Int) (w : World) (hs : s.size < 4294967281) (hm : w.cell? ⟨0, 0, none⟩ = some (.int .i64 m)) :
    Calls Tryz.prog 72 #[.string s, .string sep] w fun e w' => e = .returned (.tuple #[.string ⟨(Lib.cut s.data.toList sep.data.toList).1.toArray⟩, .string ⟨(Lib.cut s.data.toList sep.data.toList).2.1.toArray⟩, .bool (Lib.cut s.data.toList sep.data.toList).2.2]) ∧ ∃ n, w' = w.drewN n := Any.strings_Cut Tryz.lays145 s sep m w hs hm
def Tryz.lays206_ren : Go.Shelf.Ren := ⟨fun | 206 => 125 | n => n, fun | 9 => 9 | 4 => 4 | 3 => 3 | n => n, fun | n => n⟩
def Tryz.lays99_ren : Go.Shelf.Ren := ⟨fun | 99 => 84 | 206 => 125 | n => n, fun | 9 => 9 | 4 => 4 | 3 => 3 | n => n, fun | n => n⟩
theorem Tryz.lays99 : Go.Proofs.Lays.n99 Tryz.prog Tryz.lays99_ren := {
  mixed := by kernel_rfl
  f99 := Tryz.func84.trans (congrArg some (by kernel_rfl))
  f206 := Tryz.func125.trans (congrArg some (by kernel_rfl))
  t3 := Tryz.underlying3
  a3 := Tryz.isAgg3
  z3 := Tryz.sizeOf3
  v3 := Tryz.zeroValue3
  t4 := Tryz.underlying4
  a4 := Tryz.isAgg4
  z4 := Tryz.sizeOf4
  v4 := Tryz.zeroValue4
  t9 := Tryz.underlying9
  a9 := Tryz.isAgg9
  z9 := Tryz.sizeOf9
  v9 := Tryz.zeroValue9 }
open Go.RowKit Go.Lib in
theorem Tryz.strings_HasPrefix (s p : ByteArray) (w : World) :
    Calls Tryz.prog 84 #[.string s, .string p] w fun e w' => e = .returned (.bool (Lib.hasPrefix s.data.toList p.data.toList)) ∧ w' = w := Any.strings_HasPrefix Tryz.lays99 s p w
def Tryz.lays221_ren : Go.Shelf.Ren := ⟨fun|221 => 130|268 => 159|138 => 160|143 => 44|195 => 172|197 => 161|218 => 173|219 => 69|260 => 174|217 => 111|225 => 112|224 => 113|267 => 114|266 => 149|314 => 150|n => n,fun|9 => 9|3 => 3|31 => 52|4 => 4|0 => 0|105 => 203|21 => 21|5 => 5|46 => 149|119 => 226|139 => 229|138 => 228|146 => 193|51 => 192|n => n,fun|1 => 0|3 => 4|4 => 5|n => n⟩
def Tryz.lays146_ren : Go.Shelf.Ren := ⟨fun|146 => 88|221 => 130|268 => 159|138 => 160|143 => 44|195 => 172|197 => 161|218 => 173|219 => 69|260 => 174|217 => 111|225 => 112|224 => 113|267 => 114|266 => 149|314 => 150|n => n,fun|9 => 9|31 => 52|3 => 3|4 => 4|0 => 0|105 => 203|21 => 21|5 => 5|46 => 149|119 => 226|139 => 229|138 => 228|146 => 193|51 => 192|n => n,fun|1 => 0|3 => 4|4 => 5|n => n⟩
theorem Tryz.lays146 : Go.Proofs.Lays.n146 Tryz.prog Tryz.lays146_ren := {
  mixed := by kernel_rfl
  f138 := Tryz.func160.trans (congrArg some (by kernel_rfl))
  f143 := Tryz.func44.trans (congrArg some (by kernel_rfl))
  f146 := Tryz.func88.trans (congrArg some (by kernel_rfl))
  f195 := Tryz.func172.trans (congrArg some (by kernel_rfl))
  f197 := Tryz.func161.trans (congrArg some (by kernel_rfl))
  f217 := Tryz.func111.trans (congrArg some (by kernel_rfl))
  f218 := Tryz.func173.trans (congrArg some (by kernel_rfl))
  f219 := Tryz.func69.trans (congrArg some (by kernel_rfl))
  f221 := Tryz.func130.trans (congrArg some (by kernel_rfl))
  f224 := Tryz.func113.trans (congrArg some (by kernel_rfl))
  f225 := Tryz.func112.trans (congrArg some (by kernel_rfl))
  f260 := Tryz.func174.trans (congrArg some (by kernel_rfl))
  f266 := Tryz.func149.trans (congrArg some (by kernel_rfl))
  f267 := Tryz.func114.trans (congrArg some (by kernel_rfl))
  f268 := Tryz.func159.trans (congrArg some (by kernel_rfl))
  f314 := Tryz.func150.trans (congrArg some (by kernel_rfl))
  t0 := Tryz.underlying0
  a0 := Tryz.isAgg0
  z0 := Tryz.sizeOf0
  v0 := Tryz.zeroValue0
  t3 := Tryz.underlying3
  a3 := Tryz.isAgg3
  z3 := Tryz.sizeOf3
  v3 := Tryz.zeroValue3
  t4 := Tryz.underlying4
  a4 := Tryz.isAgg4
  z4 := Tryz.sizeOf4
  v4 := Tryz.zeroValue4
  t5 := Tryz.underlying5
  a5 := Tryz.isAgg5
  z5 := Tryz.sizeOf5
  v5 := Tryz.zeroValue5
  t9 := Tryz.underlying9
  a9 := Tryz.isAgg9
  z9 := Tryz.sizeOf9
  v9 := Tryz.zeroValue9
  t21 := Tryz.underlying21
  a21 := Tryz.isAgg21
  z21 := Tryz.sizeOf21
  v21 := Tryz.zeroValue21
  t31 := Tryz.underlying52
  a31 := Tryz.isAgg52
  z31 := Tryz.sizeOf52
  v31 := Tryz.zeroValue52
  t46 := Tryz.underlying149
  a46 := Tryz.isAgg149
  z46 := Tryz.sizeOf149
  v46 := Tryz.zeroValue149
  t51 := Tryz.underlying192
  a51 := Tryz.isAgg192
  z51 := Tryz.sizeOf192
  v51 := Tryz.zeroValue192
  t105 := Tryz.underlying203
  a105 := Tryz.isAgg203
  z105 := Tryz.sizeOf203
  v105 := Tryz.zeroValue203
  t119 := Tryz.underlying226
  a119 := Tryz.isAgg226
  z119 := Tryz.sizeOf226
  t138 := Tryz.underlying228
  a138 := Tryz.isAgg228
  z138 := Tryz.sizeOf228
  v138 := Tryz.zeroValue228
  t139 := Tryz.underlying229
  a139 := Tryz.isAgg229
  z139 := Tryz.sizeOf229
  v139 := Tryz.zeroValue229
  t146 := Tryz.underlying193
  a146 := Tryz.isAgg193
  z146 := Tryz.sizeOf193
  v146 := Tryz.zeroValue193
  g1 := by kernel_rfl
  g3 := by kernel_rfl
  g4 := by kernel_rfl }
open Go.RowKit Go.Lib in
theorem Tryz.strings_Split (s sep : ByteArray) (m : Int) (w : World) (hs : s.size < 4294967281) (hm : w.cell? ⟨0, 0, none⟩ = some (.int .i64 m)) (h1 : 1 ≤ sep.size) :
    Calls Tryz.prog 88 #[.string s, .string sep] w fun e w' =>
      e = .returned (.slice (some ⟨w.heap.size, 0, none⟩) (Lib.countB s sep + 1) (Lib.countB s sep + 1)) ∧ w' = w.alloc (.cells ((Lib.splitB sep 0 (Lib.countB s sep) s).map Value.string).toArray 9) := Any.strings_Split Tryz.lays146 (by kernel_rfl) s sep m w hs hm h1
def Tryz.lays152_ren : Go.Shelf.Ren := ⟨fun | 152 => 151 | 137 => 147 | 119 => 168 | 224 => 113 | 225 => 112 | 217 => 111 | 266 => 149 | n => n, fun | 9 => 9 | 21 => 21 | 3 => 3 | 4 => 4 | 5 => 5 | 0 => 0 | 46 => 149 | n => n, fun | n => n⟩
theorem Tryz.lays152 : Go.Proofs.Lays.n152 Tryz.prog Tryz.lays152_ren := {
  mixed := by kernel_rfl
  f119 := Tryz.func168.trans (congrArg some (by kernel_rfl))
  f137 := Tryz.func147.trans (congrArg some (by kernel_rfl))
  f152 := Tryz.func151.trans (congrArg some (by kernel_rfl))
  f217 := Tryz.func111.trans (congrArg some (by kernel_rfl))
  f224 := Tryz.func113.trans (congrArg some (by kernel_rfl))
  f225 := Tryz.func112.trans (congrArg some (by kernel_rfl))
  f266 := Tryz.func149.trans (congrArg some (by kernel_rfl))
  t0 := Tryz.underlying0
  a0 := Tryz.isAgg0
  z0 := Tryz.sizeOf0
  v0 := Tryz.zeroValue0
  t3 := Tryz.underlying3
  a3 := Tryz.isAgg3
  z3 := Tryz.sizeOf3
  v3 := Tryz.zeroValue3
  t4 := Tryz.underlying4
  a4 := Tryz.isAgg4
  z4 := Tryz.sizeOf4
  v4 := Tryz.zeroValue4
  t5 := Tryz.underlying5
  a5 := Tryz.isAgg5
  z5 := Tryz.sizeOf5
  v5 := Tryz.zeroValue5
  t9 := Tryz.underlying9
  a9 := Tryz.isAgg9
  z9 := Tryz.sizeOf9
  v9 := Tryz.zeroValue9
  t21 := Tryz.underlying21
  a21 := Tryz.isAgg21
  z21 := Tryz.sizeOf21
  v21 := Tryz.zeroValue21
  t46 := Tryz.underlying149
  a46 := Tryz.isAgg149
  z46 := Tryz.sizeOf149
  v46 := Tryz.zeroValue149 }
open Go.RowKit Go.Lib in
theorem Tryz.strings_IndexRune_ascii (s : ByteArray) (r : Int) (w : World) (h0 : 0 ≤ r) (h1 : r < 128) :
    Calls Tryz.prog 151 #[.string s, .int .i32 r] w fun e w' => e = .returned (.int .i64 (Lib.indexByte s.data.toList r.toNat.toUInt8)) ∧ w' = w := Any.strings_IndexRune_ascii Tryz.lays152 s r w h0 h1
def Tryz.lays153_ren : Go.Shelf.Ren := ⟨fun | 153 => 121 | 152 => 151 | 226 => 152 | 227 => 133 | 228 => 153 | 137 => 147 | 119 => 168 | 224 => 113 | 225 => 112 | 217 => 111 | 266 => 149 | n => n, fun | 9 => 9 | 3 => 3 | 4 => 4 | 5 => 5 | 21 => 21 | 117 => 179 | 116 => 178 | 0 => 0 | 46 => 149 | 124 => 182 | n => n, fun | n => n⟩
theorem Tryz.lays153 : Go.Proofs.Lays.n153 Tryz.prog Tryz.lays153_ren := {
  mixed := by kernel_rfl
  f119 := Tryz.func168.trans (congrArg some (by kernel_rfl))
  f137 := Tryz.func147.trans (congrArg some (by kernel_rfl))
  f152 := Tryz.func151.trans (congrArg some (by kernel_rfl))
  f153 := Tryz.func121.trans (congrArg some (by kernel_rfl))
  f217 := Tryz.func111.trans (congrArg some (by kernel_rfl))
  f224 := Tryz.func113.trans (congrArg some (by kernel_rfl))
  f225 := Tryz.func112.trans (congrArg some (by kernel_rfl))
  f226 := Tryz.func152.trans (congrArg some (by kernel_rfl))
  f227 := Tryz.func133.trans (congrArg some (by kernel_rfl))
  f228 := Tryz.func153.trans (congrArg some (by kernel_rfl))
  f266 := Tryz.func149.trans (congrArg some (by kernel_rfl))
  t0 := Tryz.underlying0
  a0 := Tryz.isAgg0
  z0 := Tryz.sizeOf0
  v0 := Tryz.zeroValue0
  t3 := Tryz.underlying3
  a3 := Tryz.isAgg3
  z3 := Tryz.sizeOf3
  v3 := Tryz.zeroValue3
  t4 := Tryz.underlying4
  a4 := Tryz.isAgg4
  z4 := Tryz.sizeOf4
  v4 := Tryz.zeroValue4
  t5 := Tryz.underlying5
  a5 := Tryz.isAgg5
  z5 := Tryz.sizeOf5
  v5 := Tryz.zeroValue5
  t9 := Tryz.underlying9
  a9 := Tryz.isAgg9
  z9 := Tryz.sizeOf9
  v9 := Tryz.zeroValue9
  t21 := Tryz.underlying21
  a21 := Tryz.isAgg21
  z21 := Tryz.sizeOf21
  v21 := Tryz.zeroValue21
  t46 := Tryz.underlying149
  a46 := Tryz.isAgg149
  z46 := Tryz.sizeOf149
  v46 := Tryz.zeroValue149
  t116 := Tryz.underlying178
  a116 := Tryz.isAgg178
  z116 := Tryz.sizeOf178
  t117 := Tryz.underlying179
  a117 := Tryz.isAgg179
  z117 := Tryz.sizeOf179
  v117 := Tryz.zeroValue179
  t124 := Tryz.underlying182
  a124 := Tryz.isAgg182
  z124 := Tryz.sizeOf182
  v124 := Tryz.zeroValue182 }
open Go.RowKit Go.Lib in
theorem Tryz.strings_IndexAny_long (hv116 : ∀ w, (zeroValue 178).run Tryz.prog w = .ok (.agg (Array.replicate 256 (.bool false))) w) (s chars : ByteArray) (w : World) (h2 : 2 ≤ chars.size) (h8 : 8 < s.size) (hs : s.size < 4294967281) (hcs : chars.size < 4294967281) (hascii : ∀ (j : Nat) b, chars.data.toList[j]? = some b → b.toNat < 128) :
    Calls Tryz.prog 121 #[.string s, .string chars] w fun e w' => e = .returned (.int .i64 (Lib.indexAny s.data.toList chars.data.toList)) ∧ w' = ((w.alloc (.cells (Lib.setCells chars.data.toList) 178)).alloc (.cells (Lib.setCells chars.data.toList) 178)) := Any.strings_IndexAny_long Tryz.lays153 hv116 (by kernel_rfl) s chars w h2 h8 hs hcs hascii
end Go.Proofs
