/- The logic, part 14: data that a row hands in, as abstract values; a law that answers true. -/
import Derived.Test.YtibmabidjacjlaaLm
import Derived.ChangeArms
import Derived.ChangeOld
import Derived.Carry
import Derived.SizedLaws
import Derived.WideShapes
import Derived.ChangeSame
namespace Go.Proofs.Ytibmabidjacjlaa.L
open Go Go.RowKit Go.ChangeShapes Go.WideShapes
set_option linter.unusedVariables false
set_option linter.unusedSimpArgs false

/-- What a cell of data may hold. -/
inductive KT where
  | bool
  | int (k : IntKind)
  | str
  | sl (ks : List KT)

/-- How many bytes a cell takes at least. -/
def KT.w : KT → Nat
  | .bool => 1
  | .int k => k.bits / 8
  | .str => 16
  | .sl _ => 24
def ktW : List KT → Nat
  | [] => 0
  | k :: r => k.w + ktW r
theorem KT.w_pos (k : KT) : 0 < k.w := by
  cases k with
  | int k => cases k <;> decide
  | _ => simp [KT.w]
theorem ktW_pos {ks : List KT} (h : 0 < ks.length) : 0 < ktW ks := by
  cases ks with
  | nil => simp at h
  | cons k r => have := k.w_pos; simp only [ktW]; omega
mutual
inductive OKV : KT → AV → Prop where
  | bool (b : Bool) : OKV .bool (.bool b)
  | int (k : IntKind) (n : Int) (h : (Lit.int k n).wf = true) : OKV (.int k) (.int k n)
  | str (s : List UInt8) (h : s.length ≤ 140737488351232) : OKV .str (.str s)
  | sl (ks : List KT) (xs : List (List AV)) (hl : xs.length ≤ 140737488351232) (hb : xs.length * ktW ks ≤ 140737488351232) (h : OKR ks xs) : OKV (.sl ks) (.rs xs)
inductive OKL : List KT → List AV → Prop where
  | nil : OKL [] []
  | cons {k : KT} {ks : List KT} {x : AV} {xs : List AV} (h : OKV k x) (r : OKL ks xs) : OKL (k :: ks) (x :: xs)
inductive OKR : List KT → List (List AV) → Prop where
  | nil {ks : List KT} : OKR ks []
  | cons {ks : List KT} {x : List AV} {xs : List (List AV)} (h : OKL ks x) (r : OKR ks xs) : OKR ks (x :: xs)
end

theorem OKR.get {ks : List KT} : ∀ {xs : List (List AV)}, OKR ks xs → ∀ (i : Nat) row, xs[i]? = some row → OKL ks row := by
  intro xs
  induction xs with
  | nil => intro _ i row h; simp at h
  | cons x xs ih =>
    intro h i row hi
    cases h with
    | cons h r =>
      cases i with
      | zero => simp at hi; subst hi; exact h
      | succ i => exact ih r i row (by simpa using hi)
theorem OKR.of {ks : List KT} : ∀ {xs : List (List AV)}, (∀ row ∈ xs, OKL ks row) → OKR ks xs := by
  intro xs
  induction xs with
  | nil => intro _; exact .nil
  | cons x xs ih => intro h; exact .cons (h x (by simp)) (ih fun row hr => h row (by simp [hr]))
theorem OKL.len {ks : List KT} : ∀ {xs : List AV}, OKL ks xs → xs.length = ks.length := by
  induction ks with
  | nil => intro xs h; cases h; rfl
  | cons k ks ih => intro xs h; cases h with | cons h r => simp [ih r]

/-- Cells, their abstract values, and what these may be. -/
inductive OpL (w : World) (I : Imm) : List KT → List Value → List AV → Prop where
  | nil : OpL w I [] [] []
  | cons {k : KT} {ks : List KT} {v : Value} {vs : List Value} {x : AV} {xs : List AV} (h : OKV k x) (hv : VP w I x v) (r : OpL w I ks vs xs) : OpL w I (k :: ks) (v :: vs) (x :: xs)
theorem OpL.append {w : World} {I : Imm} {ks ks' : List KT} {vs vs' : List Value} {xs xs' : List AV} (h : OpL w I ks vs xs) (h' : OpL w I ks' vs' xs') : OpL w I (ks ++ ks') (vs ++ vs') (xs ++ xs') := by
  induction h with
  | nil => exact h'
  | cons h hv _ ih => exact .cons h hv ih
theorem OpL.ok {w : World} {I : Imm} {ks : List KT} {vs : List Value} {xs : List AV} (h : OpL w I ks vs xs) : OKL ks xs := by
  induction h with
  | nil => exact .nil
  | cons h hv _ ih => exact .cons h ih
theorem OpL.len {w : World} {I : Imm} {ks : List KT} {vs : List Value} {xs : List AV} (h : OpL w I ks vs xs) : xs.length = vs.length ∧ vs.length = ks.length := by
  induction h with
  | nil => exact ⟨rfl, rfl⟩
  | cons h hv _ ih => simp [ih]
theorem OpL.get {w : World} {I : Imm} {ks : List KT} {vs : List Value} {xs : List AV} (h : OpL w I ks vs xs) : ∀ (j : Nat) x v, xs[j]? = some x → vs[j]? = some v → VP w I x v := by
  induction h with
  | nil => intro j x v hx; simp at hx
  | cons h hv _ ih =>
    intro j x v hx hv'
    cases j with
    | zero => simp at hx hv'; subst hx; subst hv'; exact hv
    | succ j => exact ih j x v (by simpa using hx) (by simpa using hv')

/-- The cells of a type of plain data. -/
def ktF (r : TypeId → Option (List KT)) (P : Program) : List Field → Nat → Option (List KT)
  | [], _ => some []
  | f :: fs, off => match r f.type with
    | some ks => if f.offset = off ∧ P.cellsOf f.type = ks.length then
        (match ktF r P fs (off + ks.length) with
         | some ks' => some (ks ++ ks')
         | none => none)
      else none
    | none => none
def ktOf (P : Program) : Nat → TypeId → Option (List KT)
  | 0, _ => none
  | n + 1, t => match P.underlying t with
    | some .bool => some [.bool]
    | some (.int k) => some [.int k]
    | some .string => some [.str]
    | some (.slice e) => match ktOf P n e with
      | some ks => if (P.cellsOf e = ks.length ∧ 0 < ks.length) ∧ ktW ks ≤ P.bytesOf e then some [.sl ks] else none
      | none => none
    | some (.struct fs) => match ktF (ktOf P n) P fs.toList 0 with
      | some ks => if P.cellsOf t = ks.length then some ks else none
      | none => none
    | _ => none

def Rd (w : World) : Imm := fun b o => ∃ v, w.cell? ⟨b, o, none⟩ = some v

section
variable {H : Type} {enc : TypeId × Value → H} {P : Program} {w : World} {sp : Nat → Bool} {held : Bool}

theorem cell_spot {b o : Nat} {s : Option Nat} {v : Value} (h : w.cell? ⟨b, o, s⟩ = some v) : s = none := by
  unfold World.cell? at h
  split at h
  · cases s with
    | none => rfl
    | some s => simp at h
  · cases h

theorem rows_of {ks : List KT} (R : Nat → List Value) : ∀ n, (∀ i, i < n → ∃ avs, OpL w (Rd w) ks (R i) avs) → ∃ xs : List (List AV), xs.length = n ∧ ∀ (i : Nat) row, xs[i]? = some row → OpL w (Rd w) ks (R i) row := by
  intro n
  induction n with
  | zero => intro _; exact ⟨[], rfl, fun i row h => by simp at h⟩
  | succ n ih =>
    intro h
    obtain ⟨xs, h1, h2⟩ := ih fun i hi => h i (by omega)
    obtain ⟨avs, ha⟩ := h n (by omega)
    refine ⟨xs ++ [avs], by simp [h1], fun i row hi => ?_⟩
    rw [List.getElem?_append] at hi
    split at hi
    · exact h2 i row hi
    · rename_i hn
      have : i = n := by
        by_cases e : i - xs.length = 0
        · omega
        · rw [List.getElem?_eq_none (by simp; omega)] at hi; cases hi
      subst this
      rw [h1, Nat.sub_self] at hi
      simp at hi
      subst hi
      exact ha

theorem weightsAll_mem {e : TypeId} : ∀ {l : List (DataW H)} {d : DataW H}, d ∈ l → ∀ n ∈ d.weights P e, n ∈ DataW.weightsAll P e l := by
  intro l
  induction l with
  | nil => intro d h; cases h
  | cons x r ih =>
    intro d h n hn
    simp only [DataW.weightsAll, List.mem_append]
    rcases List.mem_cons.1 h with rfl | h
    · exact .inl hn
    · exact .inr (ih h n hn)

theorem open_cells : ∀ (n : Nat) (t : TypeId) (ks : List KT) (fuel : Nat) (cs : List Value) (x : DataW H × List MemPlace), ktOf P n t = some ks → DataW.trod enc P w 0 sp held fuel t cs = some x → (∀ m ∈ x.1.weights P t, m ≤ reachBytes) → ∃ avs, OpL w (Rd w) ks cs avs := by
  intro n
  induction n with
  | zero => intro t ks fuel cs x h; cases h
  | succ n ih =>
    intro t ks fuel cs x hk h hw
    unfold ktOf at hk
    split at hk
    · rename_i hu
      injection hk with hk; subst hk
      obtain ⟨b, rfl, _⟩ := DataW.trod_bool hu h
      exact ⟨_, .cons (.bool b) (.bool b) .nil⟩
    · rename_i k hu
      injection hk with hk; subst hk
      obtain ⟨m, rfl, _, hwf⟩ := DataW.trod_int hu h
      exact ⟨_, .cons (.int _ m hwf) (.int _ m) .nil⟩
    · rename_i hu
      injection hk with hk; subst hk
      obtain ⟨s, rfl, rfl, _⟩ := DataW.trod_string hu h
      obtain ⟨⟨s⟩⟩ := s
      exact ⟨_, .cons (.str s (by have := hw s.length (by simp [DataW.weights]); simpa [reachBytes] using this)) (by simpa using VP.str (w := w) (I := Rd w) s) .nil⟩
    · rename_i e hu
      split at hk
      · rename_i es he
        split at hk
        · rename_i hc0
          have hc := hc0.1
          injection hk with hk; subst hk
          rcases DataW.trod_slice hu h with ⟨rfl, _⟩ | ⟨a, len, cap, elems, rest, m, _, rfl, hx0, _, hl, hm, hlen, hel, _⟩
          · exact ⟨_, .cons (.sl _ [] (by simp) (by simp) .nil) (.rs0 none 0) .nil⟩
          · by_cases h0 : len = 0
            · subst h0
              exact ⟨_, .cons (.sl _ [] (by simp) (by simp) .nil) (.rs0 (some a) cap) .nil⟩
            · have row : ∀ i, i < len → ∃ R : List Value, w.cells? 0 (a.add (i * P.cellsOf e)) (P.cellsOf e) = some R ∧ ∃ avs, OpL w (Rd w) es R avs := by
                intro i hi
                have := hel i hi
                rw [List.getElem?_eq_getElem (by omega)] at this
                obtain ⟨R, h1, h2⟩ := Option.bind_eq_some_iff.1 this
                refine ⟨R, h1, ih _ _ _ _ _ he h2 fun q hq => hw q ?_⟩
                rw [hx0]
                simp only [DataW.weights, hu, List.mem_cons, List.mem_append]
                exact .inr (.inl (weightsAll_mem (List.mem_map.2 ⟨_, List.getElem_mem _, rfl⟩) q hq))
              have hex : ∀ i, ∃ R : List Value, i < len → w.cells? 0 (a.add (i * P.cellsOf e)) (P.cellsOf e) = some R ∧ ∃ avs, OpL w (Rd w) es R avs := by
                intro i
                by_cases hi : i < len
                · obtain ⟨R, hR⟩ := row i hi
                  exact ⟨R, fun _ => hR⟩
                · exact ⟨[], fun h => absurd h hi⟩
              obtain ⟨R, hR⟩ := Classical.axiomOfChoice hex
              obtain ⟨xs, hx1, hx2⟩ := rows_of R len fun i hi => (hR i hi).2
              have cell : ∀ i j, i < len → j < es.length → w.cell? (a.add (i * es.length + j)) = (R i)[j]? := by
                intro i j hi hj
                have h1 := (World.cells?_some (hR i hi).1).2.2 j (by omega)
                rw [← h1, hc.1]
                congr 1
                unfold Addr.add
                by_cases e1 : i * es.length = 0
                · rw [if_pos e1, e1, Nat.zero_add]
                · rw [if_neg e1, if_neg (by omega)]
                  by_cases e2 : j = 0
                  · subst e2; simp
                  · rw [if_neg e2]; simp [Nat.add_assoc]
              have hRl : ∀ i, i < len → (R i).length = es.length := fun i hi => by rw [(World.cells?_some (hR i hi).1).2.1, hc.1]
              have hsp : a.spot = none := by
                have h1 := cell 0 0 (by omega) hc.2
                rw [List.getElem?_eq_getElem (by rw [hRl 0 (by omega)]; exact hc.2)] at h1
                simp only [Nat.zero_mul, Nat.zero_add, Addr.add, if_true] at h1
                obtain ⟨b, o, s⟩ := a
                exact cell_spot h1
              obtain ⟨b, off, s⟩ := a
              simp only at hsp
              subst hsp
              have add : ∀ k, (⟨b, off, none⟩ : Addr).add k = ⟨b, off + k, none⟩ := fun k => add_none b off k
              have us : ∀ j, j < len * es.length → w.cell? ⟨b, off + j, none⟩ = (R (j / es.length))[j % es.length]? := by
                intro j hj
                have h1 : j / es.length < len := Nat.div_lt_of_lt_mul (by rw [Nat.mul_comm]; exact hj)
                have h2 : j % es.length < es.length := Nat.mod_lt _ hc.2
                rw [← cell _ _ h1 h2, add, Nat.mul_comm, Nat.div_add_mod]
              have us' : ∀ j, j < len * es.length → w.cell? ⟨b, off + j, none⟩ = some ((R (j / es.length)).getD (j % es.length) (.bool false)) := by
                intro j hj
                have h1 : j / es.length < len := Nat.div_lt_of_lt_mul (by rw [Nat.mul_comm]; exact hj)
                have h2 : j % es.length < es.length := Nat.mod_lt _ hc.2
                rw [us j hj, List.getElem?_eq_getElem (by rw [hRl _ h1]; exact h2), List.getD_eq_getElem?_getD, List.getElem?_eq_getElem (by rw [hRl _ h1]; exact h2)]
                rfl
              have hrow : ∀ (i : Nat) row, xs[i]? = some row → i < len := fun i row hi => by
                have := (List.getElem?_eq_some_iff.1 hi).1
                omega
              have hbig : xs.length ≤ 140737488351232 := by
                have := hw ((elems.length + rest.length) * P.bytesOf e) (by rw [hx0]; simp [DataW.weights, hu])
                have h2 : (elems.length + rest.length) * 1 ≤ (elems.length + rest.length) * P.bytesOf e := Nat.mul_le_mul_left _ (Nat.le_trans (ktW_pos hc.2) hc0.2)
                simp only [reachBytes] at this
                omega
              have hbig2 : xs.length * ktW es ≤ 140737488351232 := by
                have := hw ((elems.length + rest.length) * P.bytesOf e) (by rw [hx0]; simp [DataW.weights, hu])
                have h2 : xs.length * ktW es ≤ (elems.length + rest.length) * P.bytesOf e := Nat.mul_le_mul (by omega) hc0.2
                simp only [reachBytes] at this
                omega
              refine ⟨_, .cons (.sl _ xs hbig hbig2 (OKR.of fun row hr => ?_)) ?_ .nil⟩
              · obtain ⟨i, hi⟩ := List.mem_iff_getElem?.1 hr
                exact (hx2 i row hi).ok
              · have := VP.rs (w := w) (I := Rd w) xs es.length b off cap (fun j => (R (j / es.length)).getD (j % es.length) (.bool false)) hc.2 (by omega) hm
                  (fun i row hi => by have h1 := (hx2 i row hi).len; omega)
                  (fun j hj => ⟨us' j (by rw [← hx1]; exact hj), _, us' j (by rw [← hx1]; exact hj)⟩)
                  (fun i j row y hi hj => by
                    have h1 := hx2 i row hi
                    have h2 := hrow i row hi
                    have h3 : j < row.length := (List.getElem?_eq_some_iff.1 hj).1
                    have h4 : j < es.length := by have := h1.len; omega
                    have e1 : (i * es.length + j) / es.length = i := by rw [Nat.mul_comm, Nat.mul_add_div hc.2, Nat.div_eq_of_lt h4, Nat.add_zero]
                    have e2 : (i * es.length + j) % es.length = j := by rw [Nat.mul_comm, Nat.mul_add_mod, Nat.mod_eq_of_lt h4]
                    simp only [e1, e2]
                    refine h1.get j y _ hj ?_
                    rw [List.getD_eq_getElem?_getD, List.getElem?_eq_getElem (by rw [hRl i h2]; exact h4)]
                    rfl)
                rw [hx1] at this
                exact this
        · cases hk
      · cases hk
    · rename_i fs hu
      split at hk
      · rename_i es he
        split at hk
        · rename_i hc
          injection hk with hk; subst hk
          obtain ⟨xs, m, _, hx0, hcl, hxl, hxs⟩ := DataW.trod_struct hu h
          have key : ∀ (l : List Field) (off : Nat) (ks : List KT), (∀ f ∈ l, ∃ y : DataW H × List MemPlace, DataW.trod enc P w 0 sp held m f.type ((cs.drop f.offset).take (P.cellsOf f.type)) = some y ∧ ∀ q ∈ y.1.weights P f.type, q ≤ reachBytes) → ktF (ktOf P n) P l off = some ks → ∃ avs, OpL w (Rd w) ks ((cs.drop off).take ks.length) avs := by
            intro l
            induction l with
            | nil => intro off ks _ hk; injection hk with hk; subst hk; exact ⟨[], by simpa using OpL.nil⟩
            | cons f l ihl =>
              intro off ks hf hk
              unfold ktF at hk
              split at hk
              · rename_i k1 hk1
                split at hk
                · rename_i hcc
                  split at hk
                  · rename_i k2 hk2
                    injection hk with hk; subst hk
                    obtain ⟨y, hy, hyw⟩ := hf f (by simp)
                    obtain ⟨a1, h1⟩ := ih _ _ _ _ _ hk1 hy hyw
                    obtain ⟨a2, h2⟩ := ihl _ _ (fun g hg => hf g (by simp [hg])) hk2
                    refine ⟨a1 ++ a2, ?_⟩
                    rw [List.length_append, List.take_add, List.drop_drop]
                    rw [hcc.1, hcc.2] at h1
                    exact h1.append h2
                  · cases hk
                · cases hk
              · cases hk
          obtain ⟨avs, ha⟩ := key fs.toList 0 es (fun f hf => by
            obtain ⟨i, hi⟩ := List.mem_iff_getElem?.1 hf
            have hi' : fs[i]? = some f := by simpa using hi
            have hlt : i < xs.length := by
              have := (Array.getElem?_eq_some_iff.1 hi').1
              omega
            refine ⟨_, (hxs i f hi').trans (List.getElem?_eq_getElem hlt), fun q hq => hw q ?_⟩
            rw [hx0]
            simp only [DataW.weights, hu]
            exact DataW.weights_mem_each (j := i) (t := f.type) (by simp [hi']) (by rw [List.getElem?_map, List.getElem?_eq_getElem hlt]; rfl) q hq) he
          refine ⟨avs, ?_⟩
          rw [List.drop_zero, List.take_of_length_le (by omega)] at ha
          exact ha
        · cases hk
      · cases hk
    · cases hk

theorem trodAll_below (hl : laidOutB P = true) {W W' : World} (hb : Below W.heap.size W W') : ∀ {ts : List TypeId} {vs : List Value} {ds : List (DataW H)} {ps : List MemPlace}, (∀ t ∈ ts, P.readableRec t = true ∧ t < P.types.size) →
    DataW.TrodAll enc P W 0 (fun _ => true) true ts vs ds ps → (∀ x ∈ ps, x.block < W.heap.size) → DataW.TrodAll enc P W' 0 (fun b => decide (b < W.heap.size)) true ts vs ds ps := by
  intro ts
  induction ts with
  | nil =>
    intro vs ds ps _ h _
    obtain ⟨rfl, rfl, rfl⟩ := trodAll_nil h
    exact rfl
  | cons t ts ih =>
    intro vs ds ps ht h hlt
    obtain ⟨v, vs, d, ds, p, q, rfl, rfl, rfl, h1, h2⟩ := trodAll_cons h
    exact ⟨p, q, Below.trod hl (ht t (by simp)).1 (ht t (by simp)).2 h1 hb (fun x hx => hlt x (by simp [hx])), ih (fun t' h' => ht t' (by simp [h'])) h2 (fun x hx => hlt x (by simp [hx])), rfl⟩


theorem hr_start (W : World) : HR ⟨P, W, W.heap.size, 0⟩ (Rd W) nu0 [] W where
  n := rfl
  below := Below.refl _ _
  base := Nat.le_refl _
  imm _ _ h := h
  obj _ _ h := by simp at h
  disj _ _ _ _ _ h := by simp at h

/-- A law that answers true, whatever it is handed. -/
theorem calls_row {f : Nat} {fn : Func} {s : ChangeSpec} {W : World} {args : Array Value} {ds gs : List (DataW H)} {before : List MemPlace} {tb : TypeId} {fresh handsOn : Bool}
    (hl : laidOutB P = true) (hts : ∀ t ∈ fn.params.toList, P.readableRec t = true ∧ t < P.types.size) (hres : fn.resultTypes = #[tb]) (hb : P.underlying tb = some .bool) (hvars : s.vars = [])
    (hW : DataW.Whole enc P fn.params.toList s.vars false W args.toList ds gs before) (hfn : s.fn H ds = { results := [.lit (.bool true)], args := ds })
    {avs : List AV} (hav : avs.length = args.toList.length ∧ ∀ (j : Nat) x v, avs[j]? = some x → args.toList[j]? = some v → VR W (Rd W) nu0 x v)
    (spec : PCalls ⟨P, W, W.heap.size, 0⟩ f avs fun rv => rv = .bool true) :
    Calls P f args W fun e W' => ∃ v, e = .returned v ∧ s.post enc P fn false fresh handsOn false W args v W' := by
  have hlt := hW.lt
  have hW' := hW
  obtain ⟨p, q, hA, hV, rfl, _⟩ := hW
  rw [hvars] at hV
  obtain ⟨rfl, rfl⟩ := trodVars_none hV
  have h := spec (Rd W) nu0 W args.toList (hr_start W) hav.1 hav.2
  refine h.mono ?_
  rintro e W' ⟨rv, objs', I', ν', v, ⟨rfl, _⟩, rfl, hv, hh, _⟩
  have hv' := hv.bool_inv
  subst hv'
  have bel : Below W.heap.size W W' := hh.below
  rw [List.append_nil] at hlt
  refine ⟨_, rfl, ds, [], p ++ [], [], p, [], hW', ?_, ?_, ?_, bel.frame _, fun h => by cases h⟩
  · rw [List.append_nil, hfn, hres]
    exact trodAll_mk1 (shut_bool hb true)
  · rw [List.append_nil, hfn]
    exact trodAll_below hl bel hts hA hlt
  · rw [hvars, List.append_nil, hfn]
    exact rfl

/-- An argument: one cell, or a struct's cells. -/
inductive AK where
  | one (k : KT)
  | agg (ks : List KT)
inductive OKA : List AK → List AV → Prop where
  | nil : OKA [] []
  | one {k : KT} {as : List AK} {x : AV} {xs : List AV} (h : OKV k x) (r : OKA as xs) : OKA (.one k :: as) (x :: xs)
  | agg {ks : List KT} {as : List AK} {ys : List AV} {xs : List AV} (h : OKL ks ys) (r : OKA as xs) : OKA (.agg ks :: as) (.agg ys :: xs)
def akOf (P : Program) (n : Nat) (t : TypeId) : Option AK := match P.underlying t with
  | some (.struct _) => match ktOf P n t with
    | some ks => some (.agg ks)
    | none => none
  | some (.array _ _) => none
  | _ => match ktOf P n t with
    | some [k] => some (.one k)
    | _ => none
def aksOf (P : Program) (n : Nat) : List TypeId → Option (List AK)
  | [] => some []
  | t :: ts => match akOf P n t with
    | some a => match aksOf P n ts with
      | some as => some (a :: as)
      | none => none
    | none => none

theorem cells_one {r : Reach} {b : Nat} {t : TypeId} {v : Value} (hval : Value.okWide P w r b t v) (hs : ∀ fs, P.underlying t ≠ some (.struct fs)) (ha : ∀ n e, P.underlying t ≠ some (.array n e)) {n : Nat} {k : KT} (hk : ktOf P n t = some [k]) : v.cells.toList = [v] := by
  cases n with
  | zero => cases hk
  | succ n =>
    unfold ktOf at hk
    split at hk
    · rename_i hu; obtain ⟨b, rfl⟩ := okWide_bool hu hval; rfl
    · rename_i hu; obtain ⟨b, rfl⟩ := okWide_int hu hval; rfl
    · rename_i hu; obtain ⟨b, rfl⟩ := okWide_string hu hval; rfl
    · rename_i hu; obtain ⟨a, b, c, rfl⟩ := okWide_slice hu hval; rfl
    · rename_i hu; exact absurd hu (hs _)
    · cases hk

theorem open_arg {r : Reach} {b n : Nat} {t : TypeId} {v : Value} {d : DataW H} {p : List MemPlace} {a : AK} (hk : akOf P n t = some a) (hval : Value.okWide P w r b t v) (h : DataW.Trod enc P w 0 sp held t v d p) (hw : ∀ m ∈ d.weights P t, m ≤ reachBytes) : ∃ x, (∀ as xs, OKA as xs → OKA (a :: as) (x :: xs)) ∧ VR w (Rd w) nu0 x v := by
  obtain ⟨fuel, h⟩ := h
  unfold akOf at hk
  split at hk
  · rename_i fs hu
    split at hk
    · rename_i ks hks
      injection hk with hk; subst hk
      obtain ⟨xs, hx⟩ := open_cells _ _ _ _ _ _ hks h hw
      obtain ⟨cs, rfl, _⟩ := okWide_struct hu hval
      have hx' : OpL w (Rd w) ks cs.toList xs := hx
      exact ⟨.agg xs, fun as ys hr => .agg hx'.ok hr, by simpa using VR.agg (w := w) (I := Rd w) (ν := nu0) xs cs.toList hx'.len.1 fun j x v h1 h2 => .pure (hx'.get j x v h1 h2)⟩
    · cases hk
  · cases hk
  · rename_i h1 h2
    split at hk
    · rename_i k hks
      injection hk with hk; subst hk
      obtain ⟨xs, hx⟩ := open_cells _ _ _ _ _ _ hks h hw
      rw [cells_one hval h1 h2 hks] at hx
      cases hx with
      | cons ho hv hr =>
        cases hr
        exact ⟨_, fun as ys hr => .one ho hr, .pure hv⟩
    · cases hk

theorem open_args {r : Reach} {b n : Nat} : ∀ {ts : List TypeId} {aks : List AK} {vs : List Value} {ds : List (DataW H)} {p : List MemPlace}, aksOf P n ts = some aks → (∀ (j : Nat) t v, ts[j]? = some t → vs[j]? = some v → Value.okWide P w r b t v) → DataW.TrodAll enc P w 0 sp held ts vs ds p → (∀ m ∈ DataW.weightsEach P ts ds, m ≤ reachBytes) →
    ∃ xs, OKA aks xs ∧ xs.length = vs.length ∧ ds.length = ts.length ∧ ∀ (j : Nat) x v, xs[j]? = some x → vs[j]? = some v → VR w (Rd w) nu0 x v := by
  intro ts
  induction ts with
  | nil =>
    intro aks vs ds p hk _ h hw
    injection hk with hk; subst hk
    obtain ⟨rfl, rfl, rfl⟩ := trodAll_nil h
    exact ⟨[], .nil, rfl, rfl, fun j x v h => by simp at h⟩
  | cons t ts ih =>
    intro aks vs ds p hk hval h hw
    unfold aksOf at hk
    split at hk
    · rename_i a ha
      split at hk
      · rename_i as has
        injection hk with hk; subst hk
        obtain ⟨v, vs, d, ds, p, q, rfl, rfl, rfl, h1, h2⟩ := trodAll_cons h
        obtain ⟨x, hx, hv⟩ := open_arg ha (hval 0 t v rfl rfl) h1 (fun m hm => hw m (by simp [DataW.weightsEach, hm]))
        obtain ⟨xs, g1, g2, g4, g3⟩ := ih has (fun j t v h1 h2 => hval (j + 1) t v (by simpa using h1) (by simpa using h2)) h2 (fun m hm => hw m (by simp [DataW.weightsEach, hm]))
        refine ⟨x :: xs, hx _ _ g1, by simp [g2], by simp [g4], fun j y u hy hu => ?_⟩
        cases j with
        | zero => simp at hy hu; subst hy; subst hu; exact hv
        | succ j => exact g3 j y u (by simpa using hy) (by simpa using hu)
      · cases hk
    · cases hk

theorem law_calls {f n : Nat} {fn : Func} {s : ChangeSpec} {W : World} {base : Nat} {args : Array Value} {ds gs : List (DataW H)} {before : List MemPlace} {tb : TypeId} {fresh handsOn : Bool} {aks : List AK}
    (hl : laidOutB P = true) (hts : (fn.params.toList.all fun t => P.readableRec t && decide (t < P.types.size)) = true) (hres : fn.resultTypes = #[tb]) (hb : P.underlying tb = some .bool) (hvars : s.vars = []) (hk : aksOf P n fn.params.toList = some aks)
    (hfn : ∀ ds : List (DataW H), ds.length = fn.params.toList.length → s.fn H ds = { results := [.lit (.bool true)], args := ds })
    (spec : ∀ xs, OKA aks xs → PCalls ⟨P, W, W.heap.size, 0⟩ f xs fun rv => rv = .bool true)
    (hval : ∀ (j : Nat) t v, fn.params[j]? = some t → args[j]? = some v → Value.okWide P W .any base t v)
    (hW : DataW.Whole enc P fn.params.toList s.vars false W args.toList ds gs before) (hsz : (DataW.weightsEach P (fn.params.toList ++ s.plain.varTypes P) (ds ++ gs)).all (· ≤ reachBytes) = true) :
    Calls P f args W fun e W' => ∃ v, e = .returned v ∧ s.post enc P fn false fresh handsOn false W args v W' := by
  have hW' := hW
  obtain ⟨p, q, hA, hV, _, _⟩ := hW
  rw [hvars] at hV
  obtain ⟨rfl, rfl⟩ := trodVars_none hV
  have hvt : s.plain.varTypes P = [] := by simp [ChangeSpec.plain, DataSpec.varTypes, hvars]
  rw [hvt, List.append_nil, List.append_nil] at hsz
  have hsz' : ∀ m ∈ DataW.weightsEach P fn.params.toList ds, m ≤ reachBytes := fun m hm => by simpa using List.all_eq_true.1 hsz m hm
  obtain ⟨xs, g1, g2, g4, g3⟩ := open_args hk (fun j t v h1 h2 => hval j t v (by simpa using h1) (by simpa using h2)) hA hsz'
  exact calls_row hl (fun t ht => by simpa using List.all_eq_true.1 hts t ht) hres hb hvars hW' (hfn ds g4) ⟨g2, g3⟩ (spec xs g1)
end
end Go.Proofs.Ytibmabidjacjlaa.L
