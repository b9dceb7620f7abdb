/- Part 5 of the texts behind the theorem of this claim: The logic, part 29: data that a row hands in, and how much it holds: for the rows' second form;Layer 9 (reply): the law ReplyLine;Layer 13 (code): what must come, whatever the arguments are;the laws CodeChecks, CodeParses;Layer 13 (code): what rows hand in;Layer 9 (reply): what rows hand in;Layer 21 (meter): how many responses went out;the law MeterCounts;Layer 21 (meter): the document's Count;the law MeterCounts -/
import Derived.Test.YtnjolbnbpfjdiaaDoorQd2
import Derived.Test.YtnjolbnbpfjdiaaDoorRows
import Derived.Test.YtnjolbnbpfjdiaaDoorQd4
import Derived.Lib.ItoaLen
import Derived.WalkKit
import Derived.ProofKit
import Derived.OpenShut
import Derived.SizedLaws
import Derived.HandedShaped
import Derived.Shelf.Vars
import Derived.LaidMore
import Derived.LaidSub
import Derived.Lay
import Derived.Stop.Joined
import Derived.Stop.LaidErr
import Derived.Deep.DeepHandedRow
import Derived.Lib.LaidTab
import Derived.Test.YtnjolbnbpfjdiaaDoorQd3
set_option linter.unusedVariables false
set_option linter.unusedSimpArgs false
namespace Go.Proofs.YtnjolbnbpfjdiaaDoor.L
open Go Go.RowKit Go.ChangeShapes Go.WideShapes
set_option linter.unusedVariables false
set_option linter.unusedSimpArgs false

mutual
/-- How many values and letters. -/
def avB : AV → Nat
  | .str s => s.length + 1
  | .rs xs => rowsB xs + 1
  | .agg cs => cellsB cs + 1
  | _ => 1
def cellsB : List AV → Nat
  | [] => 0
  | x :: r => avB x + cellsB r
def rowsB : List (List AV) → Nat
  | [] => 0
  | c :: r => cellsB c + rowsB r
end
theorem cellsB_append (a b : List AV) : cellsB (a ++ b) = cellsB a + cellsB b := by
  induction a with
  | nil => simp [cellsB]
  | cons x a ih => simp only [List.cons_append, cellsB, ih]; omega
theorem rowsB_append (a b : List (List AV)) : rowsB (a ++ b) = rowsB a + rowsB b := by
  induction a with
  | nil => simp [rowsB]
  | cons x a ih => simp only [List.cons_append, rowsB, ih]; omega
theorem bulk_one {H : Type} (d : DataW H) : 1 ≤ Rows.uptoBulk d := by
  cases d with
  | lit l => cases l <;> simp [Rows.uptoBulk]
  | _ => simp [Rows.uptoBulk]
theorem bulkAll_append {H : Type} (l r : List (DataW H)) : Rows.uptoBulkAll (l ++ r) = Rows.uptoBulkAll l + Rows.uptoBulkAll r := by
  induction l with
  | nil => simp [Rows.uptoBulkAll]
  | cons x l ih => simp only [List.cons_append, Rows.uptoBulkAll, ih]; omega
def sumN (β : Nat → Nat) : Nat → Nat
  | 0 => 0
  | n + 1 => sumN β n + β n
theorem sumN_take {H : Type} (l : List (DataW H)) : ∀ n, n ≤ l.length → sumN (fun i => Rows.uptoBulk (l.getD i .nil)) n = Rows.uptoBulkAll (l.take n) := by
  intro n
  induction n with
  | zero => intro _; rfl
  | succ n ih =>
    intro h
    have hn : n < l.length := by omega
    rw [List.take_add_one, List.getElem?_eq_getElem hn, bulkAll_append, sumN, ih (by omega), List.getD_eq_getElem?_getD, List.getElem?_eq_getElem hn]
    simp [Rows.uptoBulkAll]

section
variable {H : Type} {enc : TypeId × Value → H} {P : Program} {w : World} {sp : Nat → Bool} {held : Bool}

theorem rows_ofB {ks : List KT} (R : Nat → List Value) (β : Nat → Nat) : ∀ n, (∀ i, i < n → ∃ avs, OpL w (Rd w) ks (R i) avs ∧ cellsB avs ≤ β i) → ∃ xs : List (List AV), xs.length = n ∧ rowsB xs ≤ sumN β n ∧ ∀ (i : Nat) row, xs[i]? = some row → OpL w (Rd w) ks (R i) row := by
  intro n
  induction n with
  | zero => intro _; exact ⟨[], rfl, Nat.le_refl _, fun i row h => by simp at h⟩
  | succ n ih =>
    intro h
    obtain ⟨xs, h1, hb, h2⟩ := ih fun i hi => h i (by omega)
    obtain ⟨avs, ha, hab⟩ := h n (by omega)
    refine ⟨xs ++ [avs], by simp [h1], by rw [rowsB_append]; simp only [rowsB, sumN]; omega, fun i row hi => ?_⟩
    rw [List.getElem?_append] at hi
    split at hi
    · exact h2 i row hi
    · rename_i hn
      have : i = n := by
        by_cases e : i - xs.length = 0
        · omega
        · rw [List.getElem?_eq_none (by simp; omega)] at hi; cases hi
      subst this
      rw [h1, Nat.sub_self] at hi
      simp at hi
      subst hi
      exact ha

theorem open_cellsB : ∀ (n : Nat) (t : TypeId) (ks : List KT) (fuel : Nat) (cs : List Value) (x : DataW H × List MemPlace), ktOf P n t = some ks → DataW.trod enc P w 0 sp held fuel t cs = some x → (∀ m ∈ x.1.weights P t, m ≤ reachBytes) → ∃ avs, OpL w (Rd w) ks cs avs ∧ cellsB avs ≤ Rows.uptoBulk x.1 := by
  intro n
  induction n with
  | zero => intro t ks fuel cs x h; cases h
  | succ n ih =>
    intro t ks fuel cs x hk h hw
    unfold ktOf at hk
    split at hk
    · rename_i hu
      injection hk with hk; subst hk
      obtain ⟨b, rfl, _⟩ := DataW.trod_bool hu h
      exact ⟨_, .cons (.bool b) (.bool b) .nil, bulk_one _⟩
    · rename_i k hu
      injection hk with hk; subst hk
      obtain ⟨m, rfl, _, hwf⟩ := DataW.trod_int hu h
      exact ⟨_, .cons (.int _ m hwf) (.int _ m) .nil, bulk_one _⟩
    · rename_i hu
      injection hk with hk; subst hk
      obtain ⟨s, rfl, rfl, _⟩ := DataW.trod_string hu h
      obtain ⟨⟨s⟩⟩ := s
      exact ⟨_, .cons (.str s (by have := hw s.length (by simp [DataW.weights]); simpa [reachBytes] using this)) (by simpa using VP.str (w := w) (I := Rd w) s) .nil, by simp [cellsB, avB, Rows.uptoBulk]⟩
    · rename_i e hu
      split at hk
      · rename_i es he
        split at hk
        · rename_i hc0
          have hc := hc0.1
          injection hk with hk; subst hk
          rcases DataW.trod_slice hu h with ⟨rfl, _⟩ | ⟨a, len, cap, elems, rest, m, _, rfl, hx0, _, hl, hm, hlen, hel, _⟩
          · exact ⟨_, .cons (.sl _ [] (by simp) (by simp) .nil) (.rs0 none 0) .nil, by simpa [cellsB, avB, rowsB] using bulk_one _⟩
          · by_cases h0 : len = 0
            · subst h0
              exact ⟨_, .cons (.sl _ [] (by simp) (by simp) .nil) (.rs0 (some a) cap) .nil, by simpa [cellsB, avB, rowsB] using bulk_one _⟩
            · have row : ∀ i, i < len → ∃ R : List Value, w.cells? 0 (a.add (i * P.cellsOf e)) (P.cellsOf e) = some R ∧ ∃ avs, OpL w (Rd w) es R avs ∧ cellsB avs ≤ Rows.uptoBulk ((elems.map (·.1)).getD i .nil) := by
                intro i hi
                have := hel i hi
                rw [List.getElem?_eq_getElem (by omega)] at this
                obtain ⟨R, h1, h2⟩ := Option.bind_eq_some_iff.1 this
                have hgd : (elems.map (·.1)).getD i .nil = (elems[i]'(by omega)).1 := by
                  rw [List.getD_eq_getElem?_getD, List.getElem?_map, List.getElem?_eq_getElem (by omega)]
                  rfl
                rw [hgd]
                refine ⟨R, h1, ih _ _ _ _ _ he h2 fun q hq => hw q ?_⟩
                rw [hx0]
                simp only [DataW.weights, hu, List.mem_cons, List.mem_append]
                exact .inr (.inl (weightsAll_mem (List.mem_map.2 ⟨_, List.getElem_mem _, rfl⟩) q hq))
              have hex : ∀ i, ∃ R : List Value, i < len → w.cells? 0 (a.add (i * P.cellsOf e)) (P.cellsOf e) = some R ∧ ∃ avs, OpL w (Rd w) es R avs ∧ cellsB avs ≤ Rows.uptoBulk ((elems.map (·.1)).getD i .nil) := by
                intro i
                by_cases hi : i < len
                · obtain ⟨R, hR⟩ := row i hi
                  exact ⟨R, fun _ => hR⟩
                · exact ⟨[], fun h => absurd h hi⟩
              obtain ⟨R, hR⟩ := Classical.axiomOfChoice hex
              obtain ⟨xs, hx1, hxb, hx2⟩ := rows_ofB R (fun i => Rows.uptoBulk ((elems.map (·.1)).getD i .nil)) len fun i hi => (hR i hi).2
              have hbulk : rowsB xs + 1 ≤ Rows.uptoBulk x.1 := by
                rw [sumN_take _ _ (by rw [List.length_map]; omega), List.take_of_length_le (by rw [List.length_map]; omega)] at hxb
                rw [hx0]
                simp only [Rows.uptoBulk]
                omega
              have cell : ∀ i j, i < len → j < es.length → w.cell? (a.add (i * es.length + j)) = (R i)[j]? := by
                intro i j hi hj
                have h1 := (World.cells?_some (hR i hi).1).2.2 j (by omega)
                rw [← h1, hc.1]
                congr 1
                unfold Addr.add
                by_cases e1 : i * es.length = 0
                · rw [if_pos e1, e1, Nat.zero_add]
                · rw [if_neg e1, if_neg (by omega)]
                  by_cases e2 : j = 0
                  · subst e2; simp
                  · rw [if_neg e2]; simp [Nat.add_assoc]
              have hRl : ∀ i, i < len → (R i).length = es.length := fun i hi => by rw [(World.cells?_some (hR i hi).1).2.1, hc.1]
              have hsp : a.spot = none := by
                have h1 := cell 0 0 (by omega) hc.2
                rw [List.getElem?_eq_getElem (by rw [hRl 0 (by omega)]; exact hc.2)] at h1
                simp only [Nat.zero_mul, Nat.zero_add, Addr.add, if_true] at h1
                obtain ⟨b, o, s⟩ := a
                exact cell_spot h1
              obtain ⟨b, off, s⟩ := a
              simp only at hsp
              subst hsp
              have add : ∀ k, (⟨b, off, none⟩ : Addr).add k = ⟨b, off + k, none⟩ := fun k => add_none b off k
              have us : ∀ j, j < len * es.length → w.cell? ⟨b, off + j, none⟩ = (R (j / es.length))[j % es.length]? := by
                intro j hj
                have h1 : j / es.length < len := Nat.div_lt_of_lt_mul (by rw [Nat.mul_comm]; exact hj)
                have h2 : j % es.length < es.length := Nat.mod_lt _ hc.2
                rw [← cell _ _ h1 h2, add, Nat.mul_comm, Nat.div_add_mod]
              have us' : ∀ j, j < len * es.length → w.cell? ⟨b, off + j, none⟩ = some ((R (j / es.length)).getD (j % es.length) (.bool false)) := by
                intro j hj
                have h1 : j / es.length < len := Nat.div_lt_of_lt_mul (by rw [Nat.mul_comm]; exact hj)
                have h2 : j % es.length < es.length := Nat.mod_lt _ hc.2
                rw [us j hj, List.getElem?_eq_getElem (by rw [hRl _ h1]; exact h2), List.getD_eq_getElem?_getD, List.getElem?_eq_getElem (by rw [hRl _ h1]; exact h2)]
                rfl
              have hrow : ∀ (i : Nat) row, xs[i]? = some row → i < len := fun i row hi => by
                have := (List.getElem?_eq_some_iff.1 hi).1
                omega
              have hbig : xs.length ≤ 140737488351232 := by
                have := hw ((elems.length + rest.length) * P.bytesOf e) (by rw [hx0]; simp [DataW.weights, hu])
                have h2 : (elems.length + rest.length) * 1 ≤ (elems.length + rest.length) * P.bytesOf e := Nat.mul_le_mul_left _ (Nat.le_trans (ktW_pos hc.2) hc0.2)
                simp only [reachBytes] at this
                omega
              have hbig2 : xs.length * ktW es ≤ 140737488351232 := by
                have := hw ((elems.length + rest.length) * P.bytesOf e) (by rw [hx0]; simp [DataW.weights, hu])
                have h2 : xs.length * ktW es ≤ (elems.length + rest.length) * P.bytesOf e := Nat.mul_le_mul (by omega) hc0.2
                simp only [reachBytes] at this
                omega
              refine ⟨_, .cons (.sl _ xs hbig hbig2 (OKR.of fun row hr => ?_)) ?_ .nil, by simpa [cellsB, avB] using hbulk⟩
              · obtain ⟨i, hi⟩ := List.mem_iff_getElem?.1 hr
                exact (hx2 i row hi).ok
              · have := VP.rs (w := w) (I := Rd w) xs es.length b off cap (fun j => (R (j / es.length)).getD (j % es.length) (.bool false)) hc.2 (by omega) hm
                  (fun i row hi => by have h1 := (hx2 i row hi).len; omega)
                  (fun j hj => ⟨us' j (by rw [← hx1]; exact hj), _, us' j (by rw [← hx1]; exact hj)⟩)
                  (fun i j row y hi hj => by
                    have h1 := hx2 i row hi
                    have h2 := hrow i row hi
                    have h3 : j < row.length := (List.getElem?_eq_some_iff.1 hj).1
                    have h4 : j < es.length := by have := h1.len; omega
                    have e1 : (i * es.length + j) / es.length = i := by rw [Nat.mul_comm, Nat.mul_add_div hc.2, Nat.div_eq_of_lt h4, Nat.add_zero]
                    have e2 : (i * es.length + j) % es.length = j := by rw [Nat.mul_comm, Nat.mul_add_mod, Nat.mod_eq_of_lt h4]
                    simp only [e1, e2]
                    refine h1.get j y _ hj ?_
                    rw [List.getD_eq_getElem?_getD, List.getElem?_eq_getElem (by rw [hRl i h2]; exact h4)]
                    rfl)
                rw [hx1] at this
                exact this
        · cases hk
      · cases hk
    · rename_i fs hu
      split at hk
      · rename_i es he
        split at hk
        · rename_i hc
          injection hk with hk; subst hk
          obtain ⟨xs, m, _, hx0, hcl, hxl, hxs⟩ := DataW.trod_struct hu h
          have key : ∀ (l : List (Field × (DataW H × List MemPlace))) (off : Nat) (ks : List KT), (∀ f ∈ l, DataW.trod enc P w 0 sp held m f.1.type ((cs.drop f.1.offset).take (P.cellsOf f.1.type)) = some f.2 ∧ ∀ q ∈ f.2.1.weights P f.1.type, q ≤ reachBytes) → ktF (ktOf P n) P (l.map (·.1)) off = some ks → ∃ avs, OpL w (Rd w) ks ((cs.drop off).take ks.length) avs ∧ cellsB avs ≤ Rows.uptoBulkAll (l.map (·.2.1)) := by
            intro l
            induction l with
            | nil => intro off ks _ hk; injection hk with hk; subst hk; exact ⟨[], by simpa using OpL.nil, Nat.le_refl _⟩
            | cons f l ihl =>
              intro off ks hf hk
              rw [List.map_cons] at hk
              unfold ktF at hk
              split at hk
              · rename_i k1 hk1
                split at hk
                · rename_i hcc
                  split at hk
                  · rename_i k2 hk2
                    injection hk with hk; subst hk
                    obtain ⟨hy, hyw⟩ := hf f (by simp)
                    obtain ⟨a1, h1, hb1⟩ := ih _ _ _ _ _ hk1 hy hyw
                    obtain ⟨a2, h2, hb2⟩ := ihl _ _ (fun g hg => hf g (by simp [hg])) hk2
                    refine ⟨a1 ++ a2, ?_, by rw [cellsB_append, List.map_cons]; simp only [Rows.uptoBulkAll]; omega⟩
                    rw [List.length_append, List.take_add, List.drop_drop]
                    rw [hcc.1, hcc.2] at h1
                    exact h1.append h2
                  · cases hk
                · cases hk
              · cases hk
          have hzl : (fs.toList.zip xs).map (·.1) = fs.toList := List.map_fst_zip (by have := Array.length_toList (xs := fs); omega)
          have hzr : (fs.toList.zip xs).map (·.2.1) = xs.map (·.1) := by
            have : (fs.toList.zip xs).map (·.2) = xs := List.map_snd_zip (by have := Array.length_toList (xs := fs); omega)
            have h2 : (fs.toList.zip xs).map (·.2.1) = ((fs.toList.zip xs).map (·.2)).map (·.1) := by rw [List.map_map]; rfl
            rw [h2, this]
          obtain ⟨avs, ha, hab⟩ := key (fs.toList.zip xs) 0 es (fun f hf => by
            obtain ⟨i, hi⟩ := List.mem_iff_getElem?.1 hf
            rw [List.getElem?_zip_eq_some] at hi
            have hi' : fs[i]? = some f.1 := by simpa using hi.1
            refine ⟨(hxs i f.1 hi').trans hi.2, fun q hq => hw q ?_⟩
            rw [hx0]
            simp only [DataW.weights, hu]
            exact DataW.weights_mem_each (j := i) (t := f.1.type) (by simp [hi']) (by rw [List.getElem?_map, hi.2]; rfl) q hq) (by rw [hzl]; exact he)
          refine ⟨avs, ?_, ?_⟩
          · rw [List.drop_zero, List.take_of_length_le (by omega)] at ha
            exact ha
          · rw [hzr] at hab
            rw [hx0]
            simp only [Rows.uptoBulk]
            omega
        · cases hk
      · cases hk
    · cases hk

theorem open_argB {r : Reach} {b n : Nat} {t : TypeId} {v : Value} {d : DataW H} {p : List MemPlace} {a : AK} (hk : akOf P n t = some a) (hval : Value.okWide P w r b t v) (h : DataW.Trod enc P w 0 sp held t v d p) (hw : ∀ m ∈ d.weights P t, m ≤ reachBytes) : ∃ x, (∀ aks2 xs, OKA aks2 xs → OKA (a :: aks2) (x :: xs)) ∧ VR w (Rd w) nu0 x v ∧ avB x ≤ Rows.uptoBulk d + 1 := by
  obtain ⟨fuel, h⟩ := h
  unfold akOf at hk
  split at hk
  · rename_i fs hu
    split at hk
    · rename_i ks hks
      injection hk with hk; subst hk
      obtain ⟨xs, hx, hxb⟩ := open_cellsB _ _ _ _ _ _ hks h hw
      obtain ⟨cs, rfl, _⟩ := okWide_struct hu hval
      have hx' : OpL w (Rd w) ks cs.toList xs := hx
      exact ⟨.agg xs, fun aks2 ys hr => .agg hx'.ok hr, by simpa using VR.agg (w := w) (I := Rd w) (ν := nu0) xs cs.toList hx'.len.1 fun j x v h1 h2 => .pure (hx'.get j x v h1 h2), by simp only [avB]; have : cellsB xs ≤ Rows.uptoBulk d := hxb; omega⟩
    · cases hk
  · cases hk
  · rename_i h1 h2
    split at hk
    · rename_i k hks
      injection hk with hk; subst hk
      obtain ⟨xs, hx, hxb⟩ := open_cellsB _ _ _ _ _ _ hks h hw
      rw [cells_one hval h1 h2 hks] at hx
      cases hx with
      | cons ho hv hr =>
        cases hr
        exact ⟨_, fun aks2 ys hr => .one ho hr, .pure hv, by simp only [cellsB] at hxb; have : _ ≤ Rows.uptoBulk d := hxb; omega⟩
    · cases hk

theorem open_argsB {r : Reach} {b n : Nat} : ∀ {ts : List TypeId} {aks : List AK} {vs : List Value} {ds : List (DataW H)} {p : List MemPlace}, aksOf P n ts = some aks → (∀ (j : Nat) t v, ts[j]? = some t → vs[j]? = some v → Value.okWide P w r b t v) → DataW.TrodAll enc P w 0 sp held ts vs ds p → (∀ m ∈ DataW.weightsEach P ts ds, m ≤ reachBytes) →
    ∃ xs, OKA aks xs ∧ xs.length = vs.length ∧ ds.length = ts.length ∧ (∀ (j : Nat) x v, xs[j]? = some x → vs[j]? = some v → VR w (Rd w) nu0 x v) ∧ cellsB xs ≤ Rows.uptoBulkAll ds + ts.length := by
  intro ts
  induction ts with
  | nil =>
    intro aks vs ds p hk _ h hw
    injection hk with hk; subst hk
    obtain ⟨rfl, rfl, rfl⟩ := trodAll_nil h
    exact ⟨[], .nil, rfl, rfl, fun j x v h => by simp at h, Nat.le_refl _⟩
  | cons t ts ih =>
    intro aks vs ds p hk hval h hw
    unfold aksOf at hk
    split at hk
    · rename_i a ha
      split at hk
      · rename_i aks2 has
        injection hk with hk; subst hk
        obtain ⟨v, vs, d, ds, p, q, rfl, rfl, rfl, h1, h2⟩ := trodAll_cons h
        obtain ⟨x, hx, hv, hb⟩ := open_argB ha (hval 0 t v rfl rfl) h1 (fun m hm => hw m (by simp [DataW.weightsEach, hm]))
        obtain ⟨xs, g1, g2, g4, g3, g5⟩ := ih has (fun j t v h1 h2 => hval (j + 1) t v (by simpa using h1) (by simpa using h2)) h2 (fun m hm => hw m (by simp [DataW.weightsEach, hm]))
        refine ⟨x :: xs, hx _ _ g1, by simp [g2], by simp [g4], fun j y u hy hu => ?_, ?_⟩
        · cases j with
          | zero => simp at hy hu; subst hy; subst hu; exact hv
          | succ j => exact g3 j y u (by simpa using hy) (by simpa using hu)
        · simp only [cellsB, Rows.uptoBulkAll, List.length_cons]; omega
      · cases hk
    · cases hk

theorem law_callsB {f n : Nat} {fn : Func} {s : ChangeSpec} {W : World} {base : Nat} {args : Array Value} {ds gs : List (DataW H)} {before : List MemPlace} {tb : TypeId} {fresh handsOn : Bool} {aks : List AK}
    (hl : laidOutB P = true) (hts : (fn.params.toList.all fun t => P.readableRec t && decide (t < P.types.size)) = true) (hres : fn.resultTypes = #[tb]) (hb : P.underlying tb = some .bool) (hvars : s.vars = []) (hk : aksOf P n fn.params.toList = some aks)
    (hfn : ∀ ds : List (DataW H), ds.length = fn.params.toList.length → s.fn H ds = { results := [.lit (.bool true)], args := ds })
    (spec : ∀ xs, OKA aks xs → cellsB xs ≤ 1048576 + fn.params.toList.length → PCalls ⟨P, W, W.heap.size, 0⟩ f xs fun rv => rv = .bool true)
    (hval : ∀ (j : Nat) t v, fn.params[j]? = some t → args[j]? = some v → Value.okWide P W .any base t v)
    (hW : DataW.Whole enc P fn.params.toList s.vars false W args.toList ds gs before) (hsz : (DataW.weightsEach P (fn.params.toList ++ s.plain.varTypes P) (ds ++ gs)).all (· ≤ reachBytes) = true) (hup : Rows.uptoSmall H (ds ++ gs) = true) :
    Calls P f args W fun e W' => ∃ v, e = .returned v ∧ s.post enc P fn false fresh handsOn false W args v W' := by
  have hW' := hW
  obtain ⟨p, q, hA, hV, _, _⟩ := hW
  rw [hvars] at hV
  obtain ⟨rfl, rfl⟩ := trodVars_none hV
  have hvt : s.plain.varTypes P = [] := by simp [ChangeSpec.plain, DataSpec.varTypes, hvars]
  rw [hvt, List.append_nil, List.append_nil] at hsz
  rw [List.append_nil] at hup
  have hup' : Rows.uptoBulkAll ds ≤ 1048576 := of_decide_eq_true hup
  have hsz' : ∀ m ∈ DataW.weightsEach P fn.params.toList ds, m ≤ reachBytes := fun m hm => by simpa using List.all_eq_true.1 hsz m hm
  obtain ⟨xs, g1, g2, g4, g3, g5⟩ := open_argsB hk (fun j t v h1 h2 => hval j t v (by simpa using h1) (by simpa using h2)) hA hsz'
  exact calls_row hl (fun t ht => by simpa using List.all_eq_true.1 hts t ht) hres hb hvars hW' (hfn ds g4) ⟨g2, g3⟩ (spec xs g1 (by omega))
end
end Go.Proofs.YtnjolbnbpfjdiaaDoor.L

namespace Go.Proofs.YtnjolbnbpfjdiaaDoor.L
open Go Go.RowKit Go.Proofs
set_option linter.unusedVariables false
set_option linter.unusedSimpArgs false
set_option maxRecDepth 100000
attribute [local irreducible] AL QL AWp Thn InB RetQ ACalls LoopQ HL HO HW HQ NoG JmpQ MidQ HF

def rpsY (l : List Rp) : List UInt8 := l.flatMap printY
def goodL (l : List Rp) : List Rp := l.filter mayY
theorem printY_pos (r : Rp) : 1 ≤ (printY r).length := by
  unfold printY y1 y3
  simp only [List.length_append, List.length_cons, List.length_nil]
  omega
theorem rowsB_take (l : List (List AV)) (i : Nat) : rowsB (l.take i) ≤ rowsB l := by
  have h := rowsB_append (l.take i) (l.drop i)
  rw [List.take_append_drop] at h
  omega
section
variable {w0 : World} {base : Nat}
end
end Go.Proofs.YtnjolbnbpfjdiaaDoor.L

namespace Go.Proofs.YtnjolbnbpfjdiaaDoor.L
open Go Go.RowKit Go.Proofs
set_option linter.unusedVariables false
set_option linter.unusedSimpArgs false
set_option maxRecDepth 100000
attribute [local irreducible] AL QL AWp Thn InB RetQ ACalls LoopQ HL HO HW HQ NoG JmpQ MidQ HF

def awS1 : List UInt8 := "push 5 ; five\n\n halt".toUTF8.data.toList
def awS2 : List UInt8 := "halt\n pop 0".toUTF8.data.toList
def awS3 : List UInt8 := "push 5\nhalt\n".toUTF8.data.toList
section
variable {w0 : World} {base : Nat}
end
end Go.Proofs.YtnjolbnbpfjdiaaDoor.L

namespace Go.Proofs.YtnjolbnbpfjdiaaDoor.L
open Go Go.RowKit Go.Proofs Go.ChangeShapes Go.WideShapes Go.ChangeAt
set_option linter.unusedVariables false
set_option maxRecDepth 100000
attribute [local irreducible] AL QL AWp Thn InB RetQ ACalls LoopQ
theorem rowOwn : ownKnob Tryd.prog.godebug = none := by kernel_rfl
theorem rowLaid : laidOutB Tryd.prog = true := by kernel_rfl
theorem glob_of {W : World} (h : W.ShapedOpen Tryd.prog) : Glob W W.heap.size := by
  obtain ⟨m, hm⟩ := cell_of_shapedOpen_int (P := Tryd.prog) (g := 0) (t := 3) (zero := #[.int .i64 0]) (k := .i64) h (of_decide_eq_true (by kernel_rfl)) (by kernel_rfl) (by kernel_rfl) (by kernel_rfl) (by kernel_rfl) (by kernel_rfl)
  refine ⟨?_, m, hm⟩
  by_cases h0 : 0 < W.heap.size
  · exact h0
  · exfalso
    have : W.heap[0]? = none := by rw [Array.getElem?_eq_none_iff]; omega
    simp [World.cell?, this] at hm
theorem gES : Tryd.prog.globalNamed "strconv.ErrSyntax" = some 2 := by kernel_rfl
theorem gER : Tryd.prog.globalNamed "strconv.ErrRange" = some 3 := by kernel_rfl
theorem gESType : (Tryd.prog.globals[2]?).map (·.type) = some 56 := by kernel_rfl
theorem gERType : (Tryd.prog.globals[3]?).map (·.type) = some 56 := by kernel_rfl
theorem starErr : "*" ++ "errors.errorString" = "*errors.errorString" := by decide
theorem rowErr (u : TypeId) (h : Tryd.prog.typeName? 3 u = some "*errors.errorString") : u = 164 :=
  typeName_ptr_named (nm := "errors.errorString") (by rw [starErr]; kernel_rfl) (by kernel_rfl) (by decide) u (by rw [starErr]; exact h)
abbrev powL : List (String × DataW Unit) := [("internal/strconv.uint64pow10", Lib.tabData .u64 Lib.pow10Tab)]
abbrev esL : List (String × DataW Unit) := [("strconv.ErrSyntax", .iface "*errors.errorString" (.ptr (.agg [.lit (.string [105, 110, 118, 97, 108, 105, 100, 32, 115, 121, 110, 116, 97, 120])])))]
abbrev erL : List (String × DataW Unit) := [("strconv.ErrRange", .iface "*errors.errorString" (.ptr (.agg [.lit (.string [118, 97, 108, 117, 101, 32, 111, 117, 116, 32, 111, 102, 32, 114, 97, 110, 103, 101])])))]
theorem tabs_of {W : World} {l : List (String × DataW Unit)} (h : W.ShapedOpen Tryd.prog) (hL : laidMet Tryd.prog l W) (h1 : l.filter (fun x => x.1 == "internal/strconv.uint64pow10") = powL) (h2 : l.filter (fun x => x.1 == "strconv.ErrSyntax") = esL) (h3 : l.filter (fun x => x.1 == "strconv.ErrRange") = erL) : Tabs W W.heap.size := by
  have f1 := hL.filter (fun x => x.1 == "internal/strconv.uint64pow10")
  have f2 := hL.filter (fun x => x.1 == "strconv.ErrSyntax")
  have f3 := hL.filter (fun x => x.1 == "strconv.ErrRange")
  rw [h1] at f1
  rw [h2] at f2
  rw [h3] at f3
  obtain ⟨a0, s0, hv0, -, -, -⟩ := laid_sentinel f2 gES gESType Tryd.underlying56 rowErr Tryd.underlying164 Tryd.underlying166 rfl rfl Tryd.underlying9 (by kernel_rfl) (by kernel_rfl)
  obtain ⟨a1, s1, hv1, -, -, -⟩ := laid_sentinel f3 gER gERType Tryd.underlying56 rowErr Tryd.underlying164 Tryd.underlying166 rfl rfl Tryd.underlying9 (by kernel_rfl) (by kernel_rfl)
  have c0 : W.cell? ⟨2, 0, none⟩ = some (.iface 164 (.pointer (some a0))) := by have h0 := World.var?_cell gES hv0 0; simpa using h0
  have c1 : W.cell? ⟨3, 0, none⟩ = some (.iface 164 (.pointer (some a1))) := by have h0 := World.var?_cell gER hv1 0; simpa using h0
  refine ⟨glob_of h, ?_, ⟨_, _, c0⟩, ⟨_, _, c1⟩, Lib.tabIs_of_head (g := (Tryd.prog.globalNamed "internal/strconv.uint64pow10").getD 0) (t := ((Tryd.prog.globals[(Tryd.prog.globalNamed "internal/strconv.uint64pow10").getD 0]?).map (·.type)).getD 0) (e := 132) (n := 20) (by kernel_rfl) (by kernel_rfl) (by kernel_rfl) (by kernel_rfl) (by kernel_rfl) (by kernel_rfl) f1⟩
  by_cases h0 : 4 ≤ W.heap.size
  · exact h0
  · exfalso
    have : W.heap[3]? = none := by rw [Array.getElem?_eq_none_iff]; omega
    simp [World.cell?, this] at c1
end Go.Proofs.YtnjolbnbpfjdiaaDoor.L

namespace Go.Proofs.YtnjolbnbpfjdiaaDoor.L
open Go Go.RowKit Go.Proofs Go.ChangeShapes Go.WideShapes Go.ChangeAt
set_option linter.unusedVariables false
set_option maxRecDepth 100000
attribute [local irreducible] AL QL AWp Thn InB RetQ ACalls LoopQ
end Go.Proofs.YtnjolbnbpfjdiaaDoor.L

namespace Go.Proofs.YtnjolbnbpfjdiaaDoor.L
open Go Go.RowKit Go.Proofs
set_option linter.unusedVariables false
set_option linter.unusedSimpArgs false
set_option maxRecDepth 100000
attribute [local irreducible] AL QL AWp Thn InB RetQ ACalls LoopQ HL HO HW HQ NoG JmpQ MidQ HF

/-- What went out: at a step, at a connection, bytes, and whether that closed it. -/
structure Ou where
  step : Int
  conn : Int
  bytes : List UInt8
  cl : Bool
abbrev ouC (o : Ou) : List AV := [.int .i64 o.step, .int .i64 o.conn, .str o.bytes, .bool o.cl]
def outsB (c : Int) : List Ou → List UInt8
  | [] => []
  | o :: r => (if o.conn = c then o.bytes else []) ++ outsB c r
def outsC (c : Int) : List Ou → Bool
  | [] => false
  | o :: r => (decide (o.conn = c) && o.cl) || outsC c r
theorem outsB_app (c : Int) (a b : List Ou) : outsB c (a ++ b) = outsB c a ++ outsB c b := by
  induction a with
  | nil => rfl
  | cons x a ih => rw [List.cons_append, outsB, ih, outsB, List.append_assoc]
theorem outsC_app (c : Int) (a b : List Ou) : outsC c (a ++ b) = (outsC c a || outsC c b) := by
  induction a with
  | nil => rfl
  | cons x a ih => rw [List.cons_append, outsC, ih, outsC, Bool.or_assoc]
theorem outs_next {c : Int} {l : List Ou} {i : Nat} {o : Ou} (h : l[i]? = some o) : outsB c (l.take (i + 1)) = outsB c (l.take i) ++ (if o.conn = c then o.bytes else []) ∧ outsC c (l.take (i + 1)) = (outsC c (l.take i) || (decide (o.conn = c) && o.cl)) := by
  rw [List.take_add_one, h, outsB_app, outsC_app]
  constructor
  · show _ ++ ((if o.conn = c then o.bytes else []) ++ []) = _
    rw [List.append_nil]
  · show (_ || ((decide (o.conn = c) && o.cl) || false)) = _
    rw [Bool.or_false]
theorem outsB_bulk (c : Int) (l : List Ou) : (outsB c l).length ≤ rowsB (l.map ouC) := by
  induction l with
  | nil => exact Nat.zero_le _
  | cons o l ih =>
    rw [outsB, List.length_append, List.map_cons, rowsB]
    have e : cellsB (ouC o) = 1 + (1 + ((o.bytes.length + 1) + (1 + 0))) := rfl
    split
    · omega
    · simp only [List.length_nil]; omega
theorem ous_len (l : List Ou) : l.length ≤ rowsB (l.map ouC) := by
  induction l with
  | nil => exact Nat.zero_le _
  | cons o l ih =>
    rw [List.map_cons, rowsB, List.length_cons]
    have e : cellsB (ouC o) = 1 + (1 + ((o.bytes.length + 1) + (1 + 0))) := rfl
    omega
/-- How many responses a text is. -/
def countF : Nat → List UInt8 → Nat
  | 0, _ => 0
  | f + 1, s => match parseP s with
    | none => 0
    | some r => countF f (s.drop (printY r).length) + 1
def countP (s : List UInt8) : Nat := countF (s.length + 1) s
theorem parse_len {s : List UInt8} {r : Rp} (h : parseP s = some r) : 1 ≤ (printY r).length ∧ (printY r).length ≤ s.length := by
  refine ⟨printY_pos r, ?_⟩
  obtain ⟨t, e⟩ := pre_iff.1 (parseP_iff.1 h).2
  have := congrArg List.length e
  rw [List.length_append] at this
  omega
section
variable {w0 : World} {base : Nat}
/-- What Count answers. -/
def CntR (l : List Ou) (c : Int) (rv : AV) : Prop := rv = .tup [.int .i64 (countP (outsB c l) : Int), .bool (outsC c l)]
theorem prs_cases (s : List UInt8) : (parseP s = none ∧ prsY s = .tup [.agg (rpC (rp0 0 [])), .int .i64 0, .int .i64 90]) ∨ ∃ r, parseP s = some r ∧ prsY s = .tup [.agg (rpC r), .int .i64 ((printY r).length : Int), .int .i64 0] := by
  unfold prsY
  cases h : parseP s with
  | none => exact .inl ⟨rfl, rfl⟩
  | some r => exact .inr ⟨r, rfl, rfl⟩
set_option maxHeartbeats 4000000 in
theorem s_count {l : List Ou} {c : Int} (hG : Tabs w0 base) (hb : rowsB (l.map ouC) ≤ 2097152) : PCalls (EE w0 base) 14 [.rs (l.map ouC), .int .i64 c] (CntR l c) := by
  have hlen : (l.map ouC).length = l.length := List.length_map _
  have hll := ous_len l
  have hbl : ∀ i, (outsB c (l.take i)).length ≤ 2097152 := fun i => by
    have h1 := outsB_bulk c (l.take i)
    have h2 := rowsB_take (l.map ouC) i
    rw [← List.map_take] at h2
    omega
  refine acalls_of Tryd.func14 rfl rfl rfl (.cons (.cons .nil)) ?_
  repeat' (first|(first|(refine al_alloc_t rfl rfl rfl (by first|exact ln0|exact ln2) (by repeat constructor) rfl ?_)|(refine k_call ?_;refine al_v (ov_len_c l.length rfl hlen) rfl ?_))|(refine k_al ?_;first|(refine al_v (ov_move rfl) rfl ?_)|(refine k_g ?_;first|(refine al_gy' rfl rfl (by with_reducible rfl) ?_)|(refine al_gnf rfl rfl (by with_reducible rfl) rfl ?_))|(refine al_v (ov_fieldAddr rfl rfl) rfl ?_)|(refine k_load ?_;first|(refine al_v (ov_load rfl rfl) rfl ?_)|(refine al_v (ov_load_agg rfl rfl rfl) rfl ?_))|(refine k_bin ?_;first|(refine al_v (ov_add rfl rfl (by (first|exact w64 (by omega) (by omega)|rfl))) rfl ?_))|(refine k_pick ?_;first|(refine al_v (ov_pick_t' rfl (by with_reducible rfl) rfl) rfl ?_)|(refine al_v (ov_pick_f' rfl (by with_reducible rfl) rfl) rfl ?_))|(refine al_v (ov_assign rfl) rfl ?_)|(refine al_v (ov_extract rfl rfl) rfl ?_)|(refine al_nil ?_)|(refine al_alloc rfl rfl rfl (by first|exact ln0|exact ln2) (by repeat constructor) rfl ?_)|(refine al_store rfl rfl rfl rfl rfl (by repeat constructor) (by repeat constructor) ?_))|(first|(refine thn_n ?_)|(refine k_awp ?_;first|(refine awp_seq (awp_region ?_))|(refine awp_seq ?_)|(refine awp_region ?_)|(refine k_cond ?_;first|(refine awp_cond_t' rfl (by with_reducible rfl) ?_)|(refine awp_cond_f' rfl (by with_reducible rfl) ?_))|(refine awp_block ?_)|(refine awp_ret ?_)|(refine awp_skip ?_)|(refine awp_exit ?_))|(refine thn_ret ?_)|(refine lq_exit ?_)|(refine lq_ret ?_)|(refine thn_exit ?_)|(refine inb_n ?_)|(refine inb_ret ?_)|(refine inb_here ?_)))
  refine awp_wkn (.adoptBox (id := 0) (k := 1) (e := 5) (sz := 1) rfl rfl (by decide) rfl rfl rfl) ?_
  refine awp_loopq (fun q : Nat × Bool × Nat × List UInt8 × AV => ⟨[(1, .int .i64 c), (4, .int .i64 0), (5, .bool q.2.1), (6, .op 0 0), (13, .rs (l.map ouC)), (14, .int .i64 l.length), (15, .int .i64 q.1)], [.box [q.2.2.2.2, .os 1 q.2.2.1] (some 54), .row 5 1 q.2.2.1 0 (bytesAV q.2.2.2.1)]⟩)
    (fun q => q.1 ≤ l.length ∧ q.2.1 = outsC c (l.take q.1) ∧ q.2.2.2.1 = outsB c (l.take q.1) ∧ (q.2.2.2.2 = .nilp ∨ q.2.2.2.2 = .op 0 0)) (fun q => l.length - q.1) (0, false, 0, [], .nilp) (.of (.same (by repeat constructor))) ⟨Nat.zero_le _, rfl, rfl, .inl rfl⟩ ?_
  rintro ⟨i, cl, ver, bs, p⟩ ⟨hi, hcl, hbs, hp⟩
  dsimp only at hi hcl hbs hp ⊢
  have hbi := hbl i
  by_cases hlt : i < l.length
  · obtain ⟨o, ho⟩ : ∃ o, l[i]? = some o := ⟨_, List.getElem?_eq_getElem hlt⟩
    have hrow : (l.map ouC)[((i : Nat) : Int).toNat]? = some [.int .i64 o.step, .int .i64 o.conn, .str o.bytes, .bool o.cl] := by
      have : ((i : Nat) : Int).toNat = i := rfl
      rw [this, List.getElem?_map, ho]
      rfl
    obtain ⟨hn1, hn2⟩ := outs_next (c := c) ho
    by_cases hc : o.conn = c
    · rw [if_pos hc] at hn1
      rw [decide_eq_true hc, Bool.true_and] at hn2
      have hbj := hbl (i + 1)
      rw [hn1, List.length_append] at hbj
      have hW := a_writeString (w0 := w0) (base := base) hp (bs := bs) (s := o.bytes) (ver := ver) (by rw [hbs]; omega)
      rcases hp with rfl | rfl
      all_goals
        cases cl
        all_goals
          repeat' (first|(first|(refine al_v (ov_indexAddr rfl rfl (by omega) hrow rfl) rfl ?_)|(refine k_call ?_;refine al_acall [0, 1] rfl rfl hW ?_ ?_ rfl rfl ?_;(focus ((repeat constructor);done));(focus ((repeat constructor);done));rintro _ _ ⟨rfl, rfl⟩;refine ⟨_, _, by repeat constructor, by repeat constructor, ?_⟩)|(refine k_bin ?_;first|(refine al_v (ov_cmp_t rfl rfl rfl (by omega)) rfl ?_)|(refine al_v (ov_cmp_f rfl rfl rfl (by omega)) rfl ?_)))|(refine k_al ?_;first|(refine al_v (ov_move rfl) rfl ?_)|(refine k_g ?_;first|(refine al_gy' rfl rfl (by with_reducible rfl) ?_)|(refine al_gnf rfl rfl (by with_reducible rfl) rfl ?_))|(refine al_v (ov_fieldAddr rfl rfl) rfl ?_)|(refine k_load ?_;first|(refine al_v (ov_load rfl rfl) rfl ?_)|(refine al_v (ov_load_agg rfl rfl rfl) rfl ?_))|(refine k_bin ?_;first|(refine al_v (ov_add rfl rfl (by (first|exact w64 (by omega) (by omega)|rfl))) rfl ?_))|(refine k_pick ?_;first|(refine al_v (ov_pick_t' rfl (by with_reducible rfl) rfl) rfl ?_)|(refine al_v (ov_pick_f' rfl (by with_reducible rfl) rfl) rfl ?_))|(refine al_v (ov_assign rfl) rfl ?_)|(refine al_v (ov_extract rfl rfl) rfl ?_)|(refine al_nil ?_)|(refine al_alloc rfl rfl rfl (by first|exact ln0|exact ln2) (by repeat constructor) rfl ?_)|(refine al_store rfl rfl rfl rfl rfl (by repeat constructor) (by repeat constructor) ?_))|(first|(refine thn_n ?_)|(refine k_awp ?_;first|(refine awp_seq (awp_region ?_))|(refine awp_seq ?_)|(refine awp_region ?_)|(refine k_cond ?_;first|(refine awp_cond_t' rfl (by with_reducible rfl) ?_)|(refine awp_cond_f' rfl (by with_reducible rfl) ?_))|(refine awp_block ?_)|(refine awp_ret ?_)|(refine awp_skip ?_)|(refine awp_exit ?_))|(refine thn_ret ?_)|(refine lq_exit ?_)|(refine lq_ret ?_)|(refine thn_exit ?_)|(refine inb_n ?_)|(refine inb_ret ?_)|(refine inb_here ?_)))
          refine lq_back (i + 1, _, ver + 1, bs ++ o.bytes, AV.op 0 0) (.of (wk_drop [_] rfl (by repeat constructor) rfl (by repeat constructor) rfl)) ?_ ?_
          · exact ⟨by dsimp only; omega, by dsimp only; rw [hn2, ← hcl]; rfl, by dsimp only; rw [hn1, hbs], .inr rfl⟩
          · dsimp only; omega
    · rw [if_neg hc, List.append_nil] at hn1
      rw [decide_eq_false hc, Bool.false_and, Bool.or_false] at hn2
      repeat' (first|(first|(refine al_v (ov_indexAddr rfl rfl (by omega) hrow rfl) rfl ?_)|(refine k_bin ?_;first|(refine al_v (ov_cmp_t rfl rfl rfl (by omega)) rfl ?_)|(refine al_v (ov_cmp_f rfl rfl rfl (by omega)) rfl ?_)))|(refine k_al ?_;first|(refine al_v (ov_move rfl) rfl ?_)|(refine k_g ?_;first|(refine al_gy' rfl rfl (by with_reducible rfl) ?_)|(refine al_gnf rfl rfl (by with_reducible rfl) rfl ?_))|(refine al_v (ov_fieldAddr rfl rfl) rfl ?_)|(refine k_load ?_;first|(refine al_v (ov_load rfl rfl) rfl ?_)|(refine al_v (ov_load_agg rfl rfl rfl) rfl ?_))|(refine k_bin ?_;first|(refine al_v (ov_add rfl rfl (by (first|exact w64 (by omega) (by omega)|rfl))) rfl ?_))|(refine k_pick ?_;first|(refine al_v (ov_pick_t' rfl (by with_reducible rfl) rfl) rfl ?_)|(refine al_v (ov_pick_f' rfl (by with_reducible rfl) rfl) rfl ?_))|(refine al_v (ov_assign rfl) rfl ?_)|(refine al_v (ov_extract rfl rfl) rfl ?_)|(refine al_nil ?_)|(refine al_alloc rfl rfl rfl (by first|exact ln0|exact ln2) (by repeat constructor) rfl ?_)|(refine al_store rfl rfl rfl rfl rfl (by repeat constructor) (by repeat constructor) ?_))|(first|(refine thn_n ?_)|(refine k_awp ?_;first|(refine awp_seq (awp_region ?_))|(refine awp_seq ?_)|(refine awp_region ?_)|(refine k_cond ?_;first|(refine awp_cond_t' rfl (by with_reducible rfl) ?_)|(refine awp_cond_f' rfl (by with_reducible rfl) ?_))|(refine awp_block ?_)|(refine awp_ret ?_)|(refine awp_skip ?_)|(refine awp_exit ?_))|(refine thn_ret ?_)|(refine lq_exit ?_)|(refine lq_ret ?_)|(refine thn_exit ?_)|(refine inb_n ?_)|(refine inb_ret ?_)|(refine inb_here ?_)))
      refine lq_back (i + 1, cl, ver, bs, p) (.of (wk_drop [_] rfl (by repeat constructor) rfl (by first | (rcases hp with rfl | rfl <;> (repeat constructor))) rfl)) ?_ ?_
      · exact ⟨by dsimp only; omega, by dsimp only; rw [hn2, hcl], by dsimp only; rw [hn1, hbs], hp⟩
      · dsimp only; omega
  · rw [List.take_of_length_le (by omega)] at hcl hbs hbi
    obtain ⟨B, hB⟩ : ∃ B, B = outsB c l := ⟨_, rfl⟩
    unfold CntR
    rw [← hB, ← hcl]
    rw [← hB] at hbs hbi
    subst hbs
    have hS := a_string (w0 := w0) (base := base) hp (l := bs) (ver := ver) (.inl rfl) (by omega)
    obtain ⟨T, hT⟩ : ∃ T, T = countP bs := ⟨_, rfl⟩
    rw [← hT]
    rcases hp with rfl | rfl
    all_goals
      repeat' (first|(first|(refine k_call ?_;refine al_acall [0, 1] rfl rfl hS (by repeat constructor) (by repeat (first|exact bld_rn ‹_›|constructor)) rfl rfl ?_;rintro _ _ ⟨rfl, o', rfl, hBl⟩;refine ⟨_, _, by repeat constructor, (by repeat (first|exact bld_rn ‹_›|constructor)), ?_⟩)|(refine k_bin ?_;first|(refine al_v (ov_cmp_t rfl rfl rfl (by omega)) rfl ?_)|(refine al_v (ov_cmp_f rfl rfl rfl (by omega)) rfl ?_)))|(refine k_al ?_;first|(refine al_v (ov_move rfl) rfl ?_)|(refine k_g ?_;first|(refine al_gy' rfl rfl (by with_reducible rfl) ?_)|(refine al_gnf rfl rfl (by with_reducible rfl) rfl ?_))|(refine al_v (ov_fieldAddr rfl rfl) rfl ?_)|(refine k_load ?_;first|(refine al_v (ov_load rfl rfl) rfl ?_)|(refine al_v (ov_load_agg rfl rfl rfl) rfl ?_))|(refine k_bin ?_;first|(refine al_v (ov_add rfl rfl (by (first|exact w64 (by omega) (by omega)|rfl))) rfl ?_))|(refine k_pick ?_;first|(refine al_v (ov_pick_t' rfl (by with_reducible rfl) rfl) rfl ?_)|(refine al_v (ov_pick_f' rfl (by with_reducible rfl) rfl) rfl ?_))|(refine al_v (ov_assign rfl) rfl ?_)|(refine al_v (ov_extract rfl rfl) rfl ?_)|(refine al_nil ?_)|(refine al_alloc rfl rfl rfl (by first|exact ln0|exact ln2) (by repeat constructor) rfl ?_)|(refine al_store rfl rfl rfl rfl rfl (by repeat constructor) (by repeat constructor) ?_))|(first|(refine thn_n ?_)|(refine k_awp ?_;first|(refine awp_seq (awp_region ?_))|(refine awp_seq ?_)|(refine awp_region ?_)|(refine k_cond ?_;first|(refine awp_cond_t' rfl (by with_reducible rfl) ?_)|(refine awp_cond_f' rfl (by with_reducible rfl) ?_))|(refine awp_block ?_)|(refine awp_ret ?_)|(refine awp_skip ?_)|(refine awp_exit ?_))|(refine thn_ret ?_)|(refine lq_exit ?_)|(refine lq_ret ?_)|(refine thn_exit ?_)|(refine inb_n ?_)|(refine inb_ret ?_)|(refine inb_here ?_)))
      refine awp_wkn (.pick (sl' := [(4, .int .i64 0), (5, .bool cl), (9, .str bs)]) [] .nil rfl rfl (by repeat constructor)) ?_
      refine awp_loopq (fun q : Nat × List UInt8 => ⟨[(4, .int .i64 q.1), (5, .bool cl), (9, .str q.2)], []⟩) (fun q => q.1 + q.2.length ≤ 2097152 ∧ ∃ f, q.2.length < f ∧ T = q.1 + countF f q.2) (fun q => q.2.length) (0, bs) (.of (.same (by repeat constructor))) ⟨by dsimp only; omega, bs.length + 1, Nat.lt_succ_self _, by rw [hT]; unfold countP; dsimp only; omega⟩ ?_
      rintro ⟨n, rest⟩ ⟨hn, f, hf, hTn⟩
      dsimp only at hn hf hTn ⊢
      obtain ⟨f, rfl⟩ : ∃ g, f = g + 1 := ⟨f - 1, by omega⟩
      rw [countF] at hTn
      have hP := s_parseY (w0 := w0) (base := base) (s := rest) hG (by omega)
      rcases prs_cases rest with ⟨h1, h2⟩ | ⟨r, h1, h2⟩
      · rw [h1] at hTn
        dsimp only at hTn
        rw [h2] at hP
        repeat' (first|(first|(refine k_call ?_;refine al_call rfl rfl rfl rfl hP ?_;rintro _ rfl)|(refine k_bin ?_;first|(refine al_v (ov_cmp_t rfl rfl rfl (by omega)) rfl ?_)|(refine al_v (ov_cmp_f rfl rfl rfl (by omega)) rfl ?_)))|(refine k_al ?_;first|(refine al_v (ov_move rfl) rfl ?_)|(refine k_g ?_;first|(refine al_gy' rfl rfl (by with_reducible rfl) ?_)|(refine al_gnf rfl rfl (by with_reducible rfl) rfl ?_))|(refine al_v (ov_fieldAddr rfl rfl) rfl ?_)|(refine k_load ?_;first|(refine al_v (ov_load rfl rfl) rfl ?_)|(refine al_v (ov_load_agg rfl rfl rfl) rfl ?_))|(refine k_bin ?_;first|(refine al_v (ov_add rfl rfl (by (first|exact w64 (by omega) (by omega)|rfl))) rfl ?_))|(refine k_pick ?_;first|(refine al_v (ov_pick_t' rfl (by with_reducible rfl) rfl) rfl ?_)|(refine al_v (ov_pick_f' rfl (by with_reducible rfl) rfl) rfl ?_))|(refine al_v (ov_assign rfl) rfl ?_)|(refine al_v (ov_extract rfl rfl) rfl ?_)|(refine al_nil ?_)|(refine al_alloc rfl rfl rfl (by first|exact ln0|exact ln2) (by repeat constructor) rfl ?_)|(refine al_store rfl rfl rfl rfl rfl (by repeat constructor) (by repeat constructor) ?_))|(first|(refine thn_n ?_)|(refine k_awp ?_;first|(refine awp_seq (awp_region ?_))|(refine awp_seq ?_)|(refine awp_region ?_)|(refine k_cond ?_;first|(refine awp_cond_t' rfl (by with_reducible rfl) ?_)|(refine awp_cond_f' rfl (by with_reducible rfl) ?_))|(refine awp_block ?_)|(refine awp_ret ?_)|(refine awp_skip ?_)|(refine awp_exit ?_))|(refine thn_ret ?_)|(refine lq_exit ?_)|(refine lq_ret ?_)|(refine thn_exit ?_)|(refine inb_n ?_)|(refine inb_ret ?_)|(refine inb_here ?_)))
        refine ret2 (by first | exact .inr rfl | exact .inl rfl) rfl rfl rfl ?_
        exact ⟨by rw [hTn]; rfl, rfl⟩
      · rw [h1] at hTn
        dsimp only at hTn
        rw [h2] at hP
        obtain ⟨g1, g2⟩ := parse_len h1
        repeat' (first|(first|(refine k_call ?_;refine al_call rfl rfl rfl rfl hP ?_;rintro _ rfl)|(refine k_bin ?_;first|(refine al_v (ov_cmp_t rfl rfl rfl (by omega)) rfl ?_)|(refine al_v (ov_cmp_f rfl rfl rfl (by omega)) rfl ?_))|(refine al_v (ov_slice_loT rfl rfl (by omega) (by omega) rfl) rfl ?_))|(refine k_al ?_;first|(refine al_v (ov_move rfl) rfl ?_)|(refine k_g ?_;first|(refine al_gy' rfl rfl (by with_reducible rfl) ?_)|(refine al_gnf rfl rfl (by with_reducible rfl) rfl ?_))|(refine al_v (ov_fieldAddr rfl rfl) rfl ?_)|(refine k_load ?_;first|(refine al_v (ov_load rfl rfl) rfl ?_)|(refine al_v (ov_load_agg rfl rfl rfl) rfl ?_))|(refine k_bin ?_;first|(refine al_v (ov_add rfl rfl (by (first|exact w64 (by omega) (by omega)|rfl))) rfl ?_))|(refine k_pick ?_;first|(refine al_v (ov_pick_t' rfl (by with_reducible rfl) rfl) rfl ?_)|(refine al_v (ov_pick_f' rfl (by with_reducible rfl) rfl) rfl ?_))|(refine al_v (ov_assign rfl) rfl ?_)|(refine al_v (ov_extract rfl rfl) rfl ?_)|(refine al_nil ?_)|(refine al_alloc rfl rfl rfl (by first|exact ln0|exact ln2) (by repeat constructor) rfl ?_)|(refine al_store rfl rfl rfl rfl rfl (by repeat constructor) (by repeat constructor) ?_))|(first|(refine thn_n ?_)|(refine k_awp ?_;first|(refine awp_seq (awp_region ?_))|(refine awp_seq ?_)|(refine awp_region ?_)|(refine k_cond ?_;first|(refine awp_cond_t' rfl (by with_reducible rfl) ?_)|(refine awp_cond_f' rfl (by with_reducible rfl) ?_))|(refine awp_block ?_)|(refine awp_ret ?_)|(refine awp_skip ?_)|(refine awp_exit ?_))|(refine thn_ret ?_)|(refine lq_exit ?_)|(refine lq_ret ?_)|(refine thn_exit ?_)|(refine inb_n ?_)|(refine inb_ret ?_)|(refine inb_here ?_)))
        refine lq_back (n + 1, rest.drop (printY r).length) (.of (wk_drop [_] rfl (by repeat constructor) rfl (by repeat constructor) rfl)) ?_ ?_
        · refine ⟨by dsimp only; rw [List.length_drop]; omega, f, by dsimp only; rw [List.length_drop]; omega, by rw [hTn]; dsimp only; omega⟩
        · dsimp only
          rw [List.length_drop]
          omega
end
end Go.Proofs.YtnjolbnbpfjdiaaDoor.L

namespace Go.Proofs.YtnjolbnbpfjdiaaDoor.L
open Go Go.RowKit Go.Proofs
set_option linter.unusedVariables false
set_option linter.unusedSimpArgs false
set_option maxRecDepth 100000
attribute [local irreducible] AL QL AWp Thn InB RetQ ACalls LoopQ HL HO HW HQ NoG JmpQ MidQ HF

theorem okr_ous : ∀ {rows : List (List AV)}, OKR [.int .i64, .int .i64, .str, .bool] rows → ∃ l : List Ou, rows = l.map ouC := by
  intro rows
  induction rows with
  | nil => intro _; exact ⟨[], rfl⟩
  | cons r rows ih =>
    intro h
    cases h with
    | cons h1 h2 =>
      obtain ⟨l, rfl⟩ := ih h2
      cases h1 with
      | cons h1 h3 => cases h3 with
        | cons h3 h4 => cases h4 with
          | cons h4 h5 => cases h5 with
            | cons h5 h6 =>
              cases h6
              cases h1 with
              | int _ a _ => cases h3 with
                | int _ b _ => cases h4 with
                  | str c _ => cases h5 with
                    | bool d => exact ⟨⟨a, b, c, d⟩ :: l, rfl⟩
section
variable {w0 : World} {base : Nat}
set_option maxHeartbeats 4000000 in
theorem s_countR {l : List Ou} {c : Int} (hG : Tabs w0 base) (hb : rowsB (l.map ouC) ≤ 2097152) : PCalls (EE w0 base) 15 [.rs (l.map ouC), .int .i64 c] (CntR l c) := by
  have hlen : (l.map ouC).length = l.length := List.length_map _
  have hll := ous_len l
  have hbl : ∀ i, (outsB c (l.take i)).length ≤ 2097152 := fun i => by
    have h1 := outsB_bulk c (l.take i)
    have h2 := rowsB_take (l.map ouC) i
    rw [← List.map_take] at h2
    omega
  refine acalls_of Tryd.func15 rfl rfl rfl (.cons (.cons .nil)) ?_
  repeat' (first|(refine k_al ?_;first|(refine al_v (ov_move rfl) rfl ?_)|(refine k_g ?_;first|(refine al_gy' rfl rfl (by with_reducible rfl) ?_)|(refine al_gnf rfl rfl (by with_reducible rfl) rfl ?_))|(refine al_v (ov_fieldAddr rfl rfl) rfl ?_)|(refine k_load ?_;first|(refine al_v (ov_load rfl rfl) rfl ?_))|(refine k_bin ?_;first|(refine al_v (ov_cat rfl rfl (by first|omega|(simp only [List.length_append, List.length_cons, List.length_nil];omega)|(simp;omega))) rfl ?_)|(refine al_v (ov_add rfl rfl (by (first|exact w64 (by omega) (by omega)|rfl))) rfl ?_))|(refine k_pick ?_;first|(refine al_v (ov_pick_t' rfl (by with_reducible rfl) rfl) rfl ?_)|(refine al_v (ov_pick_f' rfl (by with_reducible rfl) rfl) rfl ?_))|(refine al_v (ov_assign rfl) rfl ?_)|(refine al_v (ov_extract rfl rfl) rfl ?_)|(refine al_nil ?_)|(refine al_alloc rfl rfl rfl (by first|exact ln0) (by repeat constructor) rfl ?_)|(refine al_store rfl rfl rfl rfl rfl (by repeat constructor) (by repeat constructor) ?_))|(first|(refine thn_n ?_)|(refine k_awp ?_;first|(refine awp_seq (awp_region ?_))|(refine awp_seq ?_)|(refine awp_region ?_)|(refine k_cond ?_;first|(refine awp_cond_t' rfl (by with_reducible rfl) ?_)|(refine awp_cond_f' rfl (by with_reducible rfl) ?_))|(refine awp_block ?_)|(refine awp_ret ?_)|(refine awp_skip ?_)|(refine awp_exit ?_))|(refine thn_ret ?_)|(refine lq_exit ?_)|(refine lq_ret ?_)|(refine thn_exit ?_)|(refine inb_n ?_)|(refine inb_ret ?_)|(refine inb_here ?_)))
  refine awp_loopq (fun q : Nat × Bool × List UInt8 => ⟨[(0, .rs (l.map ouC)), (1, .int .i64 c), (6, .str q.2.2), (7, .bool q.2.1), (8, .int .i64 q.1)], []⟩)
    (fun q => q.1 ≤ l.length ∧ q.2.1 = outsC c (l.take q.1) ∧ q.2.2 = outsB c (l.take q.1)) (fun q => l.length - q.1) (0, false, []) (.of (.same (by repeat constructor))) ⟨Nat.zero_le _, rfl, rfl⟩ ?_
  rintro ⟨i, cl, bs⟩ ⟨hi, hcl, hbs⟩
  dsimp only at hi hcl hbs ⊢
  have hbi := hbl i
  by_cases hlt : i < l.length
  · obtain ⟨o, ho⟩ : ∃ o, l[i]? = some o := ⟨_, List.getElem?_eq_getElem hlt⟩
    have hrow : (l.map ouC)[((i : Nat) : Int).toNat]? = some [.int .i64 o.step, .int .i64 o.conn, .str o.bytes, .bool o.cl] := by
      have : ((i : Nat) : Int).toNat = i := rfl
      rw [this, List.getElem?_map, ho]
      rfl
    obtain ⟨hn1, hn2⟩ := outs_next (c := c) ho
    by_cases hc : o.conn = c
    · rw [if_pos hc] at hn1
      rw [decide_eq_true hc, Bool.true_and] at hn2
      have hbj := hbl (i + 1)
      rw [hn1, List.length_append, ← hbs] at hbj
      cases cl
      all_goals
        repeat' (first|(first|(refine k_call ?_;refine al_v (ov_len_c l.length rfl hlen) rfl ?_)|(refine al_v (ov_indexAddr rfl rfl (by omega) hrow rfl) rfl ?_)|(refine k_bin ?_;first|(refine al_v (ov_cmp_t rfl rfl rfl (by omega)) rfl ?_)|(refine al_v (ov_cmp_f rfl rfl rfl (by omega)) rfl ?_)))|(refine k_al ?_;first|(refine al_v (ov_move rfl) rfl ?_)|(refine k_g ?_;first|(refine al_gy' rfl rfl (by with_reducible rfl) ?_)|(refine al_gnf rfl rfl (by with_reducible rfl) rfl ?_))|(refine al_v (ov_fieldAddr rfl rfl) rfl ?_)|(refine k_load ?_;first|(refine al_v (ov_load rfl rfl) rfl ?_))|(refine k_bin ?_;first|(refine al_v (ov_cat rfl rfl (by first|omega|(simp only [List.length_append, List.length_cons, List.length_nil];omega)|(simp;omega))) rfl ?_)|(refine al_v (ov_add rfl rfl (by (first|exact w64 (by omega) (by omega)|rfl))) rfl ?_))|(refine k_pick ?_;first|(refine al_v (ov_pick_t' rfl (by with_reducible rfl) rfl) rfl ?_)|(refine al_v (ov_pick_f' rfl (by with_reducible rfl) rfl) rfl ?_))|(refine al_v (ov_assign rfl) rfl ?_)|(refine al_v (ov_extract rfl rfl) rfl ?_)|(refine al_nil ?_)|(refine al_alloc rfl rfl rfl (by first|exact ln0) (by repeat constructor) rfl ?_)|(refine al_store rfl rfl rfl rfl rfl (by repeat constructor) (by repeat constructor) ?_))|(first|(refine thn_n ?_)|(refine k_awp ?_;first|(refine awp_seq (awp_region ?_))|(refine awp_seq ?_)|(refine awp_region ?_)|(refine k_cond ?_;first|(refine awp_cond_t' rfl (by with_reducible rfl) ?_)|(refine awp_cond_f' rfl (by with_reducible rfl) ?_))|(refine awp_block ?_)|(refine awp_ret ?_)|(refine awp_skip ?_)|(refine awp_exit ?_))|(refine thn_ret ?_)|(refine lq_exit ?_)|(refine lq_ret ?_)|(refine thn_exit ?_)|(refine inb_n ?_)|(refine inb_ret ?_)|(refine inb_here ?_)))
        refine lq_back (i + 1, _, bs ++ o.bytes) (.of (.same (by repeat constructor))) ?_ ?_
        · exact ⟨by dsimp only; omega, by dsimp only; rw [hn2, ← hcl]; rfl, by dsimp only; rw [hn1, hbs]⟩
        · dsimp only; omega
    · rw [if_neg hc, List.append_nil] at hn1
      rw [decide_eq_false hc, Bool.false_and, Bool.or_false] at hn2
      repeat' (first|(first|(refine k_call ?_;refine al_v (ov_len_c l.length rfl hlen) rfl ?_)|(refine al_v (ov_indexAddr rfl rfl (by omega) hrow rfl) rfl ?_)|(refine k_bin ?_;first|(refine al_v (ov_cmp_t rfl rfl rfl (by omega)) rfl ?_)|(refine al_v (ov_cmp_f rfl rfl rfl (by omega)) rfl ?_)))|(refine k_al ?_;first|(refine al_v (ov_move rfl) rfl ?_)|(refine k_g ?_;first|(refine al_gy' rfl rfl (by with_reducible rfl) ?_)|(refine al_gnf rfl rfl (by with_reducible rfl) rfl ?_))|(refine al_v (ov_fieldAddr rfl rfl) rfl ?_)|(refine k_load ?_;first|(refine al_v (ov_load rfl rfl) rfl ?_))|(refine k_bin ?_;first|(refine al_v (ov_cat rfl rfl (by first|omega|(simp only [List.length_append, List.length_cons, List.length_nil];omega)|(simp;omega))) rfl ?_)|(refine al_v (ov_add rfl rfl (by (first|exact w64 (by omega) (by omega)|rfl))) rfl ?_))|(refine k_pick ?_;first|(refine al_v (ov_pick_t' rfl (by with_reducible rfl) rfl) rfl ?_)|(refine al_v (ov_pick_f' rfl (by with_reducible rfl) rfl) rfl ?_))|(refine al_v (ov_assign rfl) rfl ?_)|(refine al_v (ov_extract rfl rfl) rfl ?_)|(refine al_nil ?_)|(refine al_alloc rfl rfl rfl (by first|exact ln0) (by repeat constructor) rfl ?_)|(refine al_store rfl rfl rfl rfl rfl (by repeat constructor) (by repeat constructor) ?_))|(first|(refine thn_n ?_)|(refine k_awp ?_;first|(refine awp_seq (awp_region ?_))|(refine awp_seq ?_)|(refine awp_region ?_)|(refine k_cond ?_;first|(refine awp_cond_t' rfl (by with_reducible rfl) ?_)|(refine awp_cond_f' rfl (by with_reducible rfl) ?_))|(refine awp_block ?_)|(refine awp_ret ?_)|(refine awp_skip ?_)|(refine awp_exit ?_))|(refine thn_ret ?_)|(refine lq_exit ?_)|(refine lq_ret ?_)|(refine thn_exit ?_)|(refine inb_n ?_)|(refine inb_ret ?_)|(refine inb_here ?_)))
      refine lq_back (i + 1, cl, bs) (.of (.same (by repeat constructor))) ?_ ?_
      · exact ⟨by dsimp only; omega, by dsimp only; rw [hn2, hcl], by dsimp only; rw [hn1, hbs]⟩
      · dsimp only; omega
  · rw [List.take_of_length_le (by omega)] at hcl hbs hbi
    obtain ⟨B, hB⟩ : ∃ B, B = outsB c l := ⟨_, rfl⟩
    unfold CntR
    rw [← hB, ← hcl]
    rw [← hB] at hbs hbi
    subst hbs
    obtain ⟨T, hT⟩ : ∃ T, T = countP bs := ⟨_, rfl⟩
    rw [← hT]
    repeat' (first|(first|(refine k_call ?_;refine al_v (ov_len_c l.length rfl hlen) rfl ?_)|(refine k_bin ?_;first|(refine al_v (ov_cmp_t rfl rfl rfl (by omega)) rfl ?_)|(refine al_v (ov_cmp_f rfl rfl rfl (by omega)) rfl ?_)))|(refine k_al ?_;first|(refine al_v (ov_move rfl) rfl ?_)|(refine k_g ?_;first|(refine al_gy' rfl rfl (by with_reducible rfl) ?_)|(refine al_gnf rfl rfl (by with_reducible rfl) rfl ?_))|(refine al_v (ov_fieldAddr rfl rfl) rfl ?_)|(refine k_load ?_;first|(refine al_v (ov_load rfl rfl) rfl ?_))|(refine k_bin ?_;first|(refine al_v (ov_cat rfl rfl (by first|omega|(simp only [List.length_append, List.length_cons, List.length_nil];omega)|(simp;omega))) rfl ?_)|(refine al_v (ov_add rfl rfl (by (first|exact w64 (by omega) (by omega)|rfl))) rfl ?_))|(refine k_pick ?_;first|(refine al_v (ov_pick_t' rfl (by with_reducible rfl) rfl) rfl ?_)|(refine al_v (ov_pick_f' rfl (by with_reducible rfl) rfl) rfl ?_))|(refine al_v (ov_assign rfl) rfl ?_)|(refine al_v (ov_extract rfl rfl) rfl ?_)|(refine al_nil ?_)|(refine al_alloc rfl rfl rfl (by first|exact ln0) (by repeat constructor) rfl ?_)|(refine al_store rfl rfl rfl rfl rfl (by repeat constructor) (by repeat constructor) ?_))|(first|(refine thn_n ?_)|(refine k_awp ?_;first|(refine awp_seq (awp_region ?_))|(refine awp_seq ?_)|(refine awp_region ?_)|(refine k_cond ?_;first|(refine awp_cond_t' rfl (by with_reducible rfl) ?_)|(refine awp_cond_f' rfl (by with_reducible rfl) ?_))|(refine awp_block ?_)|(refine awp_ret ?_)|(refine awp_skip ?_)|(refine awp_exit ?_))|(refine thn_ret ?_)|(refine lq_exit ?_)|(refine lq_ret ?_)|(refine thn_exit ?_)|(refine inb_n ?_)|(refine inb_ret ?_)|(refine inb_here ?_)))
    refine awp_loopq (fun q : Nat × List UInt8 => ⟨[(6, .str q.2), (7, .bool cl), (9, .int .i64 q.1)], []⟩) (fun q => q.1 + q.2.length ≤ 2097152 ∧ ∃ f, q.2.length < f ∧ T = q.1 + countF f q.2) (fun q => q.2.length) (0, bs) (.of (.same (by repeat constructor))) ⟨by dsimp only; omega, bs.length + 1, Nat.lt_succ_self _, by rw [hT]; unfold countP; dsimp only; omega⟩ ?_
    rintro ⟨n, rest⟩ ⟨hn, f, hf, hTn⟩
    dsimp only at hn hf hTn ⊢
    obtain ⟨f, rfl⟩ : ∃ g, f = g + 1 := ⟨f - 1, by omega⟩
    rw [countF] at hTn
    have hP := s_parseR9 (w0 := w0) (base := base) (s := rest) hG (by omega)
    rcases prs_cases rest with ⟨h1, h2⟩ | ⟨r, h1, h2⟩
    · rw [h1] at hTn
      dsimp only at hTn
      rw [h2] at hP
      repeat' (first|(first|(refine k_call ?_;refine al_call rfl rfl rfl rfl hP ?_;rintro _ rfl)|(refine k_bin ?_;first|(refine al_v (ov_cmp_t rfl rfl rfl (by omega)) rfl ?_)|(refine al_v (ov_cmp_f rfl rfl rfl (by omega)) rfl ?_)))|(refine k_al ?_;first|(refine al_v (ov_move rfl) rfl ?_)|(refine k_g ?_;first|(refine al_gy' rfl rfl (by with_reducible rfl) ?_)|(refine al_gnf rfl rfl (by with_reducible rfl) rfl ?_))|(refine al_v (ov_fieldAddr rfl rfl) rfl ?_)|(refine k_load ?_;first|(refine al_v (ov_load rfl rfl) rfl ?_))|(refine k_bin ?_;first|(refine al_v (ov_cat rfl rfl (by first|omega|(simp only [List.length_append, List.length_cons, List.length_nil];omega)|(simp;omega))) rfl ?_)|(refine al_v (ov_add rfl rfl (by (first|exact w64 (by omega) (by omega)|rfl))) rfl ?_))|(refine k_pick ?_;first|(refine al_v (ov_pick_t' rfl (by with_reducible rfl) rfl) rfl ?_)|(refine al_v (ov_pick_f' rfl (by with_reducible rfl) rfl) rfl ?_))|(refine al_v (ov_assign rfl) rfl ?_)|(refine al_v (ov_extract rfl rfl) rfl ?_)|(refine al_nil ?_)|(refine al_alloc rfl rfl rfl (by first|exact ln0) (by repeat constructor) rfl ?_)|(refine al_store rfl rfl rfl rfl rfl (by repeat constructor) (by repeat constructor) ?_))|(first|(refine thn_n ?_)|(refine k_awp ?_;first|(refine awp_seq (awp_region ?_))|(refine awp_seq ?_)|(refine awp_region ?_)|(refine k_cond ?_;first|(refine awp_cond_t' rfl (by with_reducible rfl) ?_)|(refine awp_cond_f' rfl (by with_reducible rfl) ?_))|(refine awp_block ?_)|(refine awp_ret ?_)|(refine awp_skip ?_)|(refine awp_exit ?_))|(refine thn_ret ?_)|(refine lq_exit ?_)|(refine lq_ret ?_)|(refine thn_exit ?_)|(refine inb_n ?_)|(refine inb_ret ?_)|(refine inb_here ?_)))
      refine ret2 (by first | exact .inr rfl | exact .inl rfl) rfl rfl rfl ?_
      exact ⟨by rw [hTn]; rfl, rfl⟩
    · rw [h1] at hTn
      dsimp only at hTn
      rw [h2] at hP
      obtain ⟨g1, g2⟩ := parse_len h1
      repeat' (first|(first|(refine k_call ?_;refine al_call rfl rfl rfl rfl hP ?_;rintro _ rfl)|(refine k_bin ?_;first|(refine al_v (ov_cmp_t rfl rfl rfl (by omega)) rfl ?_)|(refine al_v (ov_cmp_f rfl rfl rfl (by omega)) rfl ?_))|(refine al_v (ov_slice_loT rfl rfl (by omega) (by omega) rfl) rfl ?_))|(refine k_al ?_;first|(refine al_v (ov_move rfl) rfl ?_)|(refine k_g ?_;first|(refine al_gy' rfl rfl (by with_reducible rfl) ?_)|(refine al_gnf rfl rfl (by with_reducible rfl) rfl ?_))|(refine al_v (ov_fieldAddr rfl rfl) rfl ?_)|(refine k_load ?_;first|(refine al_v (ov_load rfl rfl) rfl ?_))|(refine k_bin ?_;first|(refine al_v (ov_cat rfl rfl (by first|omega|(simp only [List.length_append, List.length_cons, List.length_nil];omega)|(simp;omega))) rfl ?_)|(refine al_v (ov_add rfl rfl (by (first|exact w64 (by omega) (by omega)|rfl))) rfl ?_))|(refine k_pick ?_;first|(refine al_v (ov_pick_t' rfl (by with_reducible rfl) rfl) rfl ?_)|(refine al_v (ov_pick_f' rfl (by with_reducible rfl) rfl) rfl ?_))|(refine al_v (ov_assign rfl) rfl ?_)|(refine al_v (ov_extract rfl rfl) rfl ?_)|(refine al_nil ?_)|(refine al_alloc rfl rfl rfl (by first|exact ln0) (by repeat constructor) rfl ?_)|(refine al_store rfl rfl rfl rfl rfl (by repeat constructor) (by repeat constructor) ?_))|(first|(refine thn_n ?_)|(refine k_awp ?_;first|(refine awp_seq (awp_region ?_))|(refine awp_seq ?_)|(refine awp_region ?_)|(refine k_cond ?_;first|(refine awp_cond_t' rfl (by with_reducible rfl) ?_)|(refine awp_cond_f' rfl (by with_reducible rfl) ?_))|(refine awp_block ?_)|(refine awp_ret ?_)|(refine awp_skip ?_)|(refine awp_exit ?_))|(refine thn_ret ?_)|(refine lq_exit ?_)|(refine lq_ret ?_)|(refine thn_exit ?_)|(refine inb_n ?_)|(refine inb_ret ?_)|(refine inb_here ?_)))
      refine lq_back (n + 1, rest.drop (printY r).length) (.of (wk_drop [_] rfl (by repeat constructor) rfl (by repeat constructor) rfl)) ?_ ?_
      · refine ⟨by dsimp only; rw [List.length_drop]; omega, f, by dsimp only; rw [List.length_drop]; omega, by rw [hTn]; dsimp only; omega⟩
      · dsimp only
        rw [List.length_drop]
        omega
theorem s_lawCounts {l : List Ou} {c : Int} (hG : Tabs w0 base) (hb : rowsB (l.map ouC) ≤ 2097152) : PCalls (EE w0 base) 4 [.rs (l.map ouC), .int .i64 c] fun rv => rv = .bool true := by
  have h1 := s_count (w0 := w0) (base := base) (l := l) (c := c) hG hb
  have h2 := s_countR (w0 := w0) (base := base) (l := l) (c := c) hG hb
  unfold CntR at h1 h2
  refine acalls_of Tryd.func4 rfl rfl rfl (.cons (.cons .nil)) ?_
  repeat' (first|(first|(refine k_call ?_;refine al_call rfl rfl rfl rfl h1 ?_;rintro _ rfl)|(refine k_call ?_;refine al_call rfl rfl rfl rfl h2 ?_;rintro _ rfl)|(refine k_call ?_;refine al_call rfl rfl rfl rfl s_awake21 ?_;rintro _ rfl)|(refine k_bin ?_;first|(refine al_v (ov_cmp_t rfl rfl rfl rfl) rfl ?_)|(refine al_v (ov_beq_t rfl rfl rfl) rfl ?_)))|(refine k_al ?_;first|(refine al_v (ov_move rfl) rfl ?_)|(refine k_g ?_;first|(refine al_gy' rfl rfl (by with_reducible rfl) ?_))|(refine k_pick ?_;first|(refine al_v (ov_pick_t' rfl (by with_reducible rfl) rfl) rfl ?_))|(refine al_v (ov_assign rfl) rfl ?_)|(refine al_v (ov_extract rfl rfl) rfl ?_)|(refine al_nil ?_))|(first|(refine thn_n ?_)|(refine k_awp ?_;first|(refine awp_seq (awp_region ?_))|(refine awp_seq ?_)|(refine awp_region ?_)|(refine awp_ret ?_))))
  refine ret1 (by first | exact .inr rfl | exact .inl rfl) rfl rfl ?_
  exact ⟨rfl, rfl⟩
end
end Go.Proofs.YtnjolbnbpfjdiaaDoor.L
