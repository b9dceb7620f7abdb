/- Layer 20 (audit): the library's Clone, Sort, Compact of whole numbers, in the logic's words; set.Of. -/
import Derived.Test.YtibmabidjacjlaaAa
import Derived.Test.YtibmabidjacjlaaLw
import Derived.Test.YtibmabidjacjlaaShelf
import Derived.Sort.OwnSortedInts
import Derived.Lib.OwnBridge
namespace Go.Proofs.Ytibmabidjacjlaa.L
open Go Go.RowKit Go.Proofs Go.Sort
set_option linter.unusedVariables false
set_option linter.unusedSimpArgs false
set_option maxRecDepth 100000

section
variable {w0 : World} {base : Nat}
theorem ints_get {zs : List Int} {i : Nat} {row : List AV} (h : (ints zs)[i]? = some row) : ∃ z, zs[i]? = some z ∧ row = [.int .i64 z] := by
  rw [List.getElem?_map] at h
  obtain ⟨z, h1, h2⟩ := Option.map_eq_some_iff.1 h
  exact ⟨z, h1, h2.symm⟩
theorem ints_cells {w : World} {I : Imm} {zs : List Int} {v : Value} (h : VP w I (.rs (ints zs)) v) (hne : zs ≠ []) : ∃ b off c, zs.length ≤ c ∧ v = .slice (some ⟨b, off, none⟩) zs.length c ∧ ∀ j, j < zs.length → w.cell? ⟨b, off + j, none⟩ = some (.int .i64 (zs.getD j 0)) := by
  obtain ⟨sz, b, off, c, us, h0, hc, hm, hv, hs, hu, hx⟩ := h.rs_cells (by simpa using hne)
  have hlen : (ints zs).length = zs.length := List.length_map _
  obtain ⟨z0, hz0⟩ : ∃ z, zs[0]? = some z := ⟨_, List.getElem?_eq_getElem (List.length_pos_iff.2 hne)⟩
  have h1 : sz = 1 := by
    have := hs 0 [.int .i64 z0] (by simp [hz0])
    simpa using this.symm
  subst h1
  refine ⟨b, off, c, by omega, by rw [hv, hlen], fun j hj => ?_⟩
  have hzj : zs[j]? = some zs[j] := List.getElem?_eq_getElem hj
  rw [(hu j (by omega)).1]
  have := hx j 0 [.int .i64 zs[j]] (.int .i64 zs[j]) (by simp [hj]) rfl
  rw [Nat.mul_one, Nat.add_zero] at this
  generalize us j = u at this
  cases this
  rw [List.getD_eq_getElem?_getD, hzj]
  rfl
theorem rowRel_ints {w : World} {I : Imm} {zs : List Int} : RowRel w I 1 (ints zs) (zs.map (Value.int .i64)) := by
  refine ⟨by simp, fun i c hc => ?_⟩
  obtain ⟨z, h1, rfl⟩ := ints_get hc
  refine ⟨rfl, fun j x hj => ?_⟩
  cases j with
  | zero =>
    simp at hj
    subst hj
    exact ⟨.int .i64 z, by simp [h1], .int .i64 z⟩
  | succ j => simp at hj
theorem ints_rowRel {w : World} {I : Imm} {zs : List Int} {inner : List Value} (h : RowRel w I 1 (ints zs) inner) : inner = zs.map (Value.int .i64) := by
  refine List.ext_getElem? fun i => ?_
  rw [List.getElem?_map]
  rcases Nat.lt_or_ge i zs.length with hi | hi
  · obtain ⟨u, h1, h2⟩ := (h.2 i [.int .i64 zs[i]] (by simp [hi])).2 0 _ rfl
    rw [Nat.mul_one, Nat.add_zero] at h1
    rw [h1, List.getElem?_eq_getElem hi]
    cases h2
    rfl
  · rw [List.getElem?_eq_none (by rw [h.1]; simpa using hi), List.getElem?_eq_none hi]
    rfl

theorem a_clone {zs : List Int} (hne : zs ≠ []) (hbig : zs.length * 8 ≤ 140737488355328) : ACalls (EE w0 base) 44 [.rs (ints zs)] [] fun rv os => rv = .os 0 0 ∧ os = [.row 3 1 0 0 (ints zs)] := by
  intro I ν w vs hh hl hv
  match vs, hl with
  | [v], _ =>
  obtain ⟨b, off, c, hc, rfl, hcell⟩ := ints_cells (hv 0 _ v rfl rfl).rs_inv hne
  refine (Try.slices_Clone_int b off zs.length c zs w (Nat.le_refl _) hbig hcell).mono ?_
  rintro e w' ⟨v', rfl, hown, _, hb⟩
  rw [List.take_length] at hown
  have hown' : w'.ownsRow base 3 1 v' zs.length (zs.map (Value.int .i64)) := by
    refine ⟨hown.1, hown.2.imp id ?_⟩
    rintro ⟨g, cap, cur, h1, h2, h3⟩
    exact ⟨g, cap, cur, h1, Nat.le_trans hh.base h2, h3⟩
  obtain ⟨ν', p1, p2, p3, p4⟩ := row_push (E := EE w0 base) hh (by decide : 0 < 1) (xs := ints zs) (List.length_map _) hown' rowRel_ints (hh.below.trans (hb.mono hh.base)) hb.size (fun k hk => hb.block k hk) (fun b hb' => (hown.lt b hb').1)
  exact ⟨_, _, I, ν', v', ⟨rfl, rfl⟩, rfl, p4, p1, p2⟩

theorem os_row {I : Imm} {ν : Nu} {w : World} {E : Env} {ver fz : Nat} {zs : List Int} (hh : HR E I ν [.row 3 1 ver fz (ints zs)] w) (hne : zs ≠ []) {v : Value} (hv : VR w I ν (.os 0 ver) v) :
    ∃ g cap, v = .slice (some ⟨g, 0, none⟩) zs.length cap ∧ ν.val 0 ver = v ∧ E.base ≤ g ∧ g < w.heap.size ∧ zs.length ≤ cap ∧ w.ownsRow E.base 3 1 v zs.length (zs.map (Value.int .i64)) ∧ Holds (Value.int .i64) w g 0 zs.toArray ∧ (∀ b o, ν.val 0 ver = v → v.ownBlock = some b → I b o → o < fz * 1) := by
  cases hv with
  | pure h => cases h
  | os _ _ A n c hi hver hs =>
  cases hh.obj 0 _ rfl with
  | row _ _ _ _ _ inner ht h0 ho hr hf hI =>
  have hin := ints_rowRel hr
  subst hin
  rw [hs] at ho hI
  rw [List.length_map] at ho
  have hnn : Value.slice A n c ≠ .slice none 0 0 := fun e => by
    rcases ho.2 with ⟨_, h2⟩ | ⟨g, cap, cur, h1, _⟩
    · exact hne (List.eq_nil_of_length_eq_zero h2)
    · rw [h1] at e; cases e
  obtain ⟨g, cap, h1, h2, h3, h4, _, _, h5⟩ := Lib.holds_of_ownsRow ho hnn
  rw [h1] at ho hI ⊢
  exact ⟨g, cap, rfl, hs.trans h1, h2, h3, h4, ho, h5, fun b o _ hb hi => hI b o hb hi⟩

theorem a_sort {ver : Nat} {zs : List Int} (hne : zs ≠ []) (hbig : zs.length < 4611686018427387904) : ACalls (EE w0 base) 47 [.os 0 ver] [.row 3 1 ver 0 (ints zs)]
    fun rv os => rv = .tup [] ∧ os = [.row 3 1 ver 0 (ints (zs.mergeSort fun x y => decide (x ≤ y)))] := by
  intro I ν w vs hh hl hv
  match vs, hl with
  | [v], _ =>
  obtain ⟨g, cap, rfl, hval, hb, hg, hcap, ho, hH, hI⟩ := os_row hh hne (hv 0 _ v rfl rfl)
  refine (Try.slices_Sort_int g 0 cap zs w hH hg hbig).mono ?_
  rintro e w' ⟨rfl, n, ws, rfl⟩
  obtain ⟨s, hs⟩ : ∃ s, s = zs.mergeSort fun x y => decide (x ≤ y) := ⟨_, rfl⟩
  have hsl : s.length = zs.length := by rw [hs]; exact List.length_mergeSort zs
  rw [← hs]
  have hgr := grownBy_sortedI (w := w) (g := g) (n := n) (os := ws) s.toArray
  rcases ho.2 with ⟨e1, _⟩ | ⟨g', cap', cur, e1, h2, h3, h4, h5, h6, _⟩
  · cases e1
  cases e1
  have hown := ownsRow_sortedI (n := n) (os := ws) hsl hb h3 h4 h5 h6
  have hIm : ImmLe w I (grow (putRow (Value.int .i64) (Sort.ahead w n) g 0 s.toArray) ws) I := ImmLe.heap hh fun k hk ⟨o, hko⟩ => hgr.block k hk fun e => by
    have := hI k o hval (by rw [e]; rfl) hko
    omega
  have := row_set (E := EE w0 base) hh (id := 0) (xs' := ints s) rfl (by simp [hsl]) (inner' := s.map (Value.int .i64)) (by rw [hval, List.length_map, hsl]; exact hown) rowRel_ints (hh.below.grown hgr hh.base (fun k hk => by cases hk; exact hb)) hgr.size (fun k hk hne' => hgr.block k hk (fun e => hne' (by rw [hval, e]; rfl))) hIm
  exact ⟨.tup [], _, I, ν, _, ⟨rfl, rfl⟩, rfl, .tup [] [] rfl (fun j x v h => by simp at h), this.1, this.2.same (fun id _ h => by cases id <;> simp at h)⟩

theorem a_compact {ver : Nat} {zs : List Int} (hne : zs ≠ []) (hbig : zs.length ≤ 9223372036854775807) : ACalls (EE w0 base) 48 [.os 0 ver] [.row 3 1 ver 0 (ints zs)]
    fun rv os => rv = .rs (ints (Lib.compact zs)) ∧ os = [.gone] := by
  intro I ν w vs hh hl hv
  match vs, hl with
  | [v], _ =>
  obtain ⟨g, cap, rfl, hval, hb, hg, hcap, ho, hH, hI⟩ := os_row hh hne (hv 0 _ v rfl rfl)
  refine (Try.slices_Compact_int g 0 cap zs w hH hbig hcap).mono ?_
  rintro e w' ⟨rfl, q, rfl⟩
  have hle := Lib.compact_length_le zs
  have hc := Lib.ownsRow_putRow (q := q) (k := (Lib.compact zs).length) (ys := Lib.compact zs ++ List.replicate (zs.length - (Lib.compact zs).length) 0) ho (by simp; omega) (by omega)
  rw [List.take_left] at hc
  obtain ⟨w', hw'⟩ : ∃ w', w' = putRow (Value.int .i64) (Sort.ahead w q) g 0 (Lib.compact zs ++ List.replicate (zs.length - (Lib.compact zs).length) 0).toArray := ⟨_, rfl⟩
  have hgr : w.grownBy w' (some g) := by
    rw [hw']
    refine ⟨rfl, rfl, rfl, by simp [putRow, mapBlock, Sort.ahead], fun k hk hne => ?_⟩
    have : g ≠ k := fun e => hne (by rw [e])
    simp [putRow, mapBlock, Sort.ahead, Array.getElem?_modify, this]
  rw [← hw'] at hc ⊢
  have hno : ∀ o, ¬ I g o := fun o h => by
    have := hI g o hval rfl h
    omega
  obtain ⟨I', hI'⟩ : ∃ I' : Imm, I' = fun b o => I b o ∨ (b = g ∧ o < (Lib.compact zs).length) := ⟨_, rfl⟩
  have hcell : ∀ o, o < (Lib.compact zs).length → w'.cell? ⟨g, o, none⟩ = some (.int .i64 ((Lib.compact zs).getD o 0)) := fun o ho' => by
    have := hc.cells (g := g) rfl o (.int .i64 ((Lib.compact zs).getD o 0)) (by simp [List.getElem?_map, ho'])
    rw [add_none] at this
    simpa using this
  have hIm : ImmLe w I w' I' := ⟨fun b o h => by rw [hI']; exact .inl h, fun b o h => by
    obtain ⟨u, hu⟩ := hh.imm b o h
    have hlt := World.block_lt_of_cell? w _ hu
    exact World.cell?_of_block (w := w) (a := ⟨b, o, none⟩) (hgr.block b hlt fun e => by cases e; exact hno o h)⟩
  have hFB : FB ν [.row 3 1 ver 0 (ints zs)] g := ⟨0, _, rfl, by simp only [OB, hval]; rfl⟩
  refine ⟨.rs (ints (Lib.compact zs)), [.gone], I', ν, _, ⟨rfl, rfl⟩, rfl, ?_, ⟨hh.n, hh.below.grown hgr hh.base (fun k hk => by cases hk; exact hb), Nat.le_trans hh.base hgr.size, fun b o h => ?_, fun id o h => ?_, fun id id' o o' b h1 h2 h3 => ?_⟩,
    ⟨hIm, hgr.size, fun b o h => ?_, fun b hb hnf => hgr.block b hb (fun e => by cases e; exact hnf hFB), fun b ⟨id, o, h1, h2⟩ => ?_, (Nu.le.refl ν).ag _, fun id hk h => ?_⟩⟩
  · refine .pure ?_
    rcases hc.2 with ⟨e1, _⟩ | ⟨g', cap', cur, e1, _, _, h4, h5, _⟩
    · cases e1
    cases e1
    have hlen : (ints (Lib.compact zs)).length = (Lib.compact zs).length := List.length_map _
    rw [← hlen]
    refine .rs _ 1 g 0 cap (fun j => .int .i64 ((Lib.compact zs).getD j 0)) (by decide) (by omega) h5 (fun i row hr => ?_) (fun j hj => ?_) (fun i j row x hr hj => ?_)
    · obtain ⟨z, _, rfl⟩ := ints_get hr
      rfl
    · rw [Nat.zero_add, hI']
      exact ⟨hcell j (by omega), .inr ⟨rfl, by omega⟩⟩
    · obtain ⟨z, hz, rfl⟩ := ints_get hr
      cases j with
      | zero =>
        simp at hj
        subst hj
        rw [Nat.mul_one, Nat.add_zero, List.getD_eq_getElem?_getD, hz]
        exact .int .i64 z
      | succ j => simp at hj
  · rw [hI'] at h
    rcases h with h | ⟨rfl, h⟩
    · obtain ⟨u, hu⟩ := hh.imm b o h
      exact ⟨u, (hIm.2 b o h).trans hu⟩
    · exact ⟨_, hcell o h⟩
  · cases id with
    | zero => simp at h; subst h; exact .gone
    | succ id => simp at h
  · cases id with
    | zero => simp at h1; subst h1; simp [OB] at h3
    | succ id => simp at h1
  · rw [hI'] at h
    rcases h with h | ⟨rfl, _⟩
    · exact .inl h
    · exact .inr (.inl hFB)
  · cases id with
    | zero => simp at h1; subst h1; simp [OB] at h2
    | succ id => simp at h1
  · cases id with
    | zero => simp at h
    | succ id => simp at h
end
end Go.Proofs.Ytibmabidjacjlaa.L
