/- The logic, part 23: contracts that were proved elsewhere, in the logic's words. -/
import Derived.Test.YtibmabidjacjlaaLv
namespace Go.Proofs.Ytibmabidjacjlaa.L
open Go Go.RowKit
set_option linter.unusedVariables false
set_option linter.unusedSimpArgs false

/-- What never changes behind a call: what did not before it, and the blocks that it has made. -/
def immNew (w w' : World) (I : Imm) : Imm := fun b o => I b o ∨ (w.heap.size ≤ b ∧ ∃ v, w'.cell? ⟨b, o, none⟩ = some v)
theorem immLe_below {E : Env} {I : Imm} {ν : Nu} {H : List AO} {w w' : World} (hh : HR E I ν H w) (hb : Below w.heap.size w w') : ImmLe w I w' (immNew w w' I) :=
  ⟨fun b o h => .inl h, fun b o h => (hh.later hb).2.2.2 b o h⟩

/-- A call that changes nothing and hands back something that never changes. -/
theorem pcalls_real {E : Env} {f : Nat} {args : List AV} {R : AV → Prop} (h : ∀ I ν w (vs : List Value), HR E I ν [] w → args.length = vs.length → (∀ (j : Nat) x v, args[j]? = some x → vs[j]? = some v → VR w I ν x v) →
      Calls E.P f vs.toArray w fun e w' => ∃ rv v, R rv ∧ clB 0 rv = true ∧ e = .returned v ∧ Below w.heap.size w w' ∧ VR w' (immNew w w' I) ν rv v) : PCalls E f args R := by
  intro I ν w vs hh hl hv
  refine (h I ν w vs hh hl hv).mono ?_
  rintro e w' ⟨rv, v, hR, hc, rfl, hb, hvr⟩
  have hI := immLe_below hh hb
  refine ⟨rv, [], immNew w w' I, ν, v, ⟨hR, hc⟩, rfl, hvr, ⟨hh.n, hh.below.trans (hb.mono hh.base), Nat.le_trans hh.base hb.size, fun b o hi => ?_, fun id o h => by simp at h, fun id id' o o' b h => by simp at h⟩,
    ⟨hI, hb.size, fun b o hi => ?_, fun b hk _ => hb.block b hk, fun b ⟨id, o, h, _⟩ => by simp at h, fun id hk _ => by simp at hk, fun id hk _ => by simp at hk⟩⟩
  · rcases hi with hi | ⟨_, hi⟩
    · obtain ⟨u, hu⟩ := hh.imm b o hi
      exact ⟨u, (hI.2 b o hi).trans hu⟩
    · exact hi
  · rcases hi with hi | ⟨hi, _⟩
    · exact .inl hi
    · exact .inr (.inr hi)

/-- A call of which nothing but its plain answer is left. -/
theorem pcalls_plain {E : Env} {f : Nat} {args : List AV} {c : AV} (hc : clB 0 c = true) (h : ∀ I ν w (vs : List Value), HR E I ν [] w → args.length = vs.length → (∀ (j : Nat) x v, args[j]? = some x → vs[j]? = some v → VR w I ν x v) →
      ∃ u, (∀ w I, VR w I ν c u) ∧ Calls E.P f vs.toArray w fun e w' => e = .returned u ∧ Below w.heap.size w w') : PCalls E f args fun rv => rv = c := by
  refine pcalls_real fun I ν w vs hh hl hv => ?_
  obtain ⟨u, h1, h2⟩ := h I ν w vs hh hl hv
  exact h2.mono fun e w' ⟨he, hb⟩ => ⟨c, u, rfl, hc, he, hb, h1 _ _⟩

/-- What a frame says of no object's own versions it says of all of them, where they haven't turned. -/
theorem FR.same {k k' : Nat} {w w' : World} {I I' : Imm} {ν : Nu} {objs objs' : List AO} (h : FR k w I ν objs w' I' ν objs') (hg : ∀ id, id < k' → objs[id]? = some .gone → objs'[id]? = some .gone) : FR k' w I ν objs w' I' ν objs' :=
  ⟨h.imm, h.size, h.new, h.keep, h.foot, (Nu.le.refl ν).ag _, fun id hk h1 => ⟨rfl, hg id hk h1⟩⟩

/-- Rows of one cell each. -/
def row1 (enc : AV) : List AV := [enc]
theorem VP.rs_cells {w : World} {I : Imm} {xs : List (List AV)} {v : Value} (h : VP w I (.rs xs) v) (hne : xs ≠ []) : ∃ (sz b off c : Nat) (us : Nat → Value), 0 < sz ∧ xs.length ≤ c ∧ c ≤ maxLen ∧ v = .slice (some ⟨b, off, none⟩) xs.length c ∧ (∀ (i : Nat) row, xs[i]? = some row → row.length = sz) ∧
    (∀ j, j < xs.length * sz → w.cell? ⟨b, off + j, none⟩ = some (us j) ∧ I b (off + j)) ∧ ∀ (i j : Nat) row x, xs[i]? = some row → row[j]? = some x → VP w I x (us (i * sz + j)) := by
  cases h with
  | rs0 A c => exact absurd rfl hne
  | rs _ sz b off c us h0 hc hm hs hu hx => exact ⟨sz, b, off, c, us, h0, hc, hm, rfl, hs, hu, hx⟩
end Go.Proofs.Ytibmabidjacjlaa.L
