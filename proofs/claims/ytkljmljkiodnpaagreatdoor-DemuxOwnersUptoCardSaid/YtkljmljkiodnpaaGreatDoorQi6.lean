/- Part 6 of the texts behind the theorem of this claim: Layer 18 (demux): Counts, Shut, New; Layer 18 (demux): Answer, Arrive, New; Layer 18 (demux): Arrive, New; Layer 18 (demux): what is done with a request; Layer 18 (demux): Pick; Layer 18 (demux): acts side by side; connections that nobody made; Layer 18 (demux): what must come; the law DemuxNobody;  -/
import Derived.Test.YtkljmljkiodnpaaGreatDoorQi5
import Derived.Test.YtkljmljkiodnpaaGreatDoorQi2
import Derived.WalkKit
import Derived.ProofKit
import Derived.OpenShut
import Derived.SizedLaws
import Derived.HandedShaped
import Derived.Shelf.Vars
import Derived.LaidMore
import Derived.LaidSub
import Derived.Lay
import Derived.Stop.Joined
import Derived.Stop.LaidErr
import Derived.Deep.DeepHandedRow
import Derived.Lib.LaidTab
import Derived.Lib.ItoaLen
import Derived.Test.YtkljmljkiodnpaaGreatDoorQi4
import Derived.Lib.Space
set_option linter.unusedVariables false
set_option linter.unusedSimpArgs false
set_option maxRecDepth 100000
namespace Go.Proofs.YtkljmljkiodnpaaGreatDoor.L
open Go Go.RowKit Go.Proofs
attribute [local irreducible] AL QL AWp Thn InB RetQ ACalls LoopQ HL HO HW HQ NoG JmpQ MidQ HF

theorem b0t {α : Type} [DecidableEq α] : ∀ {a b : List α}, a.Nodup → (∀ x ∈ a, x ∈ b) → a.length ≤ b.length := by
  intro a
  induction a with
  | nil => intro b _ _; exact Nat.zero_le _
  | cons x a ih =>
    intro b h1 h2
    rw [List.nodup_cons] at h1
    have hx := h2 x List.mem_cons_self
    have h3 := ih (b := b.erase x) h1.2 fun y hy => (List.mem_erase_of_ne (fun e => h1.1 (by rw [← e]; exact hy))).2 (h2 y (List.mem_cons_of_mem _ hy))
    have h4 := List.length_erase_of_mem hx
    have h5 := List.length_pos_of_mem hx
    rw [List.length_cons]
    omega
def cntS (P : Cn → Bool) (l : List En) (seen : List Nat) : Nat := (seen.filter fun i => (l[i]?).any fun e => P e.c).length
theorem b2i {P : Cn → Bool} {l : List En} {seen : List Nat} {i : Nat} {e : En} (h : l[i]? = some e) : cntS P l (seen ++ [i]) = cntS P l seen + (if P e.c = true then 1 else 0) := by
  unfold cntS
  rw [List.filter_append, List.length_append]
  congr 1
  rw [List.filter_cons, h, List.filter_nil]
  show (if (P e.c) = true then [i] else []).length = _
  split <;> rfl
theorem b6f (P : Cn → Bool) (l : List En) : ∀ n, n ≤ l.length → ((List.range n).filter fun i => (l[i]?).any fun e => P e.c).length = ((l.take n).filter fun e => P e.c).length := by
  intro n
  induction n with
  | zero => intro _; rfl
  | succ n ih =>
    intro h
    have hg : l[n]? = some l[n] := List.getElem?_eq_getElem (by omega)
    rw [List.range_succ, List.filter_append, List.length_append, ih (by omega), List.take_add_one, List.filter_append, List.length_append, hg]
    congr 1
    rw [List.filter_cons, hg, List.filter_nil]
    show (if (P l[n].c) = true then [n] else []).length = ((Option.toList (some l[n])).filter fun e => P e.c).length
    rw [Option.toList_some, List.filter_cons, List.filter_nil]
    split <;> rfl
theorem b4z {P : Cn → Bool} {l : List En} {seen : List Nat} (h1 : seen.Nodup) (h2 : ∀ i ∈ seen, i < l.length) (h3 : ∀ i, i < l.length → i ∈ seen) : cntS P l seen = (l.filter fun e => P e.c).length := by
  have e := b6f P l l.length (Nat.le_refl _)
  rw [List.take_length] at e
  rw [← e]
  unfold cntS
  refine Nat.le_antisymm (b0t (h1.filter _) fun x hx => ?_) (b0t (List.nodup_range.filter _) fun x hx => ?_)
  · rw [List.mem_filter] at hx ⊢
    exact ⟨List.mem_range.2 (h2 x hx.1), hx.2⟩
  · rw [List.mem_filter] at hx ⊢
    exact ⟨h3 x (List.mem_range.1 hx.1), hx.2⟩
theorem b8r {P : Cn → Bool} {l : List En} {seen : List Nat} (h1 : seen.Nodup) (h2 : ∀ i ∈ seen, i < l.length) : cntS P l seen ≤ l.length := by
  unfold cntS
  refine Nat.le_trans (List.length_filter_le _ _) ?_
  have := b0t h1 (fun x hx => List.mem_range.2 (h2 x hx))
  rwa [List.length_range] at this
def pC (u : Int) (c : Cn) : Bool := !c.closed && decide (c.user = u)
def pA (u : Int) (c : Cn) : Bool := c.waits && decide (c.asks = u)
theorem c4y (l : List En) (u : Int) : cntC (lcE l) u = (l.filter fun e => pC u e.c).length ∧ cntA (lcE l) u = (l.filter fun e => pA u e.c).length := by
  unfold cntC cntA lcE
  constructor
  · rw [List.filter_map, List.length_map]; rfl
  · rw [List.filter_map, List.length_map]; rfl
section
variable {w0 : World} {base : Nat}
abbrev cntAV (D : DS) (u : Int) : AV := .tup [.int .i64 ((countsD D u).1 : Int), .int .i64 ((countsD D u).2 : Int)]
set_option maxHeartbeats 8000000 in
theorem b9p {X : Dem} {u : Int} (hX : DemOk X) : ACalls (EE w0 base) 11 [.op 0 0, .int .i64 u] (dmO X) fun rv os => rv = cntAV X.ds u ∧ ∃ ex, os = dmO X ++ ex := by
  have hg := a5q (w0 := w0) (base := base) hX
  unfold cntAV
  refine a1r Tryz.func11 rfl rfl rfl (.cons (.cons .nil)) ?_
  by_cases hu : 0 ≤ u ∧ u < X.users
  · obtain ⟨hu1, hu2⟩ := hu
    have hR : countsD X.ds u = ((X.l.filter fun e => pC u e.c).length, (X.l.filter fun e => pA u e.c).length) := by
      have := c4y X.l u
      show (if 0 ≤ u ∧ u < X.users then (cntC (lcE X.l) u, cntA (lcE X.l) u) else (0, 0)) = _
      rw [if_pos ⟨hu1, hu2⟩, this.1, this.2]
    have hXl := hX.len
    rw [hR]
    dsimp only
    repeat' (first|(first|(refine a0d ?_;refine a0t [0,1,2,3] rfl rfl hg ?_ ?_ rfl rfl ?_;(focus ((repeat constructor);done));(focus ((repeat constructor);done));rintro _ _ ⟨rfl,rfl⟩;refine ⟨_,_,by repeat constructor,by repeat constructor,?_⟩)|refine a0b (a1c (n := 0) rfl rfl) rfl ?_|(refine a1d ?_;first|refine a0b (a1n rfl rfl rfl (by omega)) rfl ?_|refine a0b (a1o rfl rfl rfl (by omega)) rfl ?_)|refine c1r rfl rfl (by first|exact ln4) (by repeat constructor) rfl ?_)|(refine a2g ?_;first|refine a0b (a0l rfl) rfl ?_|(refine k_g ?_;first|refine a1j rfl rfl (by with_reducible rfl) ?_|refine a1w rfl rfl (by with_reducible rfl) rfl ?_|refine a1u rfl rfl (by with_reducible rfl) rfl ?_)|refine a0b (a0f rfl rfl) rfl ?_|(refine a1a ?_;first|refine a0b (a0u rfl rfl) rfl ?_)|(refine a1d ?_;first|refine a0b (a1p rfl rfl (by (first|exact w64 (by omega) (by omega)|rfl))) rfl ?_)|(refine a1i ?_;first|refine a0b (a0j rfl (by with_reducible rfl) rfl) rfl ?_|refine a0b (a0i rfl (by with_reducible rfl) rfl) rfl ?_)|refine a0b (a0e rfl) rfl ?_|refine a0b (a0p rfl rfl) rfl ?_|refine a0v ?_|refine a0b (a0w rfl (by with_reducible rfl)) rfl ?_|refine a0b (a1t rfl (by with_reducible rfl)) rfl ?_)|(first|refine a1k ?_|(refine a1l ?_;first|refine a0c (a0a ?_)|refine a0c ?_|refine a0a ?_|(refine a0y ?_;first|refine a0g rfl (by with_reducible rfl) ?_|refine a0h rfl (by with_reducible rfl) ?_)|refine a0n ?_|refine a0o ?_|refine a0k ?_|refine a1g ?_)|refine a0r ?_|refine a1q ?_|refine a1e ?_|refine a1x ?_|refine a1f ?_))
    refine a2t (fun seen : List Nat => ⟨[(1, .int .i64 u), (4, .int .i64 (cntS (pC u) X.l seen : Nat)), (5, .int .i64 (cntS (pA u) X.l seen : Nat)), (27, .op 4 0)], dmO X ++ [.iter 1 (X.l.map enK).length seen]⟩)
      (fun seen => seen.Nodup ∧ ∀ i ∈ seen, i < X.l.length) (fun seen => leftN (X.l.map enK).length seen) [] (.of (.same (by repeat constructor))) ⟨List.nodup_nil, fun i h => by cases h⟩ ?_
    rintro seen ⟨hs1, hs2⟩
    try dsimp only
    have hc1 := b8r (P := pC u) hs1 hs2
    have hc2 := b8r (P := pA u) hs1 hs2
    repeat' (first|((refine c3z rfl rfl rfl rfl (fun i => by repeat constructor) rfl (fun hdone => ?_) (fun i p hp hs => ?_)))|(refine a2g ?_;first|refine a0b (a0l rfl) rfl ?_|(refine k_g ?_;first|refine a1j rfl rfl (by with_reducible rfl) ?_|refine a1w rfl rfl (by with_reducible rfl) rfl ?_|refine a1u rfl rfl (by with_reducible rfl) rfl ?_)|refine a0b (a0f rfl rfl) rfl ?_|(refine a1a ?_;first|refine a0b (a0u rfl rfl) rfl ?_)|(refine a1d ?_;first|refine a0b (a1p rfl rfl (by (first|exact w64 (by omega) (by omega)|rfl))) rfl ?_)|(refine a1i ?_;first|refine a0b (a0j rfl (by with_reducible rfl) rfl) rfl ?_|refine a0b (a0i rfl (by with_reducible rfl) rfl) rfl ?_)|refine a0b (a0e rfl) rfl ?_|refine a0b (a0p rfl rfl) rfl ?_|refine a0v ?_|refine a0b (a0w rfl (by with_reducible rfl)) rfl ?_|refine a0b (a1t rfl (by with_reducible rfl)) rfl ?_)|(first|refine a1k ?_|(refine a1l ?_;first|refine a0c (a0a ?_)|refine a0c ?_|refine a0a ?_|(refine a0y ?_;first|refine a0g rfl (by with_reducible rfl) ?_|refine a0h rfl (by with_reducible rfl) ?_)|refine a0n ?_|refine a0o ?_|refine a0k ?_|refine a1g ?_)|refine a0r ?_|refine a1q ?_|refine a1e ?_|refine a1x ?_|refine a1f ?_))
    · refine ret2 (by first | exact .inr rfl | exact .inl rfl) rfl rfl rfl ?_
      have hall : ∀ i, i < X.l.length → i ∈ seen := fun i hi => by
        have := hdone i (by rw [List.length_map]; exact hi)
        simpa using this
      refine ⟨?_, _, rfl⟩
      rw [b4z hs1 hs2 hall, b4z hs1 hs2 hall]
    · rw [List.getElem?_map] at hp
      obtain ⟨e, he, rfl⟩ := Option.map_eq_some_iff.1 hp
      have hi : i < X.l.length := (List.getElem?_eq_some_iff.1 he).1
      have hp2 : (X.l.map enK)[i]? = some (enK e) := by rw [List.getElem?_map, he]; rfl
      have hm := (hX.rep.ok i e he).c
      have hn1 := b2i (P := pC u) (seen := seen) he
      have hn2 := b2i (P := pA u) (seen := seen) he
      have hns : i ∉ seen := fun h => by simp [h] at hs
      have hnd : (seen ++ [i]).Nodup := by
        rw [List.nodup_append]
        exact ⟨hs1, by simp, fun a ha b hb => by rw [List.mem_singleton.1 hb]; exact fun k => hns (k ▸ ha)⟩
      have hlt2 : ∀ k ∈ seen ++ [i], k < X.l.length := fun k hk => by
        rcases List.mem_append.1 hk with hk | hk
        · exact hs2 k hk
        · rw [List.mem_singleton.1 hk]; exact hi
      have hleft : leftN (X.l.map enK).length (seen ++ [i]) < leftN (X.l.map enK).length seen := c1b (by rw [List.length_map]; exact hi) hs
      obtain ⟨at', bc, bp, ba, s, st, user, closed, lost, waits, asks, ends, ans⟩ := e
      have hm2 : X.m bc = some [.ad bp 0, .int .i64 user, .bool closed, .bool lost, .bool waits, .int .i64 asks, .bool ends, paO ans ba] := hm
      have q1 : pC u ⟨s, st, user, closed, lost, waits, asks, ends, ans⟩ = (!closed && decide (user = u)) := rfl
      have q2 : pA u ⟨s, st, user, closed, lost, waits, asks, ends, ans⟩ = (waits && decide (asks = u)) := rfl
      dsimp only at hn1 hn2
      rw [q1] at hn1
      rw [q2] at hn2
      clear q1 q2 hm
      by_cases g1 : user = u
      all_goals
        by_cases g2 : asks = u
        all_goals
          cases closed
          all_goals
            cases waits
            all_goals
              first | rw [decide_eq_true g1] at hn1 | rw [decide_eq_false g1] at hn1
              first | rw [decide_eq_true g2] at hn2 | rw [decide_eq_false g2] at hn2
              first | rw [if_pos (by rfl)] at hn1 | rw [if_neg (by decide)] at hn1
              first | rw [if_pos (by rfl)] at hn2 | rw [if_neg (by decide)] at hn2
              repeat' (first|(first|refine a0b (c0u rfl rfl rfl rfl hp2) rfl ?_|refine a0b (a1c (n := 0) rfl rfl) rfl ?_|(refine a1a ?_;refine a0b (a2b (id := 3) rfl rfl hm2 rfl) rfl ?_)|(refine a1d ?_;first|refine a0b (a1n rfl rfl rfl (by omega)) rfl ?_|refine a0b (a1o rfl rfl rfl (by omega)) rfl ?_))|(refine a2g ?_;first|refine a0b (a0l rfl) rfl ?_|(refine k_g ?_;first|refine a1j rfl rfl (by with_reducible rfl) ?_|refine a1w rfl rfl (by with_reducible rfl) rfl ?_|refine a1u rfl rfl (by with_reducible rfl) rfl ?_)|refine a0b (a0f rfl rfl) rfl ?_|(refine a1a ?_;first|refine a0b (a0u rfl rfl) rfl ?_)|(refine a1d ?_;first|refine a0b (a1p rfl rfl (by (first|exact w64 (by omega) (by omega)|rfl))) rfl ?_)|(refine a1i ?_;first|refine a0b (a0j rfl (by with_reducible rfl) rfl) rfl ?_|refine a0b (a0i rfl (by with_reducible rfl) rfl) rfl ?_)|refine a0b (a0e rfl) rfl ?_|refine a0b (a0p rfl rfl) rfl ?_|refine a0v ?_|refine a0b (a0w rfl (by with_reducible rfl)) rfl ?_|refine a0b (a1t rfl (by with_reducible rfl)) rfl ?_)|(first|refine a1k ?_|(refine a1l ?_;first|refine a0c (a0a ?_)|refine a0c ?_|refine a0a ?_|(refine a0y ?_;first|refine a0g rfl (by with_reducible rfl) ?_|refine a0h rfl (by with_reducible rfl) ?_)|refine a0n ?_|refine a0o ?_|refine a0k ?_|refine a1g ?_)|refine a0r ?_|refine a1q ?_|refine a1e ?_|refine a1x ?_|refine a1f ?_))
              refine a2d (seen ++ [i]) ((Wkn.spell 4 (.int .i64 (cntS (pC u) X.l (seen ++ [i]) : Nat)) rfl (congrArg (AV.int .i64) (by omega))).trans ((Wkn.spell 5 (.int .i64 (cntS (pA u) X.l (seen ++ [i]) : Nat)) rfl (congrArg (AV.int .i64) (by omega))).trans (.of (.same (by repeat constructor))))) ⟨hnd, hlt2⟩ hleft
  · have hR : countsD X.ds u = (0, 0) := if_neg hu
    rw [hR]
    have h' : u < 0 ∨ (0 ≤ u ∧ X.users ≤ u) := by omega
    rcases h' with h1 | ⟨h1, h2⟩
    all_goals
      repeat' (first|(first|(refine a0d ?_;refine a0t [0,1,2,3] rfl rfl hg ?_ ?_ rfl rfl ?_;(focus ((repeat constructor);done));(focus ((repeat constructor);done));rintro _ _ ⟨rfl,rfl⟩;refine ⟨_,_,by repeat constructor,by repeat constructor,?_⟩)|refine a0b (a1c (n := 0) rfl rfl) rfl ?_|(refine a1d ?_;first|refine a0b (a1n rfl rfl rfl (by omega)) rfl ?_|refine a0b (a1o rfl rfl rfl (by omega)) rfl ?_))|(refine a2g ?_;first|refine a0b (a0l rfl) rfl ?_|(refine k_g ?_;first|refine a1j rfl rfl (by with_reducible rfl) ?_|refine a1w rfl rfl (by with_reducible rfl) rfl ?_|refine a1u rfl rfl (by with_reducible rfl) rfl ?_)|refine a0b (a0f rfl rfl) rfl ?_|(refine a1a ?_;first|refine a0b (a0u rfl rfl) rfl ?_)|(refine a1d ?_;first|refine a0b (a1p rfl rfl (by (first|exact w64 (by omega) (by omega)|rfl))) rfl ?_)|(refine a1i ?_;first|refine a0b (a0j rfl (by with_reducible rfl) rfl) rfl ?_|refine a0b (a0i rfl (by with_reducible rfl) rfl) rfl ?_)|refine a0b (a0e rfl) rfl ?_|refine a0b (a0p rfl rfl) rfl ?_|refine a0v ?_|refine a0b (a0w rfl (by with_reducible rfl)) rfl ?_|refine a0b (a1t rfl (by with_reducible rfl)) rfl ?_)|(first|refine a1k ?_|(refine a1l ?_;first|refine a0c (a0a ?_)|refine a0c ?_|refine a0a ?_|(refine a0y ?_;first|refine a0g rfl (by with_reducible rfl) ?_|refine a0h rfl (by with_reducible rfl) ?_)|refine a0n ?_|refine a0o ?_|refine a0k ?_|refine a1g ?_)|refine a0r ?_|refine a1q ?_|refine a1e ?_|refine a1x ?_|refine a1f ?_))
      refine ret2 (by first | exact .inr rfl | exact .inl rfl) rfl rfl rfl ?_
      exact ⟨rfl, [], rfl⟩
theorem b5e {X : Dem} {u : Int} (hX : DemOk X) : ACalls (EE w0 base) 11 [.op 0 0, .int .i64 u] (dmO X) fun rv os => rv = cntAV X.ds u ∧ os = dmO X := by
  refine a3p (b9p hX) ?_
  rintro rv os ⟨rfl, ex, rfl⟩
  exact ⟨dmO X, ex, rfl, ⟨rfl, rfl⟩, rfl, by repeat constructor, Nat.le_refl _⟩
end
end Go.Proofs.YtkljmljkiodnpaaGreatDoor.L

namespace Go.Proofs.YtkljmljkiodnpaaGreatDoor.L
open Go Go.RowKit Go.Proofs
attribute [local irreducible] AL QL AWp Thn InB RetQ ACalls LoopQ HL HO HW HQ NoG JmpQ MidQ HF

theorem b0c {m : Nat → Option (List AV)} {b x : Nat} {cs : List AV} (h : upd m b cs x = none) : x ≠ b ∧ m x = none := by
  by_cases e : x = b
  · subst e; rw [a2r] at h; cases h
  · rw [a1z e] at h; exact ⟨e, h⟩
theorem c1n {m : Nat → Option (List AV)} {e : En} (h : EnOk m e) : e.bp ≠ e.bc := fun k => by
  have hnd := h.nd
  unfold adsE adsO at hnd
  split at hnd <;> simp only [List.nodup_cons, List.mem_cons] at hnd <;> exact hnd.1 (.inl k.symm)
theorem c5a {m : Nat → Option (List AV)} {e : En} (h : EnOk m e) {r : Rp} (hr : e.c.ans = some r) : e.ba ≠ e.bc ∧ e.ba ≠ e.bp := by
  have hnd := h.nd
  unfold adsE adsO at hnd
  rw [hr] at hnd
  simp only [List.nodup_cons, List.mem_cons, List.not_mem_nil, or_false, not_or, List.mem_singleton] at hnd
  exact ⟨fun k => hnd.1.2 k.symm, fun k => hnd.2.1 k.symm⟩
theorem c3l (l : List En) (i : Nat) (e : En) : lcE (l.set i e) = (lcE l).set i (e.at', e.c) := by unfold lcE; rw [List.map_set]
theorem c0l (fs : Fs) : ∀ (i : Nat) row, (fs.map prAV)[i]? = some row → row.length = 2 := by
  intro i row h
  rw [List.getElem?_map] at h
  obtain ⟨p, _, rfl⟩ := Option.map_eq_some_iff.1 h
  rfl
theorem b3f (at' : Int) (b : Nat) : ∀ (l : List En), (∀ e ∈ l, e.at' ≠ at') → mset (.int .i64 at') (.ad b 0) (l.map enK) = l.map enK ++ [(.int .i64 at', .ad b 0)] := by
  intro l
  induction l with
  | nil => intro _; rfl
  | cons e l ih =>
    intro h
    have e1 : mset (.int .i64 at') (.ad b 0) ((e :: l).map enK) = if decide (at' = e.at') = true then (.int .i64 e.at', .ad b 0) :: l.map enK else enK e :: mset (.int .i64 at') (.ad b 0) (l.map enK) := rfl
    have h1 := h e List.mem_cons_self
    rw [e1, if_neg (by simpa using fun k => h1 k.symm), ih fun q hq => h q (List.mem_cons_of_mem _ hq)]
    rfl
section
variable {w0 : World} {base : Nat}
theorem b9o {m : Nat → Option (List AV)} {b : Nat} {s t : List UInt8} {st : Int} (hs : s.length ≤ 65536) (ht : t.length ≤ 140737488351232) (hm : m b = some [.bool true, .str s, .int .i64 st]) :
    ACalls (EE w0 base) 28 [.ad b 0, .str t] [.hp m] fun rv os => rv = .int .i64 (feedS s st t).1 ∧ os = [.hp (upd m b [.bool true, .str (feedS s st t).2, .int .i64 st])] := by
  refine a2y (b2s (E := EE w0 base) (c5i (w0 := w0) (base := base) hs ht) hm rfl ?_) ?_
  · rintro rv os ⟨rfl, rfl⟩
    exact ⟨_, rfl, rfl, rfl⟩
  · rintro rv os ⟨cells', ⟨rfl, h⟩, rfl⟩
    injection h with h _
    injection h with h _
    subst h
    exact ⟨rfl, rfl⟩
theorem c3w (s : List UInt8) (st : Int) : clB 0 (nextV s st).1 = true := by
  unfold nextV
  split
  · rfl
  · split <;> rfl
theorem c4d {m : Nat → Option (List AV)} {b : Nat} {s : List UInt8} {st : Int} (hG : Glob w0 base) (hs : s.length ≤ 65536) (hm : m b = some [.bool true, .str s, .int .i64 st]) :
    ACalls (EE w0 base) 32 [.ad b 0] [.hp m] fun rv os => rv = (nextV s st).1 ∧ os = [.hp (upd m b [.bool true, .str (nextV s st).2.1, .int .i64 (nextV s st).2.2])] := by
  refine a2y (b2s (E := EE w0 base) (c5f (w0 := w0) (base := base) hG (by omega)) hm rfl ?_) ?_
  · rintro rv os ⟨rfl, rfl⟩
    exact ⟨_, rfl, rfl, c3w s st⟩
  · rintro rv os ⟨cells', ⟨rfl, h⟩, rfl⟩
    injection h with h _
    injection h with h _
    subst h
    exact ⟨rfl, rfl⟩
set_option maxHeartbeats 4000000 in
theorem b9u {X : Dem} {at' : Int} {r : Rp} (hX : DemOk X) (hr : RpFit r) (hf : r.fs.length * 32 ≤ 140737488355328) : ACalls (EE w0 base) 16 [.op 0 0, .int .i64 at', .agg (rpC r)] (dmO X) fun rv os => ∃ os1 ex, os = os1 ++ ex ∧ DmR (answerD X.ds at' r) rv os1 := by
  have hg := c5g (w0 := w0) (base := base) (at' := at') hX
  have ho := c4a (w0 := w0) (base := base) (at' := at') hX
  refine a1r Tryz.func16 rfl rfl rfl (.cons (.cons (.cons .nil))) ?_
  by_cases hok : inAt at'
  · rw [decide_eq_true hok] at hg
    have hS : answerD X.ds at' r = (match lget at' (lcE X.l) with | none => (X.ds, 3) | some c => if c.waits then ({ X.ds with l := lset at' (ansC c r) (lcE X.l) }, 0) else (X.ds, 3)) := if_pos hok
    have hO : waitsD X.ds at' = (match lget at' (lcE X.l) with | none => false | some c => c.waits) := if_pos hok
    rcases a6y at' X.l with ⟨h1, h2, h3⟩ | ⟨i, e, h1, h2, h3, h4, h5⟩
    · rw [h2] at hS hO
      rw [hO] at ho
      repeat' (first|(first|(refine a0d ?_;refine a0t [0,1,2,3] rfl rfl hg ?_ ?_ rfl rfl ?_;(focus ((repeat constructor);done));(focus ((repeat constructor);done));rintro _ _ ⟨rfl,rfl⟩;refine ⟨_,_,by repeat constructor,by repeat constructor,?_⟩)|(refine a0d ?_;refine a0t [0,1,2,3] rfl rfl ho ?_ ?_ rfl rfl ?_;(focus ((repeat constructor);done));(focus ((repeat constructor);done));rintro _ _ ⟨rfl,rfl⟩;refine ⟨_,_,by repeat constructor,by repeat constructor,?_⟩))|(refine a2g ?_;first|refine a0b (a0l rfl) rfl ?_|refine a0b (a0f rfl rfl) rfl ?_|(refine a1a ?_;first|refine a0b (a0u rfl rfl) rfl ?_|refine a0b (a0m rfl rfl rfl) rfl ?_)|refine a0b (a0e rfl) rfl ?_|refine a0v ?_|refine a2c rfl rfl rfl (by first|exact ln4|exact ln5) (by repeat constructor) rfl ?_|refine a1b rfl rfl rfl (by first|exact ln4|exact ln5) (by repeat constructor) rfl ?_|refine a0z rfl rfl rfl rfl rfl (by repeat constructor) (by repeat constructor) ?_|refine a0b (a0w rfl (by with_reducible rfl)) rfl ?_|refine a0b (a1t rfl (by with_reducible rfl)) rfl ?_)|(first|refine a1k ?_|(refine a1l ?_;first|refine a0c (a0a ?_)|refine a0c ?_|refine a0a ?_|(refine a0y ?_;first|refine a0g rfl (by with_reducible rfl) ?_|refine a0h rfl (by with_reducible rfl) ?_)|refine a0o ?_|refine a0k ?_)|refine a0r ?_))
      refine ret1 (by first | exact .inr rfl | exact .inl rfl) rfl rfl ?_
      rw [hS]
      exact ⟨dmO X, _, rfl, rfl, X, hX, rfl, rfl⟩
    · rw [h4] at hS hO
      dsimp only at hS hO
      rw [hO] at ho
      have hen := hX.rep.ok i e h1
      have hm := hen.c
      have hcn := hX.cn e (List.mem_of_getElem? h1)
      cases hw : e.c.waits with
      | false =>
        rw [hw] at hS ho
        rw [if_neg (by decide)] at hS
        repeat' (first|(first|(refine a0d ?_;refine a0t [0,1,2,3] rfl rfl hg ?_ ?_ rfl rfl ?_;(focus ((repeat constructor);done));(focus ((repeat constructor);done));rintro _ _ ⟨rfl,rfl⟩;refine ⟨_,_,by repeat constructor,by repeat constructor,?_⟩)|(refine a0d ?_;refine a0t [0,1,2,3] rfl rfl ho ?_ ?_ rfl rfl ?_;(focus ((repeat constructor);done));(focus ((repeat constructor);done));rintro _ _ ⟨rfl,rfl⟩;refine ⟨_,_,by repeat constructor,by repeat constructor,?_⟩))|(refine a2g ?_;first|refine a0b (a0l rfl) rfl ?_|refine a0b (a0f rfl rfl) rfl ?_|(refine a1a ?_;first|refine a0b (a0u rfl rfl) rfl ?_|refine a0b (a0m rfl rfl rfl) rfl ?_)|refine a0b (a0e rfl) rfl ?_|refine a0v ?_|refine a2c rfl rfl rfl (by first|exact ln4|exact ln5) (by repeat constructor) rfl ?_|refine a1b rfl rfl rfl (by first|exact ln4|exact ln5) (by repeat constructor) rfl ?_|refine a0z rfl rfl rfl rfl rfl (by repeat constructor) (by repeat constructor) ?_|refine a0b (a0w rfl (by with_reducible rfl)) rfl ?_|refine a0b (a1t rfl (by with_reducible rfl)) rfl ?_)|(first|refine a1k ?_|(refine a1l ?_;first|refine a0c (a0a ?_)|refine a0c ?_|refine a0a ?_|(refine a0y ?_;first|refine a0g rfl (by with_reducible rfl) ?_|refine a0h rfl (by with_reducible rfl) ?_)|refine a0o ?_|refine a0k ?_)|refine a0r ?_))
        refine ret1 (by first | exact .inr rfl | exact .inl rfl) rfl rfl ?_
        rw [hS]
        exact ⟨dmO X, _, rfl, rfl, X, hX, rfl, rfl⟩
      | true =>
        rw [hw] at hS ho
        rw [if_pos rfl, h5] at hS
        obtain ⟨C, hC⟩ : ∃ C, C = ansC e.c r := ⟨_, rfl⟩
        rw [← hC] at hS
        unfold ansC at hC
        cases hcl : e.c.closed with
        | true =>
          rw [if_pos hcl] at hC
          have hm2 : X.m e.bc = some [.ad e.bp 0, .int .i64 e.c.user, .bool true, .bool e.c.lost, .bool e.c.waits, .int .i64 e.c.asks, .bool e.c.ends, paE e] := by rw [hm, ← hcl]
          repeat' (first|(first|(refine a0d ?_;refine a0t [0,1,2,3] rfl rfl hg ?_ ?_ rfl rfl ?_;(focus ((repeat constructor);done));(focus ((repeat constructor);done));rintro _ _ ⟨rfl,rfl⟩;refine ⟨_,_,by repeat constructor,by repeat constructor,?_⟩)|(refine a0d ?_;refine a0t [0,1,2,3] rfl rfl ho ?_ ?_ rfl rfl ?_;(focus ((repeat constructor);done));(focus ((repeat constructor);done));rintro _ _ ⟨rfl,rfl⟩;refine ⟨_,_,by repeat constructor,by repeat constructor,?_⟩)|refine a0b (a1c (n := 0) rfl rfl) rfl ?_|refine a0b (a2w rfl rfl rfl .int (a4d _) h3) rfl ?_|refine a3f (id := 3) rfl rfl rfl rfl rfl rfl rfl hm2 (by repeat constructor) (by repeat constructor) ?_|refine a3f (id := 3) rfl rfl rfl rfl rfl rfl rfl a2r (by repeat constructor) (by repeat constructor) ?_|(refine a1a ?_;refine a0b (a2b (id := 3) rfl rfl a2r rfl) rfl ?_))|(refine a2g ?_;first|refine a0b (a0l rfl) rfl ?_|refine a0b (a0f rfl rfl) rfl ?_|(refine a1a ?_;first|refine a0b (a0u rfl rfl) rfl ?_|refine a0b (a0m rfl rfl rfl) rfl ?_)|refine a0b (a0e rfl) rfl ?_|refine a0v ?_|refine a2c rfl rfl rfl (by first|exact ln4|exact ln5) (by repeat constructor) rfl ?_|refine a1b rfl rfl rfl (by first|exact ln4|exact ln5) (by repeat constructor) rfl ?_|refine a0z rfl rfl rfl rfl rfl (by repeat constructor) (by repeat constructor) ?_|refine a0b (a0w rfl (by with_reducible rfl)) rfl ?_|refine a0b (a1t rfl (by with_reducible rfl)) rfl ?_)|(first|refine a1k ?_|(refine a1l ?_;first|refine a0c (a0a ?_)|refine a0c ?_|refine a0a ?_|(refine a0y ?_;first|refine a0g rfl (by with_reducible rfl) ?_|refine a0h rfl (by with_reducible rfl) ?_)|refine a0o ?_|refine a0k ?_)|refine a0r ?_))
          refine ret1 (by first | exact .inr rfl | exact .inl rfl) rfl rfl ?_
          rw [hS]
          subst hC
          refine ⟨dmO { X with l := X.l.set i { e with c := { e.c with waits := false, asks := -1 } }, m := upd X.m e.bc (cnC e.bp (paE e) { e.c with waits := false, asks := -1 }) }, [.box (rpC r)], ?_, rfl, _, hX.set (e' := { e with c := { e.c with waits := false, asks := -1 } }) h1 rfl (hX.rep.flags (c' := { e.c with waits := false, asks := -1 }) h1 rfl rfl rfl) ⟨hcn.s, hcn.a⟩, rfl, rfl⟩
          rw [a7b (e' := { e with c := { e.c with waits := false, asks := -1 } }) h1 rfl rfl, a5m]
          have e1 : ∀ x, x = e.c.closed → cnC e.bp (paE e) { e.c with waits := false, asks := -1 } = [.ad e.bp 0, .int .i64 e.c.user, .bool x, .bool e.c.lost, .bool false, .int .i64 (-1), .bool e.c.ends, paE e] := fun x hx => by rw [hx]
          rw [e1 true hcl.symm]
          rfl
        | false =>
          rw [if_neg (by rw [hcl]; decide)] at hC
          have hm2 : X.m e.bc = some [.ad e.bp 0, .int .i64 e.c.user, .bool false, .bool e.c.lost, .bool e.c.waits, .int .i64 e.c.asks, .bool e.c.ends, paE e] := by rw [hm, ← hcl]
          repeat' (first|(first|(refine a4p (.boxFreeze (ib := 5) (k := 1) (id := 6) rfl rfl rfl rfl (by repeat constructor) rfl rfl) ?_;refine b3t 8 (id := 5) (j := 3) rfl (by repeat constructor) (fun _ => by repeat constructor) rfl (fun ba hba => ?_))|(refine a0d ?_;refine a0t [0,1,2,3] rfl rfl hg ?_ ?_ rfl rfl ?_;(focus ((repeat constructor);done));(focus ((repeat constructor);done));rintro _ _ ⟨rfl,rfl⟩;refine ⟨_,_,by repeat constructor,by repeat constructor,?_⟩)|(refine a0d ?_;refine a0t [0,1,2,3] rfl rfl ho ?_ ?_ rfl rfl ?_;(focus ((repeat constructor);done));(focus ((repeat constructor);done));rintro _ _ ⟨rfl,rfl⟩;refine ⟨_,_,by repeat constructor,by repeat constructor,?_⟩)|refine a0b (a1c (n := 0) rfl rfl) rfl ?_|refine a0b (a2w rfl rfl rfl .int (a4d _) h3) rfl ?_|refine a3f (id := 3) rfl rfl rfl rfl rfl rfl rfl hm2 (by repeat constructor) (by repeat constructor) ?_|refine a3f (id := 3) rfl rfl rfl rfl rfl rfl rfl a2r (by repeat constructor) (by repeat constructor) ?_|refine a3f (id := 3) rfl rfl rfl rfl rfl rfl rfl ((a1z (fun k => by rw [← k,a2r] at hba;cases hba)).trans a2r) (by repeat constructor) (by repeat constructor) ?_|(refine a1a ?_;refine a0b (a2b (id := 3) rfl rfl a2r rfl) rfl ?_)|(refine a0d ?_;refine b1c rfl rfl (c4h (c0l r.fs)) rfl (by repeat constructor) rfl (by decide) (by decide) (by rw [List.length_map];omega) rfl ?_))|(refine a2g ?_;first|refine a0b (a0l rfl) rfl ?_|refine a0b (a0f rfl rfl) rfl ?_|(refine a1a ?_;first|refine a0b (a0u rfl rfl) rfl ?_|refine a0b (a0m rfl rfl rfl) rfl ?_)|refine a0b (a0e rfl) rfl ?_|refine a0v ?_|refine a2c rfl rfl rfl (by first|exact ln4|exact ln5) (by repeat constructor) rfl ?_|refine a1b rfl rfl rfl (by first|exact ln4|exact ln5) (by repeat constructor) rfl ?_|refine a0z rfl rfl rfl rfl rfl (by repeat constructor) (by repeat constructor) ?_|refine a0b (a0w rfl (by with_reducible rfl)) rfl ?_|refine a0b (a1t rfl (by with_reducible rfl)) rfl ?_)|(first|refine a1k ?_|(refine a1l ?_;first|refine a0c (a0a ?_)|refine a0c ?_|refine a0a ?_|(refine a0y ?_;first|refine a0g rfl (by with_reducible rfl) ?_|refine a0h rfl (by with_reducible rfl) ?_)|refine a0o ?_|refine a0k ?_)|refine a0r ?_))
          refine ret1 (by first | exact .inr rfl | exact .inl rfl) rfl rfl ?_
          rw [hS]
          subst hC
          have hb1 := b0c hba
          have hb2 := (b0c hb1.2).2
          have hbp := c1n hen
          have hbpa : e.bp ≠ ba := fun k => by rw [← k, hen.p] at hb2; cases hb2
          refine ⟨dmO { X with l := X.l.set i { e with ba := ba,c := { e.c with waits := false,asks := -1,ans := some r } },m := upd (upd (upd (upd X.m e.bc [.ad e.bp 0,.int .i64 e.c.user,.bool false,.bool e.c.lost,.bool false,.int .i64 e.c.asks,.bool e.c.ends,paE e]) e.bc [.ad e.bp 0,.int .i64 e.c.user,.bool false,.bool e.c.lost,.bool false,.int .i64 (-1),.bool e.c.ends,paE e]) ba (rpC r)) e.bc [.ad e.bp 0,.int .i64 e.c.user,.bool false,.bool e.c.lost,.bool false,.int .i64 (-1),.bool e.c.ends,.ad ba 0] },[.box (rpC r),.gone,.row 90 2 0 (r.fs.map prAV).length (r.fs.map prAV)],?_,rfl,_,hX.set (e' := { e with ba := ba,c := { e.c with waits := false,asks := -1,ans := some r } }) h1 rfl (hX.rep.set h1 (fun x hx hx' => ?_) ⟨?_,?_,fun q hq => ?_,?_⟩ (fun x hx => ?_)) ⟨hcn.s,fun q hq => ?_⟩,rfl,by simp only [Dem.ds,c3l]⟩
          · rw [a7b (e' := { e with ba := ba, c := { e.c with waits := false, asks := -1, ans := some r } }) h1 rfl rfl]
            rfl
          · have x1 : x ≠ e.bc := fun k => hx (k ▸ a8y e)
            have x2 : x ≠ ba := fun k => hx' (by rw [k]; exact c2l (e := { e with ba := ba, c := { e.c with waits := false, asks := -1, ans := some r } }) (r := r) rfl)
            rw [a1z x1, a1z x2, a1z x1, a1z x1]
          · show upd _ _ _ e.bc = some (cnC e.bp (.ad ba 0) { e.c with waits := false, asks := -1, ans := some r })
            rw [a2r]
            show _ = (some [.ad e.bp 0, .int .i64 e.c.user, .bool e.c.closed, .bool e.c.lost, .bool false, .int .i64 (-1), .bool e.c.ends, .ad ba 0] : Option (List AV))
            rw [hcl]
          · show upd _ _ _ e.bp = _
            rw [a1z hbp, a1z hbpa, a1z hbp, a1z hbp, hen.p]
          · injection hq with hq
            subst hq
            show upd _ _ _ ba = _
            rw [a1z hb1.1, a2r]
          · show [e.bc, e.bp, ba].Nodup
            simp only [List.nodup_cons, List.mem_cons, List.not_mem_nil, or_false, not_or, List.nodup_nil, and_true, not_false_eq_true]
            exact ⟨⟨fun k => hbp k.symm, fun k => hb1.1 k.symm⟩, hbpa⟩
          · have hx2 : x ∈ [e.bc, e.bp, ba] := hx
            simp only [List.mem_cons, List.not_mem_nil, or_false] at hx2
            rcases hx2 with rfl | rfl | rfl
            · exact .inl (a8y e)
            · exact .inl (b2k e)
            · exact .inr hb2
          · injection hq with hq
            subst hq
            exact hr
  · rw [decide_eq_false hok] at hg
    have hS : answerD X.ds at' r = (X.ds, 1) := if_neg hok
    repeat' (first|(first|(refine a0d ?_;refine a0t [0,1,2,3] rfl rfl hg ?_ ?_ rfl rfl ?_;(focus ((repeat constructor);done));(focus ((repeat constructor);done));rintro _ _ ⟨rfl,rfl⟩;refine ⟨_,_,by repeat constructor,by repeat constructor,?_⟩))|(refine a2g ?_;first|refine a0b (a0l rfl) rfl ?_|refine a0b (a0f rfl rfl) rfl ?_|(refine a1a ?_;first|refine a0b (a0u rfl rfl) rfl ?_|refine a0b (a0m rfl rfl rfl) rfl ?_)|refine a0b (a0e rfl) rfl ?_|refine a0v ?_|refine a2c rfl rfl rfl (by first|exact ln4|exact ln5) (by repeat constructor) rfl ?_|refine a1b rfl rfl rfl (by first|exact ln4|exact ln5) (by repeat constructor) rfl ?_|refine a0z rfl rfl rfl rfl rfl (by repeat constructor) (by repeat constructor) ?_|refine a0b (a0w rfl (by with_reducible rfl)) rfl ?_|refine a0b (a1t rfl (by with_reducible rfl)) rfl ?_)|(first|refine a1k ?_|(refine a1l ?_;first|refine a0c (a0a ?_)|refine a0c ?_|refine a0a ?_|(refine a0y ?_;first|refine a0g rfl (by with_reducible rfl) ?_|refine a0h rfl (by with_reducible rfl) ?_)|refine a0o ?_|refine a0k ?_)|refine a0r ?_))
    refine ret1 (by first | exact .inr rfl | exact .inl rfl) rfl rfl ?_
    rw [hS]
    exact ⟨dmO X, _, rfl, rfl, X, hX, rfl, rfl⟩
theorem b5a (X : Dem) : ClOs (dmO X).length (dmO X) := by repeat constructor
theorem b5f {X : Dem} {at' : Int} {r : Rp} (hX : DemOk X) (hr : RpFit r) (hf : r.fs.length * 32 ≤ 140737488355328) : ACalls (EE w0 base) 16 [.op 0 0, .int .i64 at', .agg (rpC r)] (dmO X) (DmR (answerD X.ds at' r)) := by
  refine a3p (b9u hX hr hf) ?_
  rintro rv os ⟨os1, ex, rfl, rfl, X', h1, rfl, h2⟩
  exact ⟨dmO X', ex, rfl, ⟨rfl, X', h1, rfl, h2⟩, rfl, b5a X', Nat.le_refl _⟩
end
end Go.Proofs.YtkljmljkiodnpaaGreatDoor.L

namespace Go.Proofs.YtkljmljkiodnpaaGreatDoor.L
open Go Go.RowKit Go.Proofs
attribute [local irreducible] AL QL AWp Thn InB RetQ ACalls LoopQ HL HO HW HQ NoG JmpQ MidQ HF

theorem c0y {at' : Int} {c' : Cn} : ∀ {l : List (Int × Cn)}, lget at' l = none → lset at' c' l = l ++ [(at', c')] := by
  intro l
  induction l with
  | nil => intro _; rfl
  | cons p l ih =>
    intro h
    rw [lget] at h
    split at h
    · cases h
    · rename_i hn
      rw [lset, if_neg hn, ih h]
      rfl
theorem b4a {c : Cn} (h : CnOk c) {t : List UInt8} (ht : t.length ≤ 65536) : CnOk (takeC c t) := by
  refine ⟨?_, h.a⟩
  have := h.s
  unfold takeC feedS
  dsimp only
  split
  · exact this
  · split
    · exact this
    · dsimp only; rw [List.length_append]; omega
theorem c4z : CnOk cn0 := ⟨Nat.zero_le _, fun r h => by cases h⟩
theorem DemOk.push {X : Dem} {e' : En} {m' : Nat → Option (List AV)} (h : DemOk X) (h1 : ∀ e ∈ X.l, e.at' ≠ e'.at') (h2 : inAt e'.at') (hr : RepE m' (X.l ++ [e'])) (hc : CnOk e'.c) : DemOk { X with l := X.l ++ [e'], m := m' } := by
  refine ⟨h.users, h.conns, h.asks, hr, ?_, fun q hq => ?_, fun q hq => ?_, h.ss⟩
  · show ((X.l ++ [e']).map (·.at')).Nodup
    rw [List.map_append, List.nodup_append]
    refine ⟨h.keys, by simp, fun a ha b hb => ?_⟩
    obtain ⟨q, hq, rfl⟩ := List.mem_map.1 ha
    rw [List.map_cons, List.map_nil, List.mem_singleton] at hb
    rw [hb]
    exact h1 q hq
  · rcases List.mem_append.1 hq with hq | hq
    · exact h.okat q hq
    · rw [List.mem_singleton.1 hq]; exact h2
  · rcases List.mem_append.1 hq with hq | hq
    · exact h.cn q hq
    · rw [List.mem_singleton.1 hq]; exact hc
section
variable {w0 : World} {base : Nat}
set_option maxHeartbeats 4000000 in
theorem b9t {X : Dem} {at' : Int} {t : List UInt8} (hX : DemOk X) (ht0 : t.length ≤ 140737488351232) : ACalls (EE w0 base) 10 [.op 0 0, .int .i64 at', .str t] (dmO X) fun rv os => ∃ os1 ex, os = os1 ++ ex ∧ DmR (arriveD X.ds at' t) rv os1 := by
  have hg := c5g (w0 := w0) (base := base) (at' := at') hX
  refine a1r Tryz.func10 rfl rfl rfl (.cons (.cons (.cons .nil))) ?_
  by_cases hok : inAt at'
  · rw [decide_eq_true hok] at hg
    by_cases htl : t.length ≤ 65536
    · have hS : arriveD X.ds at' t = (if ((lget at' (lcE X.l)).getD cn0).closed then (X.ds, 80) else ({ X.ds with l := lset at' (takeC ((lget at' (lcE X.l)).getD cn0) t) (lcE X.l) }, 0)) := if_pos ⟨hok, htl⟩
      rcases a6y at' X.l with ⟨h1, h2, h3⟩ | ⟨i, e, h1, h2, h3, h4, h5⟩
      · rw [h2, Option.getD_none, if_neg (show ¬ cn0.closed = true by decide), c0y h2] at hS
        have hN := c5v (w0 := w0) (base := base)
        have hfd : feedS [] 0 t = (0, t) := by
          unfold feedS
          rw [if_neg (by decide), if_neg (by simp only [List.length_nil]; omega)]
          rfl
        repeat' (first|(first|refine b3t 25 (id := 4) (j := 3) rfl (by repeat constructor) (fun _ => by repeat constructor) rfl (fun bp hbp => ?_)|refine b3t 27 (id := 5) (j := 3) rfl (by repeat constructor) (fun _ => by repeat constructor) rfl (fun bc hbc => ?_)|(refine a0d ?_;refine a0t [0,1,2,3] rfl rfl hg ?_ ?_ rfl rfl ?_;(focus ((repeat constructor);done));(focus ((repeat constructor);done));rintro _ _ ⟨rfl,rfl⟩;refine ⟨_,_,by repeat constructor,by repeat constructor,?_⟩)|(refine a0d ?_;refine a0t [] rfl rfl hN ?_ ?_ rfl rfl ?_;(focus ((repeat constructor);done));(focus ((repeat constructor);done));rintro _ _ ⟨rfl,rfl⟩;refine ⟨_,_,by repeat constructor,by repeat constructor,?_⟩)|refine a0b (a1c (n := 0) rfl rfl) rfl ?_|refine a0b (a5f rfl rfl rfl .int (a4d _) h1 rfl) rfl ?_|(refine a1d ?_;first|refine a0b (a8i rfl rfl) rfl ?_|refine a0b (a1n rfl rfl rfl (by omega)) rfl ?_|refine a0b (a1o rfl rfl rfl (by omega)) rfl ?_)|refine a7l rfl rfl rfl (by repeat constructor) .int rfl (a4d _) (b3f _ _ _ h3) ?_|(refine a1a ?_;refine a0b (a2b (id := 3) rfl rfl a2r rfl) rfl ?_))|(refine a2g ?_;first|refine a0b (a0l rfl) rfl ?_|(refine k_g ?_;first|refine a1j rfl rfl (by with_reducible rfl) ?_|refine a1u rfl rfl (by with_reducible rfl) rfl ?_)|refine a0b (a0f rfl rfl) rfl ?_|(refine a1a ?_;first|refine a0b (a0u rfl rfl) rfl ?_)|(refine a1i ?_;first|refine a0b (a0j rfl (by with_reducible rfl) rfl) rfl ?_|refine a0b (a0i rfl (by with_reducible rfl) rfl) rfl ?_)|refine a0b (a0e rfl) rfl ?_|(refine a0d ?_;first|refine a0b (a0s rfl) rfl ?_)|refine a0v ?_|refine a2c rfl rfl rfl (by first|exact ln5) (by repeat constructor) rfl ?_|refine a0b (a1v rfl rfl rfl (by repeat constructor)) rfl ?_|refine a0b (a0w rfl (by with_reducible rfl)) rfl ?_|refine a0b (a1t rfl (by with_reducible rfl)) rfl ?_)|(first|refine a1k ?_|(refine a1l ?_;first|refine a0c (a0a ?_)|refine a0c ?_|refine a0a ?_|(refine a0y ?_;first|refine a0g rfl (by with_reducible rfl) ?_|refine a0h rfl (by with_reducible rfl) ?_)|refine a0o ?_|refine a0k ?_)|refine a0r ?_))
        have hb1 := b0c hbc
        have hF := b9o (w0 := w0) (base := base) (m := upd (upd X.m bp [.bool true, .str [], .int .i64 0]) bc [.ad bp 0, .int .i64 (-1), .bool false, .bool false, .bool false, .int .i64 (-1), .bool false, .nilp]) (b := bp) (s := []) (t := t) (st := 0) (Nat.zero_le _) ht0 ((a1z (fun k => hb1.1 k.symm)).trans a2r)
        rw [hfd] at hF
        have hmm : upd (upd (upd X.m bp [.bool true, .str [], .int .i64 0]) bc [.ad bp 0, .int .i64 (-1), .bool false, .bool false, .bool false, .int .i64 (-1), .bool false, .nilp]) bp [.bool true, .str t, .int .i64 0] bc = some [.ad bp 0, .int .i64 (-1), .bool false, .bool false, .bool false, .int .i64 (-1), .bool false, .nilp] := (a1z hb1.1).trans a2r
        repeat' (first|(first|(refine a0d ?_;refine a0t [3] rfl rfl hF ?_ ?_ rfl rfl ?_;(focus ((repeat constructor);done));(focus ((repeat constructor);done));rintro _ _ ⟨rfl,rfl⟩;refine ⟨_,_,by repeat constructor,by repeat constructor,?_⟩)|refine a0b (a1c (n := 0) rfl rfl) rfl ?_|(refine a1d ?_;first|refine a0b (a1n rfl rfl rfl (by omega)) rfl ?_|refine a0b (a1o rfl rfl rfl (by omega)) rfl ?_)|(refine a1a ?_;refine a0b (a2b (id := 3) rfl rfl a2r rfl) rfl ?_)|(refine a1a ?_;refine a0b (a2b (id := 3) rfl rfl hmm rfl) rfl ?_)|refine a3f (id := 3) rfl rfl rfl rfl rfl rfl rfl hmm (by repeat constructor) (by repeat constructor) ?_)|(refine a2g ?_;first|refine a0b (a0l rfl) rfl ?_|(refine k_g ?_;first|refine a1j rfl rfl (by with_reducible rfl) ?_|refine a1u rfl rfl (by with_reducible rfl) rfl ?_)|refine a0b (a0f rfl rfl) rfl ?_|(refine a1a ?_;first|refine a0b (a0u rfl rfl) rfl ?_)|(refine a1i ?_;first|refine a0b (a0j rfl (by with_reducible rfl) rfl) rfl ?_|refine a0b (a0i rfl (by with_reducible rfl) rfl) rfl ?_)|refine a0b (a0e rfl) rfl ?_|(refine a0d ?_;first|refine a0b (a0s rfl) rfl ?_)|refine a0v ?_|refine a2c rfl rfl rfl (by first|exact ln5) (by repeat constructor) rfl ?_|refine a0b (a1v rfl rfl rfl (by repeat constructor)) rfl ?_|refine a0b (a0w rfl (by with_reducible rfl)) rfl ?_|refine a0b (a1t rfl (by with_reducible rfl)) rfl ?_)|(first|refine a1k ?_|(refine a1l ?_;first|refine a0c (a0a ?_)|refine a0c ?_|refine a0a ?_|(refine a0y ?_;first|refine a0g rfl (by with_reducible rfl) ?_|refine a0h rfl (by with_reducible rfl) ?_)|refine a0o ?_|refine a0k ?_)|refine a0r ?_))
        refine ret1 (by first | exact .inr rfl | exact .inl rfl) rfl rfl ?_
        rw [hS]
        have hne : bp ≠ bc := fun k => hb1.1 k.symm
        have htc : takeC cn0 t = ⟨t, 0, -1, false, false, false, -1, false, none⟩ := by
          unfold takeC
          rw [show feedS cn0.s cn0.st t = (0, t) from hfd]
          rfl
        refine ⟨dmO { X with l := X.l ++ [⟨at',bc,bp,0,takeC cn0 t⟩],m := upd (upd (upd (upd X.m bp [.bool true,.str [],.int .i64 0]) bc [.ad bp 0,.int .i64 (-1),.bool false,.bool false,.bool false,.int .i64 (-1),.bool false,.nilp]) bp [.bool true,.str t,.int .i64 0]) bc [.ad bp 0,.int .i64 (-1),.bool false,.bool false,.bool false,.int .i64 (-1),.bool false,.nilp] },[.gone,.gone],?_,rfl,_,hX.push (e' := ⟨at',bc,bp,0,takeC cn0 t⟩) h3 hok (hX.rep.push (fun x hx => ?_) ⟨?_,?_,fun q hq => ?_,?_⟩ (fun x hx => ?_)) (b4a c4z htl),rfl,?_⟩
        · unfold dmO
          dsimp only
          rw [List.map_append]
          rfl
        · rw [htc] at hx
          have hx2 : x ∉ [bc, bp] := hx
          simp only [List.mem_cons, List.not_mem_nil, or_false, not_or] at hx2
          rw [a1z hx2.1, a1z hx2.2, a1z hx2.1, a1z hx2.2]
        · show upd _ _ _ bc = some (cnC bp (paO (takeC cn0 t).ans 0) (takeC cn0 t))
          rw [a2r, htc]
          rfl
        · show upd _ _ _ bp = some [.bool true, .str (takeC cn0 t).s, .int .i64 (takeC cn0 t).st]
          rw [a1z hne, a2r, htc]
        · rw [htc] at hq
          cases hq
        · rw [htc]
          show [bc, bp].Nodup
          simp only [List.nodup_cons, List.mem_cons, List.not_mem_nil, or_false, List.nodup_nil, and_true, not_false_eq_true]
          exact hb1.1
        · rw [htc] at hx
          have hx2 : x ∈ [bc, bp] := hx
          simp only [List.mem_cons, List.not_mem_nil, or_false] at hx2
          rcases hx2 with rfl | rfl
          · exact hb1.2
          · exact hbp
        · show DS.mk _ _ _ (lcE (X.l ++ [_])) _ = _
          unfold lcE
          rw [List.map_append]
          rfl
      · have hen := hX.rep.ok i e h1
        have hm := hen.c
        have hcn := hX.cn e (List.mem_of_getElem? h1)
        rw [h4, Option.getD_some, h5] at hS
        cases hcl : e.c.closed with
        | true =>
          rw [if_pos hcl] at hS
          have hm2 : X.m e.bc = some [.ad e.bp 0, .int .i64 e.c.user, .bool true, .bool e.c.lost, .bool e.c.waits, .int .i64 e.c.asks, .bool e.c.ends, paE e] := by rw [hm, ← hcl]
          repeat' (first|(first|(refine a0d ?_;refine a0t [0,1,2,3] rfl rfl hg ?_ ?_ rfl rfl ?_;(focus ((repeat constructor);done));(focus ((repeat constructor);done));rintro _ _ ⟨rfl,rfl⟩;refine ⟨_,_,by repeat constructor,by repeat constructor,?_⟩)|refine a0b (a1c (n := 0) rfl rfl) rfl ?_|refine a0b (a2w rfl rfl rfl .int (a4d _) h3) rfl ?_|(refine a1d ?_;first|refine a0b (a2n rfl rfl rfl) rfl ?_|refine a0b (a1n rfl rfl rfl (by omega)) rfl ?_|refine a0b (a1o rfl rfl rfl (by omega)) rfl ?_)|(refine a1a ?_;refine a0b (a2b (id := 3) rfl rfl hm2 rfl) rfl ?_))|(refine a2g ?_;first|refine a0b (a0l rfl) rfl ?_|(refine k_g ?_;first|refine a1j rfl rfl (by with_reducible rfl) ?_|refine a1u rfl rfl (by with_reducible rfl) rfl ?_)|refine a0b (a0f rfl rfl) rfl ?_|(refine a1a ?_;first|refine a0b (a0u rfl rfl) rfl ?_)|(refine a1i ?_;first|refine a0b (a0j rfl (by with_reducible rfl) rfl) rfl ?_|refine a0b (a0i rfl (by with_reducible rfl) rfl) rfl ?_)|refine a0b (a0e rfl) rfl ?_|(refine a0d ?_;first|refine a0b (a0s rfl) rfl ?_)|refine a0v ?_|refine a2c rfl rfl rfl (by first|exact ln5) (by repeat constructor) rfl ?_|refine a0b (a1v rfl rfl rfl (by repeat constructor)) rfl ?_|refine a0b (a0w rfl (by with_reducible rfl)) rfl ?_|refine a0b (a1t rfl (by with_reducible rfl)) rfl ?_)|(first|refine a1k ?_|(refine a1l ?_;first|refine a0c (a0a ?_)|refine a0c ?_|refine a0a ?_|(refine a0y ?_;first|refine a0g rfl (by with_reducible rfl) ?_|refine a0h rfl (by with_reducible rfl) ?_)|refine a0o ?_|refine a0k ?_)|refine a0r ?_))
          refine ret1 (by first | exact .inr rfl | exact .inl rfl) rfl rfl ?_
          rw [hS]
          exact ⟨dmO X, [], rfl, rfl, X, hX, rfl, rfl⟩
        | false =>
          rw [if_neg (by rw [hcl]; decide)] at hS
          have hbp := c1n hen
          have hm2 : X.m e.bc = some [.ad e.bp 0, .int .i64 e.c.user, .bool false, .bool e.c.lost, .bool e.c.waits, .int .i64 e.c.asks, .bool e.c.ends, paE e] := by rw [hm, ← hcl]
          have hF := b9o (w0 := w0) (base := base) (t := t) hcn.s ht0 hen.p
          obtain ⟨f1, f2, hfd⟩ : ∃ f1 f2, feedS e.c.s e.c.st t = (f1, f2) := ⟨_, _, rfl⟩
          rw [hfd] at hF
          dsimp only at hF
          have hmm : upd X.m e.bp [.bool true, .str f2, .int .i64 e.c.st] e.bc = some [.ad e.bp 0, .int .i64 e.c.user, .bool false, .bool e.c.lost, .bool e.c.waits, .int .i64 e.c.asks, .bool e.c.ends, paE e] := (a1z (fun k => hbp k.symm)).trans hm2
          have htc : takeC e.c t = { e.c with s := f2, lost := decide (f1 = 2) || e.c.lost } := by unfold takeC; rw [hfd]
          obtain ⟨L, hL⟩ : ∃ L, L = (decide (f1 = 2) || e.c.lost) := ⟨_, rfl⟩
          rw [← hL] at htc
          have fin : ∃ os1 ex,[AO.box [.int .i64 X.users,.int .i64 X.conns,.int .i64 X.asks,.mp 1,.mp 2],.map (X.l.map enK),.map (X.ss.map ssK) true,.hp (upd (upd X.m e.bp [.bool true,.str f2,.int .i64 e.c.st]) e.bc [.ad e.bp 0,.int .i64 e.c.user,.bool false,.bool L,.bool e.c.waits,.int .i64 e.c.asks,.bool e.c.ends,paE e])] = os1 ++ ex ∧ DmR (arriveD X.ds at' t) (.int .i64 0) os1 := by
            rw [hS]
            refine ⟨dmO { X with l := X.l.set i { e with c := takeC e.c t },m := upd (upd X.m e.bp [.bool true,.str f2,.int .i64 e.c.st]) e.bc [.ad e.bp 0,.int .i64 e.c.user,.bool false,.bool L,.bool e.c.waits,.int .i64 e.c.asks,.bool e.c.ends,paE e] },[],?_,rfl,_,hX.set (e' := { e with c := takeC e.c t }) h1 rfl (hX.rep.set h1 (fun x hx hx' => ?_) ⟨?_,?_,fun q hq => ?_,?_⟩ (fun x hx => ?_)) (b4a hcn htl),rfl,rfl⟩
            · rw [a7b (e' := { e with c := takeC e.c t }) h1 rfl rfl]
              rfl
            · rw [a1z (show x ≠ e.bc from fun k => hx (k ▸ a8y e)), a1z (show x ≠ e.bp from fun k => hx (k ▸ b2k e))]
            · show upd _ _ _ e.bc = some (cnC e.bp (paO (takeC e.c t).ans e.ba) (takeC e.c t))
              rw [a2r, htc]
              show _ = (some [.ad e.bp 0, .int .i64 e.c.user, .bool e.c.closed, .bool L, .bool e.c.waits, .int .i64 e.c.asks, .bool e.c.ends, paE e] : Option (List AV))
              rw [hcl]
            · show upd _ _ _ e.bp = some [.bool true, .str (takeC e.c t).s, .int .i64 (takeC e.c t).st]
              rw [a1z hbp, a2r, htc]
            · have hq2 : e.c.ans = some q := by rw [htc] at hq; exact hq
              have := c5a hen hq2
              show upd _ _ _ e.ba = _
              rw [a1z this.1, a1z this.2, hen.a q hq2]
            · rw [htc]; exact hen.nd
            · rw [htc] at hx; exact .inl hx
          by_cases hf2 : f1 = 2
          · have hLt : L = true := by rw [hL, decide_eq_true hf2]; rfl
            rw [hLt] at fin
            repeat' (first|(first|(refine a0d ?_;refine a0t [0,1,2,3] rfl rfl hg ?_ ?_ rfl rfl ?_;(focus ((repeat constructor);done));(focus ((repeat constructor);done));rintro _ _ ⟨rfl,rfl⟩;refine ⟨_,_,by repeat constructor,by repeat constructor,?_⟩)|(refine a0d ?_;refine a0t [3] rfl rfl hF ?_ ?_ rfl rfl ?_;(focus ((repeat constructor);done));(focus ((repeat constructor);done));rintro _ _ ⟨rfl,rfl⟩;refine ⟨_,_,by repeat constructor,by repeat constructor,?_⟩)|refine a0b (a1c (n := 0) rfl rfl) rfl ?_|refine a0b (a2w rfl rfl rfl .int (a4d _) h3) rfl ?_|(refine a1d ?_;first|refine a0b (a2n rfl rfl rfl) rfl ?_|refine a0b (a1n rfl rfl rfl (by omega)) rfl ?_|refine a0b (a1o rfl rfl rfl (by omega)) rfl ?_)|(refine a1a ?_;refine a0b (a2b (id := 3) rfl rfl hm2 rfl) rfl ?_)|(refine a1a ?_;refine a0b (a2b (id := 3) rfl rfl hmm rfl) rfl ?_)|refine a3f (id := 3) rfl rfl rfl rfl rfl rfl rfl hmm (by repeat constructor) (by repeat constructor) ?_)|(refine a2g ?_;first|refine a0b (a0l rfl) rfl ?_|(refine k_g ?_;first|refine a1j rfl rfl (by with_reducible rfl) ?_|refine a1u rfl rfl (by with_reducible rfl) rfl ?_)|refine a0b (a0f rfl rfl) rfl ?_|(refine a1a ?_;first|refine a0b (a0u rfl rfl) rfl ?_)|(refine a1i ?_;first|refine a0b (a0j rfl (by with_reducible rfl) rfl) rfl ?_|refine a0b (a0i rfl (by with_reducible rfl) rfl) rfl ?_)|refine a0b (a0e rfl) rfl ?_|(refine a0d ?_;first|refine a0b (a0s rfl) rfl ?_)|refine a0v ?_|refine a2c rfl rfl rfl (by first|exact ln5) (by repeat constructor) rfl ?_|refine a0b (a1v rfl rfl rfl (by repeat constructor)) rfl ?_|refine a0b (a0w rfl (by with_reducible rfl)) rfl ?_|refine a0b (a1t rfl (by with_reducible rfl)) rfl ?_)|(first|refine a1k ?_|(refine a1l ?_;first|refine a0c (a0a ?_)|refine a0c ?_|refine a0a ?_|(refine a0y ?_;first|refine a0g rfl (by with_reducible rfl) ?_|refine a0h rfl (by with_reducible rfl) ?_)|refine a0o ?_|refine a0k ?_)|refine a0r ?_))
            refine ret1 (by first | exact .inr rfl | exact .inl rfl) rfl rfl ?_
            exact fin
          · have hLf : L = e.c.lost := by rw [hL, decide_eq_false hf2]; rfl
            rw [hLf] at fin
            repeat' (first|(first|(refine a0d ?_;refine a0t [0,1,2,3] rfl rfl hg ?_ ?_ rfl rfl ?_;(focus ((repeat constructor);done));(focus ((repeat constructor);done));rintro _ _ ⟨rfl,rfl⟩;refine ⟨_,_,by repeat constructor,by repeat constructor,?_⟩)|(refine a0d ?_;refine a0t [3] rfl rfl hF ?_ ?_ rfl rfl ?_;(focus ((repeat constructor);done));(focus ((repeat constructor);done));rintro _ _ ⟨rfl,rfl⟩;refine ⟨_,_,by repeat constructor,by repeat constructor,?_⟩)|refine a0b (a1c (n := 0) rfl rfl) rfl ?_|refine a0b (a2w rfl rfl rfl .int (a4d _) h3) rfl ?_|(refine a1d ?_;first|refine a0b (a2n rfl rfl rfl) rfl ?_|refine a0b (a1n rfl rfl rfl (by omega)) rfl ?_|refine a0b (a1o rfl rfl rfl (by omega)) rfl ?_)|(refine a1a ?_;refine a0b (a2b (id := 3) rfl rfl hm2 rfl) rfl ?_)|(refine a1a ?_;refine a0b (a2b (id := 3) rfl rfl hmm rfl) rfl ?_)|refine a3f (id := 3) rfl rfl rfl rfl rfl rfl rfl hmm (by repeat constructor) (by repeat constructor) ?_)|(refine a2g ?_;first|refine a0b (a0l rfl) rfl ?_|(refine k_g ?_;first|refine a1j rfl rfl (by with_reducible rfl) ?_|refine a1u rfl rfl (by with_reducible rfl) rfl ?_)|refine a0b (a0f rfl rfl) rfl ?_|(refine a1a ?_;first|refine a0b (a0u rfl rfl) rfl ?_)|(refine a1i ?_;first|refine a0b (a0j rfl (by with_reducible rfl) rfl) rfl ?_|refine a0b (a0i rfl (by with_reducible rfl) rfl) rfl ?_)|refine a0b (a0e rfl) rfl ?_|(refine a0d ?_;first|refine a0b (a0s rfl) rfl ?_)|refine a0v ?_|refine a2c rfl rfl rfl (by first|exact ln5) (by repeat constructor) rfl ?_|refine a0b (a1v rfl rfl rfl (by repeat constructor)) rfl ?_|refine a0b (a0w rfl (by with_reducible rfl)) rfl ?_|refine a0b (a1t rfl (by with_reducible rfl)) rfl ?_)|(first|refine a1k ?_|(refine a1l ?_;first|refine a0c (a0a ?_)|refine a0c ?_|refine a0a ?_|(refine a0y ?_;first|refine a0g rfl (by with_reducible rfl) ?_|refine a0h rfl (by with_reducible rfl) ?_)|refine a0o ?_|refine a0k ?_)|refine a0r ?_))
            refine ret1 (by first | exact .inr rfl | exact .inl rfl) rfl rfl ?_
            exact fin
    · have hS : arriveD X.ds at' t = (X.ds, 1) := if_neg fun k => htl k.2
      repeat' (first|(first|(refine a0d ?_;refine a0t [0,1,2,3] rfl rfl hg ?_ ?_ rfl rfl ?_;(focus ((repeat constructor);done));(focus ((repeat constructor);done));rintro _ _ ⟨rfl,rfl⟩;refine ⟨_,_,by repeat constructor,by repeat constructor,?_⟩)|(refine a1d ?_;first|refine a0b (a1n rfl rfl rfl (by omega)) rfl ?_|refine a0b (a1o rfl rfl rfl (by omega)) rfl ?_))|(refine a2g ?_;first|refine a0b (a0l rfl) rfl ?_|(refine k_g ?_;first|refine a1j rfl rfl (by with_reducible rfl) ?_|refine a1u rfl rfl (by with_reducible rfl) rfl ?_)|refine a0b (a0f rfl rfl) rfl ?_|(refine a1a ?_;first|refine a0b (a0u rfl rfl) rfl ?_)|(refine a1i ?_;first|refine a0b (a0j rfl (by with_reducible rfl) rfl) rfl ?_|refine a0b (a0i rfl (by with_reducible rfl) rfl) rfl ?_)|refine a0b (a0e rfl) rfl ?_|(refine a0d ?_;first|refine a0b (a0s rfl) rfl ?_)|refine a0v ?_|refine a2c rfl rfl rfl (by first|exact ln5) (by repeat constructor) rfl ?_|refine a0b (a1v rfl rfl rfl (by repeat constructor)) rfl ?_|refine a0b (a0w rfl (by with_reducible rfl)) rfl ?_|refine a0b (a1t rfl (by with_reducible rfl)) rfl ?_)|(first|refine a1k ?_|(refine a1l ?_;first|refine a0c (a0a ?_)|refine a0c ?_|refine a0a ?_|(refine a0y ?_;first|refine a0g rfl (by with_reducible rfl) ?_|refine a0h rfl (by with_reducible rfl) ?_)|refine a0o ?_|refine a0k ?_)|refine a0r ?_))
      refine ret1 (by first | exact .inr rfl | exact .inl rfl) rfl rfl ?_
      rw [hS]
      exact ⟨dmO X, _, rfl, rfl, X, hX, rfl, rfl⟩
  · rw [decide_eq_false hok] at hg
    have hS : arriveD X.ds at' t = (X.ds, 1) := if_neg fun k => hok k.1
    repeat' (first|(first|(refine a0d ?_;refine a0t [0,1,2,3] rfl rfl hg ?_ ?_ rfl rfl ?_;(focus ((repeat constructor);done));(focus ((repeat constructor);done));rintro _ _ ⟨rfl,rfl⟩;refine ⟨_,_,by repeat constructor,by repeat constructor,?_⟩))|(refine a2g ?_;first|refine a0b (a0l rfl) rfl ?_|(refine k_g ?_;first|refine a1j rfl rfl (by with_reducible rfl) ?_|refine a1u rfl rfl (by with_reducible rfl) rfl ?_)|refine a0b (a0f rfl rfl) rfl ?_|(refine a1a ?_;first|refine a0b (a0u rfl rfl) rfl ?_)|(refine a1i ?_;first|refine a0b (a0j rfl (by with_reducible rfl) rfl) rfl ?_|refine a0b (a0i rfl (by with_reducible rfl) rfl) rfl ?_)|refine a0b (a0e rfl) rfl ?_|(refine a0d ?_;first|refine a0b (a0s rfl) rfl ?_)|refine a0v ?_|refine a2c rfl rfl rfl (by first|exact ln5) (by repeat constructor) rfl ?_|refine a0b (a1v rfl rfl rfl (by repeat constructor)) rfl ?_|refine a0b (a0w rfl (by with_reducible rfl)) rfl ?_|refine a0b (a1t rfl (by with_reducible rfl)) rfl ?_)|(first|refine a1k ?_|(refine a1l ?_;first|refine a0c (a0a ?_)|refine a0c ?_|refine a0a ?_|(refine a0y ?_;first|refine a0g rfl (by with_reducible rfl) ?_|refine a0h rfl (by with_reducible rfl) ?_)|refine a0o ?_|refine a0k ?_)|refine a0r ?_))
    refine ret1 (by first | exact .inr rfl | exact .inl rfl) rfl rfl ?_
    rw [hS]
    exact ⟨dmO X, _, rfl, rfl, X, hX, rfl, rfl⟩
set_option maxHeartbeats 4000000 in
set_option maxHeartbeats 4000000 in
theorem b1e {X : Dem} {at' : Int} {t : List UInt8} (hX : DemOk X) (ht0 : t.length ≤ 140737488351232) : ACalls (EE w0 base) 10 [.op 0 0, .int .i64 at', .str t] (dmO X) (DmR (arriveD X.ds at' t)) := by
  refine a3p (b9t hX ht0) ?_
  rintro rv os ⟨os1, ex, rfl, rfl, X', h1, rfl, h2⟩
  exact ⟨dmO X', ex, rfl, ⟨rfl, X', h1, rfl, h2⟩, rfl, b5a X', Nat.le_refl _⟩
theorem b9n {u c a : Int} : ACalls (EE w0 base) 8 [.int .i64 u, .int .i64 c, .int .i64 a] [] fun rv os => if (1 ≤ u ∧ u ≤ 16) ∧ (1 ≤ c ∧ c ≤ 64) ∧ 1 ≤ a ∧ a ≤ 64 then rv = .tup [.op 2 0, .int .i64 0] ∧ os = [.map [], .map [] true, .box [.int .i64 u, .int .i64 c, .int .i64 a, .mp 0, .mp 1]] else rv = .tup [.nilp, .int .i64 1] ∧ os = [] := by
  refine a1r Tryz.func8 rfl rfl rfl (.cons (.cons (.cons .nil))) ?_
  by_cases h : (1 ≤ u ∧ u ≤ 16) ∧ (1 ≤ c ∧ c ≤ 64) ∧ 1 ≤ a ∧ a ≤ 64
  · obtain ⟨⟨h1, h2⟩, ⟨h3, h4⟩, h5, h6⟩ := h
    repeat' (first|((refine a1d ?_;first|refine a0b (a1n rfl rfl rfl (by omega)) rfl ?_|refine a0b (a1o rfl rfl rfl (by omega)) rfl ?_))|(refine a2g ?_;first|refine a0b (a0l rfl) rfl ?_|(refine k_g ?_;first|refine a1j rfl rfl (by with_reducible rfl) ?_|refine a1u rfl rfl (by with_reducible rfl) rfl ?_)|(refine a1i ?_;first|refine a0b (a0j rfl (by with_reducible rfl) rfl) rfl ?_|refine a0b (a0i rfl (by with_reducible rfl) rfl) rfl ?_)|refine a0b (a0e rfl) rfl ?_|refine a0v ?_|refine a2c rfl rfl rfl (by first|exact ln0|exact ln1|exact ln2) (by repeat constructor) rfl ?_|refine a0b (a1v rfl rfl rfl (by repeat constructor)) rfl ?_|refine a9z (by first|exact ln0|exact ln1|exact ln2) (by repeat constructor) rfl ?_)|(first|refine a1k ?_|(refine a1l ?_;first|refine a0c (a0a ?_)|refine a0c ?_|refine a0a ?_|(refine a0y ?_;first|refine a0g rfl (by with_reducible rfl) ?_|refine a0h rfl (by with_reducible rfl) ?_)|refine a0o ?_|refine a0k ?_)|refine a0r ?_))
    refine a2l (.mapf (id := 1) (by repeat constructor)) ?_
    refine ret2 (by first | exact .inr rfl | exact .inl rfl) rfl rfl rfl ?_
    rw [if_pos ⟨⟨h1, h2⟩, ⟨h3, h4⟩, h5, h6⟩]
    exact ⟨rfl, rfl⟩
  · have h' : u < 1 ∨ (1 ≤ u ∧ 16 < u) ∨ (1 ≤ u ∧ u ≤ 16 ∧ c < 1) ∨ (1 ≤ u ∧ u ≤ 16 ∧ 1 ≤ c ∧ 64 < c) ∨ (1 ≤ u ∧ u ≤ 16 ∧ 1 ≤ c ∧ c ≤ 64 ∧ a < 1) ∨ (1 ≤ u ∧ u ≤ 16 ∧ 1 ≤ c ∧ c ≤ 64 ∧ 1 ≤ a ∧ 64 < a) := by omega
    rcases h' with h' | h' | h' | h' | h' | h'
    all_goals
      repeat' (first|((refine a1d ?_;first|refine a0b (a1n rfl rfl rfl (by omega)) rfl ?_|refine a0b (a1o rfl rfl rfl (by omega)) rfl ?_))|(refine a2g ?_;first|refine a0b (a0l rfl) rfl ?_|(refine k_g ?_;first|refine a1j rfl rfl (by with_reducible rfl) ?_|refine a1u rfl rfl (by with_reducible rfl) rfl ?_)|(refine a1i ?_;first|refine a0b (a0j rfl (by with_reducible rfl) rfl) rfl ?_|refine a0b (a0i rfl (by with_reducible rfl) rfl) rfl ?_)|refine a0b (a0e rfl) rfl ?_|refine a0v ?_|refine a2c rfl rfl rfl (by first|exact ln0|exact ln1|exact ln2) (by repeat constructor) rfl ?_|refine a0b (a1v rfl rfl rfl (by repeat constructor)) rfl ?_|refine a9z (by first|exact ln0|exact ln1|exact ln2) (by repeat constructor) rfl ?_)|(first|refine a1k ?_|(refine a1l ?_;first|refine a0c (a0a ?_)|refine a0c ?_|refine a0a ?_|(refine a0y ?_;first|refine a0g rfl (by with_reducible rfl) ?_|refine a0h rfl (by with_reducible rfl) ?_)|refine a0o ?_|refine a0k ?_)|refine a0r ?_))
      refine ret2 (by first | exact .inr rfl | exact .inl rfl) rfl rfl rfl ?_
      rw [if_neg h]
      exact ⟨rfl, rfl⟩
end
end Go.Proofs.YtkljmljkiodnpaaGreatDoor.L

namespace Go.Proofs.YtkljmljkiodnpaaGreatDoor.L
open Go Go.RowKit Go.Proofs
attribute [local irreducible] AL QL AWp Thn InB RetQ ACalls LoopQ HL HO HW HQ NoG JmpQ MidQ HF

def ReqR (X : Dem) (e : En) (x : Cn × At) (rv : AV) (os : List AO) : Prop := rv = .agg (atC x.2) ∧ ∃ m' ex, m' = upd X.m e.bc (cnC e.bp (paE e) x.1) ∧ os = [AO.box [.int .i64 X.users, .int .i64 X.conns, .int .i64 X.asks, .mp 1, .mp 2], .map (X.l.map enK), .map (X.ss.map ssK) true, .hp m'] ++ ex
section
variable {w0 : World} {base : Nat}
set_option maxHeartbeats 32000000 in
theorem c1u {X : Dem} {i : Nat} {e : En} {h : Hd} {b : List UInt8} (hG : Tabs w0 base) (hX : DemOk X) (hi : X.l[i]? = some e) (hg : GoodH h) (hb : b.length ≤ 65536) :
    ACalls (EE w0 base) 33 [.op 0 0, .ad e.bc 0, .agg (rqCs h b)] (dmO X) (ReqR X e (requestC X.ds e.c h b)) := by
  have hm := (hX.rep.ok i e hi).c
  have hm2 : X.m e.bc = some [.ad e.bp 0, .int .i64 e.c.user, .bool e.c.closed, .bool e.c.lost, .bool e.c.waits, .int .i64 e.c.asks, .bool e.c.ends, paE e] := hm
  obtain ⟨CL, hCL⟩ : ∃ CL, CL = closesS h := ⟨_, rfl⟩
  have hLo := c4f (w0 := w0) (base := base) (h := h) hG hb hm
  have hT := b7b (w0 := w0) (base := base) (b := b) hG.g hg
  have hPl1 := a4l (w0 := w0) (base := base) (st := 401) (b := []) (cl := closesS h)
  have hPl3 := a4l (w0 := w0) (base := base) (st := 403) (b := []) (cl := closesS h)
  have hPl5 := a4l (w0 := w0) (base := base) (st := 503) (b := []) (cl := closesS h)
  have hPlT := a4l (w0 := w0) (base := base) (st := 503) (b := []) (cl := true)
  have hE1 := a4g (w0 := w0) (base := base) hG (a4e 401 (closesS h)) hm
  have hE3 := a4g (w0 := w0) (base := base) hG (a4e 403 (closesS h)) hm
  have hET := a4g (w0 := w0) (base := base) hG (a4e 503 true) hm
  have hE5 := a4g (w0 := w0) (base := base) hG (a4e 503 (closesS h)) hm
  have hXo : X.ds.ss = X.ss ∧ X.ds.l = lcE X.l ∧ X.ds.conns = X.conns ∧ X.ds.asks = X.asks := ⟨rfl, rfl, rfl, rfl⟩
  have hR : requestC X.ds e.c h b = (if h.m = postS ∧ tgtP h.t = loginS then loginC e.c h b
    else match sget (tokenS h) X.ss with
      | none => emitsC e.c (plR 401 (closesS h))
      | some u => if e.c.user ≠ -1 ∧ e.c.user ≠ u then emitsC e.c (plR 403 (closesS h))
        else if e.c.user = -1 ∧ X.conns ≤ cntC (lcE X.l) u then emitsC e.c (plR 503 true)
        else if h.m = postS ∧ tgtP h.t = logoutS then handsC { e.c with user := u } (closesS h) (-1) { at0 with kind := 3, token := tokenS h, user := u }
        else if X.asks ≤ cntA (lcE X.l) u then emitsC { e.c with user := u } (plR 503 (closesS h))
        else handsC { e.c with user := u } (closesS h) u { at0 with kind := 4, user := u, rq := some (h, b) }) := rfl
  refine a1r Tryz.func33 rfl rfl rfl (.cons (.cons (.cons .nil))) ?_
  by_cases hP : h.m = postS
  · by_cases hL : tgtP h.t = loginS
    · rw [if_pos ⟨hP, hL⟩] at hR
      obtain ⟨⟨c1, a1⟩, hc1⟩ : ∃ p, p = loginC e.c h b := ⟨_, rfl⟩
      rw [← hc1] at hLo hR
      rw [hR]
      clear hR hc1
      obtain ⟨ak, ao, acl, au, atk, an, aw, rq⟩ := a1
      rcases rq with _ | ⟨h', b'⟩
      all_goals
        repeat' (first|(first|refine a0b (a1c (n := 0) rfl rfl) rfl ?_|(refine a1a ?_;refine a0b (a2b (id := 3) rfl rfl hm2 rfl) rfl ?_)|(refine a1d ?_;first|refine a0b (a1n rfl rfl rfl (by omega)) rfl ?_|refine a0b (a1o rfl rfl rfl (by omega)) rfl ?_|refine a0b (a2h (n := postS) hP rfl rfl) rfl ?_|refine a0b (a2i (n := postS) hP rfl rfl) rfl ?_|refine a0b (a2h (n := loginS) hL rfl rfl) rfl ?_|refine a0b (a2i (n := loginS) hL rfl rfl) rfl ?_|refine a0b (a2h (n := logoutS) hO rfl rfl) rfl ?_|refine a0b (a2i (n := logoutS) hO rfl rfl) rfl ?_)|(refine a0d ?_;refine a0t [3] rfl rfl hLo ?_ ?_ rfl rfl ?_;(focus ((repeat constructor);done));(focus ((repeat constructor);done));rintro _ _ ⟨rfl,rfl⟩;refine ⟨_,_,by repeat constructor,by repeat constructor,?_⟩))|(refine a2g ?_;first|refine a0b (a0l rfl) rfl ?_|(refine k_g ?_;first|refine a1j rfl rfl (by with_reducible rfl) ?_|refine a1w rfl rfl (by with_reducible rfl) rfl ?_)|refine a0b (a0f rfl rfl) rfl ?_|(refine a1a ?_;first|refine a0b (a0u rfl rfl) rfl ?_|refine a0b (a0m rfl rfl rfl) rfl ?_)|(refine a1i ?_;first|refine a0b (a0j rfl (by with_reducible rfl) rfl) rfl ?_|refine a0b (a0i rfl (by with_reducible rfl) rfl) rfl ?_)|refine a0b (a0e rfl) rfl ?_|refine a0b (a0p rfl rfl) rfl ?_|refine a0v ?_|refine a2c rfl rfl rfl (by first|exact ln4|exact ln5) (by repeat constructor) rfl ?_|refine a1b rfl rfl rfl (by first|exact ln4|exact ln5) (by repeat constructor) rfl ?_|refine a0z rfl rfl rfl rfl rfl (by repeat constructor) (by repeat constructor) ?_|refine a0b (a1v rfl rfl rfl (by repeat constructor)) rfl ?_|refine a0b (a0w rfl (by with_reducible rfl)) rfl ?_|refine a0b (a1t rfl (by with_reducible rfl)) rfl ?_)|(first|refine a1k ?_|(refine a1l ?_;first|refine a0c (a0a ?_)|refine a0c ?_|refine a0a ?_|(refine a0y ?_;first|refine a0g rfl (by with_reducible rfl) ?_|refine a0h rfl (by with_reducible rfl) ?_)|refine a0o ?_|refine a0k ?_)|refine a0r ?_))
        refine retc0 (by first | exact .inr rfl | exact .inl rfl) rfl rfl rfl rfl ?_
        exact ⟨rfl, _, _, rfl, rfl⟩
    rw [if_neg (fun k => hL k.2)] at hR
    have hs := b3g (tokenS h) X.ss
    cases hq : sget (tokenS h) X.ss with
    | none =>
      rw [hq] at hs hR
      dsimp only [Option.map_none] at hs hR
      repeat' (first|(first|refine a0b (a1c (n := 0) rfl rfl) rfl ?_|(refine a1a ?_;refine a0b (a2b (id := 3) rfl rfl hm2 rfl) rfl ?_)|(refine a1d ?_;first|refine a0b (a1n rfl rfl rfl (by omega)) rfl ?_|refine a0b (a1o rfl rfl rfl (by omega)) rfl ?_|refine a0b (a2h (n := postS) hP rfl rfl) rfl ?_|refine a0b (a2i (n := postS) hP rfl rfl) rfl ?_|refine a0b (a2h (n := loginS) hL rfl rfl) rfl ?_|refine a0b (a2i (n := loginS) hL rfl rfl) rfl ?_|refine a0b (a2h (n := logoutS) hO rfl rfl) rfl ?_|refine a0b (a2i (n := logoutS) hO rfl rfl) rfl ?_)|(refine a0d ?_;refine a0q rfl rfl rfl rfl hT ?_;rintro _ rfl)|refine a0b (a6w rfl rfl rfl .str (a4c _) hs rfl) rfl ?_|(refine a0d ?_;refine a0q rfl rfl rfl rfl hPl1 ?_;rintro _ rfl)|(refine a0d ?_;refine a0t [3] rfl rfl hE1 ?_ ?_ rfl rfl ?_;(focus ((repeat constructor);done));(focus ((repeat constructor);done));rintro _ _ ⟨rfl,rfl⟩;refine ⟨_,_,by repeat constructor,by repeat constructor,?_⟩))|(refine a2g ?_;first|refine a0b (a0l rfl) rfl ?_|(refine k_g ?_;first|refine a1j rfl rfl (by with_reducible rfl) ?_|refine a1w rfl rfl (by with_reducible rfl) rfl ?_)|refine a0b (a0f rfl rfl) rfl ?_|(refine a1a ?_;first|refine a0b (a0u rfl rfl) rfl ?_|refine a0b (a0m rfl rfl rfl) rfl ?_)|(refine a1i ?_;first|refine a0b (a0j rfl (by with_reducible rfl) rfl) rfl ?_|refine a0b (a0i rfl (by with_reducible rfl) rfl) rfl ?_)|refine a0b (a0e rfl) rfl ?_|refine a0b (a0p rfl rfl) rfl ?_|refine a0v ?_|refine a2c rfl rfl rfl (by first|exact ln4|exact ln5) (by repeat constructor) rfl ?_|refine a1b rfl rfl rfl (by first|exact ln4|exact ln5) (by repeat constructor) rfl ?_|refine a0z rfl rfl rfl rfl rfl (by repeat constructor) (by repeat constructor) ?_|refine a0b (a1v rfl rfl rfl (by repeat constructor)) rfl ?_|refine a0b (a0w rfl (by with_reducible rfl)) rfl ?_|refine a0b (a1t rfl (by with_reducible rfl)) rfl ?_)|(first|refine a1k ?_|(refine a1l ?_;first|refine a0c (a0a ?_)|refine a0c ?_|refine a0a ?_|(refine a0y ?_;first|refine a0g rfl (by with_reducible rfl) ?_|refine a0h rfl (by with_reducible rfl) ?_)|refine a0o ?_|refine a0k ?_)|refine a0r ?_))
      refine retc0 (by first | exact .inr rfl | exact .inl rfl) rfl rfl rfl rfl ?_
      rw [hR]
      exact ⟨rfl, _, _, rfl, rfl⟩
    | some u =>
      rw [hq] at hs hR
      dsimp only [Option.map_some] at hs hR
      have hu := hX.ss _ (b0e hq)
      dsimp only at hu
      have hC := b5e (w0 := w0) (base := base) (u := u) hX
      unfold cntAV at hC
      rw [show countsD X.ds u = (cntC (lcE X.l) u, cntA (lcE X.l) u) from if_pos ⟨hu.2.1, hu.2.2⟩] at hC
      dsimp only at hC
      obtain ⟨nc, hnc⟩ : ∃ nc, cntC (lcE X.l) u = nc := ⟨_, rfl⟩
      obtain ⟨na, hna⟩ : ∃ na, cntA (lcE X.l) u = na := ⟨_, rfl⟩
      rw [hnc, hna] at hC hR
      by_cases h3 : e.c.user ≠ -1 ∧ e.c.user ≠ u
      · rw [if_pos h3] at hR
        obtain ⟨h3a, h3b⟩ := h3
        repeat' (first|(first|refine a0b (a1c (n := 0) rfl rfl) rfl ?_|(refine a1a ?_;refine a0b (a2b (id := 3) rfl rfl hm2 rfl) rfl ?_)|(refine a1d ?_;first|refine a0b (a1n rfl rfl rfl (by omega)) rfl ?_|refine a0b (a1o rfl rfl rfl (by omega)) rfl ?_|refine a0b (a2h (n := postS) hP rfl rfl) rfl ?_|refine a0b (a2i (n := postS) hP rfl rfl) rfl ?_|refine a0b (a2h (n := loginS) hL rfl rfl) rfl ?_|refine a0b (a2i (n := loginS) hL rfl rfl) rfl ?_|refine a0b (a2h (n := logoutS) hO rfl rfl) rfl ?_|refine a0b (a2i (n := logoutS) hO rfl rfl) rfl ?_)|(refine a0d ?_;refine a0q rfl rfl rfl rfl hT ?_;rintro _ rfl)|refine a0b (a3a rfl rfl rfl .str (a4c _) hs) rfl ?_|(refine a0d ?_;refine a0q rfl rfl rfl rfl hPl3 ?_;rintro _ rfl)|(refine a0d ?_;refine a0t [3] rfl rfl hE3 ?_ ?_ rfl rfl ?_;(focus ((repeat constructor);done));(focus ((repeat constructor);done));rintro _ _ ⟨rfl,rfl⟩;refine ⟨_,_,by repeat constructor,by repeat constructor,?_⟩))|(refine a2g ?_;first|refine a0b (a0l rfl) rfl ?_|(refine k_g ?_;first|refine a1j rfl rfl (by with_reducible rfl) ?_|refine a1w rfl rfl (by with_reducible rfl) rfl ?_)|refine a0b (a0f rfl rfl) rfl ?_|(refine a1a ?_;first|refine a0b (a0u rfl rfl) rfl ?_|refine a0b (a0m rfl rfl rfl) rfl ?_)|(refine a1i ?_;first|refine a0b (a0j rfl (by with_reducible rfl) rfl) rfl ?_|refine a0b (a0i rfl (by with_reducible rfl) rfl) rfl ?_)|refine a0b (a0e rfl) rfl ?_|refine a0b (a0p rfl rfl) rfl ?_|refine a0v ?_|refine a2c rfl rfl rfl (by first|exact ln4|exact ln5) (by repeat constructor) rfl ?_|refine a1b rfl rfl rfl (by first|exact ln4|exact ln5) (by repeat constructor) rfl ?_|refine a0z rfl rfl rfl rfl rfl (by repeat constructor) (by repeat constructor) ?_|refine a0b (a1v rfl rfl rfl (by repeat constructor)) rfl ?_|refine a0b (a0w rfl (by with_reducible rfl)) rfl ?_|refine a0b (a1t rfl (by with_reducible rfl)) rfl ?_)|(first|refine a1k ?_|(refine a1l ?_;first|refine a0c (a0a ?_)|refine a0c ?_|refine a0a ?_|(refine a0y ?_;first|refine a0g rfl (by with_reducible rfl) ?_|refine a0h rfl (by with_reducible rfl) ?_)|refine a0o ?_|refine a0k ?_)|refine a0r ?_))
        refine retc0 (by first | exact .inr rfl | exact .inl rfl) rfl rfl rfl rfl ?_
        rw [hR]
        exact ⟨rfl, _, _, rfl, rfl⟩
      rw [if_neg h3] at hR
      by_cases hu1 : e.c.user = -1
      · by_cases h5 : X.conns ≤ nc
        · rw [if_pos ⟨hu1, h5⟩] at hR
          repeat' (first|(first|refine a0b (a1c (n := 0) rfl rfl) rfl ?_|(refine a1a ?_;refine a0b (a2b (id := 3) rfl rfl hm2 rfl) rfl ?_)|(refine a1d ?_;first|refine a0b (a1n rfl rfl rfl (by omega)) rfl ?_|refine a0b (a1o rfl rfl rfl (by omega)) rfl ?_|refine a0b (a2h (n := postS) hP rfl rfl) rfl ?_|refine a0b (a2i (n := postS) hP rfl rfl) rfl ?_|refine a0b (a2h (n := loginS) hL rfl rfl) rfl ?_|refine a0b (a2i (n := loginS) hL rfl rfl) rfl ?_|refine a0b (a2h (n := logoutS) hO rfl rfl) rfl ?_|refine a0b (a2i (n := logoutS) hO rfl rfl) rfl ?_)|(refine a0d ?_;refine a0q rfl rfl rfl rfl hT ?_;rintro _ rfl)|refine a0b (a3a rfl rfl rfl .str (a4c _) hs) rfl ?_|(refine a0d ?_;refine a0t [0,1,2,3] rfl rfl hC ?_ ?_ rfl rfl ?_;(focus ((repeat constructor);done));(focus ((repeat constructor);done));rintro _ _ ⟨rfl,rfl⟩;refine ⟨_,_,by repeat constructor,by repeat constructor,?_⟩)|(refine a0d ?_;refine a0q rfl rfl rfl rfl hPlT ?_;rintro _ rfl)|(refine a0d ?_;refine a0t [3] rfl rfl hET ?_ ?_ rfl rfl ?_;(focus ((repeat constructor);done));(focus ((repeat constructor);done));rintro _ _ ⟨rfl,rfl⟩;refine ⟨_,_,by repeat constructor,by repeat constructor,?_⟩))|(refine a2g ?_;first|refine a0b (a0l rfl) rfl ?_|(refine k_g ?_;first|refine a1j rfl rfl (by with_reducible rfl) ?_|refine a1w rfl rfl (by with_reducible rfl) rfl ?_)|refine a0b (a0f rfl rfl) rfl ?_|(refine a1a ?_;first|refine a0b (a0u rfl rfl) rfl ?_|refine a0b (a0m rfl rfl rfl) rfl ?_)|(refine a1i ?_;first|refine a0b (a0j rfl (by with_reducible rfl) rfl) rfl ?_|refine a0b (a0i rfl (by with_reducible rfl) rfl) rfl ?_)|refine a0b (a0e rfl) rfl ?_|refine a0b (a0p rfl rfl) rfl ?_|refine a0v ?_|refine a2c rfl rfl rfl (by first|exact ln4|exact ln5) (by repeat constructor) rfl ?_|refine a1b rfl rfl rfl (by first|exact ln4|exact ln5) (by repeat constructor) rfl ?_|refine a0z rfl rfl rfl rfl rfl (by repeat constructor) (by repeat constructor) ?_|refine a0b (a1v rfl rfl rfl (by repeat constructor)) rfl ?_|refine a0b (a0w rfl (by with_reducible rfl)) rfl ?_|refine a0b (a1t rfl (by with_reducible rfl)) rfl ?_)|(first|refine a1k ?_|(refine a1l ?_;first|refine a0c (a0a ?_)|refine a0c ?_|refine a0a ?_|(refine a0y ?_;first|refine a0g rfl (by with_reducible rfl) ?_|refine a0h rfl (by with_reducible rfl) ?_)|refine a0o ?_|refine a0k ?_)|refine a0r ?_))
          refine retc0 (by first | exact .inr rfl | exact .inl rfl) rfl rfl rfl rfl ?_
          rw [hR]
          exact ⟨rfl, _, _, rfl, rfl⟩
        rw [if_neg (fun k => h5 k.2)] at hR
        have hm3 : upd X.m e.bc [.ad e.bp 0, .int .i64 u, .bool e.c.closed, .bool e.c.lost, .bool e.c.waits, .int .i64 e.c.asks, .bool e.c.ends, paE e] e.bc = some (cnC e.bp (paE e) { e.c with user := u }) := a2r
        have hH3 := a5i (w0 := w0) (base := base) (h := h) (b := b) (u := -1) (a := { at0 with kind := 3, token := tokenS h, user := u }) hm3
        have hH4 := a5i (w0 := w0) (base := base) (h := h) (b := b) (u := u) (a := { at0 with kind := 4, user := u, rq := some (h, b) }) hm3
        have hE6 := a4g (w0 := w0) (base := base) hG (a4e 503 (closesS h)) hm3
        by_cases hO : tgtP h.t = logoutS
        · rw [if_pos ⟨hP, hO⟩] at hR
          repeat' (first|(first|refine a0b (a1c (n := 0) rfl rfl) rfl ?_|(refine a1a ?_;refine a0b (a2b (id := 3) rfl rfl hm2 rfl) rfl ?_)|(refine a1d ?_;first|refine a0b (a1n rfl rfl rfl (by omega)) rfl ?_|refine a0b (a1o rfl rfl rfl (by omega)) rfl ?_|refine a0b (a2h (n := postS) hP rfl rfl) rfl ?_|refine a0b (a2i (n := postS) hP rfl rfl) rfl ?_|refine a0b (a2h (n := loginS) hL rfl rfl) rfl ?_|refine a0b (a2i (n := loginS) hL rfl rfl) rfl ?_|refine a0b (a2h (n := logoutS) hO rfl rfl) rfl ?_|refine a0b (a2i (n := logoutS) hO rfl rfl) rfl ?_)|(refine a0d ?_;refine a0q rfl rfl rfl rfl hT ?_;rintro _ rfl)|refine a0b (a3a rfl rfl rfl .str (a4c _) hs) rfl ?_|(refine a0d ?_;refine a0t [0,1,2,3] rfl rfl hC ?_ ?_ rfl rfl ?_;(focus ((repeat constructor);done));(focus ((repeat constructor);done));rintro _ _ ⟨rfl,rfl⟩;refine ⟨_,_,by repeat constructor,by repeat constructor,?_⟩)|refine a3f (id := 3) rfl rfl rfl rfl rfl rfl rfl hm2 (by repeat constructor) (by repeat constructor) ?_|(refine a4p (.le 96 (.agg (atC ({ at0 with kind := 3,token := tokenS h,user := u } : At))) rfl (.agg (by repeat (first|exact .nil|refine .cons .nil ?_|refine .cons (.refl _) ?_)))) ?_;(refine a0d ?_;refine a0t [3] rfl rfl hH3 ?_ ?_ rfl rfl ?_;(focus ((repeat constructor);done));(focus ((repeat constructor);done));rintro _ _ ⟨rfl,rfl⟩;refine ⟨_,_,by repeat constructor,by repeat constructor,?_⟩)))|(refine a2g ?_;first|refine a0b (a0l rfl) rfl ?_|(refine k_g ?_;first|refine a1j rfl rfl (by with_reducible rfl) ?_|refine a1w rfl rfl (by with_reducible rfl) rfl ?_)|refine a0b (a0f rfl rfl) rfl ?_|(refine a1a ?_;first|refine a0b (a0u rfl rfl) rfl ?_|refine a0b (a0m rfl rfl rfl) rfl ?_)|(refine a1i ?_;first|refine a0b (a0j rfl (by with_reducible rfl) rfl) rfl ?_|refine a0b (a0i rfl (by with_reducible rfl) rfl) rfl ?_)|refine a0b (a0e rfl) rfl ?_|refine a0b (a0p rfl rfl) rfl ?_|refine a0v ?_|refine a2c rfl rfl rfl (by first|exact ln4|exact ln5) (by repeat constructor) rfl ?_|refine a1b rfl rfl rfl (by first|exact ln4|exact ln5) (by repeat constructor) rfl ?_|refine a0z rfl rfl rfl rfl rfl (by repeat constructor) (by repeat constructor) ?_|refine a0b (a1v rfl rfl rfl (by repeat constructor)) rfl ?_|refine a0b (a0w rfl (by with_reducible rfl)) rfl ?_|refine a0b (a1t rfl (by with_reducible rfl)) rfl ?_)|(first|refine a1k ?_|(refine a1l ?_;first|refine a0c (a0a ?_)|refine a0c ?_|refine a0a ?_|(refine a0y ?_;first|refine a0g rfl (by with_reducible rfl) ?_|refine a0h rfl (by with_reducible rfl) ?_)|refine a0o ?_|refine a0k ?_)|refine a0r ?_))
          refine retc0 (by first | exact .inr rfl | exact .inl rfl) rfl rfl rfl rfl ?_
          rw [hR]
          exact ⟨rfl, _, _, a5m, rfl⟩
        rw [if_neg (fun k => hO k.2)] at hR
        by_cases h6 : X.asks ≤ na
        · rw [if_pos h6] at hR
          repeat' (first|(first|refine a0b (a1c (n := 0) rfl rfl) rfl ?_|(refine a1a ?_;refine a0b (a2b (id := 3) rfl rfl hm2 rfl) rfl ?_)|(refine a1d ?_;first|refine a0b (a1n rfl rfl rfl (by omega)) rfl ?_|refine a0b (a1o rfl rfl rfl (by omega)) rfl ?_|refine a0b (a2h (n := postS) hP rfl rfl) rfl ?_|refine a0b (a2i (n := postS) hP rfl rfl) rfl ?_|refine a0b (a2h (n := loginS) hL rfl rfl) rfl ?_|refine a0b (a2i (n := loginS) hL rfl rfl) rfl ?_|refine a0b (a2h (n := logoutS) hO rfl rfl) rfl ?_|refine a0b (a2i (n := logoutS) hO rfl rfl) rfl ?_)|(refine a0d ?_;refine a0q rfl rfl rfl rfl hT ?_;rintro _ rfl)|refine a0b (a3a rfl rfl rfl .str (a4c _) hs) rfl ?_|(refine a0d ?_;refine a0t [0,1,2,3] rfl rfl hC ?_ ?_ rfl rfl ?_;(focus ((repeat constructor);done));(focus ((repeat constructor);done));rintro _ _ ⟨rfl,rfl⟩;refine ⟨_,_,by repeat constructor,by repeat constructor,?_⟩)|refine a3f (id := 3) rfl rfl rfl rfl rfl rfl rfl hm2 (by repeat constructor) (by repeat constructor) ?_|(refine a0d ?_;refine a0q rfl rfl rfl rfl hPl5 ?_;rintro _ rfl)|(refine a0d ?_;refine a0t [3] rfl rfl hE6 ?_ ?_ rfl rfl ?_;(focus ((repeat constructor);done));(focus ((repeat constructor);done));rintro _ _ ⟨rfl,rfl⟩;refine ⟨_,_,by repeat constructor,by repeat constructor,?_⟩))|(refine a2g ?_;first|refine a0b (a0l rfl) rfl ?_|(refine k_g ?_;first|refine a1j rfl rfl (by with_reducible rfl) ?_|refine a1w rfl rfl (by with_reducible rfl) rfl ?_)|refine a0b (a0f rfl rfl) rfl ?_|(refine a1a ?_;first|refine a0b (a0u rfl rfl) rfl ?_|refine a0b (a0m rfl rfl rfl) rfl ?_)|(refine a1i ?_;first|refine a0b (a0j rfl (by with_reducible rfl) rfl) rfl ?_|refine a0b (a0i rfl (by with_reducible rfl) rfl) rfl ?_)|refine a0b (a0e rfl) rfl ?_|refine a0b (a0p rfl rfl) rfl ?_|refine a0v ?_|refine a2c rfl rfl rfl (by first|exact ln4|exact ln5) (by repeat constructor) rfl ?_|refine a1b rfl rfl rfl (by first|exact ln4|exact ln5) (by repeat constructor) rfl ?_|refine a0z rfl rfl rfl rfl rfl (by repeat constructor) (by repeat constructor) ?_|refine a0b (a1v rfl rfl rfl (by repeat constructor)) rfl ?_|refine a0b (a0w rfl (by with_reducible rfl)) rfl ?_|refine a0b (a1t rfl (by with_reducible rfl)) rfl ?_)|(first|refine a1k ?_|(refine a1l ?_;first|refine a0c (a0a ?_)|refine a0c ?_|refine a0a ?_|(refine a0y ?_;first|refine a0g rfl (by with_reducible rfl) ?_|refine a0h rfl (by with_reducible rfl) ?_)|refine a0o ?_|refine a0k ?_)|refine a0r ?_))
          refine retc0 (by first | exact .inr rfl | exact .inl rfl) rfl rfl rfl rfl ?_
          rw [hR]
          exact ⟨rfl, _, _, a5m, rfl⟩
        · rw [if_neg h6] at hR
          repeat' (first|(first|refine a0b (a1c (n := 0) rfl rfl) rfl ?_|(refine a1a ?_;refine a0b (a2b (id := 3) rfl rfl hm2 rfl) rfl ?_)|(refine a1d ?_;first|refine a0b (a1n rfl rfl rfl (by omega)) rfl ?_|refine a0b (a1o rfl rfl rfl (by omega)) rfl ?_|refine a0b (a2h (n := postS) hP rfl rfl) rfl ?_|refine a0b (a2i (n := postS) hP rfl rfl) rfl ?_|refine a0b (a2h (n := loginS) hL rfl rfl) rfl ?_|refine a0b (a2i (n := loginS) hL rfl rfl) rfl ?_|refine a0b (a2h (n := logoutS) hO rfl rfl) rfl ?_|refine a0b (a2i (n := logoutS) hO rfl rfl) rfl ?_)|(refine a0d ?_;refine a0q rfl rfl rfl rfl hT ?_;rintro _ rfl)|refine a0b (a3a rfl rfl rfl .str (a4c _) hs) rfl ?_|(refine a0d ?_;refine a0t [0,1,2,3] rfl rfl hC ?_ ?_ rfl rfl ?_;(focus ((repeat constructor);done));(focus ((repeat constructor);done));rintro _ _ ⟨rfl,rfl⟩;refine ⟨_,_,by repeat constructor,by repeat constructor,?_⟩)|refine a3f (id := 3) rfl rfl rfl rfl rfl rfl rfl hm2 (by repeat constructor) (by repeat constructor) ?_|(refine a0d ?_;refine a0t [3] rfl rfl hH4 ?_ ?_ rfl rfl ?_;(focus ((repeat constructor);done));(focus ((repeat constructor);done));rintro _ _ ⟨rfl,rfl⟩;refine ⟨_,_,by repeat constructor,by repeat constructor,?_⟩))|(refine a2g ?_;first|refine a0b (a0l rfl) rfl ?_|(refine k_g ?_;first|refine a1j rfl rfl (by with_reducible rfl) ?_|refine a1w rfl rfl (by with_reducible rfl) rfl ?_)|refine a0b (a0f rfl rfl) rfl ?_|(refine a1a ?_;first|refine a0b (a0u rfl rfl) rfl ?_|refine a0b (a0m rfl rfl rfl) rfl ?_)|(refine a1i ?_;first|refine a0b (a0j rfl (by with_reducible rfl) rfl) rfl ?_|refine a0b (a0i rfl (by with_reducible rfl) rfl) rfl ?_)|refine a0b (a0e rfl) rfl ?_|refine a0b (a0p rfl rfl) rfl ?_|refine a0v ?_|refine a2c rfl rfl rfl (by first|exact ln4|exact ln5) (by repeat constructor) rfl ?_|refine a1b rfl rfl rfl (by first|exact ln4|exact ln5) (by repeat constructor) rfl ?_|refine a0z rfl rfl rfl rfl rfl (by repeat constructor) (by repeat constructor) ?_|refine a0b (a1v rfl rfl rfl (by repeat constructor)) rfl ?_|refine a0b (a0w rfl (by with_reducible rfl)) rfl ?_|refine a0b (a1t rfl (by with_reducible rfl)) rfl ?_)|(first|refine a1k ?_|(refine a1l ?_;first|refine a0c (a0a ?_)|refine a0c ?_|refine a0a ?_|(refine a0y ?_;first|refine a0g rfl (by with_reducible rfl) ?_|refine a0h rfl (by with_reducible rfl) ?_)|refine a0o ?_|refine a0k ?_)|refine a0r ?_))
          refine retc0 (by first | exact .inr rfl | exact .inl rfl) rfl rfl rfl rfl ?_
          rw [hR]
          exact ⟨rfl, _, _, a5m, rfl⟩
      · have hu2 : e.c.user = u := Classical.byContradiction fun k => h3 ⟨hu1, k⟩
        rw [if_neg (fun k => hu1 k.1)] at hR
        have hcu : { e.c with user := u } = e.c := by rw [← hu2]
        rw [hcu] at hR
        have hH3 := a5i (w0 := w0) (base := base) (h := h) (b := b) (u := -1) (a := { at0 with kind := 3, token := tokenS h, user := u }) hm
        have hH4 := a5i (w0 := w0) (base := base) (h := h) (b := b) (u := u) (a := { at0 with kind := 4, user := u, rq := some (h, b) }) hm
        have hE6 := a4g (w0 := w0) (base := base) hG (a4e 503 (closesS h)) hm
        by_cases hO : tgtP h.t = logoutS
        · rw [if_pos ⟨hP, hO⟩] at hR
          repeat' (first|(first|refine a0b (a1c (n := 0) rfl rfl) rfl ?_|(refine a1a ?_;refine a0b (a2b (id := 3) rfl rfl hm2 rfl) rfl ?_)|(refine a1d ?_;first|refine a0b (a1n rfl rfl rfl (by omega)) rfl ?_|refine a0b (a1o rfl rfl rfl (by omega)) rfl ?_|refine a0b (a2h (n := postS) hP rfl rfl) rfl ?_|refine a0b (a2i (n := postS) hP rfl rfl) rfl ?_|refine a0b (a2h (n := loginS) hL rfl rfl) rfl ?_|refine a0b (a2i (n := loginS) hL rfl rfl) rfl ?_|refine a0b (a2h (n := logoutS) hO rfl rfl) rfl ?_|refine a0b (a2i (n := logoutS) hO rfl rfl) rfl ?_)|(refine a0d ?_;refine a0q rfl rfl rfl rfl hT ?_;rintro _ rfl)|refine a0b (a3a rfl rfl rfl .str (a4c _) hs) rfl ?_|(refine a0d ?_;refine a0t [0,1,2,3] rfl rfl hC ?_ ?_ rfl rfl ?_;(focus ((repeat constructor);done));(focus ((repeat constructor);done));rintro _ _ ⟨rfl,rfl⟩;refine ⟨_,_,by repeat constructor,by repeat constructor,?_⟩)|(refine a4p (.le 96 (.agg (atC ({ at0 with kind := 3,token := tokenS h,user := u } : At))) rfl (.agg (by repeat (first|exact .nil|refine .cons .nil ?_|refine .cons (.refl _) ?_)))) ?_;(refine a0d ?_;refine a0t [3] rfl rfl hH3 ?_ ?_ rfl rfl ?_;(focus ((repeat constructor);done));(focus ((repeat constructor);done));rintro _ _ ⟨rfl,rfl⟩;refine ⟨_,_,by repeat constructor,by repeat constructor,?_⟩)))|(refine a2g ?_;first|refine a0b (a0l rfl) rfl ?_|(refine k_g ?_;first|refine a1j rfl rfl (by with_reducible rfl) ?_|refine a1w rfl rfl (by with_reducible rfl) rfl ?_)|refine a0b (a0f rfl rfl) rfl ?_|(refine a1a ?_;first|refine a0b (a0u rfl rfl) rfl ?_|refine a0b (a0m rfl rfl rfl) rfl ?_)|(refine a1i ?_;first|refine a0b (a0j rfl (by with_reducible rfl) rfl) rfl ?_|refine a0b (a0i rfl (by with_reducible rfl) rfl) rfl ?_)|refine a0b (a0e rfl) rfl ?_|refine a0b (a0p rfl rfl) rfl ?_|refine a0v ?_|refine a2c rfl rfl rfl (by first|exact ln4|exact ln5) (by repeat constructor) rfl ?_|refine a1b rfl rfl rfl (by first|exact ln4|exact ln5) (by repeat constructor) rfl ?_|refine a0z rfl rfl rfl rfl rfl (by repeat constructor) (by repeat constructor) ?_|refine a0b (a1v rfl rfl rfl (by repeat constructor)) rfl ?_|refine a0b (a0w rfl (by with_reducible rfl)) rfl ?_|refine a0b (a1t rfl (by with_reducible rfl)) rfl ?_)|(first|refine a1k ?_|(refine a1l ?_;first|refine a0c (a0a ?_)|refine a0c ?_|refine a0a ?_|(refine a0y ?_;first|refine a0g rfl (by with_reducible rfl) ?_|refine a0h rfl (by with_reducible rfl) ?_)|refine a0o ?_|refine a0k ?_)|refine a0r ?_))
          refine retc0 (by first | exact .inr rfl | exact .inl rfl) rfl rfl rfl rfl ?_
          rw [hR]
          exact ⟨rfl, _, _, rfl, rfl⟩
        rw [if_neg (fun k => hO k.2)] at hR
        by_cases h6 : X.asks ≤ na
        · rw [if_pos h6] at hR
          repeat' (first|(first|refine a0b (a1c (n := 0) rfl rfl) rfl ?_|(refine a1a ?_;refine a0b (a2b (id := 3) rfl rfl hm2 rfl) rfl ?_)|(refine a1d ?_;first|refine a0b (a1n rfl rfl rfl (by omega)) rfl ?_|refine a0b (a1o rfl rfl rfl (by omega)) rfl ?_|refine a0b (a2h (n := postS) hP rfl rfl) rfl ?_|refine a0b (a2i (n := postS) hP rfl rfl) rfl ?_|refine a0b (a2h (n := loginS) hL rfl rfl) rfl ?_|refine a0b (a2i (n := loginS) hL rfl rfl) rfl ?_|refine a0b (a2h (n := logoutS) hO rfl rfl) rfl ?_|refine a0b (a2i (n := logoutS) hO rfl rfl) rfl ?_)|(refine a0d ?_;refine a0q rfl rfl rfl rfl hT ?_;rintro _ rfl)|refine a0b (a3a rfl rfl rfl .str (a4c _) hs) rfl ?_|(refine a0d ?_;refine a0t [0,1,2,3] rfl rfl hC ?_ ?_ rfl rfl ?_;(focus ((repeat constructor);done));(focus ((repeat constructor);done));rintro _ _ ⟨rfl,rfl⟩;refine ⟨_,_,by repeat constructor,by repeat constructor,?_⟩)|(refine a0d ?_;refine a0q rfl rfl rfl rfl hPl5 ?_;rintro _ rfl)|(refine a0d ?_;refine a0t [3] rfl rfl hE6 ?_ ?_ rfl rfl ?_;(focus ((repeat constructor);done));(focus ((repeat constructor);done));rintro _ _ ⟨rfl,rfl⟩;refine ⟨_,_,by repeat constructor,by repeat constructor,?_⟩))|(refine a2g ?_;first|refine a0b (a0l rfl) rfl ?_|(refine k_g ?_;first|refine a1j rfl rfl (by with_reducible rfl) ?_|refine a1w rfl rfl (by with_reducible rfl) rfl ?_)|refine a0b (a0f rfl rfl) rfl ?_|(refine a1a ?_;first|refine a0b (a0u rfl rfl) rfl ?_|refine a0b (a0m rfl rfl rfl) rfl ?_)|(refine a1i ?_;first|refine a0b (a0j rfl (by with_reducible rfl) rfl) rfl ?_|refine a0b (a0i rfl (by with_reducible rfl) rfl) rfl ?_)|refine a0b (a0e rfl) rfl ?_|refine a0b (a0p rfl rfl) rfl ?_|refine a0v ?_|refine a2c rfl rfl rfl (by first|exact ln4|exact ln5) (by repeat constructor) rfl ?_|refine a1b rfl rfl rfl (by first|exact ln4|exact ln5) (by repeat constructor) rfl ?_|refine a0z rfl rfl rfl rfl rfl (by repeat constructor) (by repeat constructor) ?_|refine a0b (a1v rfl rfl rfl (by repeat constructor)) rfl ?_|refine a0b (a0w rfl (by with_reducible rfl)) rfl ?_|refine a0b (a1t rfl (by with_reducible rfl)) rfl ?_)|(first|refine a1k ?_|(refine a1l ?_;first|refine a0c (a0a ?_)|refine a0c ?_|refine a0a ?_|(refine a0y ?_;first|refine a0g rfl (by with_reducible rfl) ?_|refine a0h rfl (by with_reducible rfl) ?_)|refine a0o ?_|refine a0k ?_)|refine a0r ?_))
          refine retc0 (by first | exact .inr rfl | exact .inl rfl) rfl rfl rfl rfl ?_
          rw [hR]
          exact ⟨rfl, _, _, rfl, rfl⟩
        · rw [if_neg h6] at hR
          repeat' (first|(first|refine a0b (a1c (n := 0) rfl rfl) rfl ?_|(refine a1a ?_;refine a0b (a2b (id := 3) rfl rfl hm2 rfl) rfl ?_)|(refine a1d ?_;first|refine a0b (a1n rfl rfl rfl (by omega)) rfl ?_|refine a0b (a1o rfl rfl rfl (by omega)) rfl ?_|refine a0b (a2h (n := postS) hP rfl rfl) rfl ?_|refine a0b (a2i (n := postS) hP rfl rfl) rfl ?_|refine a0b (a2h (n := loginS) hL rfl rfl) rfl ?_|refine a0b (a2i (n := loginS) hL rfl rfl) rfl ?_|refine a0b (a2h (n := logoutS) hO rfl rfl) rfl ?_|refine a0b (a2i (n := logoutS) hO rfl rfl) rfl ?_)|(refine a0d ?_;refine a0q rfl rfl rfl rfl hT ?_;rintro _ rfl)|refine a0b (a3a rfl rfl rfl .str (a4c _) hs) rfl ?_|(refine a0d ?_;refine a0t [0,1,2,3] rfl rfl hC ?_ ?_ rfl rfl ?_;(focus ((repeat constructor);done));(focus ((repeat constructor);done));rintro _ _ ⟨rfl,rfl⟩;refine ⟨_,_,by repeat constructor,by repeat constructor,?_⟩)|(refine a0d ?_;refine a0t [3] rfl rfl hH4 ?_ ?_ rfl rfl ?_;(focus ((repeat constructor);done));(focus ((repeat constructor);done));rintro _ _ ⟨rfl,rfl⟩;refine ⟨_,_,by repeat constructor,by repeat constructor,?_⟩))|(refine a2g ?_;first|refine a0b (a0l rfl) rfl ?_|(refine k_g ?_;first|refine a1j rfl rfl (by with_reducible rfl) ?_|refine a1w rfl rfl (by with_reducible rfl) rfl ?_)|refine a0b (a0f rfl rfl) rfl ?_|(refine a1a ?_;first|refine a0b (a0u rfl rfl) rfl ?_|refine a0b (a0m rfl rfl rfl) rfl ?_)|(refine a1i ?_;first|refine a0b (a0j rfl (by with_reducible rfl) rfl) rfl ?_|refine a0b (a0i rfl (by with_reducible rfl) rfl) rfl ?_)|refine a0b (a0e rfl) rfl ?_|refine a0b (a0p rfl rfl) rfl ?_|refine a0v ?_|refine a2c rfl rfl rfl (by first|exact ln4|exact ln5) (by repeat constructor) rfl ?_|refine a1b rfl rfl rfl (by first|exact ln4|exact ln5) (by repeat constructor) rfl ?_|refine a0z rfl rfl rfl rfl rfl (by repeat constructor) (by repeat constructor) ?_|refine a0b (a1v rfl rfl rfl (by repeat constructor)) rfl ?_|refine a0b (a0w rfl (by with_reducible rfl)) rfl ?_|refine a0b (a1t rfl (by with_reducible rfl)) rfl ?_)|(first|refine a1k ?_|(refine a1l ?_;first|refine a0c (a0a ?_)|refine a0c ?_|refine a0a ?_|(refine a0y ?_;first|refine a0g rfl (by with_reducible rfl) ?_|refine a0h rfl (by with_reducible rfl) ?_)|refine a0o ?_|refine a0k ?_)|refine a0r ?_))
          refine retc0 (by first | exact .inr rfl | exact .inl rfl) rfl rfl rfl rfl ?_
          rw [hR]
          exact ⟨rfl, _, _, rfl, rfl⟩
  · rw [if_neg (fun k => hP k.1)] at hR
    have hs := b3g (tokenS h) X.ss
    cases hq : sget (tokenS h) X.ss with
    | none =>
      rw [hq] at hs hR
      dsimp only [Option.map_none] at hs hR
      repeat' (first|(first|refine a0b (a1c (n := 0) rfl rfl) rfl ?_|(refine a1a ?_;refine a0b (a2b (id := 3) rfl rfl hm2 rfl) rfl ?_)|(refine a1d ?_;first|refine a0b (a1n rfl rfl rfl (by omega)) rfl ?_|refine a0b (a1o rfl rfl rfl (by omega)) rfl ?_|refine a0b (a2h (n := postS) hP rfl rfl) rfl ?_|refine a0b (a2i (n := postS) hP rfl rfl) rfl ?_|refine a0b (a2h (n := loginS) hL rfl rfl) rfl ?_|refine a0b (a2i (n := loginS) hL rfl rfl) rfl ?_|refine a0b (a2h (n := logoutS) hO rfl rfl) rfl ?_|refine a0b (a2i (n := logoutS) hO rfl rfl) rfl ?_)|(refine a0d ?_;refine a0q rfl rfl rfl rfl hT ?_;rintro _ rfl)|refine a0b (a6w rfl rfl rfl .str (a4c _) hs rfl) rfl ?_|(refine a0d ?_;refine a0q rfl rfl rfl rfl hPl1 ?_;rintro _ rfl)|(refine a0d ?_;refine a0t [3] rfl rfl hE1 ?_ ?_ rfl rfl ?_;(focus ((repeat constructor);done));(focus ((repeat constructor);done));rintro _ _ ⟨rfl,rfl⟩;refine ⟨_,_,by repeat constructor,by repeat constructor,?_⟩))|(refine a2g ?_;first|refine a0b (a0l rfl) rfl ?_|(refine k_g ?_;first|refine a1j rfl rfl (by with_reducible rfl) ?_|refine a1w rfl rfl (by with_reducible rfl) rfl ?_)|refine a0b (a0f rfl rfl) rfl ?_|(refine a1a ?_;first|refine a0b (a0u rfl rfl) rfl ?_|refine a0b (a0m rfl rfl rfl) rfl ?_)|(refine a1i ?_;first|refine a0b (a0j rfl (by with_reducible rfl) rfl) rfl ?_|refine a0b (a0i rfl (by with_reducible rfl) rfl) rfl ?_)|refine a0b (a0e rfl) rfl ?_|refine a0b (a0p rfl rfl) rfl ?_|refine a0v ?_|refine a2c rfl rfl rfl (by first|exact ln4|exact ln5) (by repeat constructor) rfl ?_|refine a1b rfl rfl rfl (by first|exact ln4|exact ln5) (by repeat constructor) rfl ?_|refine a0z rfl rfl rfl rfl rfl (by repeat constructor) (by repeat constructor) ?_|refine a0b (a1v rfl rfl rfl (by repeat constructor)) rfl ?_|refine a0b (a0w rfl (by with_reducible rfl)) rfl ?_|refine a0b (a1t rfl (by with_reducible rfl)) rfl ?_)|(first|refine a1k ?_|(refine a1l ?_;first|refine a0c (a0a ?_)|refine a0c ?_|refine a0a ?_|(refine a0y ?_;first|refine a0g rfl (by with_reducible rfl) ?_|refine a0h rfl (by with_reducible rfl) ?_)|refine a0o ?_|refine a0k ?_)|refine a0r ?_))
      refine retc0 (by first | exact .inr rfl | exact .inl rfl) rfl rfl rfl rfl ?_
      rw [hR]
      exact ⟨rfl, _, _, rfl, rfl⟩
    | some u =>
      rw [hq] at hs hR
      dsimp only [Option.map_some] at hs hR
      have hu := hX.ss _ (b0e hq)
      dsimp only at hu
      have hC := b5e (w0 := w0) (base := base) (u := u) hX
      unfold cntAV at hC
      rw [show countsD X.ds u = (cntC (lcE X.l) u, cntA (lcE X.l) u) from if_pos ⟨hu.2.1, hu.2.2⟩] at hC
      dsimp only at hC
      obtain ⟨nc, hnc⟩ : ∃ nc, cntC (lcE X.l) u = nc := ⟨_, rfl⟩
      obtain ⟨na, hna⟩ : ∃ na, cntA (lcE X.l) u = na := ⟨_, rfl⟩
      rw [hnc, hna] at hC hR
      by_cases h3 : e.c.user ≠ -1 ∧ e.c.user ≠ u
      · rw [if_pos h3] at hR
        obtain ⟨h3a, h3b⟩ := h3
        repeat' (first|(first|refine a0b (a1c (n := 0) rfl rfl) rfl ?_|(refine a1a ?_;refine a0b (a2b (id := 3) rfl rfl hm2 rfl) rfl ?_)|(refine a1d ?_;first|refine a0b (a1n rfl rfl rfl (by omega)) rfl ?_|refine a0b (a1o rfl rfl rfl (by omega)) rfl ?_|refine a0b (a2h (n := postS) hP rfl rfl) rfl ?_|refine a0b (a2i (n := postS) hP rfl rfl) rfl ?_|refine a0b (a2h (n := loginS) hL rfl rfl) rfl ?_|refine a0b (a2i (n := loginS) hL rfl rfl) rfl ?_|refine a0b (a2h (n := logoutS) hO rfl rfl) rfl ?_|refine a0b (a2i (n := logoutS) hO rfl rfl) rfl ?_)|(refine a0d ?_;refine a0q rfl rfl rfl rfl hT ?_;rintro _ rfl)|refine a0b (a3a rfl rfl rfl .str (a4c _) hs) rfl ?_|(refine a0d ?_;refine a0q rfl rfl rfl rfl hPl3 ?_;rintro _ rfl)|(refine a0d ?_;refine a0t [3] rfl rfl hE3 ?_ ?_ rfl rfl ?_;(focus ((repeat constructor);done));(focus ((repeat constructor);done));rintro _ _ ⟨rfl,rfl⟩;refine ⟨_,_,by repeat constructor,by repeat constructor,?_⟩))|(refine a2g ?_;first|refine a0b (a0l rfl) rfl ?_|(refine k_g ?_;first|refine a1j rfl rfl (by with_reducible rfl) ?_|refine a1w rfl rfl (by with_reducible rfl) rfl ?_)|refine a0b (a0f rfl rfl) rfl ?_|(refine a1a ?_;first|refine a0b (a0u rfl rfl) rfl ?_|refine a0b (a0m rfl rfl rfl) rfl ?_)|(refine a1i ?_;first|refine a0b (a0j rfl (by with_reducible rfl) rfl) rfl ?_|refine a0b (a0i rfl (by with_reducible rfl) rfl) rfl ?_)|refine a0b (a0e rfl) rfl ?_|refine a0b (a0p rfl rfl) rfl ?_|refine a0v ?_|refine a2c rfl rfl rfl (by first|exact ln4|exact ln5) (by repeat constructor) rfl ?_|refine a1b rfl rfl rfl (by first|exact ln4|exact ln5) (by repeat constructor) rfl ?_|refine a0z rfl rfl rfl rfl rfl (by repeat constructor) (by repeat constructor) ?_|refine a0b (a1v rfl rfl rfl (by repeat constructor)) rfl ?_|refine a0b (a0w rfl (by with_reducible rfl)) rfl ?_|refine a0b (a1t rfl (by with_reducible rfl)) rfl ?_)|(first|refine a1k ?_|(refine a1l ?_;first|refine a0c (a0a ?_)|refine a0c ?_|refine a0a ?_|(refine a0y ?_;first|refine a0g rfl (by with_reducible rfl) ?_|refine a0h rfl (by with_reducible rfl) ?_)|refine a0o ?_|refine a0k ?_)|refine a0r ?_))
        refine retc0 (by first | exact .inr rfl | exact .inl rfl) rfl rfl rfl rfl ?_
        rw [hR]
        exact ⟨rfl, _, _, rfl, rfl⟩
      rw [if_neg h3] at hR
      by_cases hu1 : e.c.user = -1
      · by_cases h5 : X.conns ≤ nc
        · rw [if_pos ⟨hu1, h5⟩] at hR
          repeat' (first|(first|refine a0b (a1c (n := 0) rfl rfl) rfl ?_|(refine a1a ?_;refine a0b (a2b (id := 3) rfl rfl hm2 rfl) rfl ?_)|(refine a1d ?_;first|refine a0b (a1n rfl rfl rfl (by omega)) rfl ?_|refine a0b (a1o rfl rfl rfl (by omega)) rfl ?_|refine a0b (a2h (n := postS) hP rfl rfl) rfl ?_|refine a0b (a2i (n := postS) hP rfl rfl) rfl ?_|refine a0b (a2h (n := loginS) hL rfl rfl) rfl ?_|refine a0b (a2i (n := loginS) hL rfl rfl) rfl ?_|refine a0b (a2h (n := logoutS) hO rfl rfl) rfl ?_|refine a0b (a2i (n := logoutS) hO rfl rfl) rfl ?_)|(refine a0d ?_;refine a0q rfl rfl rfl rfl hT ?_;rintro _ rfl)|refine a0b (a3a rfl rfl rfl .str (a4c _) hs) rfl ?_|(refine a0d ?_;refine a0t [0,1,2,3] rfl rfl hC ?_ ?_ rfl rfl ?_;(focus ((repeat constructor);done));(focus ((repeat constructor);done));rintro _ _ ⟨rfl,rfl⟩;refine ⟨_,_,by repeat constructor,by repeat constructor,?_⟩)|(refine a0d ?_;refine a0q rfl rfl rfl rfl hPlT ?_;rintro _ rfl)|(refine a0d ?_;refine a0t [3] rfl rfl hET ?_ ?_ rfl rfl ?_;(focus ((repeat constructor);done));(focus ((repeat constructor);done));rintro _ _ ⟨rfl,rfl⟩;refine ⟨_,_,by repeat constructor,by repeat constructor,?_⟩))|(refine a2g ?_;first|refine a0b (a0l rfl) rfl ?_|(refine k_g ?_;first|refine a1j rfl rfl (by with_reducible rfl) ?_|refine a1w rfl rfl (by with_reducible rfl) rfl ?_)|refine a0b (a0f rfl rfl) rfl ?_|(refine a1a ?_;first|refine a0b (a0u rfl rfl) rfl ?_|refine a0b (a0m rfl rfl rfl) rfl ?_)|(refine a1i ?_;first|refine a0b (a0j rfl (by with_reducible rfl) rfl) rfl ?_|refine a0b (a0i rfl (by with_reducible rfl) rfl) rfl ?_)|refine a0b (a0e rfl) rfl ?_|refine a0b (a0p rfl rfl) rfl ?_|refine a0v ?_|refine a2c rfl rfl rfl (by first|exact ln4|exact ln5) (by repeat constructor) rfl ?_|refine a1b rfl rfl rfl (by first|exact ln4|exact ln5) (by repeat constructor) rfl ?_|refine a0z rfl rfl rfl rfl rfl (by repeat constructor) (by repeat constructor) ?_|refine a0b (a1v rfl rfl rfl (by repeat constructor)) rfl ?_|refine a0b (a0w rfl (by with_reducible rfl)) rfl ?_|refine a0b (a1t rfl (by with_reducible rfl)) rfl ?_)|(first|refine a1k ?_|(refine a1l ?_;first|refine a0c (a0a ?_)|refine a0c ?_|refine a0a ?_|(refine a0y ?_;first|refine a0g rfl (by with_reducible rfl) ?_|refine a0h rfl (by with_reducible rfl) ?_)|refine a0o ?_|refine a0k ?_)|refine a0r ?_))
          refine retc0 (by first | exact .inr rfl | exact .inl rfl) rfl rfl rfl rfl ?_
          rw [hR]
          exact ⟨rfl, _, _, rfl, rfl⟩
        rw [if_neg (fun k => h5 k.2)] at hR
        have hm3 : upd X.m e.bc [.ad e.bp 0, .int .i64 u, .bool e.c.closed, .bool e.c.lost, .bool e.c.waits, .int .i64 e.c.asks, .bool e.c.ends, paE e] e.bc = some (cnC e.bp (paE e) { e.c with user := u }) := a2r
        have hH3 := a5i (w0 := w0) (base := base) (h := h) (b := b) (u := -1) (a := { at0 with kind := 3, token := tokenS h, user := u }) hm3
        have hH4 := a5i (w0 := w0) (base := base) (h := h) (b := b) (u := u) (a := { at0 with kind := 4, user := u, rq := some (h, b) }) hm3
        have hE6 := a4g (w0 := w0) (base := base) hG (a4e 503 (closesS h)) hm3
        rw [if_neg (fun k => hP k.1)] at hR
        by_cases h6 : X.asks ≤ na
        · rw [if_pos h6] at hR
          repeat' (first|(first|refine a0b (a1c (n := 0) rfl rfl) rfl ?_|(refine a1a ?_;refine a0b (a2b (id := 3) rfl rfl hm2 rfl) rfl ?_)|(refine a1d ?_;first|refine a0b (a1n rfl rfl rfl (by omega)) rfl ?_|refine a0b (a1o rfl rfl rfl (by omega)) rfl ?_|refine a0b (a2h (n := postS) hP rfl rfl) rfl ?_|refine a0b (a2i (n := postS) hP rfl rfl) rfl ?_|refine a0b (a2h (n := loginS) hL rfl rfl) rfl ?_|refine a0b (a2i (n := loginS) hL rfl rfl) rfl ?_|refine a0b (a2h (n := logoutS) hO rfl rfl) rfl ?_|refine a0b (a2i (n := logoutS) hO rfl rfl) rfl ?_)|(refine a0d ?_;refine a0q rfl rfl rfl rfl hT ?_;rintro _ rfl)|refine a0b (a3a rfl rfl rfl .str (a4c _) hs) rfl ?_|(refine a0d ?_;refine a0t [0,1,2,3] rfl rfl hC ?_ ?_ rfl rfl ?_;(focus ((repeat constructor);done));(focus ((repeat constructor);done));rintro _ _ ⟨rfl,rfl⟩;refine ⟨_,_,by repeat constructor,by repeat constructor,?_⟩)|refine a3f (id := 3) rfl rfl rfl rfl rfl rfl rfl hm2 (by repeat constructor) (by repeat constructor) ?_|(refine a0d ?_;refine a0q rfl rfl rfl rfl hPl5 ?_;rintro _ rfl)|(refine a0d ?_;refine a0t [3] rfl rfl hE6 ?_ ?_ rfl rfl ?_;(focus ((repeat constructor);done));(focus ((repeat constructor);done));rintro _ _ ⟨rfl,rfl⟩;refine ⟨_,_,by repeat constructor,by repeat constructor,?_⟩))|(refine a2g ?_;first|refine a0b (a0l rfl) rfl ?_|(refine k_g ?_;first|refine a1j rfl rfl (by with_reducible rfl) ?_|refine a1w rfl rfl (by with_reducible rfl) rfl ?_)|refine a0b (a0f rfl rfl) rfl ?_|(refine a1a ?_;first|refine a0b (a0u rfl rfl) rfl ?_|refine a0b (a0m rfl rfl rfl) rfl ?_)|(refine a1i ?_;first|refine a0b (a0j rfl (by with_reducible rfl) rfl) rfl ?_|refine a0b (a0i rfl (by with_reducible rfl) rfl) rfl ?_)|refine a0b (a0e rfl) rfl ?_|refine a0b (a0p rfl rfl) rfl ?_|refine a0v ?_|refine a2c rfl rfl rfl (by first|exact ln4|exact ln5) (by repeat constructor) rfl ?_|refine a1b rfl rfl rfl (by first|exact ln4|exact ln5) (by repeat constructor) rfl ?_|refine a0z rfl rfl rfl rfl rfl (by repeat constructor) (by repeat constructor) ?_|refine a0b (a1v rfl rfl rfl (by repeat constructor)) rfl ?_|refine a0b (a0w rfl (by with_reducible rfl)) rfl ?_|refine a0b (a1t rfl (by with_reducible rfl)) rfl ?_)|(first|refine a1k ?_|(refine a1l ?_;first|refine a0c (a0a ?_)|refine a0c ?_|refine a0a ?_|(refine a0y ?_;first|refine a0g rfl (by with_reducible rfl) ?_|refine a0h rfl (by with_reducible rfl) ?_)|refine a0o ?_|refine a0k ?_)|refine a0r ?_))
          refine retc0 (by first | exact .inr rfl | exact .inl rfl) rfl rfl rfl rfl ?_
          rw [hR]
          exact ⟨rfl, _, _, a5m, rfl⟩
        · rw [if_neg h6] at hR
          repeat' (first|(first|refine a0b (a1c (n := 0) rfl rfl) rfl ?_|(refine a1a ?_;refine a0b (a2b (id := 3) rfl rfl hm2 rfl) rfl ?_)|(refine a1d ?_;first|refine a0b (a1n rfl rfl rfl (by omega)) rfl ?_|refine a0b (a1o rfl rfl rfl (by omega)) rfl ?_|refine a0b (a2h (n := postS) hP rfl rfl) rfl ?_|refine a0b (a2i (n := postS) hP rfl rfl) rfl ?_|refine a0b (a2h (n := loginS) hL rfl rfl) rfl ?_|refine a0b (a2i (n := loginS) hL rfl rfl) rfl ?_|refine a0b (a2h (n := logoutS) hO rfl rfl) rfl ?_|refine a0b (a2i (n := logoutS) hO rfl rfl) rfl ?_)|(refine a0d ?_;refine a0q rfl rfl rfl rfl hT ?_;rintro _ rfl)|refine a0b (a3a rfl rfl rfl .str (a4c _) hs) rfl ?_|(refine a0d ?_;refine a0t [0,1,2,3] rfl rfl hC ?_ ?_ rfl rfl ?_;(focus ((repeat constructor);done));(focus ((repeat constructor);done));rintro _ _ ⟨rfl,rfl⟩;refine ⟨_,_,by repeat constructor,by repeat constructor,?_⟩)|refine a3f (id := 3) rfl rfl rfl rfl rfl rfl rfl hm2 (by repeat constructor) (by repeat constructor) ?_|(refine a0d ?_;refine a0t [3] rfl rfl hH4 ?_ ?_ rfl rfl ?_;(focus ((repeat constructor);done));(focus ((repeat constructor);done));rintro _ _ ⟨rfl,rfl⟩;refine ⟨_,_,by repeat constructor,by repeat constructor,?_⟩))|(refine a2g ?_;first|refine a0b (a0l rfl) rfl ?_|(refine k_g ?_;first|refine a1j rfl rfl (by with_reducible rfl) ?_|refine a1w rfl rfl (by with_reducible rfl) rfl ?_)|refine a0b (a0f rfl rfl) rfl ?_|(refine a1a ?_;first|refine a0b (a0u rfl rfl) rfl ?_|refine a0b (a0m rfl rfl rfl) rfl ?_)|(refine a1i ?_;first|refine a0b (a0j rfl (by with_reducible rfl) rfl) rfl ?_|refine a0b (a0i rfl (by with_reducible rfl) rfl) rfl ?_)|refine a0b (a0e rfl) rfl ?_|refine a0b (a0p rfl rfl) rfl ?_|refine a0v ?_|refine a2c rfl rfl rfl (by first|exact ln4|exact ln5) (by repeat constructor) rfl ?_|refine a1b rfl rfl rfl (by first|exact ln4|exact ln5) (by repeat constructor) rfl ?_|refine a0z rfl rfl rfl rfl rfl (by repeat constructor) (by repeat constructor) ?_|refine a0b (a1v rfl rfl rfl (by repeat constructor)) rfl ?_|refine a0b (a0w rfl (by with_reducible rfl)) rfl ?_|refine a0b (a1t rfl (by with_reducible rfl)) rfl ?_)|(first|refine a1k ?_|(refine a1l ?_;first|refine a0c (a0a ?_)|refine a0c ?_|refine a0a ?_|(refine a0y ?_;first|refine a0g rfl (by with_reducible rfl) ?_|refine a0h rfl (by with_reducible rfl) ?_)|refine a0o ?_|refine a0k ?_)|refine a0r ?_))
          refine retc0 (by first | exact .inr rfl | exact .inl rfl) rfl rfl rfl rfl ?_
          rw [hR]
          exact ⟨rfl, _, _, a5m, rfl⟩
      · have hu2 : e.c.user = u := Classical.byContradiction fun k => h3 ⟨hu1, k⟩
        rw [if_neg (fun k => hu1 k.1)] at hR
        have hcu : { e.c with user := u } = e.c := by rw [← hu2]
        rw [hcu] at hR
        have hH3 := a5i (w0 := w0) (base := base) (h := h) (b := b) (u := -1) (a := { at0 with kind := 3, token := tokenS h, user := u }) hm
        have hH4 := a5i (w0 := w0) (base := base) (h := h) (b := b) (u := u) (a := { at0 with kind := 4, user := u, rq := some (h, b) }) hm
        have hE6 := a4g (w0 := w0) (base := base) hG (a4e 503 (closesS h)) hm
        rw [if_neg (fun k => hP k.1)] at hR
        by_cases h6 : X.asks ≤ na
        · rw [if_pos h6] at hR
          repeat' (first|(first|refine a0b (a1c (n := 0) rfl rfl) rfl ?_|(refine a1a ?_;refine a0b (a2b (id := 3) rfl rfl hm2 rfl) rfl ?_)|(refine a1d ?_;first|refine a0b (a1n rfl rfl rfl (by omega)) rfl ?_|refine a0b (a1o rfl rfl rfl (by omega)) rfl ?_|refine a0b (a2h (n := postS) hP rfl rfl) rfl ?_|refine a0b (a2i (n := postS) hP rfl rfl) rfl ?_|refine a0b (a2h (n := loginS) hL rfl rfl) rfl ?_|refine a0b (a2i (n := loginS) hL rfl rfl) rfl ?_|refine a0b (a2h (n := logoutS) hO rfl rfl) rfl ?_|refine a0b (a2i (n := logoutS) hO rfl rfl) rfl ?_)|(refine a0d ?_;refine a0q rfl rfl rfl rfl hT ?_;rintro _ rfl)|refine a0b (a3a rfl rfl rfl .str (a4c _) hs) rfl ?_|(refine a0d ?_;refine a0t [0,1,2,3] rfl rfl hC ?_ ?_ rfl rfl ?_;(focus ((repeat constructor);done));(focus ((repeat constructor);done));rintro _ _ ⟨rfl,rfl⟩;refine ⟨_,_,by repeat constructor,by repeat constructor,?_⟩)|(refine a0d ?_;refine a0q rfl rfl rfl rfl hPl5 ?_;rintro _ rfl)|(refine a0d ?_;refine a0t [3] rfl rfl hE6 ?_ ?_ rfl rfl ?_;(focus ((repeat constructor);done));(focus ((repeat constructor);done));rintro _ _ ⟨rfl,rfl⟩;refine ⟨_,_,by repeat constructor,by repeat constructor,?_⟩))|(refine a2g ?_;first|refine a0b (a0l rfl) rfl ?_|(refine k_g ?_;first|refine a1j rfl rfl (by with_reducible rfl) ?_|refine a1w rfl rfl (by with_reducible rfl) rfl ?_)|refine a0b (a0f rfl rfl) rfl ?_|(refine a1a ?_;first|refine a0b (a0u rfl rfl) rfl ?_|refine a0b (a0m rfl rfl rfl) rfl ?_)|(refine a1i ?_;first|refine a0b (a0j rfl (by with_reducible rfl) rfl) rfl ?_|refine a0b (a0i rfl (by with_reducible rfl) rfl) rfl ?_)|refine a0b (a0e rfl) rfl ?_|refine a0b (a0p rfl rfl) rfl ?_|refine a0v ?_|refine a2c rfl rfl rfl (by first|exact ln4|exact ln5) (by repeat constructor) rfl ?_|refine a1b rfl rfl rfl (by first|exact ln4|exact ln5) (by repeat constructor) rfl ?_|refine a0z rfl rfl rfl rfl rfl (by repeat constructor) (by repeat constructor) ?_|refine a0b (a1v rfl rfl rfl (by repeat constructor)) rfl ?_|refine a0b (a0w rfl (by with_reducible rfl)) rfl ?_|refine a0b (a1t rfl (by with_reducible rfl)) rfl ?_)|(first|refine a1k ?_|(refine a1l ?_;first|refine a0c (a0a ?_)|refine a0c ?_|refine a0a ?_|(refine a0y ?_;first|refine a0g rfl (by with_reducible rfl) ?_|refine a0h rfl (by with_reducible rfl) ?_)|refine a0o ?_|refine a0k ?_)|refine a0r ?_))
          refine retc0 (by first | exact .inr rfl | exact .inl rfl) rfl rfl rfl rfl ?_
          rw [hR]
          exact ⟨rfl, _, _, rfl, rfl⟩
        · rw [if_neg h6] at hR
          repeat' (first|(first|refine a0b (a1c (n := 0) rfl rfl) rfl ?_|(refine a1a ?_;refine a0b (a2b (id := 3) rfl rfl hm2 rfl) rfl ?_)|(refine a1d ?_;first|refine a0b (a1n rfl rfl rfl (by omega)) rfl ?_|refine a0b (a1o rfl rfl rfl (by omega)) rfl ?_|refine a0b (a2h (n := postS) hP rfl rfl) rfl ?_|refine a0b (a2i (n := postS) hP rfl rfl) rfl ?_|refine a0b (a2h (n := loginS) hL rfl rfl) rfl ?_|refine a0b (a2i (n := loginS) hL rfl rfl) rfl ?_|refine a0b (a2h (n := logoutS) hO rfl rfl) rfl ?_|refine a0b (a2i (n := logoutS) hO rfl rfl) rfl ?_)|(refine a0d ?_;refine a0q rfl rfl rfl rfl hT ?_;rintro _ rfl)|refine a0b (a3a rfl rfl rfl .str (a4c _) hs) rfl ?_|(refine a0d ?_;refine a0t [0,1,2,3] rfl rfl hC ?_ ?_ rfl rfl ?_;(focus ((repeat constructor);done));(focus ((repeat constructor);done));rintro _ _ ⟨rfl,rfl⟩;refine ⟨_,_,by repeat constructor,by repeat constructor,?_⟩)|(refine a0d ?_;refine a0t [3] rfl rfl hH4 ?_ ?_ rfl rfl ?_;(focus ((repeat constructor);done));(focus ((repeat constructor);done));rintro _ _ ⟨rfl,rfl⟩;refine ⟨_,_,by repeat constructor,by repeat constructor,?_⟩))|(refine a2g ?_;first|refine a0b (a0l rfl) rfl ?_|(refine k_g ?_;first|refine a1j rfl rfl (by with_reducible rfl) ?_|refine a1w rfl rfl (by with_reducible rfl) rfl ?_)|refine a0b (a0f rfl rfl) rfl ?_|(refine a1a ?_;first|refine a0b (a0u rfl rfl) rfl ?_|refine a0b (a0m rfl rfl rfl) rfl ?_)|(refine a1i ?_;first|refine a0b (a0j rfl (by with_reducible rfl) rfl) rfl ?_|refine a0b (a0i rfl (by with_reducible rfl) rfl) rfl ?_)|refine a0b (a0e rfl) rfl ?_|refine a0b (a0p rfl rfl) rfl ?_|refine a0v ?_|refine a2c rfl rfl rfl (by first|exact ln4|exact ln5) (by repeat constructor) rfl ?_|refine a1b rfl rfl rfl (by first|exact ln4|exact ln5) (by repeat constructor) rfl ?_|refine a0z rfl rfl rfl rfl rfl (by repeat constructor) (by repeat constructor) ?_|refine a0b (a1v rfl rfl rfl (by repeat constructor)) rfl ?_|refine a0b (a0w rfl (by with_reducible rfl)) rfl ?_|refine a0b (a1t rfl (by with_reducible rfl)) rfl ?_)|(first|refine a1k ?_|(refine a1l ?_;first|refine a0c (a0a ?_)|refine a0c ?_|refine a0a ?_|(refine a0y ?_;first|refine a0g rfl (by with_reducible rfl) ?_|refine a0h rfl (by with_reducible rfl) ?_)|refine a0o ?_|refine a0k ?_)|refine a0r ?_))
          refine retc0 (by first | exact .inr rfl | exact .inl rfl) rfl rfl rfl rfl ?_
          rw [hR]
          exact ⟨rfl, _, _, rfl, rfl⟩
theorem c4b {X : Dem} {i : Nat} {e : En} {h : Hd} {b : List UInt8} (hG : Tabs w0 base) (hX : DemOk X) (hi : X.l[i]? = some e) (hg : GoodH h) (hb : b.length ≤ 65536) :
    ACalls (EE w0 base) 33 [.op 0 0, .ad e.bc 0, .agg (rqCs h b)] (dmO X) fun rv os => rv = .agg (atC (requestC X.ds e.c h b).2) ∧ os = dmO { X with m := upd X.m e.bc (cnC e.bp (paE e) (requestC X.ds e.c h b).1) } := by
  refine a3p (c1u hG hX hi hg hb) ?_
  rintro rv os ⟨rfl, m', ex, rfl, rfl⟩
  exact ⟨_, ex, rfl, ⟨rfl, rfl⟩, c1m _ _, b5a { X with m := upd X.m e.bc (cnC e.bp (paE e) (requestC X.ds e.c h b).1) }, Nat.le_refl _⟩
end
end Go.Proofs.YtkljmljkiodnpaaGreatDoor.L

namespace Go.Proofs.YtkljmljkiodnpaaGreatDoor.L
open Go Go.RowKit Go.Proofs
attribute [local irreducible] AL QL AWp Thn InB RetQ ACalls LoopQ HL HO HW HQ NoG JmpQ MidQ HF

theorem b6i {s : List UInt8} {at' : Nat} {h : Hd} {b : List UInt8} {k : Nat} (ha : at' ≤ s.length) (e : bodyAt s at' h = .got b k) : b.length ≤ 16384 := by
  unfold bodyAt at e
  have hR := a8w h
  split at e
  · cases e
  split at e
  · split at e
    · cases e
    · injection e with e1 e2
      subst e1
      rw [List.length_drop, List.length_take]
      omega
  split at e
  · have := a5h s (s.length + 1) [] at' ha
    unfold chunksS at e
    rw [e] at this
    exact this.2.2
  · injection e with e1 e2
    subst e1
    exact Nat.zero_le _
theorem b5u {s : List UInt8} {h : Hd} {b : List UInt8} {k : Nat} (e : nextL s = .got h b k) : b.length ≤ 16384 := by
  unfold nextL at e
  rcases a7s s with hx | ⟨i, hx, hi4⟩
  · rw [hx, if_pos (by decide)] at e
    split at e <;> cases e
  · rw [hx, if_neg (by omega), Int.toNat_natCast] at e
    split at e
    · cases e
    · have hz : ∀ b' k', bodyAt s (i + 4) (headParse (s.take (i + 4))).1 = .got b' k' → b'.length ≤ 16384 := fun b' k' => b6i hi4
      revert e hz
      generalize bodyAt s (i + 4) (headParse (s.take (i + 4))).1 = z
      intro e hz
      cases z with
      | more => cases e
      | bad st => cases e
      | got b' k' =>
        injection e with e1 e2 e3
        subst e2
        exact hz _ _ rfl
theorem b0m (D : DS) (c : Cn) (h : Hd) (b : List UInt8) : (requestC D c h b).1.s = c.s ∧ (requestC D c h b).1.st = c.st ∧ (requestC D c h b).1.ans = c.ans := by
  unfold requestC loginC emitsC handsC
  repeat' (first | (refine ⟨rfl, rfl, rfl⟩) | split)
theorem b0n {D D' : DS} (h1 : D'.ss = D.ss) (h2 : D'.conns = D.conns) (h3 : D'.asks = D.asks) (h4 : ∀ u, cntC D'.l u = cntC D.l u) (h5 : ∀ u, cntA D'.l u = cntA D.l u) (c : Cn) (h : Hd) (b : List UInt8) : requestC D' c h b = requestC D c h b := by
  unfold requestC
  simp only [h1, h2, h3, h4, h5]
theorem c3u {e : En} {c' : Cn} (h1 : c'.closed = e.c.closed) (h2 : c'.user = e.c.user) (h3 : c'.waits = e.c.waits) (h4 : c'.asks = e.c.asks) (u : Int) : ∀ {l : List En} {i : Nat}, l[i]? = some e → cntC (lcE (l.set i { e with c := c' })) u = cntC (lcE l) u ∧ cntA (lcE (l.set i { e with c := c' })) u = cntA (lcE l) u := by
  intro l
  induction l with
  | nil => intro i hi; cases hi
  | cons p l ih =>
    intro i hi
    cases i with
    | zero =>
      have hp : p = e := by simpa using hi
      subst hp
      constructor
      · unfold cntC lcE
        simp only [List.set_cons_zero, List.map_cons, List.filter_cons, h1, h2]
        cases (!p.c.closed && decide (p.c.user = u)) <;> rfl
      · unfold cntA lcE
        simp only [List.set_cons_zero, List.map_cons, List.filter_cons, h3, h4]
        cases (p.c.waits && decide (p.c.asks = u)) <;> rfl
    | succ i =>
      have hi' : l[i]? = some e := by simpa using hi
      obtain ⟨a1, a2⟩ := ih hi'
      constructor
      · unfold cntC lcE at a1 ⊢
        simp only [List.set_cons_succ, List.map_cons, List.filter_cons]
        cases (!p.c.closed && decide (p.c.user = u))
        · exact a1
        · exact congrArg (· + 1) a1
      · unfold cntA lcE at a2 ⊢
        simp only [List.set_cons_succ, List.map_cons, List.filter_cons]
        cases (p.c.waits && decide (p.c.asks = u))
        · exact a2
        · exact congrArg (· + 1) a2
theorem RepE.two {m m' : Nat → Option (List AV)} {l : List En} {i : Nat} {e : En} {c' : Cn} (h : RepE m l) (hi : l[i]? = some e) (h1 : c'.ans = none) (cm : m' e.bc = some (cnC e.bp .nilp c')) (pm : m' e.bp = some [.bool true, .str c'.s, .int .i64 c'.st]) (ho : ∀ x, x ≠ e.bc → x ≠ e.bp → m' x = m x) : RepE m' (l.set i { e with c := c' }) := by
  have hen := h.ok i e hi
  have hads : adsE { e with c := c' } = [e.bc, e.bp] := by
    show adsO e.bc e.bp e.ba c'.ans = _
    rw [h1]
    rfl
  refine h.set hi (fun x hx _ => ho x (fun k => hx (k ▸ a8y e)) (fun k => hx (k ▸ b2k e))) ⟨?_, pm, fun r hr => ?_, ?_⟩ (fun x hx => ?_)
  · show m' e.bc = some (cnC e.bp (paO c'.ans e.ba) c')
    rw [h1]
    exact cm
  · have hr2 : c'.ans = some r := hr
    rw [h1] at hr2
    cases hr2
  · rw [hads]
    simp only [List.nodup_cons, List.mem_cons, List.not_mem_nil, or_false, List.nodup_nil, and_true, not_false_eq_true]
    exact fun k => c1n hen k.symm
  · rw [hads] at hx
    simp only [List.mem_cons, List.not_mem_nil, or_false] at hx
    rcases hx with rfl | rfl
    · exact .inl (a8y e)
    · exact .inl (b2k e)
theorem a9s {D : DS} {c : Cn} (ha : c.ans = none) : pickC D c = (if c.waits then (c, at0) else if c.lost then emitsC c (plR 413 true)
    else if c.st ≠ 0 then emitsC c (plR c.st true) else match nextL c.s with
      | .more => (c, at0)
      | .bad st => emitsC { c with s := [], st := st } (plR st true)
      | .got h b k => requestC D { c with s := c.s.drop k } h b) := by
  obtain ⟨s, st, user, closed, lost, waits, asks, ends, ans⟩ := c
  have ha' : ans = none := ha
  subst ha'
  rfl
def PkR (X : Dem) (at' : Int) (rv : AV) (os : List AO) : Prop := rv = .tup [.agg (atC (pickD X.ds at').2.1), .int .i64 (pickD X.ds at').2.2] ∧ ∃ X', DemOk X' ∧ os = dmO X' ∧ X'.ds = (pickD X.ds at').1
theorem a8f {X : Dem} {at' : Int} {i : Nat} {e : En} {c' : Cn} {a : At} {m' : Nat → Option (List AV)} {rv : AV} {os : List AO} (hX : DemOk X) (hok : inAt at') (hi : X.l[i]? = some e) (h4 : lget at' (lcE X.l) = some e.c) (h5 : ∀ c',lset at' c' (lcE X.l) = lcE (X.l.set i { e with c := c' })) (hcl : e.c.closed = false) (hp : pickC X.ds e.c = (c',a)) (hr : RepE m' (X.l.set i { e with c := c' })) (hc : CnOk c') (h1 : rv = .tup [.agg (atC a),.int .i64 0]) (h2 : os = [.box [.int .i64 X.users,.int .i64 X.conns,.int .i64 X.asks,.mp 1,.mp 2],.map (X.l.map enK),.map (X.ss.map ssK) true,.hp m']) : PkR X at' rv os := by
  have h4' : lget at' X.ds.l = some e.c := h4
  have hS : pickD X.ds at' = ({ X.ds with l := lset at' c' (lcE X.l) }, a, 0) := by
    unfold pickD
    rw [if_pos hok, h4']
    dsimp only
    rw [hcl, if_neg (by decide), hp]
    rfl
  unfold PkR
  rw [hS, h1, h2]
  refine ⟨rfl, { X with l := X.l.set i { e with c := c' }, m := m' }, hX.set (e' := { e with c := c' }) hi rfl hr hc, ?_, ?_⟩
  · rw [a7b (e' := { e with c := c' }) hi rfl rfl]
  · rw [h5]
    rfl
theorem c3v (n : Nat) (a : At) (e : Int) : clB n (.tup [.agg (atC a), .int .i64 e]) = true := by
  obtain ⟨ak, ao, acl, au, atk, an, aw, rq⟩ := a
  match rq with
  | none => rfl
  | some (h, b) => rfl
section
variable {w0 : World} {base : Nat}
set_option maxHeartbeats 16000000 in
theorem c4c {X : Dem} {at' : Int} (hG : Tabs w0 base) (hX : DemOk X) : ACalls (EE w0 base) 13 [.op 0 0, .int .i64 at'] (dmO X) fun rv os => ∃ os1 ex, os = os1 ++ ex ∧ PkR X at' rv os1 := by
  have hg := c5g (w0 := w0) (base := base) (at' := at') hX
  have ho := c5e (w0 := w0) (base := base) (at' := at') hX
  refine a1r Tryz.func13 rfl rfl rfl (.cons (.cons .nil)) ?_
  by_cases hok : inAt at'
  · rw [decide_eq_true hok] at hg
    have hO : openD X.ds at' = (match lget at' (lcE X.l) with | none => false | some c => !c.closed) := rfl
    rcases a6y at' X.l with ⟨h1, h2, h3⟩ | ⟨i, e, h1, h2, h3, h4, h5⟩
    · rw [h2] at hO
      dsimp only at hO
      rw [hO] at ho
      have hS : pickD X.ds at' = (X.ds, at0, 0) := by
        unfold pickD
        rw [if_pos hok, show lget at' X.ds.l = none from h2]
      repeat' (first|(first|(refine a0d ?_;refine a0t [0,1,2,3] rfl rfl hg ?_ ?_ rfl rfl ?_;(focus ((repeat constructor);done));(focus ((repeat constructor);done));rintro _ _ ⟨rfl,rfl⟩;refine ⟨_,_,by repeat constructor,by repeat constructor,?_⟩)|(refine a0d ?_;refine a0t [0,1,2,3] rfl rfl ho ?_ ?_ rfl rfl ?_;(focus ((repeat constructor);done));(focus ((repeat constructor);done));rintro _ _ ⟨rfl,rfl⟩;refine ⟨_,_,by repeat constructor,by repeat constructor,?_⟩))|(refine a2g ?_;first|refine a0b (a0l rfl) rfl ?_|(refine k_g ?_;first|refine a1j rfl rfl (by with_reducible rfl) ?_|refine a1u rfl rfl (by with_reducible rfl) rfl ?_)|refine a0b (a0f rfl rfl) rfl ?_|(refine a1a ?_;first|refine a0b (a0u rfl rfl) rfl ?_|refine a0b (a0m rfl rfl rfl) rfl ?_)|(refine a1i ?_;first|refine a0b (a0j rfl (by with_reducible rfl) rfl) rfl ?_|refine a0b (a0i rfl (by with_reducible rfl) rfl) rfl ?_)|refine a0b (a0e rfl) rfl ?_|refine a0b (a0p rfl rfl) rfl ?_|refine a0v ?_|refine a1b rfl rfl rfl (by first|exact ln4|exact ln5) (by repeat constructor) rfl ?_|refine a0z rfl rfl rfl rfl rfl (by repeat constructor) (by repeat constructor) ?_|refine a0b (a1v rfl rfl rfl (by repeat constructor)) rfl ?_|refine a0b (a0w rfl (by with_reducible rfl)) rfl ?_|refine a0b (a1t rfl (by with_reducible rfl)) rfl ?_|refine a0b (a3b rfl rfl) rfl ?_)|(first|refine a1k ?_|(refine a1l ?_;first|refine a0c (a0a ?_)|refine a0c ?_|refine a0a ?_|(refine a0y ?_;first|refine a0g rfl (by with_reducible rfl) ?_|refine a0h rfl (by with_reducible rfl) ?_|(refine a2p rfl (fun hc => ?_) (fun hc => ?_) <;> (try (exact absurd hc (by decide)))))|refine a0n ?_|refine a0o ?_|refine a0k ?_)|refine a0r ?_|refine a1x ?_|refine a1m ?_))
      refine a2l (.boxLe (id := 4) (atC at0) rfl (by repeat (first | exact .nil | refine .cons .nil ?_ | refine .cons (.refl _) ?_)) rfl) ?_
      refine retc1 (by first | exact .inr rfl | exact .inl rfl) rfl rfl rfl rfl rfl ?_
      exact ⟨dmO X, _, rfl, by unfold PkR; rw [hS]; exact ⟨rfl, X, hX, rfl, rfl⟩⟩
    · rw [h4] at hO
      dsimp only at hO
      rw [hO] at ho
      have hen := hX.rep.ok i e h1
      have hm := hen.c
      have hcn := hX.cn e (List.mem_of_getElem? h1)
      have hlt := (List.getElem?_eq_some_iff.1 h1).1
      have hbp := c1n hen
      cases hcl : e.c.closed with
      | true =>
        rw [hcl] at ho
        have hS : pickD X.ds at' = (X.ds, at0, 0) := by
          unfold pickD
          rw [if_pos hok, show lget at' X.ds.l = some e.c from h4]
          dsimp only
          rw [if_pos hcl]
        repeat' (first|(first|(refine a0d ?_;refine a0t [0,1,2,3] rfl rfl hg ?_ ?_ rfl rfl ?_;(focus ((repeat constructor);done));(focus ((repeat constructor);done));rintro _ _ ⟨rfl,rfl⟩;refine ⟨_,_,by repeat constructor,by repeat constructor,?_⟩)|(refine a0d ?_;refine a0t [0,1,2,3] rfl rfl ho ?_ ?_ rfl rfl ?_;(focus ((repeat constructor);done));(focus ((repeat constructor);done));rintro _ _ ⟨rfl,rfl⟩;refine ⟨_,_,by repeat constructor,by repeat constructor,?_⟩))|(refine a2g ?_;first|refine a0b (a0l rfl) rfl ?_|(refine k_g ?_;first|refine a1j rfl rfl (by with_reducible rfl) ?_|refine a1u rfl rfl (by with_reducible rfl) rfl ?_)|refine a0b (a0f rfl rfl) rfl ?_|(refine a1a ?_;first|refine a0b (a0u rfl rfl) rfl ?_|refine a0b (a0m rfl rfl rfl) rfl ?_)|(refine a1i ?_;first|refine a0b (a0j rfl (by with_reducible rfl) rfl) rfl ?_|refine a0b (a0i rfl (by with_reducible rfl) rfl) rfl ?_)|refine a0b (a0e rfl) rfl ?_|refine a0b (a0p rfl rfl) rfl ?_|refine a0v ?_|refine a1b rfl rfl rfl (by first|exact ln4|exact ln5) (by repeat constructor) rfl ?_|refine a0z rfl rfl rfl rfl rfl (by repeat constructor) (by repeat constructor) ?_|refine a0b (a1v rfl rfl rfl (by repeat constructor)) rfl ?_|refine a0b (a0w rfl (by with_reducible rfl)) rfl ?_|refine a0b (a1t rfl (by with_reducible rfl)) rfl ?_|refine a0b (a3b rfl rfl) rfl ?_)|(first|refine a1k ?_|(refine a1l ?_;first|refine a0c (a0a ?_)|refine a0c ?_|refine a0a ?_|(refine a0y ?_;first|refine a0g rfl (by with_reducible rfl) ?_|refine a0h rfl (by with_reducible rfl) ?_|(refine a2p rfl (fun hc => ?_) (fun hc => ?_) <;> (try (exact absurd hc (by decide)))))|refine a0n ?_|refine a0o ?_|refine a0k ?_)|refine a0r ?_|refine a1x ?_|refine a1m ?_))
        refine a2l (.boxLe (id := 4) (atC at0) rfl (by repeat (first | exact .nil | refine .cons .nil ?_ | refine .cons (.refl _) ?_)) rfl) ?_
        refine retc1 (by first | exact .inr rfl | exact .inl rfl) rfl rfl rfl rfl rfl ?_
        exact ⟨dmO X, _, rfl, by unfold PkR; rw [hS]; exact ⟨rfl, X, hX, rfl, rfl⟩⟩
      | false =>
        rw [hcl] at ho
        cases ha : e.c.ans with
        | some r =>
          have hpa : paE e = .ad e.ba 0 := by
            show paO e.c.ans e.ba = _
            rw [ha]
            rfl
          have hm2 : X.m e.bc = some [.ad e.bp 0, .int .i64 e.c.user, .bool e.c.closed, .bool e.c.lost, .bool e.c.waits, .int .i64 e.c.asks, .bool e.c.ends, .ad e.ba 0] := by rw [hm, hpa]
          have hra := hen.a r ha
          have hfit := hcn.a r ha
          have hba := c5a hen ha
          obtain ⟨rst, rfs, rbody, rcl⟩ := r
          have hra2 : X.m e.ba = some [.int .i64 rst, .rs (rfs.map prAV), .str rbody, .bool rcl] := hra
          have hmU : upd X.m e.bc [.ad e.bp 0, .int .i64 e.c.user, .bool e.c.closed, .bool e.c.lost, .bool e.c.waits, .int .i64 e.c.asks, .bool e.c.ends, .nilp] e.bc = some (cnC e.bp .nilp { e.c with ans := none }) := a2r
          have hmU2 : upd X.m e.bc [.ad e.bp 0, .int .i64 e.c.user, .bool e.c.closed, .bool e.c.lost, .bool e.c.waits, .int .i64 e.c.asks, .bool e.c.ends, .nilp] e.bc = some [.ad e.bp 0, .int .i64 e.c.user, .bool e.c.closed, .bool e.c.lost, .bool e.c.waits, .int .i64 e.c.asks, .bool e.c.ends, .nilp] := a2r
          have hE := a4g (w0 := w0) (base := base) (r := ⟨rst, rfs, rbody, rcl || e.c.ends⟩) hG ⟨hfit.fs, hfit.each, hfit.body⟩ hmU
          have hP : pickC X.ds e.c = ((emitsC { e.c with ans := none } ⟨rst, rfs, rbody, rcl || e.c.ends⟩).1, (emitsC { e.c with ans := none } ⟨rst, rfs, rbody, rcl || e.c.ends⟩).2) := by
            unfold pickC
            rw [ha]
          have hfin : RepE (upd (upd X.m e.bc [.ad e.bp 0,.int .i64 e.c.user,.bool e.c.closed,.bool e.c.lost,.bool e.c.waits,.int .i64 e.c.asks,.bool e.c.ends,.nilp]) e.bc (cnC e.bp .nilp (emitsC { e.c with ans := none } ⟨rst,rfs,rbody,rcl || e.c.ends⟩).1)) (X.l.set i { e with c := (emitsC { e.c with ans := none } ⟨rst,rfs,rbody,rcl || e.c.ends⟩).1 }) := hX.rep.two h1 rfl a2r (by rw [a1z hbp,a1z hbp];exact hen.p) (fun x hx _ => by rw [a1z hx,a1z hx])
          have hok2 : CnOk (emitsC { e.c with ans := none } ⟨rst, rfs, rbody, rcl || e.c.ends⟩).1 := ⟨hcn.s, fun q hq => by cases hq⟩
          cases rcl
          all_goals
            repeat' (first|(first|(refine a0d ?_;refine a0t [0,1,2,3] rfl rfl hg ?_ ?_ rfl rfl ?_;(focus ((repeat constructor);done));(focus ((repeat constructor);done));rintro _ _ ⟨rfl,rfl⟩;refine ⟨_,_,by repeat constructor,by repeat constructor,?_⟩)|(refine a0d ?_;refine a0t [0,1,2,3] rfl rfl ho ?_ ?_ rfl rfl ?_;(focus ((repeat constructor);done));(focus ((repeat constructor);done));rintro _ _ ⟨rfl,rfl⟩;refine ⟨_,_,by repeat constructor,by repeat constructor,?_⟩)|refine a0b (a1c (n := 0) rfl rfl) rfl ?_|refine a0b (a2w rfl rfl rfl .int (a4d _) h3) rfl ?_|(refine a1d ?_;first|refine a0b (a5o rfl rfl rfl) rfl ?_)|(refine a1a ?_;refine a0b (a2b (id := 3) rfl rfl hm2 rfl) rfl ?_)|(refine a1a ?_;refine a0b (a2b (id := 3) rfl rfl hmU2 rfl) rfl ?_)|(refine a1a ?_;refine a0b (a9h (id := 3) rfl rfl hra2 rfl rfl) rfl ?_)|refine a3f (id := 3) rfl rfl rfl rfl rfl rfl rfl hm2 (by repeat constructor) (by repeat constructor) ?_|(refine a0d ?_;refine a0t [3] rfl rfl hE ?_ ?_ rfl rfl ?_;(focus ((repeat constructor);done));(focus ((repeat constructor);done));rintro _ _ ⟨rfl,rfl⟩;refine ⟨_,_,by repeat constructor,by repeat constructor,?_⟩))|(refine a2g ?_;first|refine a0b (a0l rfl) rfl ?_|(refine k_g ?_;first|refine a1j rfl rfl (by with_reducible rfl) ?_|refine a1u rfl rfl (by with_reducible rfl) rfl ?_)|refine a0b (a0f rfl rfl) rfl ?_|(refine a1a ?_;first|refine a0b (a0u rfl rfl) rfl ?_|refine a0b (a0m rfl rfl rfl) rfl ?_)|(refine a1i ?_;first|refine a0b (a0j rfl (by with_reducible rfl) rfl) rfl ?_|refine a0b (a0i rfl (by with_reducible rfl) rfl) rfl ?_)|refine a0b (a0e rfl) rfl ?_|refine a0b (a0p rfl rfl) rfl ?_|refine a0v ?_|refine a1b rfl rfl rfl (by first|exact ln4|exact ln5) (by repeat constructor) rfl ?_|refine a0z rfl rfl rfl rfl rfl (by repeat constructor) (by repeat constructor) ?_|refine a0b (a1v rfl rfl rfl (by repeat constructor)) rfl ?_|refine a0b (a0w rfl (by with_reducible rfl)) rfl ?_|refine a0b (a1t rfl (by with_reducible rfl)) rfl ?_|refine a0b (a3b rfl rfl) rfl ?_)|(first|refine a1k ?_|(refine a1l ?_;first|refine a0c (a0a ?_)|refine a0c ?_|refine a0a ?_|(refine a0y ?_;first|refine a0g rfl (by with_reducible rfl) ?_|refine a0h rfl (by with_reducible rfl) ?_|(refine a2p rfl (fun hc => ?_) (fun hc => ?_) <;> (try (exact absurd hc (by decide)))))|refine a0n ?_|refine a0o ?_|refine a0k ?_)|refine a0r ?_|refine a1x ?_|refine a1m ?_))
            refine retc1 (by first | exact .inr rfl | exact .inl rfl) rfl rfl rfl rfl rfl ?_
            exact ⟨[_, _, _, _], _, rfl, a8f hX hok h1 h4 h5 hcl hP hfin hok2 rfl rfl⟩
        | none =>
          have hpa : paE e = .nilp := by
            show paO e.c.ans e.ba = _
            rw [ha]
            rfl
          rw [hpa] at hm
          have hm2 : X.m e.bc = some [.ad e.bp 0, .int .i64 e.c.user, .bool e.c.closed, .bool e.c.lost, .bool e.c.waits, .int .i64 e.c.asks, .bool e.c.ends, .nilp] := hm
          have hP := a9s (D := X.ds) ha
          cases hw : e.c.waits with
          | true =>
            rw [if_pos hw] at hP
            have hm3 : X.m e.bc = some [.ad e.bp 0, .int .i64 e.c.user, .bool e.c.closed, .bool e.c.lost, .bool true, .int .i64 e.c.asks, .bool e.c.ends, .nilp] := by rw [hm2, hw]
            repeat' (first|(first|(refine a0d ?_;refine a0t [0,1,2,3] rfl rfl hg ?_ ?_ rfl rfl ?_;(focus ((repeat constructor);done));(focus ((repeat constructor);done));rintro _ _ ⟨rfl,rfl⟩;refine ⟨_,_,by repeat constructor,by repeat constructor,?_⟩)|(refine a0d ?_;refine a0t [0,1,2,3] rfl rfl ho ?_ ?_ rfl rfl ?_;(focus ((repeat constructor);done));(focus ((repeat constructor);done));rintro _ _ ⟨rfl,rfl⟩;refine ⟨_,_,by repeat constructor,by repeat constructor,?_⟩)|refine a0b (a1c (n := 0) rfl rfl) rfl ?_|refine a0b (a2w rfl rfl rfl .int (a4d _) h3) rfl ?_|(refine a1d ?_;first|refine a0b (a4n rfl rfl) rfl ?_)|(refine a1a ?_;refine a0b (a2b (id := 3) rfl rfl hm3 rfl) rfl ?_))|(refine a2g ?_;first|refine a0b (a0l rfl) rfl ?_|(refine k_g ?_;first|refine a1j rfl rfl (by with_reducible rfl) ?_|refine a1u rfl rfl (by with_reducible rfl) rfl ?_)|refine a0b (a0f rfl rfl) rfl ?_|(refine a1a ?_;first|refine a0b (a0u rfl rfl) rfl ?_|refine a0b (a0m rfl rfl rfl) rfl ?_)|(refine a1i ?_;first|refine a0b (a0j rfl (by with_reducible rfl) rfl) rfl ?_|refine a0b (a0i rfl (by with_reducible rfl) rfl) rfl ?_)|refine a0b (a0e rfl) rfl ?_|refine a0b (a0p rfl rfl) rfl ?_|refine a0v ?_|refine a1b rfl rfl rfl (by first|exact ln4|exact ln5) (by repeat constructor) rfl ?_|refine a0z rfl rfl rfl rfl rfl (by repeat constructor) (by repeat constructor) ?_|refine a0b (a1v rfl rfl rfl (by repeat constructor)) rfl ?_|refine a0b (a0w rfl (by with_reducible rfl)) rfl ?_|refine a0b (a1t rfl (by with_reducible rfl)) rfl ?_|refine a0b (a3b rfl rfl) rfl ?_)|(first|refine a1k ?_|(refine a1l ?_;first|refine a0c (a0a ?_)|refine a0c ?_|refine a0a ?_|(refine a0y ?_;first|refine a0g rfl (by with_reducible rfl) ?_|refine a0h rfl (by with_reducible rfl) ?_|(refine a2p rfl (fun hc => ?_) (fun hc => ?_) <;> (try (exact absurd hc (by decide)))))|refine a0n ?_|refine a0o ?_|refine a0k ?_)|refine a0r ?_|refine a1x ?_|refine a1m ?_))
            refine a2l (.boxLe (id := 4) (atC at0) rfl (by repeat (first | exact .nil | refine .cons .nil ?_ | refine .cons (.refl _) ?_)) rfl) ?_
            refine retc1 (by first | exact .inr rfl | exact .inl rfl) rfl rfl rfl rfl rfl ?_
            exact ⟨[_, _, _, _], _, rfl, a8f hX hok h1 h4 h5 hcl hP (hX.rep.two h1 ha hm hen.p (fun _ _ _ => rfl)) hcn rfl rfl⟩
          | false =>
            rw [if_neg (by rw [hw]; decide)] at hP
            cases hlo : e.c.lost with
            | true =>
              rw [if_pos hlo] at hP
              have hm3 : X.m e.bc = some [.ad e.bp 0, .int .i64 e.c.user, .bool e.c.closed, .bool true, .bool false, .int .i64 e.c.asks, .bool e.c.ends, .nilp] := by rw [hm2, hw, hlo]
              have hPl := a4l (w0 := w0) (base := base) (st := 413) (b := []) (cl := true)
              have hE := a4g (w0 := w0) (base := base) (c := e.c) hG (a4e 413 true) hm
              repeat' (first|(first|(refine a0d ?_;refine a0t [0,1,2,3] rfl rfl hg ?_ ?_ rfl rfl ?_;(focus ((repeat constructor);done));(focus ((repeat constructor);done));rintro _ _ ⟨rfl,rfl⟩;refine ⟨_,_,by repeat constructor,by repeat constructor,?_⟩)|(refine a0d ?_;refine a0t [0,1,2,3] rfl rfl ho ?_ ?_ rfl rfl ?_;(focus ((repeat constructor);done));(focus ((repeat constructor);done));rintro _ _ ⟨rfl,rfl⟩;refine ⟨_,_,by repeat constructor,by repeat constructor,?_⟩)|refine a0b (a1c (n := 0) rfl rfl) rfl ?_|refine a0b (a2w rfl rfl rfl .int (a4d _) h3) rfl ?_|(refine a1d ?_;first|refine a0b (a4n rfl rfl) rfl ?_)|(refine a1a ?_;refine a0b (a2b (id := 3) rfl rfl hm3 rfl) rfl ?_)|(refine a0d ?_;refine a0q rfl rfl rfl rfl hPl ?_;rintro _ rfl)|(refine a0d ?_;refine a0t [3] rfl rfl hE ?_ ?_ rfl rfl ?_;(focus ((repeat constructor);done));(focus ((repeat constructor);done));rintro _ _ ⟨rfl,rfl⟩;refine ⟨_,_,by repeat constructor,by repeat constructor,?_⟩))|(refine a2g ?_;first|refine a0b (a0l rfl) rfl ?_|(refine k_g ?_;first|refine a1j rfl rfl (by with_reducible rfl) ?_|refine a1u rfl rfl (by with_reducible rfl) rfl ?_)|refine a0b (a0f rfl rfl) rfl ?_|(refine a1a ?_;first|refine a0b (a0u rfl rfl) rfl ?_|refine a0b (a0m rfl rfl rfl) rfl ?_)|(refine a1i ?_;first|refine a0b (a0j rfl (by with_reducible rfl) rfl) rfl ?_|refine a0b (a0i rfl (by with_reducible rfl) rfl) rfl ?_)|refine a0b (a0e rfl) rfl ?_|refine a0b (a0p rfl rfl) rfl ?_|refine a0v ?_|refine a1b rfl rfl rfl (by first|exact ln4|exact ln5) (by repeat constructor) rfl ?_|refine a0z rfl rfl rfl rfl rfl (by repeat constructor) (by repeat constructor) ?_|refine a0b (a1v rfl rfl rfl (by repeat constructor)) rfl ?_|refine a0b (a0w rfl (by with_reducible rfl)) rfl ?_|refine a0b (a1t rfl (by with_reducible rfl)) rfl ?_|refine a0b (a3b rfl rfl) rfl ?_)|(first|refine a1k ?_|(refine a1l ?_;first|refine a0c (a0a ?_)|refine a0c ?_|refine a0a ?_|(refine a0y ?_;first|refine a0g rfl (by with_reducible rfl) ?_|refine a0h rfl (by with_reducible rfl) ?_|(refine a2p rfl (fun hc => ?_) (fun hc => ?_) <;> (try (exact absurd hc (by decide)))))|refine a0n ?_|refine a0o ?_|refine a0k ?_)|refine a0r ?_|refine a1x ?_|refine a1m ?_))
              refine retc1 (by first | exact .inr rfl | exact .inl rfl) rfl rfl rfl rfl rfl ?_
              exact ⟨[_, _, _, _], _, rfl, a8f hX hok h1 h4 h5 hcl hP (hX.rep.two h1 ha a2r (by rw [a1z hbp]; exact hen.p) (fun x hx _ => a1z hx)) ⟨hcn.s, hcn.a⟩ rfl rfl⟩
            | false =>
              rw [if_neg (by rw [hlo]; decide)] at hP
              have hm3 : X.m e.bc = some [.ad e.bp 0, .int .i64 e.c.user, .bool e.c.closed, .bool false, .bool false, .int .i64 e.c.asks, .bool e.c.ends, .nilp] := by rw [hm2, hw, hlo]
              have hN := c4d (w0 := w0) (base := base) hG.g hcn.s hen.p
              by_cases hst : e.c.st = 0
              · rw [if_neg (fun k => k hst)] at hP
                have hfa := a8n e.c.s
                have hbody := fun h b k => b5u (s := e.c.s) (h := h) (b := b) (k := k)
                have hV : nextV e.c.s e.c.st = (match nextL e.c.s with | .more => (.tup [req0, .bool false, .int .i64 0], e.c.s, 0) | .bad st => (.tup [req0, .bool false, .int .i64 st], [], st) | .got h b k => (.tup [reqAV h b, .bool true, .int .i64 0], e.c.s.drop k, 0)) := if_neg (fun k => k hst)
                cases hn : nextL e.c.s with
                | more =>
                  rw [hn] at hV hP
                  dsimp only at hV hP
                  rw [hV] at hN
                  dsimp only at hN
                  repeat' (first|(first|(refine a0d ?_;refine a0t [0,1,2,3] rfl rfl hg ?_ ?_ rfl rfl ?_;(focus ((repeat constructor);done));(focus ((repeat constructor);done));rintro _ _ ⟨rfl,rfl⟩;refine ⟨_,_,by repeat constructor,by repeat constructor,?_⟩)|(refine a0d ?_;refine a0t [0,1,2,3] rfl rfl ho ?_ ?_ rfl rfl ?_;(focus ((repeat constructor);done));(focus ((repeat constructor);done));rintro _ _ ⟨rfl,rfl⟩;refine ⟨_,_,by repeat constructor,by repeat constructor,?_⟩)|refine a0b (a1c (n := 0) rfl rfl) rfl ?_|refine a0b (a2w rfl rfl rfl .int (a4d _) h3) rfl ?_|(refine a1d ?_;first|refine a0b (a4n rfl rfl) rfl ?_|refine a0b (a1o rfl rfl rfl (by omega)) rfl ?_)|(refine a1a ?_;refine a0b (a2b (id := 3) rfl rfl hm3 rfl) rfl ?_)|(refine a0d ?_;refine a0t [3] rfl rfl hN ?_ ?_ rfl rfl ?_;(focus ((repeat constructor);done));(focus ((repeat constructor);done));rintro _ _ ⟨rfl,rfl⟩;refine ⟨_,_,by repeat constructor,by repeat constructor,?_⟩))|(refine a2g ?_;first|refine a0b (a0l rfl) rfl ?_|(refine k_g ?_;first|refine a1j rfl rfl (by with_reducible rfl) ?_|refine a1u rfl rfl (by with_reducible rfl) rfl ?_)|refine a0b (a0f rfl rfl) rfl ?_|(refine a1a ?_;first|refine a0b (a0u rfl rfl) rfl ?_|refine a0b (a0m rfl rfl rfl) rfl ?_)|(refine a1i ?_;first|refine a0b (a0j rfl (by with_reducible rfl) rfl) rfl ?_|refine a0b (a0i rfl (by with_reducible rfl) rfl) rfl ?_)|refine a0b (a0e rfl) rfl ?_|refine a0b (a0p rfl rfl) rfl ?_|refine a0v ?_|refine a1b rfl rfl rfl (by first|exact ln4|exact ln5) (by repeat constructor) rfl ?_|refine a0z rfl rfl rfl rfl rfl (by repeat constructor) (by repeat constructor) ?_|refine a0b (a1v rfl rfl rfl (by repeat constructor)) rfl ?_|refine a0b (a0w rfl (by with_reducible rfl)) rfl ?_|refine a0b (a1t rfl (by with_reducible rfl)) rfl ?_|refine a0b (a3b rfl rfl) rfl ?_)|(first|refine a1k ?_|(refine a1l ?_;first|refine a0c (a0a ?_)|refine a0c ?_|refine a0a ?_|(refine a0y ?_;first|refine a0g rfl (by with_reducible rfl) ?_|refine a0h rfl (by with_reducible rfl) ?_|(refine a2p rfl (fun hc => ?_) (fun hc => ?_) <;> (try (exact absurd hc (by decide)))))|refine a0n ?_|refine a0o ?_|refine a0k ?_)|refine a0r ?_|refine a1x ?_|refine a1m ?_))
                  refine a2l (.boxLe (id := 4) (atC at0) rfl (by repeat (first | exact .nil | refine .cons .nil ?_ | refine .cons (.refl _) ?_)) rfl) ?_
                  refine retc1 (by first | exact .inr rfl | exact .inl rfl) rfl rfl rfl rfl rfl ?_
                  exact ⟨[_, _, _, _], _, rfl, a8f hX hok h1 h4 h5 hcl hP (hX.rep.two h1 ha ((a1z (fun k => hbp k.symm)).trans hm) (by rw [a2r, hst]) (fun x _ hx => a1z hx)) hcn rfl rfl⟩
                | bad st =>
                  rw [hn] at hV hP hfa
                  dsimp only at hV hP
                  rw [hV] at hN
                  dsimp only at hN
                  have hst2 : st ≠ 0 := by
                    rcases hfa with k | k | k | k <;> omega
                  have hmN : upd X.m e.bp [.bool true, .str [], .int .i64 st] e.bc = some (cnC e.bp .nilp { e.c with s := [], st := st }) := (a1z (fun k => hbp k.symm)).trans hm
                  have hPl := a4l (w0 := w0) (base := base) (st := st) (b := []) (cl := true)
                  have hE := a4g (w0 := w0) (base := base) hG (a4e st true) hmN
                  repeat' (first|(first|(refine a0d ?_;refine a0t [0,1,2,3] rfl rfl hg ?_ ?_ rfl rfl ?_;(focus ((repeat constructor);done));(focus ((repeat constructor);done));rintro _ _ ⟨rfl,rfl⟩;refine ⟨_,_,by repeat constructor,by repeat constructor,?_⟩)|(refine a0d ?_;refine a0t [0,1,2,3] rfl rfl ho ?_ ?_ rfl rfl ?_;(focus ((repeat constructor);done));(focus ((repeat constructor);done));rintro _ _ ⟨rfl,rfl⟩;refine ⟨_,_,by repeat constructor,by repeat constructor,?_⟩)|refine a0b (a1c (n := 0) rfl rfl) rfl ?_|refine a0b (a2w rfl rfl rfl .int (a4d _) h3) rfl ?_|(refine a1d ?_;first|refine a0b (a4n rfl rfl) rfl ?_|refine a0b (a1n rfl rfl rfl (by omega)) rfl ?_)|(refine a1a ?_;refine a0b (a2b (id := 3) rfl rfl hm3 rfl) rfl ?_)|(refine a0d ?_;refine a0t [3] rfl rfl hN ?_ ?_ rfl rfl ?_;(focus ((repeat constructor);done));(focus ((repeat constructor);done));rintro _ _ ⟨rfl,rfl⟩;refine ⟨_,_,by repeat constructor,by repeat constructor,?_⟩)|(refine a0d ?_;refine a0q rfl rfl rfl rfl hPl ?_;rintro _ rfl)|(refine a0d ?_;refine a0t [3] rfl rfl hE ?_ ?_ rfl rfl ?_;(focus ((repeat constructor);done));(focus ((repeat constructor);done));rintro _ _ ⟨rfl,rfl⟩;refine ⟨_,_,by repeat constructor,by repeat constructor,?_⟩))|(refine a2g ?_;first|refine a0b (a0l rfl) rfl ?_|(refine k_g ?_;first|refine a1j rfl rfl (by with_reducible rfl) ?_|refine a1u rfl rfl (by with_reducible rfl) rfl ?_)|refine a0b (a0f rfl rfl) rfl ?_|(refine a1a ?_;first|refine a0b (a0u rfl rfl) rfl ?_|refine a0b (a0m rfl rfl rfl) rfl ?_)|(refine a1i ?_;first|refine a0b (a0j rfl (by with_reducible rfl) rfl) rfl ?_|refine a0b (a0i rfl (by with_reducible rfl) rfl) rfl ?_)|refine a0b (a0e rfl) rfl ?_|refine a0b (a0p rfl rfl) rfl ?_|refine a0v ?_|refine a1b rfl rfl rfl (by first|exact ln4|exact ln5) (by repeat constructor) rfl ?_|refine a0z rfl rfl rfl rfl rfl (by repeat constructor) (by repeat constructor) ?_|refine a0b (a1v rfl rfl rfl (by repeat constructor)) rfl ?_|refine a0b (a0w rfl (by with_reducible rfl)) rfl ?_|refine a0b (a1t rfl (by with_reducible rfl)) rfl ?_|refine a0b (a3b rfl rfl) rfl ?_)|(first|refine a1k ?_|(refine a1l ?_;first|refine a0c (a0a ?_)|refine a0c ?_|refine a0a ?_|(refine a0y ?_;first|refine a0g rfl (by with_reducible rfl) ?_|refine a0h rfl (by with_reducible rfl) ?_|(refine a2p rfl (fun hc => ?_) (fun hc => ?_) <;> (try (exact absurd hc (by decide)))))|refine a0n ?_|refine a0o ?_|refine a0k ?_)|refine a0r ?_|refine a1x ?_|refine a1m ?_))
                  refine retc1 (by first | exact .inr rfl | exact .inl rfl) rfl rfl rfl rfl rfl ?_
                  exact ⟨[_, _, _, _], _, rfl, a8f hX hok h1 h4 h5 hcl hP (hX.rep.two h1 ha a2r (by rw [a1z hbp, a2r]) (fun x hx hx' => by rw [a1z hx, a1z hx'])) ⟨Nat.zero_le _, hcn.a⟩ rfl rfl⟩
                | got h b k =>
                  rw [hn] at hV hP hfa
                  dsimp only at hV hP
                  rw [hV] at hN
                  dsimp only at hN
                  have hb := hbody h b k hn
                  have hmN : upd X.m e.bp [.bool true, .str (e.c.s.drop k), .int .i64 0] e.bc = some (cnC e.bp .nilp { e.c with s := e.c.s.drop k }) := (a1z (fun k => hbp k.symm)).trans hm
                  have hX' := hX.set (e' := { e with c := { e.c with s := e.c.s.drop k } }) (m' := upd X.m e.bp [.bool true,.str (e.c.s.drop k),.int .i64 0]) h1 rfl (hX.rep.two h1 ha hmN (by rw [a2r];show _ = some [AV.bool true,AV.str (e.c.s.drop k),AV.int .i64 e.c.st];rw [hst]) (fun x _ hx => a1z hx)) ⟨by show (e.c.s.drop k).length ≤ 65536;rw [List.length_drop];have := hcn.s;omega,hcn.a⟩
                  have hRq : ACalls (EE w0 base) 33 [.op 0 0,.ad e.bc 0,.agg (rqCs h b)] [.box [.int .i64 X.users,.int .i64 X.conns,.int .i64 X.asks,.mp 1,.mp 2],.map (X.l.map enK),.map (X.ss.map ssK) true,.hp (upd X.m e.bp [.bool true,.str (e.c.s.drop k),.int .i64 0])] fun rv os => rv = .agg (atC (requestC X.ds { e.c with s := e.c.s.drop k } h b).2) ∧ os = [.box [.int .i64 X.users,.int .i64 X.conns,.int .i64 X.asks,.mp 1,.mp 2],.map (X.l.map enK),.map (X.ss.map ssK) true,.hp (upd (upd X.m e.bp [.bool true,.str (e.c.s.drop k),.int .i64 0]) e.bc (cnC e.bp .nilp (requestC X.ds { e.c with s := e.c.s.drop k } h b).1))] := by
                    have h0 := c4b (w0 := w0) (base := base) (i := i) (e := { e with c := { e.c with s := e.c.s.drop k } }) (h := h) (b := b) hG hX' (List.getElem?_set_self hlt) hfa.1 (by omega)
                    rw [a7b (e' := { e with c := { e.c with s := e.c.s.drop k } }) h1 rfl rfl] at h0
                    refine a2y h0 ?_
                    have hcs := fun u => c3u (e := e) (c' := { e.c with s := e.c.s.drop k }) rfl rfl rfl rfl u h1
                    have e1 : requestC (Dem.ds { X with l := X.l.set i { e with c := { e.c with s := e.c.s.drop k } },m := upd X.m e.bp [.bool true,.str (e.c.s.drop k),.int .i64 0] }) { e.c with s := e.c.s.drop k } h b = requestC X.ds { e.c with s := e.c.s.drop k } h b := b0n (D := X.ds) (D' := Dem.ds { X with l := X.l.set i { e with c := { e.c with s := e.c.s.drop k } },m := upd X.m e.bp [.bool true,.str (e.c.s.drop k),.int .i64 0] }) rfl rfl rfl (fun u => (hcs u).1) (fun u => (hcs u).2) _ _ _
                    rintro rv os ⟨rfl, rfl⟩
                    refine ⟨congrArg (fun z => AV.agg (atC z.2)) e1, ?_⟩
                    refine (a7b (e' := { e with c := { e.c with s := e.c.s.drop k } }) h1 rfl rfl _).trans ?_
                    show _ = _
                    rw [← e1, ← hpa]
                  have hsm := b0m X.ds { e.c with s := e.c.s.drop k } h b
                  obtain ⟨⟨c1, a1⟩, hc1⟩ : ∃ p, p = requestC X.ds { e.c with s := e.c.s.drop k } h b := ⟨_, rfl⟩
                  rw [← hc1] at hRq hP hsm
                  obtain ⟨ak, ao, acl, au, atk, an, aw, rq⟩ := a1
                  rcases rq with _ | ⟨h', b'⟩
                  all_goals
                    repeat' (first|(first|(refine a0d ?_;refine a0t [0,1,2,3] rfl rfl hg ?_ ?_ rfl rfl ?_;(focus ((repeat constructor);done));(focus ((repeat constructor);done));rintro _ _ ⟨rfl,rfl⟩;refine ⟨_,_,by repeat constructor,by repeat constructor,?_⟩)|(refine a0d ?_;refine a0t [0,1,2,3] rfl rfl ho ?_ ?_ rfl rfl ?_;(focus ((repeat constructor);done));(focus ((repeat constructor);done));rintro _ _ ⟨rfl,rfl⟩;refine ⟨_,_,by repeat constructor,by repeat constructor,?_⟩)|refine a0b (a1c (n := 0) rfl rfl) rfl ?_|refine a0b (a2w rfl rfl rfl .int (a4d _) h3) rfl ?_|(refine a1d ?_;first|refine a0b (a4n rfl rfl) rfl ?_|refine a0b (a1o rfl rfl rfl (by omega)) rfl ?_)|(refine a1a ?_;refine a0b (a2b (id := 3) rfl rfl hm3 rfl) rfl ?_)|(refine a0d ?_;refine a0t [3] rfl rfl hN ?_ ?_ rfl rfl ?_;(focus ((repeat constructor);done));(focus ((repeat constructor);done));rintro _ _ ⟨rfl,rfl⟩;refine ⟨_,_,by repeat constructor,by repeat constructor,?_⟩)|(refine a0d ?_;refine a0t [0,1,2,3] rfl rfl hRq ?_ ?_ rfl rfl ?_;(focus ((repeat constructor);done));(focus ((repeat constructor);done));rintro _ _ ⟨rfl,rfl⟩;refine ⟨_,_,by repeat constructor,by repeat constructor,?_⟩))|(refine a2g ?_;first|refine a0b (a0l rfl) rfl ?_|(refine k_g ?_;first|refine a1j rfl rfl (by with_reducible rfl) ?_|refine a1u rfl rfl (by with_reducible rfl) rfl ?_)|refine a0b (a0f rfl rfl) rfl ?_|(refine a1a ?_;first|refine a0b (a0u rfl rfl) rfl ?_|refine a0b (a0m rfl rfl rfl) rfl ?_)|(refine a1i ?_;first|refine a0b (a0j rfl (by with_reducible rfl) rfl) rfl ?_|refine a0b (a0i rfl (by with_reducible rfl) rfl) rfl ?_)|refine a0b (a0e rfl) rfl ?_|refine a0b (a0p rfl rfl) rfl ?_|refine a0v ?_|refine a1b rfl rfl rfl (by first|exact ln4|exact ln5) (by repeat constructor) rfl ?_|refine a0z rfl rfl rfl rfl rfl (by repeat constructor) (by repeat constructor) ?_|refine a0b (a1v rfl rfl rfl (by repeat constructor)) rfl ?_|refine a0b (a0w rfl (by with_reducible rfl)) rfl ?_|refine a0b (a1t rfl (by with_reducible rfl)) rfl ?_|refine a0b (a3b rfl rfl) rfl ?_)|(first|refine a1k ?_|(refine a1l ?_;first|refine a0c (a0a ?_)|refine a0c ?_|refine a0a ?_|(refine a0y ?_;first|refine a0g rfl (by with_reducible rfl) ?_|refine a0h rfl (by with_reducible rfl) ?_|(refine a2p rfl (fun hc => ?_) (fun hc => ?_) <;> (try (exact absurd hc (by decide)))))|refine a0n ?_|refine a0o ?_|refine a0k ?_)|refine a0r ?_|refine a1x ?_|refine a1m ?_))
                    refine retc1 (by first | exact .inr rfl | exact .inl rfl) rfl rfl rfl rfl rfl ?_
                    exact ⟨[_,_,_,_],_,rfl,a8f hX hok h1 h4 h5 hcl hP (hX.rep.two h1 (hsm.2.2.trans ha) a2r (by rw [a1z hbp,a2r,hsm.1,hsm.2.1];show _ = some [AV.bool true,AV.str (e.c.s.drop k),AV.int .i64 e.c.st];rw [hst]) (fun x hx hx' => by rw [a1z hx,a1z hx'])) ⟨by rw [hsm.1];show (e.c.s.drop k).length ≤ 65536;rw [List.length_drop];have := hcn.s;omega,fun q hq => by rw [hsm.2.2] at hq;exact hcn.a q hq⟩ rfl rfl⟩
              · rw [if_pos hst] at hP
                have hV : nextV e.c.s e.c.st = (.tup [req0, .bool false, .int .i64 e.c.st], e.c.s, e.c.st) := if_pos hst
                rw [hV] at hN
                dsimp only at hN
                have hmN : upd X.m e.bp [.bool true, .str e.c.s, .int .i64 e.c.st] e.bc = some (cnC e.bp .nilp e.c) := (a1z (fun k => hbp k.symm)).trans hm
                have hPl := a4l (w0 := w0) (base := base) (st := e.c.st) (b := []) (cl := true)
                have hE := a4g (w0 := w0) (base := base) hG (a4e e.c.st true) hmN
                repeat' (first|(first|(refine a0d ?_;refine a0t [0,1,2,3] rfl rfl hg ?_ ?_ rfl rfl ?_;(focus ((repeat constructor);done));(focus ((repeat constructor);done));rintro _ _ ⟨rfl,rfl⟩;refine ⟨_,_,by repeat constructor,by repeat constructor,?_⟩)|(refine a0d ?_;refine a0t [0,1,2,3] rfl rfl ho ?_ ?_ rfl rfl ?_;(focus ((repeat constructor);done));(focus ((repeat constructor);done));rintro _ _ ⟨rfl,rfl⟩;refine ⟨_,_,by repeat constructor,by repeat constructor,?_⟩)|refine a0b (a1c (n := 0) rfl rfl) rfl ?_|refine a0b (a2w rfl rfl rfl .int (a4d _) h3) rfl ?_|(refine a1d ?_;first|refine a0b (a4n rfl rfl) rfl ?_|refine a0b (a1n rfl rfl rfl (by omega)) rfl ?_)|(refine a1a ?_;refine a0b (a2b (id := 3) rfl rfl hm3 rfl) rfl ?_)|(refine a0d ?_;refine a0t [3] rfl rfl hN ?_ ?_ rfl rfl ?_;(focus ((repeat constructor);done));(focus ((repeat constructor);done));rintro _ _ ⟨rfl,rfl⟩;refine ⟨_,_,by repeat constructor,by repeat constructor,?_⟩)|(refine a0d ?_;refine a0q rfl rfl rfl rfl hPl ?_;rintro _ rfl)|(refine a0d ?_;refine a0t [3] rfl rfl hE ?_ ?_ rfl rfl ?_;(focus ((repeat constructor);done));(focus ((repeat constructor);done));rintro _ _ ⟨rfl,rfl⟩;refine ⟨_,_,by repeat constructor,by repeat constructor,?_⟩))|(refine a2g ?_;first|refine a0b (a0l rfl) rfl ?_|(refine k_g ?_;first|refine a1j rfl rfl (by with_reducible rfl) ?_|refine a1u rfl rfl (by with_reducible rfl) rfl ?_)|refine a0b (a0f rfl rfl) rfl ?_|(refine a1a ?_;first|refine a0b (a0u rfl rfl) rfl ?_|refine a0b (a0m rfl rfl rfl) rfl ?_)|(refine a1i ?_;first|refine a0b (a0j rfl (by with_reducible rfl) rfl) rfl ?_|refine a0b (a0i rfl (by with_reducible rfl) rfl) rfl ?_)|refine a0b (a0e rfl) rfl ?_|refine a0b (a0p rfl rfl) rfl ?_|refine a0v ?_|refine a1b rfl rfl rfl (by first|exact ln4|exact ln5) (by repeat constructor) rfl ?_|refine a0z rfl rfl rfl rfl rfl (by repeat constructor) (by repeat constructor) ?_|refine a0b (a1v rfl rfl rfl (by repeat constructor)) rfl ?_|refine a0b (a0w rfl (by with_reducible rfl)) rfl ?_|refine a0b (a1t rfl (by with_reducible rfl)) rfl ?_|refine a0b (a3b rfl rfl) rfl ?_)|(first|refine a1k ?_|(refine a1l ?_;first|refine a0c (a0a ?_)|refine a0c ?_|refine a0a ?_|(refine a0y ?_;first|refine a0g rfl (by with_reducible rfl) ?_|refine a0h rfl (by with_reducible rfl) ?_|(refine a2p rfl (fun hc => ?_) (fun hc => ?_) <;> (try (exact absurd hc (by decide)))))|refine a0n ?_|refine a0o ?_|refine a0k ?_)|refine a0r ?_|refine a1x ?_|refine a1m ?_))
                refine retc1 (by first | exact .inr rfl | exact .inl rfl) rfl rfl rfl rfl rfl ?_
                exact ⟨[_, _, _, _], _, rfl, a8f hX hok h1 h4 h5 hcl hP (hX.rep.two h1 ha a2r (by rw [a1z hbp, a2r]) (fun x hx hx' => by rw [a1z hx, a1z hx'])) ⟨hcn.s, hcn.a⟩ rfl rfl⟩
  · rw [decide_eq_false hok] at hg
    have hS : pickD X.ds at' = (X.ds, at0, 1) := if_neg hok
    repeat' (first|(first|(refine a0d ?_;refine a0t [0,1,2,3] rfl rfl hg ?_ ?_ rfl rfl ?_;(focus ((repeat constructor);done));(focus ((repeat constructor);done));rintro _ _ ⟨rfl,rfl⟩;refine ⟨_,_,by repeat constructor,by repeat constructor,?_⟩))|(refine a2g ?_;first|refine a0b (a0l rfl) rfl ?_|(refine k_g ?_;first|refine a1j rfl rfl (by with_reducible rfl) ?_|refine a1u rfl rfl (by with_reducible rfl) rfl ?_)|refine a0b (a0f rfl rfl) rfl ?_|(refine a1a ?_;first|refine a0b (a0u rfl rfl) rfl ?_|refine a0b (a0m rfl rfl rfl) rfl ?_)|(refine a1i ?_;first|refine a0b (a0j rfl (by with_reducible rfl) rfl) rfl ?_|refine a0b (a0i rfl (by with_reducible rfl) rfl) rfl ?_)|refine a0b (a0e rfl) rfl ?_|refine a0b (a0p rfl rfl) rfl ?_|refine a0v ?_|refine a1b rfl rfl rfl (by first|exact ln4|exact ln5) (by repeat constructor) rfl ?_|refine a0z rfl rfl rfl rfl rfl (by repeat constructor) (by repeat constructor) ?_|refine a0b (a1v rfl rfl rfl (by repeat constructor)) rfl ?_|refine a0b (a0w rfl (by with_reducible rfl)) rfl ?_|refine a0b (a1t rfl (by with_reducible rfl)) rfl ?_|refine a0b (a3b rfl rfl) rfl ?_)|(first|refine a1k ?_|(refine a1l ?_;first|refine a0c (a0a ?_)|refine a0c ?_|refine a0a ?_|(refine a0y ?_;first|refine a0g rfl (by with_reducible rfl) ?_|refine a0h rfl (by with_reducible rfl) ?_|(refine a2p rfl (fun hc => ?_) (fun hc => ?_) <;> (try (exact absurd hc (by decide)))))|refine a0n ?_|refine a0o ?_|refine a0k ?_)|refine a0r ?_|refine a1x ?_|refine a1m ?_))
    refine a2l (.boxLe (id := 4) (atC at0) rfl (by repeat (first | exact .nil | refine .cons .nil ?_ | refine .cons (.refl _) ?_)) rfl) ?_
    refine retc1 (by first | exact .inr rfl | exact .inl rfl) rfl rfl rfl rfl rfl ?_
    exact ⟨dmO X, _, rfl, by unfold PkR; rw [hS]; exact ⟨rfl, X, hX, rfl, rfl⟩⟩
theorem b9l {X : Dem} {at' : Int} (hG : Tabs w0 base) (hX : DemOk X) : ACalls (EE w0 base) 13 [.op 0 0, .int .i64 at'] (dmO X) (PkR X at') := by
  refine a3p (c4c hG hX) ?_
  rintro rv os ⟨os1, ex, rfl, rfl, X', h1, rfl, h2⟩
  exact ⟨dmO X', ex, rfl, ⟨rfl, X', h1, rfl, h2⟩, c3v _ _ _, b5a X', Nat.le_refl _⟩
end
end Go.Proofs.YtkljmljkiodnpaaGreatDoor.L

namespace Go.Proofs.YtkljmljkiodnpaaGreatDoor.L
open Go Go.RowKit Go.Proofs
attribute [local irreducible] AL QL AWp Thn InB RetQ ACalls LoopQ HL HO HW HQ NoG JmpQ MidQ HF

abbrev zDem : AV := .rp [.int .i64 0, .int .i64 0, .int .i64 0, .nilmp, .nilmp]
section
variable {w0 : World} {base : Nat}
def AtB (a : At) : Prop := ∀ h b, a.rq = some (h, b) → RqB (rqOf h b)
end
end Go.Proofs.YtkljmljkiodnpaaGreatDoor.L

namespace Go.Proofs.YtkljmljkiodnpaaGreatDoor.L
open Go Go.RowKit Go.Proofs
attribute [local irreducible] AL QL AWp Thn InB RetQ ACalls LoopQ HL HO HW HQ NoG JmpQ MidQ HF

abbrev getL : List UInt8 := [71, 69, 84, 32, 47, 32, 72, 84, 84, 80, 47, 49, 46, 49, 13, 10, 72, 111, 115, 116, 58, 32, 97, 13, 10, 67, 111, 111, 107, 105, 101, 58, 32, 115, 105, 100, 61, 116, 13, 10, 13, 10, 71, 69, 84, 32, 47, 32, 72, 84, 84, 80, 47, 49, 46, 49, 13, 10, 72, 111, 115, 116, 58, 32, 97, 13, 10, 67, 111, 111, 107, 105, 101, 58, 32, 115, 105, 100, 61, 116, 13, 10, 13, 10]
def d18 : DS := ⟨2, 1, 1, [], []⟩
def rp18 : Rp := ⟨200, [], [104, 105], false⟩
theorem b2z {α : Type} {p : α × Int} {b : Int} (h : p.2 = b) : p = (p.1, b) := by subst h; rfl
theorem c1z {α β : Type} {p : α × β × Int} {b : Int} (h : p.2.2 = b) : p = (p.1, p.2.1, b) := by subst h; rfl
def aw1 : DS := (bindD d18 [116] 1).1
def aw2 : DS := (arriveD aw1 0 getL).1
def aw3 : DS := (pickD aw2 0).1
def aw4 : DS := (answerD aw3 0 rp18).1
def aw5 : DS := (pickD aw4 0).1
theorem awf1 : (bindD d18 [116] 1).2 = 0 := by decide +kernel
theorem awf2 : (arriveD aw1 0 getL).2 = 0 := by decide +kernel
theorem awf3 : (pickD aw2 0).2.2 = 0 := by decide +kernel
theorem awf4 : (answerD aw3 0 rp18).2 = 0 := by decide +kernel
theorem awf5 : (pickD aw4 0).2.2 = 0 := by decide +kernel
theorem awf6 : userD aw5 0 = 1 := by decide +kernel
theorem awf7 : (pickD aw2 0).2.1.kind = 4 ∧ (pickD aw2 0).2.1.user = 1 ∧ (pickD aw2 0).2.1.rq.isSome = true := by decide +kernel
theorem awf8 : (pickD aw4 0).2.1.kind = 1 ∧ (pickD aw4 0).2.1.rq.isSome = false ∧ 20 < (pickD aw4 0).2.1.out.length := by decide +kernel
theorem aw18 : ∃ (D1 D2 D3 D4 D5 : DS) (a b : At), bindD d18 [116] 1 = (D1, 0) ∧ arriveD D1 0 getL = (D2, 0) ∧ pickD D2 0 = (D3, a, 0) ∧ answerD D3 0 rp18 = (D4, 0) ∧ pickD D4 0 = (D5, b, 0) ∧ userD D5 0 = 1 ∧ (a.kind = 4 ∧ a.user = 1 ∧ a.rq.isSome = true) ∧ b.kind = 1 ∧ b.rq.isSome = false ∧ 20 < b.out.length :=
  ⟨aw1, aw2, aw3, aw4, aw5, (pickD aw2 0).2.1, (pickD aw4 0).2.1, b2z awf1, b2z awf2, c1z awf3, b2z awf4, c1z awf5, awf6, awf7, awf8⟩
abbrev X18 : Dem := ⟨2, 1, 1, [], [], fun _ => none⟩
theorem c5k : DemOk X18 := ⟨by decide, by decide, by decide, ⟨(fun i e h => by cases h), (fun i j e e' h => by cases h)⟩, List.nodup_nil, (fun e h => by cases h), (fun e h => by cases h), (fun p h => by cases h)⟩
theorem c0h : RpFit rp18 := ⟨by decide, (fun p h => by cases h), by decide⟩
section
variable {w0 : World} {base : Nat}
set_option maxHeartbeats 8000000 in
theorem b7g (hG : Tabs w0 base) : PCalls (EE w0 base) 9 [] fun rv => rv = .bool true := by
  obtain ⟨D1, D2, D3, D4, D5, a, b, f1, f2, f3, f4, f5, f6, ⟨f7, f8, f9⟩, f10, f11, f12⟩ := aw18
  have hN : ACalls (EE w0 base) 8 [.int .i64 2, .int .i64 1, .int .i64 1] [] fun rv os => rv = .tup [.op 2 0, .int .i64 0] ∧ os = [.map [], .map [] true, .box [.int .i64 2, .int .i64 1, .int .i64 1, .mp 0, .mp 1]] := a2y (b9n (w0 := w0) (base := base) (u := 2) (c := 1) (a := 1)) fun rv os h => by rwa [if_pos (by decide)] at h
  have hB : ACalls (EE w0 base) 15 [.op 0 0, .str [116], .int .i64 1] [.box [.int .i64 2, .int .i64 1, .int .i64 1, .mp 1, .mp 2], .map [], .map [] true, .hp fun _ => none] fun rv os => rv = .int .i64 0 ∧ ∃ X', DemOk X' ∧ os = dmO X' ∧ X'.ds = D1 := by
    refine a2y (b9s (w0 := w0) (base := base) (X := X18) (t := [116]) (u := 1) c5k) ?_
    intro rv os h
    have h0 : DmR (bindD d18 [116] 1) rv os := h
    rw [f1] at h0
    exact h0
  have hA : ∀ X, DemOk X → X.ds = D1 → ACalls (EE w0 base) 10 [.op 0 0, .int .i64 0, .str getL] (dmO X) fun rv os => rv = .int .i64 0 ∧ ∃ X', DemOk X' ∧ os = dmO X' ∧ X'.ds = D2 := by
    intro X hX hd
    have h0 := b1e (w0 := w0) (base := base) (at' := 0) (t := getL) hX (by decide)
    rw [hd, f2] at h0
    exact h0
  have hP1 : ∀ X, DemOk X → X.ds = D2 → ACalls (EE w0 base) 13 [.op 0 0, .int .i64 0] (dmO X) fun rv os => rv = .tup [.agg (atC a), .int .i64 0] ∧ ∃ X', DemOk X' ∧ os = dmO X' ∧ X'.ds = D3 := by
    intro X hX hd
    have h0 := b9l (w0 := w0) (base := base) (at' := 0) hG hX
    unfold PkR at h0
    rw [hd, f3] at h0
    exact h0
  have hW : ∀ X, DemOk X → X.ds = D3 → ACalls (EE w0 base) 16 [.op 0 0, .int .i64 0, .agg (rpC rp18)] (dmO X) fun rv os => rv = .int .i64 0 ∧ ∃ X', DemOk X' ∧ os = dmO X' ∧ X'.ds = D4 := by
    intro X hX hd
    have h0 := b5f (w0 := w0) (base := base) (at' := 0) (r := rp18) hX c0h (by decide)
    rw [hd, f4] at h0
    exact h0
  have hP2 : ∀ X, DemOk X → X.ds = D4 → ACalls (EE w0 base) 13 [.op 0 0, .int .i64 0] (dmO X) fun rv os => rv = .tup [.agg (atC b), .int .i64 0] ∧ ∃ X', DemOk X' ∧ os = dmO X' ∧ X'.ds = D5 := by
    intro X hX hd
    have h0 := b9l (w0 := w0) (base := base) (at' := 0) hG hX
    unfold PkR at h0
    rw [hd, f5] at h0
    exact h0
  have hU : ∀ X, DemOk X → X.ds = D5 → ACalls (EE w0 base) 19 [.op 0 0, .int .i64 0] (dmO X) fun rv os => rv = .int .i64 1 ∧ os = dmO X := by
    intro X hX hd
    have h0 := c2m (w0 := w0) (base := base) (at' := 0) hX
    rw [hd, f6] at h0
    exact h0
  obtain ⟨ak, ao, acl, au, atk, an, aw, rq⟩ := a
  obtain ⟨bk, bo, bcl, bu, btk, bn, bw, rq'⟩ := b
  dsimp only at f7 f8 f9 f10 f11 f12
  subst f7 f8 f10
  cases rq with
  | none => cases f9
  | some q =>
    obtain ⟨h, bd⟩ := q
    cases rq' with
    | some q' => cases f11
    | none =>
      refine a1r Tryz.func9 rfl rfl rfl .nil ?_
      repeat' (first|(first|(refine a0d ?_;refine a0t [] rfl rfl hN ?_ ?_ rfl rfl ?_;(focus ((repeat constructor);done));(focus ((repeat constructor);done));rintro _ _ ⟨rfl,rfl⟩;refine ⟨_,_,by repeat constructor,by repeat constructor,?_⟩;refine a4p (.hp0 (by repeat constructor)) ?_)|(refine a0d ?_;refine a0t [2,0,1,3] rfl rfl hB ?_ ?_ rfl rfl ?_;(focus ((repeat constructor);done));(focus ((repeat constructor);done));rintro _ _ ⟨rfl,X1,hX1,rfl,hd1⟩;refine ⟨_,_,by repeat constructor,by repeat constructor,?_⟩)|(refine a0d ?_;refine a0t [2,0,1,3] rfl rfl (hA X1 hX1 hd1) ?_ ?_ rfl rfl ?_;(focus ((repeat constructor);done));(focus ((repeat constructor);done));rintro _ _ ⟨rfl,X2,hX2,rfl,hd2⟩;refine ⟨_,_,by repeat constructor,by repeat constructor,?_⟩)|(refine a0d ?_;refine a0t [2,0,1,3] rfl rfl (hP1 X2 hX2 hd2) ?_ ?_ rfl rfl ?_;(focus ((repeat constructor);done));(focus ((repeat constructor);done));rintro _ _ ⟨rfl,X3,hX3,rfl,hd3⟩;refine ⟨_,_,by repeat constructor,by repeat constructor,?_⟩)|(refine a0d ?_;refine a4p (.le 30 (.agg (rpC rp18)) rfl (.agg (by repeat (first|exact .nil|refine .cons .nil ?_|refine .cons (.refl _) ?_)))) ?_;refine a0t [2,0,1,3] rfl rfl (hW X3 hX3 hd3) ?_ ?_ rfl rfl ?_;(focus ((repeat constructor);done));(focus ((repeat constructor);done));rintro _ _ ⟨rfl,X4,hX4,rfl,hd4⟩;refine ⟨_,_,by repeat constructor,by repeat constructor,?_⟩)|(refine a0d ?_;refine a0t [2,0,1,3] rfl rfl (hP2 X4 hX4 hd4) ?_ ?_ rfl rfl ?_;(focus ((repeat constructor);done));(focus ((repeat constructor);done));rintro _ _ ⟨rfl,X5,hX5,rfl,hd5⟩;refine ⟨_,_,by repeat constructor,by repeat constructor,?_⟩)|(refine a0d ?_;refine a0t [2,0,1,3] rfl rfl (hU X5 hX5 hd5) ?_ ?_ rfl rfl ?_;(focus ((repeat constructor);done));(focus ((repeat constructor);done));rintro _ _ ⟨rfl,rfl⟩;refine ⟨_,_,by repeat constructor,by repeat constructor,?_⟩)|(refine a1d ?_;first|refine a0b (a1n rfl rfl rfl (by omega)) rfl ?_|refine a0b (a1o rfl rfl rfl (by omega)) rfl ?_|refine a0b (a2n rfl rfl rfl) rfl ?_))|(refine a2g ?_;first|refine a0b (a0l rfl) rfl ?_|(refine k_g ?_;first|refine a1j rfl rfl (by with_reducible rfl) ?_|refine a1w rfl rfl (by with_reducible rfl) rfl ?_|(refine a2j rfl rfl (fun hc => ?_) (fun hc => ?_) <;> (try (exfalso;omega))))|refine a0b (a0f rfl rfl) rfl ?_|(refine a1a ?_;first|refine a0b (a0u rfl rfl) rfl ?_)|(refine a1d ?_;first|refine a0b (a1s rfl rfl rfl) rfl ?_)|(refine a1i ?_;first|refine a0b (a0j rfl (by with_reducible rfl) rfl) rfl ?_|refine a0b (a0i rfl (by with_reducible rfl) rfl) rfl ?_)|refine a0b (a0e rfl) rfl ?_|(refine a0d ?_;first|refine a0b (a0s rfl) rfl ?_)|refine a0b (a0p rfl rfl) rfl ?_|refine a0v ?_|refine a1b rfl rfl rfl (by first|exact ln4|exact ln5) (by repeat constructor) rfl ?_|refine a0z rfl rfl rfl rfl rfl (by repeat constructor) (by repeat constructor) ?_|refine a0b (a1v rfl rfl rfl (by repeat constructor)) rfl ?_)|(first|refine a1k ?_|(refine a1l ?_;first|refine a0c (a0a ?_)|refine a0c ?_|refine a0a ?_|(refine a0y ?_;first|refine a0h rfl (by with_reducible rfl) ?_)|refine a0o ?_|refine a0k ?_)))
      all_goals first
        | (refine ret1 (by first | exact .inr rfl | exact .inl rfl) rfl rfl ?_
           exact ⟨rfl, rfl⟩)
        | (exfalso; first | exact absurd rfl hc | (dsimp only at hc; omega))
abbrev at0C : List AV := [.int .i64 0, .str [], .bool false, .int .i64 0, .str [], .str [], .str [], .str [], .str [], .int .i64 0, .rs [], .str [], .rs [], .str [], .bool false]
abbrev rpZ : Rp := ⟨0, [], [], false⟩
end
end Go.Proofs.YtkljmljkiodnpaaGreatDoor.L

namespace Go.Proofs.YtkljmljkiodnpaaGreatDoor.L
open Go Go.RowKit Go.Proofs Go.ChangeShapes Go.WideShapes Go.ChangeAt
attribute [local irreducible] AL QL AWp Thn InB RetQ ACalls LoopQ
theorem rowOwn : ownKnob Tryz.prog.godebug = none := by kernel_rfl
theorem rowLaid : laidOutB Tryz.prog = true := by kernel_rfl
theorem c3q {W : World} (h : W.ShapedOpen Tryz.prog) : Glob W W.heap.size := by
  obtain ⟨m, hm⟩ := cell_of_shapedOpen_int (P := Tryz.prog) (g := 0) (t := 3) (zero := #[.int .i64 0]) (k := .i64) h (of_decide_eq_true (by kernel_rfl)) (by kernel_rfl) (by kernel_rfl) (by kernel_rfl) (by kernel_rfl) (by kernel_rfl)
  refine ⟨?_, m, hm⟩
  by_cases h0 : 0 < W.heap.size
  · exact h0
  · exfalso
    have : W.heap[0]? = none := by rw [Array.getElem?_eq_none_iff]; omega
    simp [World.cell?, this] at hm
theorem gES : Tryz.prog.globalNamed "strconv.ErrSyntax" = some 1 := by kernel_rfl
theorem gER : Tryz.prog.globalNamed "strconv.ErrRange" = some 2 := by kernel_rfl
theorem gPow : Tryz.prog.globalNamed "internal/strconv.uint64pow10" = some 3 := by kernel_rfl
theorem gESType : (Tryz.prog.globals[1]?).map (·.type) = some 130 := by kernel_rfl
theorem gERType : (Tryz.prog.globals[2]?).map (·.type) = some 130 := by kernel_rfl
theorem starErr : "*" ++ "errors.errorString" = "*errors.errorString" := by decide
theorem rowErr (u : TypeId) (h : Tryz.prog.typeName? 3 u = some "*errors.errorString") : u = 223 :=
  typeName_ptr_named (nm := "errors.errorString") (by rw [starErr]; kernel_rfl) (by kernel_rfl) (by decide) u (by rw [starErr]; exact h)
abbrev powL : List (String × DataW Unit) := [("internal/strconv.uint64pow10", Lib.tabData .u64 Lib.pow10Tab)]
abbrev esL : List (String × DataW Unit) := [("strconv.ErrSyntax", .iface "*errors.errorString" (.ptr (.agg [.lit (.string [105, 110, 118, 97, 108, 105, 100, 32, 115, 121, 110, 116, 97, 120])])))]
abbrev erL : List (String × DataW Unit) := [("strconv.ErrRange", .iface "*errors.errorString" (.ptr (.agg [.lit (.string [118, 97, 108, 117, 101, 32, 111, 117, 116, 32, 111, 102, 32, 114, 97, 110, 103, 101])])))]
theorem c2o {W : World} {l : List (String × DataW Unit)} (h : W.ShapedOpen Tryz.prog) (hL : laidMet Tryz.prog l W) (h1 : l.filter (fun x => x.1 == "internal/strconv.uint64pow10") = powL) (h2 : l.filter (fun x => x.1 == "strconv.ErrSyntax") = esL) (h3 : l.filter (fun x => x.1 == "strconv.ErrRange") = erL) : Tabs W W.heap.size := by
  have f1 := hL.filter (fun x => x.1 == "internal/strconv.uint64pow10")
  have f2 := hL.filter (fun x => x.1 == "strconv.ErrSyntax")
  have f3 := hL.filter (fun x => x.1 == "strconv.ErrRange")
  rw [h1] at f1
  rw [h2] at f2
  rw [h3] at f3
  obtain ⟨a0, s0, hv0, -, -, -⟩ := laid_sentinel f2 gES gESType Tryz.underlying130 rowErr Tryz.underlying223 Tryz.underlying225 rfl rfl Tryz.underlying9 (by kernel_rfl) (by kernel_rfl)
  obtain ⟨a1, s1, hv1, -, -, -⟩ := laid_sentinel f3 gER gERType Tryz.underlying130 rowErr Tryz.underlying223 Tryz.underlying225 rfl rfl Tryz.underlying9 (by kernel_rfl) (by kernel_rfl)
  have c0 : W.cell? ⟨1, 0, none⟩ = some (.iface 223 (.pointer (some a0))) := by have h0 := World.var?_cell gES hv0 0; simpa using h0
  have c1 : W.cell? ⟨2, 0, none⟩ = some (.iface 223 (.pointer (some a1))) := by have h0 := World.var?_cell gER hv1 0; simpa using h0
  have hT : Lib.TabIs Tryz.prog W "internal/strconv.uint64pow10" .u64 Lib.pow10Tab := Lib.tabIs_of_head (g := (Tryz.prog.globalNamed "internal/strconv.uint64pow10").getD 0) (t := ((Tryz.prog.globals[(Tryz.prog.globalNamed "internal/strconv.uint64pow10").getD 0]?).map (·.type)).getD 0) (e := 207) (n := 20) (by kernel_rfl) (by kernel_rfl) (by kernel_rfl) (by kernel_rfl) (by kernel_rfl) (by kernel_rfl) f1
  have c2 := hT.cell gPow 0 (by decide)
  refine ⟨c3q h, ?_, ⟨_, _, c0⟩, ⟨_, _, c1⟩, hT⟩
  by_cases h0 : 4 ≤ W.heap.size
  · exact h0
  · exfalso
    have : W.heap[3]? = none := by rw [Array.getElem?_eq_none_iff]; omega
    simp [World.cell?, this] at c2
end Go.Proofs.YtkljmljkiodnpaaGreatDoor.L

namespace Go.Proofs.YtkljmljkiodnpaaGreatDoor.L
open Go Go.RowKit Go.Proofs

theorem a4f (j k : Int) (c : Cn) : ∀ (l : List (Int × Cn)), lget j (lset k c l) = if j = k then some c else lget j l := by
  intro l
  induction l with
  | nil =>
    rfl
  | cons p l ih =>
    rw [lset]
    by_cases h : k = p.1
    · rw [if_pos h, lget, lget]
      by_cases h2 : j = p.1
      · rw [if_pos h2, if_pos (h2.trans h.symm)]
      · rw [if_neg h2, if_neg (fun e => h2 (e.trans h)), if_neg h2]
    · rw [if_neg h, lget, lget, ih]
      by_cases h2 : j = p.1
      · rw [if_pos h2, if_pos h2, if_neg (fun e => h (e.symm.trans h2))]
      · rw [if_neg h2, if_neg h2]
theorem b4q {k : Int} {c : Cn} {p : Int × Cn} : ∀ {l : List (Int × Cn)}, p ∈ lset k c l → p ∈ l ∨ p = (k, c) := by
  intro l
  induction l with
  | nil => intro h; rw [lset] at h; exact .inr (List.mem_singleton.1 h)
  | cons q l ih =>
    intro h
    rw [lset] at h
    split at h
    · rename_i e
      rcases List.mem_cons.1 h with rfl | h
      · exact .inr (by rw [e])
      · exact .inl (List.mem_cons_of_mem _ h)
    · rcases List.mem_cons.1 h with rfl | h
      · exact .inl List.mem_cons_self
      · rcases ih h with h | h
        · exact .inl (List.mem_cons_of_mem _ h)
        · exact .inr h
theorem c1a {k : Int} {c : Cn} : ∀ {l : List (Int × Cn)}, lget k l = some c → (k, c) ∈ l := by
  intro l
  induction l with
  | nil => intro h; cases h
  | cons p l ih =>
    intro h
    rw [lget] at h
    split at h
    · rename_i e
      injection h with h
      rw [e, ← h]
      exact List.mem_cons_self
    · exact List.mem_cons_of_mem _ (ih h)
def ss2 : List (List UInt8 × Int) := [([116], 0), ([117], 1)]
structure Fix (D : DS) : Prop where
  users : D.users = 2
  conns : D.conns = 4
  asks : D.asks = 4
  ss : D.ss = ss2
  keys : ∀ p ∈ D.l, 0 ≤ p.1 ∧ p.1 < 4
  nd : (D.l.map (·.1)).Nodup
def D20 : DS := ⟨2, 4, 4, [], ss2⟩
theorem Fix.len {D : DS} (h : Fix D) : D.l.length ≤ 4 := by
  have := a8m 4 (D.l.map (·.1)) h.nd (fun x hx => by
    obtain ⟨p, hp, rfl⟩ := List.mem_map.1 hx
    exact h.keys p hp)
  rwa [List.length_map] at this
def One (A A' : DS) (k : Int) : Prop := A' = A ∨ ∃ c, A' = { A with l := lset k c A.l }
def Both (A A' B B' : DS) (k : Int) : Prop := (A' = A ∧ B' = B) ∨ ∃ c, A' = { A with l := lset k c A.l } ∧ B' = { B with l := lset k c B.l }
theorem b7z (k : Int) (c : Cn) : ∀ (l : List (Int × Cn)), (lset k c l).map (·.1) = l.map (·.1) ∨ (k ∉ l.map (·.1) ∧ (lset k c l).map (·.1) = l.map (·.1) ++ [k]) := by
  intro l
  induction l with
  | nil => exact .inr ⟨by simp, rfl⟩
  | cons p l ih =>
    rw [lset]
    by_cases h : k = p.1
    · rw [if_pos h]
      exact .inl rfl
    · rw [if_neg h]
      rcases ih with ih | ⟨i1, i2⟩
      · left
        rw [List.map_cons, List.map_cons, ih]
      · right
        refine ⟨?_, ?_⟩
        · rw [List.map_cons, List.mem_cons]
          rintro (e | e)
          · exact h e
          · exact i1 e
        · rw [List.map_cons, List.map_cons, i2]
          rfl
theorem Fix.lset {D : DS} {k : Int} {c : Cn} (h : Fix D) (hk : 0 ≤ k ∧ k < 4) : Fix { D with l := lset k c D.l } := by
  refine ⟨h.users, h.conns, h.asks, h.ss, fun p hp => ?_, ?_⟩
  · rcases b4q hp with hp | rfl
    · exact h.keys p hp
    · exact hk
  · show ((L.lset k c D.l).map (·.1)).Nodup
    rcases b7z k c D.l with e | ⟨e1, e2⟩
    · rw [e]; exact h.nd
    · rw [e2, List.nodup_append]
      refine ⟨h.nd, by simp, fun a ha b hb => ?_⟩
      rw [List.mem_singleton.1 hb]
      exact fun e => e1 (e ▸ ha)
theorem Fix.one {A A' : DS} {k : Int} (h : Fix A) (hk : 0 ≤ k ∧ k < 4) (ho : One A A' k) : Fix A' := by
  rcases ho with rfl | ⟨c, rfl⟩
  · exact h
  · exact h.lset hk
structure Alike (A B : DS) : Prop where
  a : Fix A
  b : Fix B
  zero : lget 0 A.l = lget 0 B.l
  one : lget 1 A.l = lget 1 B.l
theorem Alike.at {A B : DS} (h : Alike A B) {k : Int} (h0 : 0 ≤ k) (h1 : k ≤ 1) : lget k A.l = lget k B.l := by
  have : k = 0 ∨ k = 1 := by omega
  rcases this with rfl | rfl
  · exact h.zero
  · exact h.one
theorem Alike.left {A A' B : DS} {k : Int} (h : Alike A B) (h1 : 1 < k) (h3 : k ≤ 3) (ho : One A A' k) : Alike A' B := by
  refine ⟨h.a.one ⟨by omega, by omega⟩ ho, h.b, ?_, ?_⟩
  · rcases ho with rfl | ⟨c, rfl⟩
    · exact h.zero
    · show lget 0 (lset k c A.l) = _
      rw [a4f, if_neg (by omega)]
      exact h.zero
  · rcases ho with rfl | ⟨c, rfl⟩
    · exact h.one
    · show lget 1 (lset k c A.l) = _
      rw [a4f, if_neg (by omega)]
      exact h.one
theorem Alike.both {A A' B B' : DS} {k : Int} (h : Alike A B) (h0 : 0 ≤ k) (h1 : k ≤ 1) (ho : Both A A' B B' k) : Alike A' B' := by
  rcases ho with ⟨rfl, rfl⟩ | ⟨c, rfl, rfl⟩
  · exact h
  · refine ⟨h.a.lset ⟨h0, by omega⟩, h.b.lset ⟨h0, by omega⟩, ?_, ?_⟩
    · show lget 0 (lset k c A.l) = lget 0 (lset k c B.l)
      rw [a4f, a4f, h.zero]
    · show lget 1 (lset k c A.l) = lget 1 (lset k c B.l)
      rw [a4f, a4f, h.one]
theorem Alike.user {A B : DS} (h : Alike A B) {k : Int} (h0 : 0 ≤ k) (h1 : k ≤ 1) : userD A k = userD B k := by
  unfold userD
  rw [h.at h0 h1]
end Go.Proofs.YtkljmljkiodnpaaGreatDoor.L

namespace Go.Proofs.YtkljmljkiodnpaaGreatDoor.L
open Go Go.RowKit Go.Proofs
attribute [local irreducible] AL QL AWp Thn InB RetQ ACalls LoopQ HL HO HW HQ NoG JmpQ MidQ HF

structure Op18 where
  kd : Int
  at' : Int
  us : Int
  tx : List UInt8
  r : Rp
abbrev opC (o : Op18) : List AV := [.int .i64 o.kd, .int .i64 o.at', .int .i64 o.us, .str o.tx, .int .i64 o.r.st, .rs (o.r.fs.map prAV), .str o.r.body, .bool o.r.cl]
structure OpFit (o : Op18) : Prop where
  tx : o.tx.length ≤ 140737488351232
  r : RpFit o.r
  fs : o.r.fs.length * 32 ≤ 140737488355328
abbrev sidT : List UInt8 := [115, 105, 100, 61, 116]
abbrev sidU : List UInt8 := [115, 105, 100, 61, 117]
theorem ln8 {α : Type} {a b c d e f g h : α} : [a, b, c, d, e, f, g, h].length = 8 := rfl
theorem ln9 {α : Type} {a b c d e f g h i : α} : [a, b, c, d, e, f, g, h, i].length = 9 := rfl
theorem ln10 {α : Type} {a b c d e f g h i j : α} : [a, b, c, d, e, f, g, h, i, j].length = 10 := rfl
section
variable {w0 : World} {base : Nat}
end
end Go.Proofs.YtkljmljkiodnpaaGreatDoor.L

namespace Go.Proofs.YtkljmljkiodnpaaGreatDoor.L
open Go Go.RowKit Go.Proofs Go.ChangeShapes Go.WideShapes Go.ChangeAt
attribute [local irreducible] AL QL AWp Thn InB RetQ ACalls LoopQ
theorem b5t {xs : List AV} (h : OKL [.str, .str] xs) : ∃ p : List UInt8 × List UInt8, xs = prAV p := by
  cases h with
  | cons h1 h2 => cases h2 with
    | cons h2 h3 => cases h3; cases h1 with
      | str a _ => cases h2 with
        | str b _ => exact ⟨(a, b), rfl⟩
theorem b3e : ∀ {rows : List (List AV)}, OKR [.str, .str] rows → ∃ fs : Fs, rows = fs.map prAV := by
  intro rows
  induction rows with
  | nil => intro _; exact ⟨[], rfl⟩
  | cons r rows ih =>
    intro h
    cases h with
    | cons h1 h2 =>
      obtain ⟨p, rfl⟩ := b5t h1
      obtain ⟨fs, rfl⟩ := ih h2
      exact ⟨p :: fs, rfl⟩
theorem b1p (fs : Fs) : fs.length ≤ rowsB (fs.map prAV) ∧ ∀ p ∈ fs, p.1.length ≤ rowsB (fs.map prAV) ∧ p.2.length ≤ rowsB (fs.map prAV) := by
  induction fs with
  | nil => exact ⟨Nat.zero_le _, fun p h => by cases h⟩
  | cons q fs ih =>
    rw [List.map_cons, rowsB, List.length_cons]
    have e : cellsB (prAV q) = (q.1.length + 1) + ((q.2.length + 1) + 0) := rfl
    rw [e]
    refine ⟨by omega, fun p hp => ?_⟩
    rcases List.mem_cons.1 hp with rfl | hp
    · omega
    · have := ih.2 p hp; omega
theorem b7s : ∀ {rows : List (List AV)}, OKR [.int .i64, .int .i64, .int .i64, .str, .int .i64, .sl [.str, .str], .str, .bool] rows → ∃ l : List Op18, rows = l.map opC := by
  intro rows
  induction rows with
  | nil => intro _; exact ⟨[], rfl⟩
  | cons r rows ih =>
    intro h
    cases h with
    | cons h1 h2 =>
      obtain ⟨l, rfl⟩ := ih h2
      cases h1 with | cons a1 h1 => cases h1 with | cons a2 h1 => cases h1 with | cons a3 h1 => cases h1 with | cons a4 h1 => cases h1 with | cons a5 h1 => cases h1 with | cons a6 h1 => cases h1 with | cons a7 h1 => cases h1 with | cons a8 h1 =>
        cases h1
        cases a1 with | int _ kd _ => cases a2 with | int _ at' _ => cases a3 with | int _ us _ => cases a4 with | str tx _ => cases a5 with | int _ st _ => cases a6 with | sl _ fr _ _ hr => cases a7 with | str b _ => cases a8 with | bool c =>
          obtain ⟨fs, rfl⟩ := b3e hr
          exact ⟨⟨kd, at', us, tx, ⟨st, fs, b, c⟩⟩ :: l, rfl⟩
theorem b0v (o : Op18) : cellsB (opC o) = 1 + (1 + (1 + ((o.tx.length + 1) + (1 + ((rowsB (o.r.fs.map prAV) + 1) + ((o.r.body.length + 1) + (1 + 0))))))) := rfl
theorem b4o {o : Op18} (h : cellsB (opC o) ≤ 2097152) : OpFit o := by
  rw [b0v] at h
  obtain ⟨h1, h2⟩ := b1p o.r.fs
  exact ⟨by omega, ⟨by omega, fun p hp => by have := h2 p hp; omega, by omega⟩, by omega⟩
theorem c3f : ∀ {l : List Op18}, rowsB (l.map opC) ≤ 2097152 → l.length ≤ rowsB (l.map opC) ∧ ∀ o ∈ l, OpFit o := by
  intro l
  induction l with
  | nil => intro _; exact ⟨Nat.zero_le _, fun r h => by cases h⟩
  | cons q l ih =>
    intro h
    rw [List.map_cons, rowsB] at h
    obtain ⟨i1, i2⟩ := ih (by omega)
    refine ⟨?_, fun r hr => ?_⟩
    · rw [List.map_cons, rowsB, List.length_cons, b0v]
      omega
    · rcases List.mem_cons.1 hr with rfl | hr
      · exact b4o (by omega)
      · exact i2 r hr
end Go.Proofs.YtkljmljkiodnpaaGreatDoor.L

namespace Go.Proofs.YtkljmljkiodnpaaGreatDoor.L
open Go Go.RowKit Go.Proofs

structure CnM (c : Cn) : Prop where
  st : c.st = 0 ∨ c.st = 400 ∨ c.st = 413 ∨ c.st = 431 ∨ c.st = 505
  ans : ∀ r, c.ans = some r → c.waits = false ∧ r.st ≠ 503 ∧ ∀ cl, (emitT { r with cl := cl }).length ≤ 1073741824
theorem b8q (P : Int × Cn → Bool) (k : Int) (c c' : Cn) : ∀ (l : List (Int × Cn)), lget k l = some c → ((lset k c' l).filter P).length + (if P (k, c) = true then 1 else 0) = (l.filter P).length + (if P (k, c') = true then 1 else 0) := by
  intro l
  induction l with
  | nil => intro h; cases h
  | cons p l ih =>
    intro h
    rw [lget] at h
    rw [lset]
    by_cases e : k = p.1
    · rw [if_pos e] at h
      injection h with h
      rw [if_pos e, List.filter_cons, List.filter_cons, ← e]
      have hp : p = (k, c) := by rw [e, ← h]
      rw [hp]
      split <;> split <;> simp only [List.length_cons] <;> omega
    · rw [if_neg e] at h
      have := ih h
      rw [if_neg e, List.filter_cons, List.filter_cons]
      split
      · rw [List.length_cons, List.length_cons]; omega
      · exact this
abbrev pCo (u : Int) : Int × Cn → Bool := fun e => !e.2.closed && decide (e.2.user = u)
abbrev pAs (u : Int) : Int × Cn → Bool := fun e => e.2.waits && decide (e.2.asks = u)
structure Met (D : DS) : Prop where
  ss : ∀ p ∈ D.ss, 0 ≤ p.2 ∧ p.2 < D.users
  cn : ∀ p ∈ D.l, CnM p.2
  c : ∀ u, 0 ≤ u → ((cntC D.l u : Nat) : Int) ≤ D.conns
  a : ∀ u, 0 ≤ u → ((cntA D.l u : Nat) : Int) ≤ D.asks
def Full (D : DS) : Prop := ∃ u, (0 ≤ u ∧ u < D.users) ∧ (D.conns ≤ ((cntC D.l u : Nat) : Int) ∨ D.asks ≤ ((cntA D.l u : Nat) : Int))
theorem Met.old {D : DS} {k : Int} {c c' : Cn} (h : Met D) (hk : lget k D.l = some c) (h1 : CnM c')
    (hC : ∀ u, 0 ≤ u → pCo u (k, c') = true → pCo u (k, c) = true ∨ ((cntC D.l u : Nat) : Int) < D.conns)
    (hA : ∀ u, 0 ≤ u → pAs u (k, c') = true → pAs u (k, c) = true ∨ ((cntA D.l u : Nat) : Int) < D.asks) : Met { D with l := lset k c' D.l } := by
  refine ⟨h.ss, fun p hp => ?_, fun u hu => ?_, fun u hu => ?_⟩
  · rcases b4q hp with hp | rfl
    · exact h.cn p hp
    · exact h1
  · have h2 := b8q (pCo u) k c c' D.l hk
    have h3 := h.c u hu
    have h4 := hC u hu
    show (((lset k c' D.l).filter (pCo u)).length : Int) ≤ D.conns
    have e : cntC D.l u = (D.l.filter (pCo u)).length := rfl
    rw [e] at h3 h4
    by_cases hp : pCo u (k, c') = true
    · rw [if_pos hp] at h2
      rcases h4 hp with h5 | h5
      · rw [if_pos h5] at h2; omega
      · split at h2 <;> omega
    · rw [if_neg hp] at h2
      split at h2 <;> omega
  · have h2 := b8q (pAs u) k c c' D.l hk
    have h3 := h.a u hu
    have h4 := hA u hu
    show (((lset k c' D.l).filter (pAs u)).length : Int) ≤ D.asks
    have e : cntA D.l u = (D.l.filter (pAs u)).length := rfl
    rw [e] at h3 h4
    by_cases hp : pAs u (k, c') = true
    · rw [if_pos hp] at h2
      rcases h4 hp with h5 | h5
      · rw [if_pos h5] at h2; omega
      · split at h2 <;> omega
    · rw [if_neg hp] at h2
      split at h2 <;> omega
theorem Met.answer {D : DS} (h : Met D) (k : Int) {r : Rp} (hr : r.st ≠ 503) (hs : ∀ cl, (emitT { r with cl := cl }).length ≤ 1073741824) : Met (answerD D k r).1 := by
  unfold answerD
  split
  · cases hq : lget k D.l with
    | none => exact h
    | some c =>
      dsimp only
      split
      · rename_i hw
        have hc := h.cn _ (c1a hq)
        have h1 : CnM (ansC c r) ∧ (ansC c r).waits = false ∧ (ansC c r).closed = c.closed ∧ (ansC c r).user = c.user := by
          unfold ansC
          split
          · refine ⟨⟨hc.st, fun q hq2 => ?_⟩, rfl, rfl, rfl⟩
            have := hc.ans q hq2
            exact ⟨rfl, this.2⟩
          · refine ⟨⟨hc.st, fun q hq2 => ?_⟩, rfl, rfl, rfl⟩
            injection hq2 with hq2
            subst hq2
            exact ⟨rfl, hr, hs⟩
        obtain ⟨h1, h2, h3, h4⟩ := h1
        refine h.old hq h1 (fun u _ hp => .inl ?_) (fun u _ hp => ?_)
        · show (!c.closed && decide (c.user = u)) = true
          rw [← h3, ← h4]
          exact hp
        · exfalso
          have hp2 : ((ansC c r).waits && decide ((ansC c r).asks = u)) = true := hp
          rw [h2] at hp2
          cases hp2
      · exact h
  · exact h
structure PkM (D : DS) (c c' : Cn) (a : At) : Prop where
  cn : CnM c'
  cu : ∀ u, 0 ≤ u → c'.user = u → c.user = u ∨ ((cntC D.l u : Nat) : Int) < D.conns
  ca : ∀ u, 0 ≤ u → c'.waits = true → c'.asks = u → (c.waits = true ∧ c.asks = u) ∨ ((cntA D.l u : Nat) : Int) < D.asks
  e : a.kind = 1 → ∃ r, a.out = emitT r ∧ (r.st = 503 → Full D) ∧ (emitT r).length ≤ 1073741824
  w : c.waits = true → a.kind = 0
def SameL (D D' : DS) : Prop := D'.users = D.users ∧ D'.conns = D.conns ∧ D'.asks = D.asks
end Go.Proofs.YtkljmljkiodnpaaGreatDoor.L

namespace Go.Proofs.YtkljmljkiodnpaaGreatDoor.L
open Go Go.RowKit Go.Proofs
attribute [local irreducible] AL QL AWp Thn InB RetQ ACalls LoopQ HL HO HW HQ NoG JmpQ MidQ HF

def digR (s : List UInt8) : Int := if s.all digB = true ∧ 1 ≤ s.length ∧ s.length ≤ 8 then (fv 0 s : Int) else -1
section
variable {w0 : World} {base : Nat}
end
end Go.Proofs.YtkljmljkiodnpaaGreatDoor.L

namespace Go.Proofs.YtkljmljkiodnpaaGreatDoor.L
open Go Go.RowKit Go.Proofs
attribute [local irreducible] AL QL AWp Thn InB RetQ ACalls LoopQ HL HO HW HQ NoG JmpQ MidQ HF

def reaR (st : Int) : AV := .tup [.str ((wordsY st).getD []), .int .i64 (if (wordsY st).isSome then 0 else 3)]
section
variable {w0 : World} {base : Nat}
end
end Go.Proofs.YtkljmljkiodnpaaGreatDoor.L

namespace Go.Proofs.YtkljmljkiodnpaaGreatDoor.L
open Go Go.RowKit Go.Proofs
attribute [local irreducible] AL QL AWp Thn InB RetQ ACalls LoopQ HL HO HW HQ NoG JmpQ MidQ HF

section
variable {w0 : World} {base : Nat}
end
end Go.Proofs.YtkljmljkiodnpaaGreatDoor.L

namespace Go.Proofs.YtkljmljkiodnpaaGreatDoor.L
open Go Go.RowKit Go.Proofs
attribute [local irreducible] AL QL AWp Thn InB RetQ ACalls LoopQ HL HO HW HQ NoG JmpQ MidQ HF

def PrP (s : List UInt8) (r : Rp) : Prop := mayY r = true ∧ ∃ tail, s = printY r ++ tail
def ColA (line : List UInt8) (k : Nat) : Prop := k ≤ line.length ∧ (∀ (j : Nat) (c : UInt8), j < k → line[j]? = some c → c ≠ 58) ∧ ∀ c, line[k]? = some c → c = 58
structure QInv (s : List UInt8) (st : Int) (at' : Nat) (out : Fs) : Prop where
  le : at' ≤ s.length
  len : out.length ≤ at'
  each : ∀ p ∈ out, p.1.length ≤ s.length ∧ p.2.length ≤ s.length
  eq : ∀ r, PrP s r → st = r.st ∧ r.body.length ≤ 1048576 ∧ ∃ rf tail, r.fs = out ++ rf ∧ rf.all fieldY = true ∧ s.drop at' = fldsY rf ++ (y3 r.body r.cl ++ tail)
structure EndP (s : List UInt8) (at' : Nat) (n : Int) (r : Rp) (out : Fs) : Prop where
  fs : r.fs = out
  n : n = (r.body.length : Int)
  cut : ∃ tail, Lib.cut (s.drop at') [13, 10] = (tx "connection: " ++ endW r.cl, [13, 10] ++ (r.body ++ tail), true)
end Go.Proofs.YtkljmljkiodnpaaGreatDoor.L

namespace Go.Proofs.YtkljmljkiodnpaaGreatDoor.L
open Go Go.RowKit Go.Proofs
attribute [local irreducible] AL QL AWp Thn InB RetQ ACalls LoopQ HL HO HW HQ NoG JmpQ MidQ HF

section
variable {w0 : World} {base : Nat}
end
end Go.Proofs.YtkljmljkiodnpaaGreatDoor.L

namespace Go.Proofs.YtkljmljkiodnpaaGreatDoor.L
open Go Go.RowKit Go.Proofs
attribute [local irreducible] AL QL AWp Thn InB RetQ ACalls LoopQ HL HO HW HQ NoG JmpQ MidQ HF

section
variable {E : Env} {sl : Slots} {H : List AO}
end
def restLC (s : List UInt8) (a : Nat) : List (List UInt8) := if a ≤ s.length then splitB 10 (s.drop a) else []
section
variable {w0 : World} {base : Nat}
end
end Go.Proofs.YtkljmljkiodnpaaGreatDoor.L

namespace Go.Proofs.YtkljmljkiodnpaaGreatDoor.L
open Go Go.RowKit Go.Proofs
attribute [local irreducible] AL QL AWp Thn InB RetQ ACalls LoopQ HL HO HW HQ NoG JmpQ MidQ HF

section
variable {w0 : World} {base : Nat}
abbrev noneC : List AV := [.int .i64 0, .nilsl, .str [], .bool false]
abbrev qSt (s : List UInt8) (at' : Nat) (st : Int) (ver : Nat) (xs : List (List AV)) : St :=
  ⟨[(0, .str s), (2, .op 0 0), (5, .op 1 0), (6, .op 2 0), (7, .int .i64 at')], [.box noneC, .box noneC, .box [.int .i64 st, .os 3 ver, .str [], .bool false], .row 90 2 ver 0 xs]⟩
end
end Go.Proofs.YtkljmljkiodnpaaGreatDoor.L

namespace Go.Proofs.YtkljmljkiodnpaaGreatDoor.L
open Go Go.RowKit Go.Proofs
attribute [local irreducible] AL QL AWp Thn InB RetQ ACalls LoopQ HL HO HW HQ NoG JmpQ MidQ HF

structure OpFitM (o : Op18) : Prop where
  f : OpFit o
  e : ∀ cl, (emitT { o.r with cl := cl }).length ≤ 1073741824
structure MetX (u c a : Int) (X : Dem) : Prop where
  ok : DemOk X
  met : Met X.ds
  u : X.users = u
  c : X.conns = c
  a : X.asks = a
section
variable {w0 : World} {base : Nat}
end
end Go.Proofs.YtkljmljkiodnpaaGreatDoor.L

namespace Go.Proofs.YtkljmljkiodnpaaGreatDoor.L
open Go Go.RowKit Go.Proofs Go.ChangeShapes Go.WideShapes Go.ChangeAt
attribute [local irreducible] AL QL AWp Thn InB RetQ ACalls LoopQ
theorem b7t {xs : List AV} (h : OKL [.int .i64, .int .i64, .int .i64] xs) : ∃ a b c : Int, xs = [.int .i64 a, .int .i64 b, .int .i64 c] := by
  cases h with | cons a1 h => cases h with | cons a2 h => cases h with | cons a3 h =>
    cases h
    cases a1 with | int _ a _ => cases a2 with | int _ b _ => cases a3 with | int _ c _ => exact ⟨a, b, c, rfl⟩
end Go.Proofs.YtkljmljkiodnpaaGreatDoor.L

namespace Go.Proofs.YtkljmljkiodnpaaGreatDoor.L
open Go Go.RowKit Go.Proofs
attribute [local irreducible] AL QL AWp Thn InB RetQ ACalls LoopQ HL HO HW HQ NoG JmpQ MidQ HF

def Within (s t : List UInt8) : Prop := ∃ i, i + t.length ≤ s.length ∧ (s.take (i + t.length)).drop i = t
section
variable {w0 : World} {base : Nat}
theorem b6z {s t : List UInt8} (hs : s.length ≤ 140737488351232) (ht : t.length ≤ 1099511627776) : PCalls (EE w0 base) 20 [.str s, .str t] fun rv => ∃ v, rv = .bool v ∧ (v = true ↔ Within s t) := by
  refine a1r Tryz.func20 rfl rfl rfl (.cons (.cons .nil)) ?_
  repeat' (first|(refine a2g ?_;first|refine a0b (a0l rfl) rfl ?_|(refine a1d ?_;first|refine a0b (a1p rfl rfl (by (first|exact w64 (by omega) (by omega)|rfl))) rfl ?_)|refine a0b (a0e rfl) rfl ?_|(refine a0d ?_;first|refine a0b (a0s rfl) rfl ?_)|refine a0v ?_)|(first|refine a1k ?_|(refine a1l ?_;first|refine a0c (a0a ?_)|refine a0c ?_|refine a0a ?_|(refine a0y ?_;first|refine a0g rfl (by with_reducible rfl) ?_|refine a0h rfl (by with_reducible rfl) ?_)|refine a0n ?_|refine a0o ?_|refine a0k ?_|refine a1g ?_)|refine a0r ?_|refine a1q ?_|refine a2m ?_|refine a1e ?_|refine a1x ?_|refine a1m ?_|refine a1f ?_))
  refine a2t (fun i : Nat => ⟨[(0, .str s), (1, .str t), (5, .int .i64 i)], []⟩) (fun i => i ≤ s.length + 1 ∧ ∀ j, j < i → ¬ (j + t.length ≤ s.length ∧ (s.take (j + t.length)).drop j = t)) (fun i => s.length + 1 - i) 0 (.of (.same (by repeat constructor))) ⟨Nat.zero_le _, fun j hj => absurd hj (Nat.not_lt_zero _)⟩ ?_
  rintro i ⟨hi, hno⟩
  dsimp only
  by_cases hlt : i + t.length ≤ s.length
  · have e1 : ((i : Int) + (t.length : Int)).toNat = i + t.length := by omega
    by_cases hm : (s.take (i + t.length)).drop i = t
    · repeat' (first|(first|refine a0b (a5t rfl rfl rfl (by omega) (by omega) (by omega)) rfl ?_|(refine a1d ?_;first|refine a0b (a1n rfl rfl rfl (by omega)) rfl ?_|refine a0b (a2h (n := t) (by rw [e1];exact hm) rfl rfl) rfl ?_))|(refine a2g ?_;first|refine a0b (a0l rfl) rfl ?_|(refine a1d ?_;first|refine a0b (a1p rfl rfl (by (first|exact w64 (by omega) (by omega)|rfl))) rfl ?_)|refine a0b (a0e rfl) rfl ?_|(refine a0d ?_;first|refine a0b (a0s rfl) rfl ?_)|refine a0v ?_)|(first|refine a1k ?_|(refine a1l ?_;first|refine a0c (a0a ?_)|refine a0c ?_|refine a0a ?_|(refine a0y ?_;first|refine a0g rfl (by with_reducible rfl) ?_|refine a0h rfl (by with_reducible rfl) ?_)|refine a0n ?_|refine a0o ?_|refine a0k ?_|refine a1g ?_)|refine a0r ?_|refine a1q ?_|refine a2m ?_|refine a1e ?_|refine a1x ?_|refine a1m ?_|refine a1f ?_))
      refine ret1 (by first | exact .inr rfl | exact .inl rfl) rfl rfl ?_
      exact ⟨⟨_, rfl, fun _ => ⟨i, hlt, hm⟩, fun _ => rfl⟩, rfl⟩
    · repeat' (first|(first|refine a0b (a5t rfl rfl rfl (by omega) (by omega) (by omega)) rfl ?_|(refine a1d ?_;first|refine a0b (a1n rfl rfl rfl (by omega)) rfl ?_|refine a0b (a2i (n := t) (by rw [e1];exact hm) rfl rfl) rfl ?_))|(refine a2g ?_;first|refine a0b (a0l rfl) rfl ?_|(refine a1d ?_;first|refine a0b (a1p rfl rfl (by (first|exact w64 (by omega) (by omega)|rfl))) rfl ?_)|refine a0b (a0e rfl) rfl ?_|(refine a0d ?_;first|refine a0b (a0s rfl) rfl ?_)|refine a0v ?_)|(first|refine a1k ?_|(refine a1l ?_;first|refine a0c (a0a ?_)|refine a0c ?_|refine a0a ?_|(refine a0y ?_;first|refine a0g rfl (by with_reducible rfl) ?_|refine a0h rfl (by with_reducible rfl) ?_)|refine a0n ?_|refine a0o ?_|refine a0k ?_|refine a1g ?_)|refine a0r ?_|refine a1q ?_|refine a2m ?_|refine a1e ?_|refine a1x ?_|refine a1m ?_|refine a1f ?_))
      first | refine a2d (i + 1) (.of (.same (by repeat constructor))) ?_ ?_ | fail
      · refine ⟨by omega, fun j hj => ?_⟩
        by_cases e : j = i
        · subst e; exact fun k => hm k.2
        · exact hno j (by omega)
      · (try dsimp only); omega
  · repeat' (first|((refine a1d ?_;first|refine a0b (a1o rfl rfl rfl (by omega)) rfl ?_))|(refine a2g ?_;first|refine a0b (a0l rfl) rfl ?_|(refine a1d ?_;first|refine a0b (a1p rfl rfl (by (first|exact w64 (by omega) (by omega)|rfl))) rfl ?_)|refine a0b (a0e rfl) rfl ?_|(refine a0d ?_;first|refine a0b (a0s rfl) rfl ?_)|refine a0v ?_)|(first|refine a1k ?_|(refine a1l ?_;first|refine a0c (a0a ?_)|refine a0c ?_|refine a0a ?_|(refine a0y ?_;first|refine a0g rfl (by with_reducible rfl) ?_|refine a0h rfl (by with_reducible rfl) ?_)|refine a0n ?_|refine a0o ?_|refine a0k ?_|refine a1g ?_)|refine a0r ?_|refine a1q ?_|refine a2m ?_|refine a1e ?_|refine a1x ?_|refine a1m ?_|refine a1f ?_))
    refine ret1 (by first | exact .inr rfl | exact .inl rfl) rfl rfl ?_
    refine ⟨⟨_, rfl, (fun h => absurd h (by decide)), fun h => ?_⟩, rfl⟩
    obtain ⟨j, h1, h2⟩ := h
    exact absurd ⟨h1, h2⟩ (hno j (by omega))
end
end Go.Proofs.YtkljmljkiodnpaaGreatDoor.L

namespace Go.Proofs.YtkljmljkiodnpaaGreatDoor.L
open Go Go.RowKit Go.Proofs

theorem b6q {s t : List UInt8} (h : t <:+: s) : Within s t := by
  obtain ⟨a, b, rfl⟩ := h
  refine ⟨a.length, by simp, ?_⟩
  rw [show a.length + t.length = (a ++ t).length by simp, List.take_left' rfl, List.drop_left' rfl]
theorem b8o (l p : List UInt8) : (Lib.cut l p).1 <:+: l ∧ (Lib.cut l p).2.1 <:+: l := by
  unfold Lib.cut
  split
  · exact ⟨(List.take_prefix _ _).isInfix, (List.drop_suffix _ _).isInfix⟩
  · exact ⟨List.infix_refl _, List.nil_infix⟩
theorem b6s (l cs : List UInt8) : Lib.trimS l cs <:+: l := by
  unfold Lib.trimS Lib.trimLeftS Lib.trimRightS
  refine (List.dropWhile_suffix _).isInfix.trans ?_
  have h := (List.dropWhile_suffix (fun b => cs.contains b) (l := l.reverse))
  have := List.reverse_prefix.2 h
  rw [List.reverse_reverse] at this
  exact this.isInfix
theorem c0a (c : UInt8) : ∀ (l : List UInt8), (∃ x r, splitB c l = x :: r ∧ x <+: l) ∧ ∀ x ∈ splitB c l, x <:+: l := by
  intro l
  induction l with
  | nil =>
    refine ⟨⟨[], [], rfl, List.prefix_refl _⟩, fun x hx => ?_⟩
    rw [splitB, List.mem_singleton] at hx
    rw [hx]; exact List.nil_infix
  | cons b l ih =>
    obtain ⟨⟨x, r, e, hx⟩, h2⟩ := ih
    rw [splitB, e]
    by_cases hb : b = c
    · rw [if_pos hb]
      refine ⟨⟨[], _, rfl, List.nil_prefix⟩, fun y hy => ?_⟩
      rcases List.mem_cons.1 hy with rfl | hy
      · exact List.nil_infix
      · rw [← e] at hy
        exact (h2 y hy).trans (List.suffix_cons b l).isInfix
    · rw [if_neg hb]
      refine ⟨⟨_, _, rfl, List.cons_prefix_cons.2 ⟨rfl, hx⟩⟩, fun y hy => ?_⟩
      rcases List.mem_cons.1 hy with rfl | hy
      · exact (List.cons_prefix_cons.2 ⟨rfl, hx⟩ : b :: x <+: b :: l).isInfix
      · have : y ∈ splitB c l := by rw [e]; exact List.mem_cons_of_mem _ hy
        exact (h2 y this).trans (List.suffix_cons b l).isInfix
def ValsIn (s : List UInt8) (fs : Fs) : Prop := ∀ p ∈ fs, p.2 <:+: s
theorem c3k (s : List UInt8) (k : Nat) : (lineAt s k).1 <:+: s := by
  unfold lineAt
  exact (b8o _ _).1.trans (List.drop_suffix _ _).isInfix
theorem c5t (l : List UInt8) : (fieldOf l).2 <:+: l := by
  unfold fieldOf fV
  exact (b6s _ _).trans (b8o _ _).2
theorem c4o (s : List UInt8) : ∀ (f k : Nat) (o : Option Hd), (∀ h, o = some h → ValsIn s h.fs) → ValsIn s (pGo s f k o).1.fs := by
  intro f
  induction f with
  | zero => intro k o _ p hp; cases hp
  | succ f ih =>
    intro k o ho
    have h0 : ValsIn s hd0.fs := fun p hp => by cases hp
    rw [a7p]
    split
    · exact h0
    split
    · exact h0
    cases o with
    | none =>
      dsimp only
      split
      · refine ih _ _ fun h e => ?_
        injection e with e
        subst e
        exact fun p hp => by cases hp
      · exact h0
    | some h =>
      have hh := ho h rfl
      dsimp only
      split
      · split
        · exact h0
        · split
          · exact hh
          · exact h0
      · split
        · exact h0
        · split
          · refine ih _ _ fun h' e => ?_
            injection e with e
            subst e
            intro p hp
            rcases List.mem_append.1 hp with hp | hp
            · exact hh p hp
            · rw [List.mem_singleton.1 hp]
              exact (c5t _).trans (c3k s k)
          · exact h0
theorem c0w {s : List UInt8} {h : Hd} {b : List UInt8} {k : Nat} (e : nextL s = .got h b k) : ValsIn s h.fs := by
  have hP : ∀ i, ValsIn s (headParse (s.take i)).1.fs := by
    intro i
    unfold headParse
    split
    · exact fun p hp => by cases hp
    · exact fun p hp => (c4o _ _ _ _ (fun h e => by cases e) p hp).trans (List.take_prefix _ _).isInfix
  unfold nextL at e
  rcases a7s s with hx | ⟨i, hx, hi4⟩
  · rw [hx, if_pos (by decide)] at e
    split at e <;> cases e
  · rw [hx, if_neg (by omega), Int.toNat_natCast] at e
    split at e
    · cases e
    · have hz := hP (i + 4)
      revert e hz
      generalize headParse (s.take (i + 4)) = r
      generalize bodyAt s (i + 4) r.1 = z
      intro e hz
      cases z with
      | more => cases e
      | bad st => cases e
      | got b' k' =>
        injection e with e1 e2 e3
        subst e1
        exact hz
theorem c1h {nm t : List UInt8} : ∀ {l : Fs}, getP l nm = some t → ∃ p ∈ l, p.2 = t := by
  intro l
  induction l with
  | nil => intro h; cases h
  | cons p l ih =>
    intro h
    rw [getP] at h
    split at h
    · injection h with h
      exact ⟨p, List.mem_cons_self, h⟩
    · obtain ⟨q, hq, e⟩ := ih h
      exact ⟨q, List.mem_cons_of_mem _ hq, e⟩
theorem b8p {s : List UInt8} : ∀ (ps : List (List UInt8)) (out : Fs), (∀ p ∈ ps, p <:+: s) → ValsIn s out → ValsIn s (cookGo ps out) := by
  intro ps
  induction ps with
  | nil => intro out _ h; exact h
  | cons p ps ih =>
    intro out hp h
    have h1 : ValsIn s (out ++ cookP p) := by
      intro q hq
      rcases List.mem_append.1 hq with hq | hq
      · exact h q hq
      · unfold cookP at hq
        split at hq
        · rw [List.mem_singleton.1 hq]
          exact ((b8o _ _).2.trans (b6s _ _)).trans (hp p List.mem_cons_self)
        · cases hq
    rw [cookGo]
    split
    · exact ih _ (fun q hq => hp q (List.mem_cons_of_mem _ hq)) h1
    · exact h1
theorem b9z {s : List UInt8} : ∀ (vs : List (List UInt8)), (∀ v ∈ vs, v <:+: s) → tokGo vs <:+: s := by
  intro vs
  induction vs with
  | nil => intro _; exact List.nil_infix
  | cons v vs ih =>
    intro hv
    rw [tokGo]
    split
    · rename_i t ht
      obtain ⟨p, hp, e⟩ := c1h ht
      rw [← e]
      refine b8p (splitB 59 v) [] (fun x hx => ((c0a 59 v).2 x hx).trans (hv v List.mem_cons_self)) (fun q hq => by cases hq) p ?_
      exact hp
    · exact ih fun x hx => hv x (List.mem_cons_of_mem _ hx)
theorem b9y {s : List UInt8} {h : Hd} (hv : ValsIn s h.fs) : tokenS h <:+: s := by
  refine b9z _ fun v hv2 => ?_
  unfold valsOf at hv2
  obtain ⟨p, hp, rfl⟩ := List.mem_map.1 hv2
  exact hv p (List.mem_filter.1 hp).1
def sdel (t : List UInt8) : List (List UInt8 × Int) → List (List UInt8 × Int)
  | [] => []
  | p :: r => if t = p.1 then r else p :: sdel t r
theorem b4e {t : List UInt8} : ∀ {l : List (List UInt8 × Int)} {p}, p ∈ sdel t l → p ∈ l := by
  intro l
  induction l with
  | nil => intro p h; cases h
  | cons q l ih =>
    intro p h
    rw [sdel] at h
    split at h
    · exact List.mem_cons_of_mem _ h
    · rcases List.mem_cons.1 h with rfl | h
      · exact List.mem_cons_self
      · exact List.mem_cons_of_mem _ (ih h)
def freeD (D : DS) (t : List UInt8) : DS × Int := if (sget t D.ss).isSome = true then ({ D with ss := sdel t D.ss }, 0) else (D, 3)
def updB (bs : Int → List UInt8) (k : Int) (t : List UInt8) : Int → List UInt8 := fun j => if j = k then t else bs j
structure Own (D : DS) (bs : Int → List UInt8) (hist : List (List UInt8 × Int)) : Prop where
  ss : ∀ p ∈ D.ss, p ∈ hist
  l : ∀ k c, lget k D.l = some c → c.lost = false → c.st = 0 → c.s <:+ bs k
def SameU (D D' : DS) : Prop := ∀ k, userD D' k = userD D k
theorem a6u {D : DS} {k : Int} {c : Cn} (j : Int) : userD { D with l := lset k c D.l } j = if inAt j then (if j = k then c.user else userD D j) else -1 := by
  unfold userD
  by_cases hj : inAt j
  · rw [if_pos hj, if_pos hj, if_pos hj]
    by_cases e : j = k
    · have h1 : lget j (lset k c D.l) = some c := by rw [a4f, if_pos e]
      rw [if_pos e]
      show (match lget j (lset k c D.l) with | none => -1 | some c => c.user) = _
      rw [h1]
    · have h1 : lget j (lset k c D.l) = lget j D.l := by rw [a4f, if_neg e]
      rw [if_neg e]
      show (match lget j (lset k c D.l) with | none => -1 | some c => c.user) = _
      rw [h1]
      rfl
  · rw [if_neg hj, if_neg hj]
theorem a9n {D : DS} {k : Int} {c : Cn} (h : inAt k → c.user = userD D k) : SameU D { D with l := lset k c D.l } := by
  intro j
  rw [a6u]
  by_cases hj : inAt j
  · rw [if_pos hj]
    by_cases e : j = k
    · rw [if_pos e]
      subst e
      exact (h hj)
    · rw [if_neg e]
  · rw [if_neg hj]
    unfold userD
    rw [if_neg hj]
theorem a8c {D : DS} {k : Int} {c : Cn} (hk : inAt k) (h : lget k D.l = some c) : userD D k = c.user := by
  unfold userD
  rw [if_pos hk, h]
theorem Own.put {D : DS} {bs bs' : Int → List UInt8} {hist : List (List UInt8 × Int)} (h : Own D bs hist) {k : Int} {c : Cn} (hb : ∀ j, j ≠ k → bs' j = bs j) (hc : c.lost = false → c.st = 0 → c.s <:+ bs' k) : Own { D with l := lset k c D.l } bs' hist := by
  refine ⟨h.ss, fun j c' hj h1 h2 => ?_⟩
  have hj2 : lget j (lset k c D.l) = some c' := hj
  rw [a4f] at hj2
  by_cases e : j = k
  · rw [if_pos e] at hj2
    injection hj2 with hj2
    subst hj2
    rw [e]
    exact hc h1 h2
  · rw [if_neg e] at hj2
    rw [hb j e]
    exact h.l j c' hj2 h1 h2
theorem b5o {D : DS} {bs : Int → List UInt8} {hist : List (List UInt8 × Int)} (h : Own D bs hist) (k : Int) (t : List UInt8) :
    ((arriveD D k t).2 = 0 ∧ inAt k ∧ t.length ≤ 65536 ∧ Own (arriveD D k t).1 (updB bs k (bs k ++ t)) hist ∧ SameU D (arriveD D k t).1) ∨ ((arriveD D k t).2 ≠ 0 ∧ (arriveD D k t).1 = D) := by
  unfold arriveD
  by_cases h1 : inAt k ∧ t.length ≤ 65536
  · rw [if_pos h1]
    by_cases h2 : ((lget k D.l).getD cn0).closed = true
    · rw [if_pos h2]
      exact .inr ⟨show (80 : Int) ≠ 0 by decide, rfl⟩
    · rw [if_neg h2]
      obtain ⟨c, hc⟩ : ∃ c, c = (lget k D.l).getD cn0 := ⟨_, rfl⟩
      have hcs : (c.lost = false → c.st = 0 → c.s <:+ bs k) ∧ (inAt k → c.user = userD D k) := by
        cases hq : lget k D.l with
        | none =>
          rw [hq] at hc
          rw [hc]
          refine ⟨fun _ _ => List.nil_suffix, fun hk => ?_⟩
          unfold userD
          rw [if_pos hk, hq]
          rfl
        | some c2 =>
          rw [hq] at hc
          have e : c = c2 := hc
          subst e
          exact ⟨h.l _ _ hq, fun hk => (a8c hk hq).symm⟩
      rw [← hc]
      refine .inl ⟨rfl, h1.1, h1.2, h.put (fun j hj => by unfold updB; rw [if_neg hj]) fun hl hst => ?_, a9n hcs.2⟩
      have hl2 : (decide ((feedS c.s c.st t).1 = 2) || c.lost) = false := hl
      rw [Bool.or_eq_false_iff] at hl2
      have hst2 : c.st = 0 := hst
      have h5 : ¬ (feedS c.s c.st t).1 = 2 := of_decide_eq_false hl2.1
      obtain ⟨a, ha⟩ := hcs.1 hl2.2 hst2
      unfold updB
      rw [if_pos rfl]
      show (feedS c.s c.st t).2 <:+ _
      unfold feedS at h5 ⊢
      rw [hst2, if_neg (by decide)] at h5 ⊢
      split
      · rename_i h6
        rw [if_pos h6] at h5
        exact absurd rfl h5
      · exact ⟨a, by rw [← ha, List.append_assoc]⟩
  · rw [if_neg h1]
    exact .inr ⟨show (1 : Int) ≠ 0 by decide, rfl⟩
theorem c0r {D : DS} {bs : Int → List UInt8} {hist : List (List UInt8 × Int)} (h : Own D bs hist) (t : List UInt8) (u : Int) :
    ((bindD D t u).2 = 0 ∧ Own (bindD D t u).1 bs (hist ++ [(t, u)]) ∧ SameU D (bindD D t u).1) ∨ ((bindD D t u).2 ≠ 0 ∧ (bindD D t u).1 = D) := by
  unfold bindD
  split
  · refine .inl ⟨rfl, ⟨fun p hp => ?_, h.l⟩, fun _ => rfl⟩
    rcases b4b hp with hp | rfl
    · exact List.mem_append_left _ (h.ss p hp)
    · exact List.mem_append_right _ List.mem_cons_self
  · exact .inr ⟨show (1 : Int) ≠ 0 by decide, rfl⟩
theorem c0q {D : DS} {bs : Int → List UInt8} {hist : List (List UInt8 × Int)} (h : Own D bs hist) (t : List UInt8) : Own (freeD D t).1 bs hist ∧ SameU D (freeD D t).1 := by
  unfold freeD
  split
  · exact ⟨⟨fun p hp => h.ss p (b4e hp), h.l⟩, fun _ => rfl⟩
  · exact ⟨h, fun _ => rfl⟩
theorem b5p {D : DS} {bs : Int → List UInt8} {hist : List (List UInt8 × Int)} (h : Own D bs hist) (k : Int) (r : Rp) : Own (answerD D k r).1 bs hist ∧ SameU D (answerD D k r).1 := by
  unfold answerD
  split
  · rename_i hk
    cases hq : lget k D.l with
    | none => exact ⟨h, fun _ => rfl⟩
    | some c =>
      dsimp only
      split
      · have e : (ansC c r).s = c.s ∧ (ansC c r).lost = c.lost ∧ (ansC c r).st = c.st ∧ (ansC c r).user = c.user := by
          unfold ansC
          split <;> exact ⟨rfl, rfl, rfl, rfl⟩
        obtain ⟨e1, e2, e3, e4⟩ := e
        refine ⟨h.put (fun _ _ => rfl) ?_, a9n fun hk => ?_⟩
        · rw [e1, e2, e3]
          exact h.l k c hq
        · rw [e4, a8c hk hq]
      · exact ⟨h, fun _ => rfl⟩
  · exact ⟨h, fun _ => rfl⟩
def PickU (D : DS) (c c' : Cn) : Prop := c'.s <:+ c.s ∧ c'.lost = c.lost ∧ (c'.st = 0 → c.st = 0) ∧ (c'.user = c.user ∨ (c.user = -1 ∧ c.lost = false ∧ c.st = 0 ∧ ∃ t, (t, c'.user) ∈ D.ss ∧ t <:+: c.s))
theorem b1u {D : DS} {c : Cn} {h : Hd} {b : List UInt8} {k : Nat} (hv : ValsIn c.s h.fs) (hl : c.lost = false) (hst : c.st = 0) : PickU D c (requestC D { c with s := c.s.drop k } h b).1 := by
  have hs : c.s.drop k <:+ c.s := List.drop_suffix _ _
  unfold requestC
  split
  · unfold loginC
    split
    · split
      · split
        · exact ⟨hs, rfl, id, .inl rfl⟩
        · exact ⟨hs, rfl, id, .inl rfl⟩
      · exact ⟨hs, rfl, id, .inl rfl⟩
    · exact ⟨hs, rfl, id, .inl rfl⟩
  · cases hq : sget (tokenS h) D.ss with
    | none => exact ⟨hs, rfl, id, .inl rfl⟩
    | some u =>
      have hm := b0e hq
      have hu : c.user = -1 ∨ c.user = u ∨ (c.user ≠ -1 ∧ c.user ≠ u) := by omega
      dsimp only
      split
      · exact ⟨hs, rfl, id, .inl rfl⟩
      rename_i h2
      have hr : u = c.user ∨ (c.user = -1 ∧ c.lost = false ∧ c.st = 0 ∧ ∃ t, (t, u) ∈ D.ss ∧ t <:+: c.s) := by
        rcases hu with e | e | e
        · exact .inr ⟨e, hl, hst, _, hm, b9y hv⟩
        · exact .inl e.symm
        · exact absurd e h2
      split
      · exact ⟨hs, rfl, id, .inl rfl⟩
      split
      · exact ⟨hs, rfl, id, hr⟩
      split
      · exact ⟨hs, rfl, id, hr⟩
      · exact ⟨hs, rfl, id, hr⟩
theorem b7m (D : DS) (c : Cn) : PickU D c (pickC D c).1 := by
  have h0 : PickU D c c := ⟨List.suffix_refl _, rfl, id, .inl rfl⟩
  cases ha : c.ans with
  | some r =>
    unfold pickC
    rw [ha]
    exact h0
  | none =>
    rw [a9s ha]
    split
    · exact h0
    split
    · exact h0
    rename_i h2
    split
    · exact h0
    rename_i h3
    have hf := a8n c.s
    cases hz : nextL c.s with
    | more => exact h0
    | bad st =>
      rw [hz] at hf
      refine ⟨List.nil_suffix, rfl, fun e => ?_, .inl rfl⟩
      have e2 : st = 0 := e
      subst e2
      rcases hf with hf | hf | hf | hf <;> exact absurd hf (by decide)
    | got h b k => exact b1u (c0w hz) (by simpa using h2) (Classical.not_not.1 h3)
theorem c0p {D : DS} {bs : Int → List UInt8} {hist : List (List UInt8 × Int)} (h : Own D bs hist) (k : Int) : Own (pickD D k).1 bs hist ∧ (∀ j, j ≠ k → userD (pickD D k).1 j = userD D j) ∧ (userD (pickD D k).1 k = userD D k ∨ (userD D k = -1 ∧ inAt k ∧ ∃ t, (t, userD (pickD D k).1 k) ∈ hist ∧ t <:+: bs k)) := by
  unfold pickD
  by_cases hk : inAt k
  · rw [if_pos hk]
    cases hq : lget k D.l with
    | none => exact ⟨h, fun _ _ => rfl, .inl rfl⟩
    | some c =>
      dsimp only
      split
      · exact ⟨h, fun _ _ => rfl, .inl rfl⟩
      · obtain ⟨p1, p2, p3, p4⟩ := b7m D c
        refine ⟨h.put (fun _ _ => rfl) fun h1 h2 => ?_, fun j hj => ?_, ?_⟩
        · rw [p2] at h1
          exact p1.trans (h.l k c hq h1 (p3 h2))
        · show userD { D with l := lset k (pickC D c).1 D.l } j = _
          rw [a6u]
          by_cases hj2 : inAt j
          · rw [if_pos hj2, if_neg hj]
          · rw [if_neg hj2]
            unfold userD
            rw [if_neg hj2]
        · have e : userD { D with l := lset k (pickC D c).1 D.l } k = (pickC D c).1.user := by rw [a6u, if_pos hk, if_pos rfl]
          show userD { D with l := lset k (pickC D c).1 D.l } k = _ ∨ (_ ∧ _ ∧ ∃ t, (t, userD { D with l := lset k (pickC D c).1 D.l } k) ∈ hist ∧ _)
          rw [e, a8c hk hq]
          rcases p4 with p4 | ⟨p5, p6, p7, t, p8, p9⟩
          · exact .inl p4
          · exact .inr ⟨p5, hk, t, h.ss _ p8, p9.trans (h.l k c hq p6 p7).isInfix⟩
  · rw [if_neg hk]
    exact ⟨h, fun _ _ => rfl, .inl rfl⟩
end Go.Proofs.YtkljmljkiodnpaaGreatDoor.L

namespace Go.Proofs.YtkljmljkiodnpaaGreatDoor.L
open Go Go.RowKit
section
variable {E : Env} {N : Nat} {ops : Array Oper} {Q : Exit → St → Prop} {rest : List Oper} {sl : Slots} {H H' : List AO}
theorem a4x {t e len n b n' b' : Nat} {z z' : Value} {d' : Bool} [ti : TI E.P t (.array len e) n b z] [te : TZ E.P e d' n' b' z'] {x i : Operand} {id off j : Nat} {k : IntKind} {m : Int}
    (hx : ev sl x = some (.op id off)) (hi : ev sl i = some (.int k m)) (h0 : 0 ≤ m) (h1 : m < (len : Int)) (hj : off + m.toNat * n' = j) : OV E sl H (.indexAddr t x i) (.op id j) := by
  subst hj
  intro I ν a w hh hs
  have hi' := (a2o hs hi).int_inv
  obtain ⟨bk, o, hv, hr⟩ := a9c (n := m.toNat * n') (q := .op id (off + m.toNat * n')) rfl (a2o hs hx)
  refine ⟨_, hr, fun oo w' ho hb => ?_⟩
  simp [execOp, ho, hv, hi', Instr.indexAt, Instr.sureAddr, asIntOf, ti.und, h0, h1, te.size, a3z]
theorem a4i {t : Nat} {n b : Nat} {z : Value} [ti : TZ E.P t false n b z] {p : Operand} {id off : Nat} {cells : List AV} {tyo : Option Nat} {x : AV} (hp : ev sl p = some (.op id off)) (hH : H[id]? = some (.box cells tyo)) (hc : cells[off]? = some x) : OV E sl H (.load t p) x := by
  have hlt : off < cells.length := (List.getElem?_eq_some_iff.1 hc).1
  refine a0u (r := cells.drop (off + 1)) hp ?_
  have hg : cells[off] = x := by
    rw [List.getElem?_eq_getElem hlt] at hc
    exact Option.some.inj hc
  show (match H[id]? with | some (.box cells _) => some (cells.drop off) | _ => none) = _
  rw [hH]
  show some (cells.drop off) = _
  rw [List.drop_eq_getElem_cons hlt, hg]
theorem b0o {α : Type} {x : α} : ∀ {off : Nat} {cells : List α}, off < cells.length → PutN off cells [x] (cells.set off x) := by
  intro off
  induction off with
  | zero =>
    intro cells h
    cases cells with
    | nil => simp at h
    | cons a l => exact .here .done
  | succ off ih =>
    intro cells h
    cases cells with
    | nil => simp at h
    | cons a l => exact .skip (ih (by simpa using h))
theorem c5d {t kt et t3 : Nat} {n b : Nat} {z : Value} {kd : KD} [tm : TI E.P t (.map kt et) n b z] [kk : KK E.P kt kd] {m x : Operand} {id : Nat} {es es' : List (AV × AV)} {xv : AV} {ty : TypeId} {pos : String} {after : Array Edge}
    (hm : ev sl m = some (.mp id)) (hx : ev sl x = some xv) (hU : Upd id H (.map es true) (.map es' true) H') (hxo : OKk kd xv) (hk : ∀ p ∈ es, OKk kd p.1) (he : mdel xv es = es')
    (h : AL E N ops Q rest ⟨sl, H'⟩) : AL E N ops Q (⟨none, .call { callee := .builtin .delete, args := #[m, x], argTypes := #[t, t3] }, ty, pos, after, none⟩ :: rest) ⟨sl, H⟩ := b9j (t := t) hm hx hU hxo hk he rfl h
end
end Go.Proofs.YtkljmljkiodnpaaGreatDoor.L

namespace Go.Proofs.YtkljmljkiodnpaaGreatDoor.L
open Go Go.RowKit Go.Proofs
attribute [local irreducible] AL QL AWp Thn InB RetQ ACalls LoopQ HL HO HW HQ NoG JmpQ MidQ HF

theorem c3j (t : List UInt8) : ∀ (l : List (List UInt8 × Int)), mdel (.str t) (l.map ssK) = (sdel t l).map ssK := by
  intro l
  induction l with
  | nil => rfl
  | cons p l ih =>
    have e1 : mdel (.str t) ((p :: l).map ssK) = if decide (t = p.1) = true then l.map ssK else ssK p :: mdel (.str t) (l.map ssK) := rfl
    rw [e1, sdel]
    by_cases h : t = p.1
    · rw [if_pos (decide_eq_true h), if_pos h]
    · rw [if_neg (by simpa using h), if_neg h, ih]; rfl
section
variable {w0 : World} {base : Nat}
theorem c5h {X : Dem} {t : List UInt8} (hX : DemOk X) : ACalls (EE w0 base) 18 [.op 0 0, .str t] (dmO X) (DmR (freeD X.ds t)) := by
  have hg := a5q (w0 := w0) (base := base) hX
  have hm := b3g t X.ss
  refine a1r Tryz.func18 rfl rfl rfl (.cons (.cons .nil)) ?_
  cases hq : sget t X.ss with
  | none =>
    rw [hq] at hm
    have hR : freeD X.ds t = (X.ds, 3) := by
      unfold freeD
      show (if (sget t X.ss).isSome = true then _ else _) = _
      rw [hq, if_neg (by decide)]
    repeat' (first|(first|(refine a0d ?_;refine a0t [0,1,2,3] rfl rfl hg ?_ ?_ rfl rfl ?_;(focus ((repeat constructor);done));(focus ((repeat constructor);done));rintro _ _ ⟨rfl,rfl⟩;refine ⟨_,_,by repeat constructor,by repeat constructor,?_⟩)|refine a0b (a1c (n := 0) rfl rfl) rfl ?_|refine a0b (a6w rfl rfl rfl .str (a4c _) hm rfl) rfl ?_)|(refine a2g ?_;first|refine a0b (a0l rfl) rfl ?_|refine a0b (a0f rfl rfl) rfl ?_|(refine a1a ?_;first|refine a0b (a0u rfl rfl) rfl ?_)|refine a0b (a0e rfl) rfl ?_|refine a0b (a0p rfl rfl) rfl ?_|refine a0v ?_|refine a0b (a0w rfl (by with_reducible rfl)) rfl ?_|refine a0b (a1t rfl (by with_reducible rfl)) rfl ?_)|(first|refine a1k ?_|(refine a1l ?_;first|refine a0c (a0a ?_)|refine a0c ?_|refine a0a ?_|(refine a0y ?_;first|refine a0g rfl (by with_reducible rfl) ?_|refine a0h rfl (by with_reducible rfl) ?_)|refine a0o ?_|refine a0k ?_)|refine a0r ?_))
    refine ret1 (by first | exact .inr rfl | exact .inl rfl) rfl rfl ?_
    rw [hR]
    exact ⟨rfl, X, hX, rfl, rfl⟩
  | some u =>
    rw [hq] at hm
    have hd := c3j t X.ss
    have hR : freeD X.ds t = ({ X.ds with ss := sdel t X.ss }, 0) := by
      unfold freeD
      show (if (sget t X.ss).isSome = true then _ else _) = _
      rw [hq, if_pos (show (some u).isSome = true from rfl)]
      rfl
    repeat' (first|(first|(refine a0d ?_;refine a0t [0,1,2,3] rfl rfl hg ?_ ?_ rfl rfl ?_;(focus ((repeat constructor);done));(focus ((repeat constructor);done));rintro _ _ ⟨rfl,rfl⟩;refine ⟨_,_,by repeat constructor,by repeat constructor,?_⟩)|refine a0b (a1c (n := 0) rfl rfl) rfl ?_|refine a0b (a3a rfl rfl rfl .str (a4c _) hm) rfl ?_|(refine a0d ?_;refine c5d rfl rfl (by repeat constructor) .str (a4c _) hd ?_))|(refine a2g ?_;first|refine a0b (a0l rfl) rfl ?_|refine a0b (a0f rfl rfl) rfl ?_|(refine a1a ?_;first|refine a0b (a0u rfl rfl) rfl ?_)|refine a0b (a0e rfl) rfl ?_|refine a0b (a0p rfl rfl) rfl ?_|refine a0v ?_|refine a0b (a0w rfl (by with_reducible rfl)) rfl ?_|refine a0b (a1t rfl (by with_reducible rfl)) rfl ?_)|(first|refine a1k ?_|(refine a1l ?_;first|refine a0c (a0a ?_)|refine a0c ?_|refine a0a ?_|(refine a0y ?_;first|refine a0g rfl (by with_reducible rfl) ?_|refine a0h rfl (by with_reducible rfl) ?_)|refine a0o ?_|refine a0k ?_)|refine a0r ?_))
    refine ret1 (by first | exact .inr rfl | exact .inl rfl) rfl rfl ?_
    rw [hR]
    exact ⟨rfl, { X with ss := sdel t X.ss }, ⟨hX.users, hX.conns, hX.asks, hX.rep, hX.keys, hX.okat, hX.cn, fun p hp => hX.ss p (b4e hp)⟩, rfl, rfl⟩
end
end Go.Proofs.YtkljmljkiodnpaaGreatDoor.L
