/- Part 6 of the texts behind the theorem of this claim: Layer 18 (demux): Counts, Shut, New; Layer 18 (demux): Answer, Arrive, New; Layer 18 (demux): Arrive, New; Layer 18 (demux): what is done with a request; Layer 18 (demux): Pick; Layer 18 (demux): acts side by side; connections that nobody made; Layer 18 (demux): what must come; the law DemuxNobody;  -/
import Derived.Test.YtkljmljkiodnpaaGreatDoorQe5
import Derived.Test.YtkljmljkiodnpaaGreatDoorQe4
import Derived.WalkKit
import Derived.ProofKit
import Derived.OpenShut
import Derived.SizedLaws
import Derived.HandedShaped
import Derived.Shelf.Vars
import Derived.LaidMore
import Derived.LaidSub
import Derived.Lay
import Derived.Stop.Joined
import Derived.Stop.LaidErr
import Derived.Deep.DeepHandedRow
import Derived.Lib.LaidTab
set_option linter.unusedVariables false
set_option linter.unusedSimpArgs false
set_option maxRecDepth 100000
namespace Go.Proofs.YtkljmljkiodnpaaGreatDoor.L
open Go Go.RowKit Go.Proofs
attribute [local irreducible] AL QL AWp Thn InB RetQ ACalls LoopQ HL HO HW HQ NoG JmpQ MidQ HF

theorem b0y {α : Type} [DecidableEq α] : ∀ {a b : List α}, a.Nodup → (∀ x ∈ a, x ∈ b) → a.length ≤ b.length := by
  intro a
  induction a with
  | nil => intro b _ _; exact Nat.zero_le _
  | cons x a ih =>
    intro b h1 h2
    rw [List.nodup_cons] at h1
    have hx := h2 x List.mem_cons_self
    have h3 := ih (b := b.erase x) h1.2 fun y hy => (List.mem_erase_of_ne (fun e => h1.1 (by rw [← e]; exact hy))).2 (h2 y (List.mem_cons_of_mem _ hy))
    have h4 := List.length_erase_of_mem hx
    have h5 := List.length_pos_of_mem hx
    rw [List.length_cons]
    omega
def cntS (P : Cn → Bool) (l : List En) (seen : List Nat) : Nat := (seen.filter fun i => (l[i]?).any fun e => P e.c).length
theorem b2x {P : Cn → Bool} {l : List En} {seen : List Nat} {i : Nat} {e : En} (h : l[i]? = some e) : cntS P l (seen ++ [i]) = cntS P l seen + (if P e.c = true then 1 else 0) := by
  unfold cntS
  rw [List.filter_append, List.length_append]
  congr 1
  rw [List.filter_cons, h, List.filter_nil]
  show (if (P e.c) = true then [i] else []).length = _
  split <;> rfl
theorem b6v (P : Cn → Bool) (l : List En) : ∀ n, n ≤ l.length → ((List.range n).filter fun i => (l[i]?).any fun e => P e.c).length = ((l.take n).filter fun e => P e.c).length := by
  intro n
  induction n with
  | zero => intro _; rfl
  | succ n ih =>
    intro h
    have hg : l[n]? = some l[n] := List.getElem?_eq_getElem (by omega)
    rw [List.range_succ, List.filter_append, List.length_append, ih (by omega), List.take_add_one, List.filter_append, List.length_append, hg]
    congr 1
    rw [List.filter_cons, hg, List.filter_nil]
    show (if (P l[n].c) = true then [n] else []).length = ((Option.toList (some l[n])).filter fun e => P e.c).length
    rw [Option.toList_some, List.filter_cons, List.filter_nil]
    split <;> rfl
theorem b5r {P : Cn → Bool} {l : List En} {seen : List Nat} (h1 : seen.Nodup) (h2 : ∀ i ∈ seen, i < l.length) (h3 : ∀ i, i < l.length → i ∈ seen) : cntS P l seen = (l.filter fun e => P e.c).length := by
  have e := b6v P l l.length (Nat.le_refl _)
  rw [List.take_length] at e
  rw [← e]
  unfold cntS
  refine Nat.le_antisymm (b0y (h1.filter _) fun x hx => ?_) (b0y (List.nodup_range.filter _) fun x hx => ?_)
  · rw [List.mem_filter] at hx ⊢
    exact ⟨List.mem_range.2 (h2 x hx.1), hx.2⟩
  · rw [List.mem_filter] at hx ⊢
    exact ⟨h3 x (List.mem_range.1 hx.1), hx.2⟩
theorem b9g {P : Cn → Bool} {l : List En} {seen : List Nat} (h1 : seen.Nodup) (h2 : ∀ i ∈ seen, i < l.length) : cntS P l seen ≤ l.length := by
  unfold cntS
  refine Nat.le_trans (List.length_filter_le _ _) ?_
  have := b0y h1 (fun x hx => List.mem_range.2 (h2 x hx))
  rwa [List.length_range] at this
def pC (u : Int) (c : Cn) : Bool := !c.closed && decide (c.user = u)
def pA (u : Int) (c : Cn) : Bool := c.waits && decide (c.asks = u)
theorem c5d (l : List En) (u : Int) : cntC (lcE l) u = (l.filter fun e => pC u e.c).length ∧ cntA (lcE l) u = (l.filter fun e => pA u e.c).length := by
  unfold cntC cntA lcE
  constructor
  · rw [List.filter_map, List.length_map]; rfl
  · rw [List.filter_map, List.length_map]; rfl
section
variable {w0 : World} {base : Nat}
abbrev cntAV (D : DS) (u : Int) : AV := .tup [.int .i64 ((countsD D u).1 : Int), .int .i64 ((countsD D u).2 : Int)]
set_option maxHeartbeats 8000000 in
theorem b9v {X : Dem} {u : Int} (hX : DemOk X) : ACalls (EE w0 base) 11 [.op 0 0, .int .i64 u] (dmO X) fun rv os => rv = cntAV X.ds u ∧ ∃ ex, os = dmO X ++ ex := by
  have hg := a6p (w0 := w0) (base := base) hX
  unfold cntAV
  refine a1e Tryz.func11 rfl rfl rfl (.cons (.cons .nil)) ?_
  by_cases hu : 0 ≤ u ∧ u < X.users
  · obtain ⟨hu1, hu2⟩ := hu
    have hR : countsD X.ds u = ((X.l.filter fun e => pC u e.c).length, (X.l.filter fun e => pA u e.c).length) := by
      have := c5d X.l u
      show (if 0 ≤ u ∧ u < X.users then (cntC (lcE X.l) u, cntA (lcE X.l) u) else (0, 0)) = _
      rw [if_pos ⟨hu1, hu2⟩, this.1, this.2]
    have hXl := hX.len
    rw [hR]
    dsimp only
    repeat' (first|(first|(refine a0d ?_;refine a0q [0,1,2,3] rfl rfl hg ?_ ?_ rfl rfl ?_;(focus ((repeat constructor);done));(focus ((repeat constructor);done));rintro _ _ ⟨rfl,rfl⟩;refine ⟨_,_,by repeat constructor,by repeat constructor,?_⟩)|refine a0b (a1b (n := 0) rfl rfl) rfl ?_|(refine a1g ?_;first|refine a0b (a1s rfl rfl rfl (by omega)) rfl ?_|refine a0b (a1r rfl rfl rfl (by omega)) rfl ?_)|refine c1u rfl rfl (by first|exact ln4) (by repeat constructor) rfl ?_)|(refine a2i ?_;first|refine a0b (a0k rfl) rfl ?_|(refine k_g ?_;first|refine a1j rfl rfl (by with_reducible rfl) ?_|refine a1x rfl rfl (by with_reducible rfl) rfl ?_|refine a1w rfl rfl (by with_reducible rfl) rfl ?_)|refine a0b (a0f rfl rfl) rfl ?_|(refine a0z ?_;first|refine a0b (a0w rfl rfl) rfl ?_)|(refine a1g ?_;first|refine a0b (a1q rfl rfl (by (first|exact w64 (by omega) (by omega)|rfl))) rfl ?_)|(refine a1i ?_;first|refine a0b (a0j rfl (by with_reducible rfl) rfl) rfl ?_|refine a0b (a0i rfl (by with_reducible rfl) rfl) rfl ?_)|refine a0b (a0e rfl) rfl ?_|refine a0b (a0r rfl rfl) rfl ?_|refine a0u ?_|refine a0b (a0y rfl (by with_reducible rfl)) rfl ?_|refine a0b (a1p rfl (by with_reducible rfl)) rfl ?_)|(first|refine a1f ?_|(refine a1h ?_;first|refine a0c (a0a ?_)|refine a0c ?_|refine a0a ?_|(refine a0x ?_;first|refine a0g rfl (by with_reducible rfl) ?_|refine a0h rfl (by with_reducible rfl) ?_)|refine a0p ?_|refine a0n ?_|refine a0l ?_|refine a1n ?_)|refine a0v ?_|refine a1t ?_|refine a1l ?_|refine a1y ?_|refine a1m ?_))
    refine a2s (fun seen : List Nat => ⟨[(1, .int .i64 u), (4, .int .i64 (cntS (pC u) X.l seen : Nat)), (5, .int .i64 (cntS (pA u) X.l seen : Nat)), (27, .op 4 0)], dmO X ++ [.iter 1 (X.l.map enK).length seen]⟩)
      (fun seen => seen.Nodup ∧ ∀ i ∈ seen, i < X.l.length) (fun seen => leftN (X.l.map enK).length seen) [] (.of (.same (by repeat constructor))) ⟨List.nodup_nil, fun i h => by cases h⟩ ?_
    rintro seen ⟨hs1, hs2⟩
    try dsimp only
    have hc1 := b9g (P := pC u) hs1 hs2
    have hc2 := b9g (P := pA u) hs1 hs2
    repeat' (first|((refine c4b rfl rfl rfl rfl (fun i => by repeat constructor) rfl (fun hdone => ?_) (fun i p hp hs => ?_)))|(refine a2i ?_;first|refine a0b (a0k rfl) rfl ?_|(refine k_g ?_;first|refine a1j rfl rfl (by with_reducible rfl) ?_|refine a1x rfl rfl (by with_reducible rfl) rfl ?_|refine a1w rfl rfl (by with_reducible rfl) rfl ?_)|refine a0b (a0f rfl rfl) rfl ?_|(refine a0z ?_;first|refine a0b (a0w rfl rfl) rfl ?_)|(refine a1g ?_;first|refine a0b (a1q rfl rfl (by (first|exact w64 (by omega) (by omega)|rfl))) rfl ?_)|(refine a1i ?_;first|refine a0b (a0j rfl (by with_reducible rfl) rfl) rfl ?_|refine a0b (a0i rfl (by with_reducible rfl) rfl) rfl ?_)|refine a0b (a0e rfl) rfl ?_|refine a0b (a0r rfl rfl) rfl ?_|refine a0u ?_|refine a0b (a0y rfl (by with_reducible rfl)) rfl ?_|refine a0b (a1p rfl (by with_reducible rfl)) rfl ?_)|(first|refine a1f ?_|(refine a1h ?_;first|refine a0c (a0a ?_)|refine a0c ?_|refine a0a ?_|(refine a0x ?_;first|refine a0g rfl (by with_reducible rfl) ?_|refine a0h rfl (by with_reducible rfl) ?_)|refine a0p ?_|refine a0n ?_|refine a0l ?_|refine a1n ?_)|refine a0v ?_|refine a1t ?_|refine a1l ?_|refine a1y ?_|refine a1m ?_))
    · refine ret2 (by first | exact .inr rfl | exact .inl rfl) rfl rfl rfl ?_
      have hall : ∀ i, i < X.l.length → i ∈ seen := fun i hi => by
        have := hdone i (by rw [List.length_map]; exact hi)
        simpa using this
      refine ⟨?_, _, rfl⟩
      rw [b5r hs1 hs2 hall, b5r hs1 hs2 hall]
    · rw [List.getElem?_map] at hp
      obtain ⟨e, he, rfl⟩ := Option.map_eq_some_iff.1 hp
      have hi : i < X.l.length := (List.getElem?_eq_some_iff.1 he).1
      have hp2 : (X.l.map enK)[i]? = some (enK e) := by rw [List.getElem?_map, he]; rfl
      have hm := (hX.rep.ok i e he).c
      have hn1 := b2x (P := pC u) (seen := seen) he
      have hn2 := b2x (P := pA u) (seen := seen) he
      have hns : i ∉ seen := fun h => by simp [h] at hs
      have hnd : (seen ++ [i]).Nodup := by
        rw [List.nodup_append]
        exact ⟨hs1, by simp, fun a ha b hb => by rw [List.mem_singleton.1 hb]; exact fun k => hns (k ▸ ha)⟩
      have hlt2 : ∀ k ∈ seen ++ [i], k < X.l.length := fun k hk => by
        rcases List.mem_append.1 hk with hk | hk
        · exact hs2 k hk
        · rw [List.mem_singleton.1 hk]; exact hi
      have hleft : leftN (X.l.map enK).length (seen ++ [i]) < leftN (X.l.map enK).length seen := c1c (by rw [List.length_map]; exact hi) hs
      obtain ⟨at', bc, bp, ba, s, st, user, closed, lost, waits, asks, ends, ans⟩ := e
      have hm2 : X.m bc = some [.ad bp 0, .int .i64 user, .bool closed, .bool lost, .bool waits, .int .i64 asks, .bool ends, paO ans ba] := hm
      have q1 : pC u ⟨s, st, user, closed, lost, waits, asks, ends, ans⟩ = (!closed && decide (user = u)) := rfl
      have q2 : pA u ⟨s, st, user, closed, lost, waits, asks, ends, ans⟩ = (waits && decide (asks = u)) := rfl
      dsimp only at hn1 hn2
      rw [q1] at hn1
      rw [q2] at hn2
      clear q1 q2 hm
      by_cases g1 : user = u
      all_goals
        by_cases g2 : asks = u
        all_goals
          cases closed
          all_goals
            cases waits
            all_goals
              first | rw [decide_eq_true g1] at hn1 | rw [decide_eq_false g1] at hn1
              first | rw [decide_eq_true g2] at hn2 | rw [decide_eq_false g2] at hn2
              first | rw [if_pos (by rfl)] at hn1 | rw [if_neg (by decide)] at hn1
              first | rw [if_pos (by rfl)] at hn2 | rw [if_neg (by decide)] at hn2
              repeat' (first|(first|refine a0b (c0v rfl rfl rfl rfl hp2) rfl ?_|refine a0b (a1b (n := 0) rfl rfl) rfl ?_|(refine a0z ?_;refine a0b (a2g (id := 3) rfl rfl hm2 rfl) rfl ?_)|(refine a1g ?_;first|refine a0b (a1s rfl rfl rfl (by omega)) rfl ?_|refine a0b (a1r rfl rfl rfl (by omega)) rfl ?_))|(refine a2i ?_;first|refine a0b (a0k rfl) rfl ?_|(refine k_g ?_;first|refine a1j rfl rfl (by with_reducible rfl) ?_|refine a1x rfl rfl (by with_reducible rfl) rfl ?_|refine a1w rfl rfl (by with_reducible rfl) rfl ?_)|refine a0b (a0f rfl rfl) rfl ?_|(refine a0z ?_;first|refine a0b (a0w rfl rfl) rfl ?_)|(refine a1g ?_;first|refine a0b (a1q rfl rfl (by (first|exact w64 (by omega) (by omega)|rfl))) rfl ?_)|(refine a1i ?_;first|refine a0b (a0j rfl (by with_reducible rfl) rfl) rfl ?_|refine a0b (a0i rfl (by with_reducible rfl) rfl) rfl ?_)|refine a0b (a0e rfl) rfl ?_|refine a0b (a0r rfl rfl) rfl ?_|refine a0u ?_|refine a0b (a0y rfl (by with_reducible rfl)) rfl ?_|refine a0b (a1p rfl (by with_reducible rfl)) rfl ?_)|(first|refine a1f ?_|(refine a1h ?_;first|refine a0c (a0a ?_)|refine a0c ?_|refine a0a ?_|(refine a0x ?_;first|refine a0g rfl (by with_reducible rfl) ?_|refine a0h rfl (by with_reducible rfl) ?_)|refine a0p ?_|refine a0n ?_|refine a0l ?_|refine a1n ?_)|refine a0v ?_|refine a1t ?_|refine a1l ?_|refine a1y ?_|refine a1m ?_))
              refine a1o (seen ++ [i]) ((Wkn.spell 4 (.int .i64 (cntS (pC u) X.l (seen ++ [i]) : Nat)) rfl (congrArg (AV.int .i64) (by omega))).trans ((Wkn.spell 5 (.int .i64 (cntS (pA u) X.l (seen ++ [i]) : Nat)) rfl (congrArg (AV.int .i64) (by omega))).trans (.of (.same (by repeat constructor))))) ⟨hnd, hlt2⟩ hleft
  · have hR : countsD X.ds u = (0, 0) := if_neg hu
    rw [hR]
    have h' : u < 0 ∨ (0 ≤ u ∧ X.users ≤ u) := by omega
    rcases h' with h1 | ⟨h1, h2⟩
    all_goals
      repeat' (first|(first|(refine a0d ?_;refine a0q [0,1,2,3] rfl rfl hg ?_ ?_ rfl rfl ?_;(focus ((repeat constructor);done));(focus ((repeat constructor);done));rintro _ _ ⟨rfl,rfl⟩;refine ⟨_,_,by repeat constructor,by repeat constructor,?_⟩)|refine a0b (a1b (n := 0) rfl rfl) rfl ?_|(refine a1g ?_;first|refine a0b (a1s rfl rfl rfl (by omega)) rfl ?_|refine a0b (a1r rfl rfl rfl (by omega)) rfl ?_))|(refine a2i ?_;first|refine a0b (a0k rfl) rfl ?_|(refine k_g ?_;first|refine a1j rfl rfl (by with_reducible rfl) ?_|refine a1x rfl rfl (by with_reducible rfl) rfl ?_|refine a1w rfl rfl (by with_reducible rfl) rfl ?_)|refine a0b (a0f rfl rfl) rfl ?_|(refine a0z ?_;first|refine a0b (a0w rfl rfl) rfl ?_)|(refine a1g ?_;first|refine a0b (a1q rfl rfl (by (first|exact w64 (by omega) (by omega)|rfl))) rfl ?_)|(refine a1i ?_;first|refine a0b (a0j rfl (by with_reducible rfl) rfl) rfl ?_|refine a0b (a0i rfl (by with_reducible rfl) rfl) rfl ?_)|refine a0b (a0e rfl) rfl ?_|refine a0b (a0r rfl rfl) rfl ?_|refine a0u ?_|refine a0b (a0y rfl (by with_reducible rfl)) rfl ?_|refine a0b (a1p rfl (by with_reducible rfl)) rfl ?_)|(first|refine a1f ?_|(refine a1h ?_;first|refine a0c (a0a ?_)|refine a0c ?_|refine a0a ?_|(refine a0x ?_;first|refine a0g rfl (by with_reducible rfl) ?_|refine a0h rfl (by with_reducible rfl) ?_)|refine a0p ?_|refine a0n ?_|refine a0l ?_|refine a1n ?_)|refine a0v ?_|refine a1t ?_|refine a1l ?_|refine a1y ?_|refine a1m ?_))
      refine ret2 (by first | exact .inr rfl | exact .inl rfl) rfl rfl rfl ?_
      exact ⟨rfl, [], rfl⟩
theorem b5x {X : Dem} {u : Int} (hX : DemOk X) : ACalls (EE w0 base) 11 [.op 0 0, .int .i64 u] (dmO X) fun rv os => rv = cntAV X.ds u ∧ os = dmO X := by
  refine a3o (b9v hX) ?_
  rintro rv os ⟨rfl, ex, rfl⟩
  exact ⟨dmO X, ex, rfl, ⟨rfl, rfl⟩, rfl, by repeat constructor, Nat.le_refl _⟩
theorem b9r {X : Dem} {at' : Int} (hX : DemOk X) : ACalls (EE w0 base) 21 [.op 0 0, .int .i64 at'] (dmO X) (DmR (shutD X.ds at')) := by
  have hg := c4i (w0 := w0) (base := base) (at' := at') hX
  have ho := c2p (w0 := w0) (base := base) (at' := at') hX
  refine a1e Tryz.func21 rfl rfl rfl (.cons (.cons .nil)) ?_
  by_cases hok : inAt at'
  · rw [decide_eq_true hok] at hg
    have hS : shutD X.ds at' = (match lget at' (lcE X.l) with | none => (X.ds, 3) | some c => if c.closed then (X.ds, 3) else ({ X.ds with l := lset at' { c with closed := true } (lcE X.l) }, 0)) := if_pos hok
    have hO : openD X.ds at' = (match lget at' (lcE X.l) with | none => false | some c => !c.closed) := rfl
    rcases a5z at' X.l with ⟨h1, h2, h3⟩ | ⟨i, e, h1, h2, h3, h4, h5⟩
    · rw [h2] at hS hO
      rw [hO] at ho
      repeat' (first|(first|(refine a0d ?_;refine a0q [0,1,2,3] rfl rfl hg ?_ ?_ rfl rfl ?_;(focus ((repeat constructor);done));(focus ((repeat constructor);done));rintro _ _ ⟨rfl,rfl⟩;refine ⟨_,_,by repeat constructor,by repeat constructor,?_⟩)|(refine a0d ?_;refine a0q [0,1,2,3] rfl rfl ho ?_ ?_ rfl rfl ?_;(focus ((repeat constructor);done));(focus ((repeat constructor);done));rintro _ _ ⟨rfl,rfl⟩;refine ⟨_,_,by repeat constructor,by repeat constructor,?_⟩))|(refine a2i ?_;first|refine a0b (a0k rfl) rfl ?_|refine a0b (a0f rfl rfl) rfl ?_|(refine a0z ?_;first|refine a0b (a0w rfl rfl) rfl ?_)|refine a0b (a0e rfl) rfl ?_|refine a0u ?_|refine a0b (a0y rfl (by with_reducible rfl)) rfl ?_|refine a0b (a1p rfl (by with_reducible rfl)) rfl ?_)|(first|refine a1f ?_|(refine a1h ?_;first|refine a0c (a0a ?_)|refine a0c ?_|refine a0a ?_|(refine a0x ?_;first|refine a0g rfl (by with_reducible rfl) ?_|refine a0h rfl (by with_reducible rfl) ?_)|refine a0n ?_|refine a0l ?_)|refine a0v ?_))
      refine ret1 (by first | exact .inr rfl | exact .inl rfl) rfl rfl ?_
      rw [hS]
      exact ⟨rfl, X, hX, rfl, rfl⟩
    · rw [h4] at hS hO
      dsimp only at hS hO
      rw [hO] at ho
      have hm := (hX.rep.ok i e h1).c
      cases hcl : e.c.closed with
      | true =>
        rw [hcl] at hS ho
        simp only [Bool.not_true] at ho
        rw [if_pos rfl] at hS
        repeat' (first|(first|(refine a0d ?_;refine a0q [0,1,2,3] rfl rfl hg ?_ ?_ rfl rfl ?_;(focus ((repeat constructor);done));(focus ((repeat constructor);done));rintro _ _ ⟨rfl,rfl⟩;refine ⟨_,_,by repeat constructor,by repeat constructor,?_⟩)|(refine a0d ?_;refine a0q [0,1,2,3] rfl rfl ho ?_ ?_ rfl rfl ?_;(focus ((repeat constructor);done));(focus ((repeat constructor);done));rintro _ _ ⟨rfl,rfl⟩;refine ⟨_,_,by repeat constructor,by repeat constructor,?_⟩))|(refine a2i ?_;first|refine a0b (a0k rfl) rfl ?_|refine a0b (a0f rfl rfl) rfl ?_|(refine a0z ?_;first|refine a0b (a0w rfl rfl) rfl ?_)|refine a0b (a0e rfl) rfl ?_|refine a0u ?_|refine a0b (a0y rfl (by with_reducible rfl)) rfl ?_|refine a0b (a1p rfl (by with_reducible rfl)) rfl ?_)|(first|refine a1f ?_|(refine a1h ?_;first|refine a0c (a0a ?_)|refine a0c ?_|refine a0a ?_|(refine a0x ?_;first|refine a0g rfl (by with_reducible rfl) ?_|refine a0h rfl (by with_reducible rfl) ?_)|refine a0n ?_|refine a0l ?_)|refine a0v ?_))
        refine ret1 (by first | exact .inr rfl | exact .inl rfl) rfl rfl ?_
        rw [hS]
        exact ⟨rfl, X, hX, rfl, rfl⟩
      | false =>
        rw [hcl] at hS ho
        simp only [Bool.not_false] at ho
        rw [if_neg (by decide), h5] at hS
        repeat' (first|(first|(refine a0d ?_;refine a0q [0,1,2,3] rfl rfl hg ?_ ?_ rfl rfl ?_;(focus ((repeat constructor);done));(focus ((repeat constructor);done));rintro _ _ ⟨rfl,rfl⟩;refine ⟨_,_,by repeat constructor,by repeat constructor,?_⟩)|(refine a0d ?_;refine a0q [0,1,2,3] rfl rfl ho ?_ ?_ rfl rfl ?_;(focus ((repeat constructor);done));(focus ((repeat constructor);done));rintro _ _ ⟨rfl,rfl⟩;refine ⟨_,_,by repeat constructor,by repeat constructor,?_⟩)|refine a0b (a1b (n := 0) rfl rfl) rfl ?_|refine a0b (a2t rfl rfl rfl .int (a3z _) h3) rfl ?_|refine a3w (id := 3) rfl rfl rfl rfl rfl rfl (by repeat constructor) hm (by repeat constructor) ?_)|(refine a2i ?_;first|refine a0b (a0k rfl) rfl ?_|refine a0b (a0f rfl rfl) rfl ?_|(refine a0z ?_;first|refine a0b (a0w rfl rfl) rfl ?_)|refine a0b (a0e rfl) rfl ?_|refine a0u ?_|refine a0b (a0y rfl (by with_reducible rfl)) rfl ?_|refine a0b (a1p rfl (by with_reducible rfl)) rfl ?_)|(first|refine a1f ?_|(refine a1h ?_;first|refine a0c (a0a ?_)|refine a0c ?_|refine a0a ?_|(refine a0x ?_;first|refine a0g rfl (by with_reducible rfl) ?_|refine a0h rfl (by with_reducible rfl) ?_)|refine a0n ?_|refine a0l ?_)|refine a0v ?_))
        refine ret1 (by first | exact .inr rfl | exact .inl rfl) rfl rfl ?_
        rw [hS]
        refine ⟨rfl, _, hX.set h1 (e' := { e with c := { e.c with closed := true } }) rfl (hX.rep.flags h1 (c' := { e.c with closed := true }) rfl rfl rfl) ⟨(hX.cn e (List.mem_of_getElem? h1)).s, (hX.cn e (List.mem_of_getElem? h1)).a⟩, ?_, rfl⟩
        exact (a6a (e' := { e with c := { e.c with closed := true } }) h1 rfl rfl _).symm
  · rw [decide_eq_false hok] at hg
    have hS : shutD X.ds at' = (X.ds, 1) := if_neg hok
    repeat' (first|(first|(refine a0d ?_;refine a0q [0,1,2,3] rfl rfl hg ?_ ?_ rfl rfl ?_;(focus ((repeat constructor);done));(focus ((repeat constructor);done));rintro _ _ ⟨rfl,rfl⟩;refine ⟨_,_,by repeat constructor,by repeat constructor,?_⟩))|(refine a2i ?_;first|refine a0b (a0k rfl) rfl ?_|refine a0b (a0f rfl rfl) rfl ?_|(refine a0z ?_;first|refine a0b (a0w rfl rfl) rfl ?_)|refine a0b (a0e rfl) rfl ?_|refine a0u ?_|refine a0b (a0y rfl (by with_reducible rfl)) rfl ?_|refine a0b (a1p rfl (by with_reducible rfl)) rfl ?_)|(first|refine a1f ?_|(refine a1h ?_;first|refine a0c (a0a ?_)|refine a0c ?_|refine a0a ?_|(refine a0x ?_;first|refine a0g rfl (by with_reducible rfl) ?_|refine a0h rfl (by with_reducible rfl) ?_)|refine a0n ?_|refine a0l ?_)|refine a0v ?_))
    refine ret1 (by first | exact .inr rfl | exact .inl rfl) rfl rfl ?_
    rw [hS]
    exact ⟨rfl, X, hX, rfl, rfl⟩
end
end Go.Proofs.YtkljmljkiodnpaaGreatDoor.L

namespace Go.Proofs.YtkljmljkiodnpaaGreatDoor.L
open Go Go.RowKit Go.Proofs
attribute [local irreducible] AL QL AWp Thn InB RetQ ACalls LoopQ HL HO HW HQ NoG JmpQ MidQ HF

theorem b0g {m : Nat → Option (List AV)} {b x : Nat} {cs : List AV} (h : upd m b cs x = none) : x ≠ b ∧ m x = none := by
  by_cases e : x = b
  · subst e; rw [a2q] at h; cases h
  · rw [a2a e] at h; exact ⟨e, h⟩
theorem c1p {m : Nat → Option (List AV)} {e : En} (h : EnOk m e) : e.bp ≠ e.bc := fun k => by
  have hnd := h.nd
  unfold adsE adsO at hnd
  split at hnd <;> simp only [List.nodup_cons, List.mem_cons] at hnd <;> exact hnd.1 (.inl k.symm)
theorem c5f {m : Nat → Option (List AV)} {e : En} (h : EnOk m e) {r : Rp} (hr : e.c.ans = some r) : e.ba ≠ e.bc ∧ e.ba ≠ e.bp := by
  have hnd := h.nd
  unfold adsE adsO at hnd
  rw [hr] at hnd
  simp only [List.nodup_cons, List.mem_cons, List.not_mem_nil, or_false, not_or, List.mem_singleton] at hnd
  exact ⟨fun k => hnd.1.2 k.symm, fun k => hnd.2.1 k.symm⟩
theorem c3n (l : List En) (i : Nat) (e : En) : lcE (l.set i e) = (lcE l).set i (e.at', e.c) := by unfold lcE; rw [List.map_set]
theorem c0r (fs : Fs) : ∀ (i : Nat) row, (fs.map prAV)[i]? = some row → row.length = 2 := by
  intro i row h
  rw [List.getElem?_map] at h
  obtain ⟨p, _, rfl⟩ := Option.map_eq_some_iff.1 h
  rfl
theorem b3y (at' : Int) (b : Nat) : ∀ (l : List En), (∀ e ∈ l, e.at' ≠ at') → mset (.int .i64 at') (.ad b 0) (l.map enK) = l.map enK ++ [(.int .i64 at', .ad b 0)] := by
  intro l
  induction l with
  | nil => intro _; rfl
  | cons e l ih =>
    intro h
    have e1 : mset (.int .i64 at') (.ad b 0) ((e :: l).map enK) = if decide (at' = e.at') = true then (.int .i64 e.at', .ad b 0) :: l.map enK else enK e :: mset (.int .i64 at') (.ad b 0) (l.map enK) := rfl
    have h1 := h e List.mem_cons_self
    rw [e1, if_neg (by simpa using fun k => h1 k.symm), ih fun q hq => h q (List.mem_cons_of_mem _ hq)]
    rfl
section
variable {w0 : World} {base : Nat}
theorem b9u {m : Nat → Option (List AV)} {b : Nat} {s t : List UInt8} {st : Int} (hs : s.length ≤ 65536) (ht : t.length ≤ 140737488351232) (hm : m b = some [.bool true, .str s, .int .i64 st]) :
    ACalls (EE w0 base) 28 [.ad b 0, .str t] [.hp m] fun rv os => rv = .int .i64 (feedS s st t).1 ∧ os = [.hp (upd m b [.bool true, .str (feedS s st t).2, .int .i64 st])] := by
  refine a2u (b3j (E := EE w0 base) (c5j (w0 := w0) (base := base) hs ht) hm rfl ?_) ?_
  · rintro rv os ⟨rfl, rfl⟩
    exact ⟨_, rfl, rfl, rfl⟩
  · rintro rv os ⟨cells', ⟨rfl, h⟩, rfl⟩
    injection h with h _
    injection h with h _
    subst h
    exact ⟨rfl, rfl⟩
theorem c3y (s : List UInt8) (st : Int) : clB 0 (nextV s st).1 = true := by
  unfold nextV
  split
  · rfl
  · split <;> rfl
theorem c4f {m : Nat → Option (List AV)} {b : Nat} {s : List UInt8} {st : Int} (hG : Glob w0 base) (hs : s.length ≤ 65536) (hm : m b = some [.bool true, .str s, .int .i64 st]) :
    ACalls (EE w0 base) 32 [.ad b 0] [.hp m] fun rv os => rv = (nextV s st).1 ∧ os = [.hp (upd m b [.bool true, .str (nextV s st).2.1, .int .i64 (nextV s st).2.2])] := by
  refine a2u (b3j (E := EE w0 base) (c5i (w0 := w0) (base := base) hG (by omega)) hm rfl ?_) ?_
  · rintro rv os ⟨rfl, rfl⟩
    exact ⟨_, rfl, rfl, c3y s st⟩
  · rintro rv os ⟨cells', ⟨rfl, h⟩, rfl⟩
    injection h with h _
    injection h with h _
    subst h
    exact ⟨rfl, rfl⟩
set_option maxHeartbeats 4000000 in
theorem c0a {X : Dem} {at' : Int} {r : Rp} (hX : DemOk X) (hr : RpFit r) (hf : r.fs.length * 32 ≤ 140737488355328) : ACalls (EE w0 base) 16 [.op 0 0, .int .i64 at', .agg (rpC r)] (dmO X) fun rv os => ∃ os1 ex, os = os1 ++ ex ∧ DmR (answerD X.ds at' r) rv os1 := by
  have hg := c4i (w0 := w0) (base := base) (at' := at') hX
  have ho := c4c (w0 := w0) (base := base) (at' := at') hX
  refine a1e Tryz.func16 rfl rfl rfl (.cons (.cons (.cons .nil))) ?_
  by_cases hok : inAt at'
  · rw [decide_eq_true hok] at hg
    have hS : answerD X.ds at' r = (match lget at' (lcE X.l) with | none => (X.ds, 3) | some c => if c.waits then ({ X.ds with l := lset at' (ansC c r) (lcE X.l) }, 0) else (X.ds, 3)) := if_pos hok
    have hO : waitsD X.ds at' = (match lget at' (lcE X.l) with | none => false | some c => c.waits) := if_pos hok
    rcases a5z at' X.l with ⟨h1, h2, h3⟩ | ⟨i, e, h1, h2, h3, h4, h5⟩
    · rw [h2] at hS hO
      rw [hO] at ho
      repeat' (first|(first|(refine a0d ?_;refine a0q [0,1,2,3] rfl rfl hg ?_ ?_ rfl rfl ?_;(focus ((repeat constructor);done));(focus ((repeat constructor);done));rintro _ _ ⟨rfl,rfl⟩;refine ⟨_,_,by repeat constructor,by repeat constructor,?_⟩)|(refine a0d ?_;refine a0q [0,1,2,3] rfl rfl ho ?_ ?_ rfl rfl ?_;(focus ((repeat constructor);done));(focus ((repeat constructor);done));rintro _ _ ⟨rfl,rfl⟩;refine ⟨_,_,by repeat constructor,by repeat constructor,?_⟩))|(refine a2i ?_;first|refine a0b (a0k rfl) rfl ?_|refine a0b (a0f rfl rfl) rfl ?_|(refine a0z ?_;first|refine a0b (a0w rfl rfl) rfl ?_|refine a0b (a0m rfl rfl rfl) rfl ?_)|refine a0b (a0e rfl) rfl ?_|refine a0u ?_|refine a2n rfl rfl rfl (by first|exact ln4|exact ln5) (by repeat constructor) rfl ?_|refine a1d rfl rfl rfl (by first|exact ln4|exact ln5) (by repeat constructor) rfl ?_|refine a1a rfl rfl rfl rfl rfl (by repeat constructor) (by repeat constructor) ?_|refine a0b (a0y rfl (by with_reducible rfl)) rfl ?_|refine a0b (a1p rfl (by with_reducible rfl)) rfl ?_)|(first|refine a1f ?_|(refine a1h ?_;first|refine a0c (a0a ?_)|refine a0c ?_|refine a0a ?_|(refine a0x ?_;first|refine a0g rfl (by with_reducible rfl) ?_|refine a0h rfl (by with_reducible rfl) ?_)|refine a0n ?_|refine a0l ?_)|refine a0v ?_))
      refine ret1 (by first | exact .inr rfl | exact .inl rfl) rfl rfl ?_
      rw [hS]
      exact ⟨dmO X, _, rfl, rfl, X, hX, rfl, rfl⟩
    · rw [h4] at hS hO
      dsimp only at hS hO
      rw [hO] at ho
      have hen := hX.rep.ok i e h1
      have hm := hen.c
      have hcn := hX.cn e (List.mem_of_getElem? h1)
      cases hw : e.c.waits with
      | false =>
        rw [hw] at hS ho
        rw [if_neg (by decide)] at hS
        repeat' (first|(first|(refine a0d ?_;refine a0q [0,1,2,3] rfl rfl hg ?_ ?_ rfl rfl ?_;(focus ((repeat constructor);done));(focus ((repeat constructor);done));rintro _ _ ⟨rfl,rfl⟩;refine ⟨_,_,by repeat constructor,by repeat constructor,?_⟩)|(refine a0d ?_;refine a0q [0,1,2,3] rfl rfl ho ?_ ?_ rfl rfl ?_;(focus ((repeat constructor);done));(focus ((repeat constructor);done));rintro _ _ ⟨rfl,rfl⟩;refine ⟨_,_,by repeat constructor,by repeat constructor,?_⟩))|(refine a2i ?_;first|refine a0b (a0k rfl) rfl ?_|refine a0b (a0f rfl rfl) rfl ?_|(refine a0z ?_;first|refine a0b (a0w rfl rfl) rfl ?_|refine a0b (a0m rfl rfl rfl) rfl ?_)|refine a0b (a0e rfl) rfl ?_|refine a0u ?_|refine a2n rfl rfl rfl (by first|exact ln4|exact ln5) (by repeat constructor) rfl ?_|refine a1d rfl rfl rfl (by first|exact ln4|exact ln5) (by repeat constructor) rfl ?_|refine a1a rfl rfl rfl rfl rfl (by repeat constructor) (by repeat constructor) ?_|refine a0b (a0y rfl (by with_reducible rfl)) rfl ?_|refine a0b (a1p rfl (by with_reducible rfl)) rfl ?_)|(first|refine a1f ?_|(refine a1h ?_;first|refine a0c (a0a ?_)|refine a0c ?_|refine a0a ?_|(refine a0x ?_;first|refine a0g rfl (by with_reducible rfl) ?_|refine a0h rfl (by with_reducible rfl) ?_)|refine a0n ?_|refine a0l ?_)|refine a0v ?_))
        refine ret1 (by first | exact .inr rfl | exact .inl rfl) rfl rfl ?_
        rw [hS]
        exact ⟨dmO X, _, rfl, rfl, X, hX, rfl, rfl⟩
      | true =>
        rw [hw] at hS ho
        rw [if_pos rfl, h5] at hS
        obtain ⟨C, hC⟩ : ∃ C, C = ansC e.c r := ⟨_, rfl⟩
        rw [← hC] at hS
        unfold ansC at hC
        cases hcl : e.c.closed with
        | true =>
          rw [if_pos hcl] at hC
          have hm2 : X.m e.bc = some [.ad e.bp 0, .int .i64 e.c.user, .bool true, .bool e.c.lost, .bool e.c.waits, .int .i64 e.c.asks, .bool e.c.ends, paE e] := by rw [hm, ← hcl]
          repeat' (first|(first|(refine a0d ?_;refine a0q [0,1,2,3] rfl rfl hg ?_ ?_ rfl rfl ?_;(focus ((repeat constructor);done));(focus ((repeat constructor);done));rintro _ _ ⟨rfl,rfl⟩;refine ⟨_,_,by repeat constructor,by repeat constructor,?_⟩)|(refine a0d ?_;refine a0q [0,1,2,3] rfl rfl ho ?_ ?_ rfl rfl ?_;(focus ((repeat constructor);done));(focus ((repeat constructor);done));rintro _ _ ⟨rfl,rfl⟩;refine ⟨_,_,by repeat constructor,by repeat constructor,?_⟩)|refine a0b (a1b (n := 0) rfl rfl) rfl ?_|refine a0b (a2t rfl rfl rfl .int (a3z _) h3) rfl ?_|refine a3d (id := 3) rfl rfl rfl rfl rfl rfl rfl hm2 (by repeat constructor) (by repeat constructor) ?_|refine a3d (id := 3) rfl rfl rfl rfl rfl rfl rfl a2q (by repeat constructor) (by repeat constructor) ?_|(refine a0z ?_;refine a0b (a2g (id := 3) rfl rfl a2q rfl) rfl ?_))|(refine a2i ?_;first|refine a0b (a0k rfl) rfl ?_|refine a0b (a0f rfl rfl) rfl ?_|(refine a0z ?_;first|refine a0b (a0w rfl rfl) rfl ?_|refine a0b (a0m rfl rfl rfl) rfl ?_)|refine a0b (a0e rfl) rfl ?_|refine a0u ?_|refine a2n rfl rfl rfl (by first|exact ln4|exact ln5) (by repeat constructor) rfl ?_|refine a1d rfl rfl rfl (by first|exact ln4|exact ln5) (by repeat constructor) rfl ?_|refine a1a rfl rfl rfl rfl rfl (by repeat constructor) (by repeat constructor) ?_|refine a0b (a0y rfl (by with_reducible rfl)) rfl ?_|refine a0b (a1p rfl (by with_reducible rfl)) rfl ?_)|(first|refine a1f ?_|(refine a1h ?_;first|refine a0c (a0a ?_)|refine a0c ?_|refine a0a ?_|(refine a0x ?_;first|refine a0g rfl (by with_reducible rfl) ?_|refine a0h rfl (by with_reducible rfl) ?_)|refine a0n ?_|refine a0l ?_)|refine a0v ?_))
          refine ret1 (by first | exact .inr rfl | exact .inl rfl) rfl rfl ?_
          rw [hS]
          subst hC
          refine ⟨dmO { X with l := X.l.set i { e with c := { e.c with waits := false, asks := -1 } }, m := upd X.m e.bc (cnC e.bp (paE e) { e.c with waits := false, asks := -1 }) }, [.box (rpC r)], ?_, rfl, _, hX.set (e' := { e with c := { e.c with waits := false, asks := -1 } }) h1 rfl (hX.rep.flags (c' := { e.c with waits := false, asks := -1 }) h1 rfl rfl rfl) ⟨hcn.s, hcn.a⟩, rfl, rfl⟩
          rw [a6a (e' := { e with c := { e.c with waits := false, asks := -1 } }) h1 rfl rfl, a5h]
          have e1 : ∀ x, x = e.c.closed → cnC e.bp (paE e) { e.c with waits := false, asks := -1 } = [.ad e.bp 0, .int .i64 e.c.user, .bool x, .bool e.c.lost, .bool false, .int .i64 (-1), .bool e.c.ends, paE e] := fun x hx => by rw [hx]
          rw [e1 true hcl.symm]
          rfl
        | false =>
          rw [if_neg (by rw [hcl]; decide)] at hC
          have hm2 : X.m e.bc = some [.ad e.bp 0, .int .i64 e.c.user, .bool false, .bool e.c.lost, .bool e.c.waits, .int .i64 e.c.asks, .bool e.c.ends, paE e] := by rw [hm, ← hcl]
          repeat' (first|(first|(refine a4a (.boxFreeze (ib := 5) (k := 1) (id := 6) rfl rfl rfl rfl (by repeat constructor) rfl rfl) ?_;refine b4m 8 (id := 5) (j := 3) rfl (by repeat constructor) (fun _ => by repeat constructor) rfl (fun ba hba => ?_))|(refine a0d ?_;refine a0q [0,1,2,3] rfl rfl hg ?_ ?_ rfl rfl ?_;(focus ((repeat constructor);done));(focus ((repeat constructor);done));rintro _ _ ⟨rfl,rfl⟩;refine ⟨_,_,by repeat constructor,by repeat constructor,?_⟩)|(refine a0d ?_;refine a0q [0,1,2,3] rfl rfl ho ?_ ?_ rfl rfl ?_;(focus ((repeat constructor);done));(focus ((repeat constructor);done));rintro _ _ ⟨rfl,rfl⟩;refine ⟨_,_,by repeat constructor,by repeat constructor,?_⟩)|refine a0b (a1b (n := 0) rfl rfl) rfl ?_|refine a0b (a2t rfl rfl rfl .int (a3z _) h3) rfl ?_|refine a3d (id := 3) rfl rfl rfl rfl rfl rfl rfl hm2 (by repeat constructor) (by repeat constructor) ?_|refine a3d (id := 3) rfl rfl rfl rfl rfl rfl rfl a2q (by repeat constructor) (by repeat constructor) ?_|refine a3d (id := 3) rfl rfl rfl rfl rfl rfl rfl ((a2a (fun k => by rw [← k,a2q] at hba;cases hba)).trans a2q) (by repeat constructor) (by repeat constructor) ?_|(refine a0z ?_;refine a0b (a2g (id := 3) rfl rfl a2q rfl) rfl ?_)|(refine a0d ?_;refine b1i rfl rfl (c4k (c0r r.fs)) rfl (by repeat constructor) rfl (by decide) (by decide) (by rw [List.length_map];omega) rfl ?_))|(refine a2i ?_;first|refine a0b (a0k rfl) rfl ?_|refine a0b (a0f rfl rfl) rfl ?_|(refine a0z ?_;first|refine a0b (a0w rfl rfl) rfl ?_|refine a0b (a0m rfl rfl rfl) rfl ?_)|refine a0b (a0e rfl) rfl ?_|refine a0u ?_|refine a2n rfl rfl rfl (by first|exact ln4|exact ln5) (by repeat constructor) rfl ?_|refine a1d rfl rfl rfl (by first|exact ln4|exact ln5) (by repeat constructor) rfl ?_|refine a1a rfl rfl rfl rfl rfl (by repeat constructor) (by repeat constructor) ?_|refine a0b (a0y rfl (by with_reducible rfl)) rfl ?_|refine a0b (a1p rfl (by with_reducible rfl)) rfl ?_)|(first|refine a1f ?_|(refine a1h ?_;first|refine a0c (a0a ?_)|refine a0c ?_|refine a0a ?_|(refine a0x ?_;first|refine a0g rfl (by with_reducible rfl) ?_|refine a0h rfl (by with_reducible rfl) ?_)|refine a0n ?_|refine a0l ?_)|refine a0v ?_))
          refine ret1 (by first | exact .inr rfl | exact .inl rfl) rfl rfl ?_
          rw [hS]
          subst hC
          have hb1 := b0g hba
          have hb2 := (b0g hb1.2).2
          have hbp := c1p hen
          have hbpa : e.bp ≠ ba := fun k => by rw [← k, hen.p] at hb2; cases hb2
          refine ⟨dmO { X with l := X.l.set i { e with ba := ba,c := { e.c with waits := false,asks := -1,ans := some r } },m := upd (upd (upd (upd X.m e.bc [.ad e.bp 0,.int .i64 e.c.user,.bool false,.bool e.c.lost,.bool false,.int .i64 e.c.asks,.bool e.c.ends,paE e]) e.bc [.ad e.bp 0,.int .i64 e.c.user,.bool false,.bool e.c.lost,.bool false,.int .i64 (-1),.bool e.c.ends,paE e]) ba (rpC r)) e.bc [.ad e.bp 0,.int .i64 e.c.user,.bool false,.bool e.c.lost,.bool false,.int .i64 (-1),.bool e.c.ends,.ad ba 0] },[.box (rpC r),.gone,.row 90 2 0 (r.fs.map prAV).length (r.fs.map prAV)],?_,rfl,_,hX.set (e' := { e with ba := ba,c := { e.c with waits := false,asks := -1,ans := some r } }) h1 rfl (hX.rep.set h1 (fun x hx hx' => ?_) ⟨?_,?_,fun q hq => ?_,?_⟩ (fun x hx => ?_)) ⟨hcn.s,fun q hq => ?_⟩,rfl,by simp only [Dem.ds,c3n]⟩
          · rw [a6a (e' := { e with ba := ba, c := { e.c with waits := false, asks := -1, ans := some r } }) h1 rfl rfl]
            rfl
          · have x1 : x ≠ e.bc := fun k => hx (k ▸ a9b e)
            have x2 : x ≠ ba := fun k => hx' (by rw [k]; exact c2o (e := { e with ba := ba, c := { e.c with waits := false, asks := -1, ans := some r } }) (r := r) rfl)
            rw [a2a x1, a2a x2, a2a x1, a2a x1]
          · show upd _ _ _ e.bc = some (cnC e.bp (.ad ba 0) { e.c with waits := false, asks := -1, ans := some r })
            rw [a2q]
            show _ = (some [.ad e.bp 0, .int .i64 e.c.user, .bool e.c.closed, .bool e.c.lost, .bool false, .int .i64 (-1), .bool e.c.ends, .ad ba 0] : Option (List AV))
            rw [hcl]
          · show upd _ _ _ e.bp = _
            rw [a2a hbp, a2a hbpa, a2a hbp, a2a hbp, hen.p]
          · injection hq with hq
            subst hq
            show upd _ _ _ ba = _
            rw [a2a hb1.1, a2q]
          · show [e.bc, e.bp, ba].Nodup
            simp only [List.nodup_cons, List.mem_cons, List.not_mem_nil, or_false, not_or, List.nodup_nil, and_true, not_false_eq_true]
            exact ⟨⟨fun k => hbp k.symm, fun k => hb1.1 k.symm⟩, hbpa⟩
          · have hx2 : x ∈ [e.bc, e.bp, ba] := hx
            simp only [List.mem_cons, List.not_mem_nil, or_false] at hx2
            rcases hx2 with rfl | rfl | rfl
            · exact .inl (a9b e)
            · exact .inl (b3c e)
            · exact .inr hb2
          · injection hq with hq
            subst hq
            exact hr
  · rw [decide_eq_false hok] at hg
    have hS : answerD X.ds at' r = (X.ds, 1) := if_neg hok
    repeat' (first|(first|(refine a0d ?_;refine a0q [0,1,2,3] rfl rfl hg ?_ ?_ rfl rfl ?_;(focus ((repeat constructor);done));(focus ((repeat constructor);done));rintro _ _ ⟨rfl,rfl⟩;refine ⟨_,_,by repeat constructor,by repeat constructor,?_⟩))|(refine a2i ?_;first|refine a0b (a0k rfl) rfl ?_|refine a0b (a0f rfl rfl) rfl ?_|(refine a0z ?_;first|refine a0b (a0w rfl rfl) rfl ?_|refine a0b (a0m rfl rfl rfl) rfl ?_)|refine a0b (a0e rfl) rfl ?_|refine a0u ?_|refine a2n rfl rfl rfl (by first|exact ln4|exact ln5) (by repeat constructor) rfl ?_|refine a1d rfl rfl rfl (by first|exact ln4|exact ln5) (by repeat constructor) rfl ?_|refine a1a rfl rfl rfl rfl rfl (by repeat constructor) (by repeat constructor) ?_|refine a0b (a0y rfl (by with_reducible rfl)) rfl ?_|refine a0b (a1p rfl (by with_reducible rfl)) rfl ?_)|(first|refine a1f ?_|(refine a1h ?_;first|refine a0c (a0a ?_)|refine a0c ?_|refine a0a ?_|(refine a0x ?_;first|refine a0g rfl (by with_reducible rfl) ?_|refine a0h rfl (by with_reducible rfl) ?_)|refine a0n ?_|refine a0l ?_)|refine a0v ?_))
    refine ret1 (by first | exact .inr rfl | exact .inl rfl) rfl rfl ?_
    rw [hS]
    exact ⟨dmO X, _, rfl, rfl, X, hX, rfl, rfl⟩
theorem b5s (X : Dem) : ClOs (dmO X).length (dmO X) := by repeat constructor
theorem a7y {X : Dem} {at' : Int} {r : Rp} (hX : DemOk X) (hr : RpFit r) (hf : r.fs.length * 32 ≤ 140737488355328) : ACalls (EE w0 base) 16 [.op 0 0, .int .i64 at', .agg (rpC r)] (dmO X) (DmR (answerD X.ds at' r)) := by
  refine a3o (c0a hX hr hf) ?_
  rintro rv os ⟨os1, ex, rfl, rfl, X', h1, rfl, h2⟩
  exact ⟨dmO X', ex, rfl, ⟨rfl, X', h1, rfl, h2⟩, rfl, b5s X', Nat.le_refl _⟩
end
end Go.Proofs.YtkljmljkiodnpaaGreatDoor.L

namespace Go.Proofs.YtkljmljkiodnpaaGreatDoor.L
open Go Go.RowKit Go.Proofs
attribute [local irreducible] AL QL AWp Thn InB RetQ ACalls LoopQ HL HO HW HQ NoG JmpQ MidQ HF

theorem c1a {at' : Int} {c' : Cn} : ∀ {l : List (Int × Cn)}, lget at' l = none → lset at' c' l = l ++ [(at', c')] := by
  intro l
  induction l with
  | nil => intro _; rfl
  | cons p l ih =>
    intro h
    rw [lget] at h
    split at h
    · cases h
    · rename_i hn
      rw [lset, if_neg hn, ih h]
      rfl
theorem b4u {c : Cn} (h : CnOk c) {t : List UInt8} (ht : t.length ≤ 65536) : CnOk (takeC c t) := by
  refine ⟨?_, h.a⟩
  have := h.s
  unfold takeC feedS
  dsimp only
  split
  · exact this
  · split
    · exact this
    · dsimp only; rw [List.length_append]; omega
theorem c5e : CnOk cn0 := ⟨Nat.zero_le _, fun r h => by cases h⟩
theorem DemOk.push {X : Dem} {e' : En} {m' : Nat → Option (List AV)} (h : DemOk X) (h1 : ∀ e ∈ X.l, e.at' ≠ e'.at') (h2 : inAt e'.at') (hr : RepE m' (X.l ++ [e'])) (hc : CnOk e'.c) : DemOk { X with l := X.l ++ [e'], m := m' } := by
  refine ⟨h.users, h.conns, h.asks, hr, ?_, fun q hq => ?_, fun q hq => ?_, h.ss⟩
  · show ((X.l ++ [e']).map (·.at')).Nodup
    rw [List.map_append, List.nodup_append]
    refine ⟨h.keys, by simp, fun a ha b hb => ?_⟩
    obtain ⟨q, hq, rfl⟩ := List.mem_map.1 ha
    rw [List.map_cons, List.map_nil, List.mem_singleton] at hb
    rw [hb]
    exact h1 q hq
  · rcases List.mem_append.1 hq with hq | hq
    · exact h.okat q hq
    · rw [List.mem_singleton.1 hq]; exact h2
  · rcases List.mem_append.1 hq with hq | hq
    · exact h.cn q hq
    · rw [List.mem_singleton.1 hq]; exact hc
section
variable {w0 : World} {base : Nat}
set_option maxHeartbeats 4000000 in
theorem b9z {X : Dem} {at' : Int} {t : List UInt8} (hX : DemOk X) (ht0 : t.length ≤ 140737488351232) : ACalls (EE w0 base) 10 [.op 0 0, .int .i64 at', .str t] (dmO X) fun rv os => ∃ os1 ex, os = os1 ++ ex ∧ DmR (arriveD X.ds at' t) rv os1 := by
  have hg := c4i (w0 := w0) (base := base) (at' := at') hX
  refine a1e Tryz.func10 rfl rfl rfl (.cons (.cons (.cons .nil))) ?_
  by_cases hok : inAt at'
  · rw [decide_eq_true hok] at hg
    by_cases htl : t.length ≤ 65536
    · have hS : arriveD X.ds at' t = (if ((lget at' (lcE X.l)).getD cn0).closed then (X.ds, 80) else ({ X.ds with l := lset at' (takeC ((lget at' (lcE X.l)).getD cn0) t) (lcE X.l) }, 0)) := if_pos ⟨hok, htl⟩
      rcases a5z at' X.l with ⟨h1, h2, h3⟩ | ⟨i, e, h1, h2, h3, h4, h5⟩
      · rw [h2, Option.getD_none, if_neg (show ¬ cn0.closed = true by decide), c1a h2] at hS
        have hN := c5u (w0 := w0) (base := base)
        have hfd : feedS [] 0 t = (0, t) := by
          unfold feedS
          rw [if_neg (by decide), if_neg (by simp only [List.length_nil]; omega)]
          rfl
        repeat' (first|(first|refine b4m 25 (id := 4) (j := 3) rfl (by repeat constructor) (fun _ => by repeat constructor) rfl (fun bp hbp => ?_)|refine b4m 27 (id := 5) (j := 3) rfl (by repeat constructor) (fun _ => by repeat constructor) rfl (fun bc hbc => ?_)|(refine a0d ?_;refine a0q [0,1,2,3] rfl rfl hg ?_ ?_ rfl rfl ?_;(focus ((repeat constructor);done));(focus ((repeat constructor);done));rintro _ _ ⟨rfl,rfl⟩;refine ⟨_,_,by repeat constructor,by repeat constructor,?_⟩)|(refine a0d ?_;refine a0q [] rfl rfl hN ?_ ?_ rfl rfl ?_;(focus ((repeat constructor);done));(focus ((repeat constructor);done));rintro _ _ ⟨rfl,rfl⟩;refine ⟨_,_,by repeat constructor,by repeat constructor,?_⟩)|refine a0b (a1b (n := 0) rfl rfl) rfl ?_|refine a0b (a5c rfl rfl rfl .int (a3z _) h1 rfl) rfl ?_|(refine a1g ?_;first|refine a0b (a8k rfl rfl) rfl ?_|refine a0b (a1s rfl rfl rfl (by omega)) rfl ?_|refine a0b (a1r rfl rfl rfl (by omega)) rfl ?_)|refine a7k rfl rfl rfl (by repeat constructor) .int rfl (a3z _) (b3y _ _ _ h3) ?_|(refine a0z ?_;refine a0b (a2g (id := 3) rfl rfl a2q rfl) rfl ?_))|(refine a2i ?_;first|refine a0b (a0k rfl) rfl ?_|(refine k_g ?_;first|refine a1j rfl rfl (by with_reducible rfl) ?_|refine a1w rfl rfl (by with_reducible rfl) rfl ?_)|refine a0b (a0f rfl rfl) rfl ?_|(refine a0z ?_;first|refine a0b (a0w rfl rfl) rfl ?_)|(refine a1i ?_;first|refine a0b (a0j rfl (by with_reducible rfl) rfl) rfl ?_|refine a0b (a0i rfl (by with_reducible rfl) rfl) rfl ?_)|refine a0b (a0e rfl) rfl ?_|(refine a0d ?_;first|refine a0b (a0t rfl) rfl ?_)|refine a0u ?_|refine a2n rfl rfl rfl (by first|exact ln5) (by repeat constructor) rfl ?_|refine a0b (a1u rfl rfl rfl (by repeat constructor)) rfl ?_|refine a0b (a0y rfl (by with_reducible rfl)) rfl ?_|refine a0b (a1p rfl (by with_reducible rfl)) rfl ?_)|(first|refine a1f ?_|(refine a1h ?_;first|refine a0c (a0a ?_)|refine a0c ?_|refine a0a ?_|(refine a0x ?_;first|refine a0g rfl (by with_reducible rfl) ?_|refine a0h rfl (by with_reducible rfl) ?_)|refine a0n ?_|refine a0l ?_)|refine a0v ?_))
        have hb1 := b0g hbc
        have hF := b9u (w0 := w0) (base := base) (m := upd (upd X.m bp [.bool true, .str [], .int .i64 0]) bc [.ad bp 0, .int .i64 (-1), .bool false, .bool false, .bool false, .int .i64 (-1), .bool false, .nilp]) (b := bp) (s := []) (t := t) (st := 0) (Nat.zero_le _) ht0 ((a2a (fun k => hb1.1 k.symm)).trans a2q)
        rw [hfd] at hF
        have hmm : upd (upd (upd X.m bp [.bool true, .str [], .int .i64 0]) bc [.ad bp 0, .int .i64 (-1), .bool false, .bool false, .bool false, .int .i64 (-1), .bool false, .nilp]) bp [.bool true, .str t, .int .i64 0] bc = some [.ad bp 0, .int .i64 (-1), .bool false, .bool false, .bool false, .int .i64 (-1), .bool false, .nilp] := (a2a hb1.1).trans a2q
        repeat' (first|(first|(refine a0d ?_;refine a0q [3] rfl rfl hF ?_ ?_ rfl rfl ?_;(focus ((repeat constructor);done));(focus ((repeat constructor);done));rintro _ _ ⟨rfl,rfl⟩;refine ⟨_,_,by repeat constructor,by repeat constructor,?_⟩)|refine a0b (a1b (n := 0) rfl rfl) rfl ?_|(refine a1g ?_;first|refine a0b (a1s rfl rfl rfl (by omega)) rfl ?_|refine a0b (a1r rfl rfl rfl (by omega)) rfl ?_)|(refine a0z ?_;refine a0b (a2g (id := 3) rfl rfl a2q rfl) rfl ?_)|(refine a0z ?_;refine a0b (a2g (id := 3) rfl rfl hmm rfl) rfl ?_)|refine a3d (id := 3) rfl rfl rfl rfl rfl rfl rfl hmm (by repeat constructor) (by repeat constructor) ?_)|(refine a2i ?_;first|refine a0b (a0k rfl) rfl ?_|(refine k_g ?_;first|refine a1j rfl rfl (by with_reducible rfl) ?_|refine a1w rfl rfl (by with_reducible rfl) rfl ?_)|refine a0b (a0f rfl rfl) rfl ?_|(refine a0z ?_;first|refine a0b (a0w rfl rfl) rfl ?_)|(refine a1i ?_;first|refine a0b (a0j rfl (by with_reducible rfl) rfl) rfl ?_|refine a0b (a0i rfl (by with_reducible rfl) rfl) rfl ?_)|refine a0b (a0e rfl) rfl ?_|(refine a0d ?_;first|refine a0b (a0t rfl) rfl ?_)|refine a0u ?_|refine a2n rfl rfl rfl (by first|exact ln5) (by repeat constructor) rfl ?_|refine a0b (a1u rfl rfl rfl (by repeat constructor)) rfl ?_|refine a0b (a0y rfl (by with_reducible rfl)) rfl ?_|refine a0b (a1p rfl (by with_reducible rfl)) rfl ?_)|(first|refine a1f ?_|(refine a1h ?_;first|refine a0c (a0a ?_)|refine a0c ?_|refine a0a ?_|(refine a0x ?_;first|refine a0g rfl (by with_reducible rfl) ?_|refine a0h rfl (by with_reducible rfl) ?_)|refine a0n ?_|refine a0l ?_)|refine a0v ?_))
        refine ret1 (by first | exact .inr rfl | exact .inl rfl) rfl rfl ?_
        rw [hS]
        have hne : bp ≠ bc := fun k => hb1.1 k.symm
        have htc : takeC cn0 t = ⟨t, 0, -1, false, false, false, -1, false, none⟩ := by
          unfold takeC
          rw [show feedS cn0.s cn0.st t = (0, t) from hfd]
          rfl
        refine ⟨dmO { X with l := X.l ++ [⟨at',bc,bp,0,takeC cn0 t⟩],m := upd (upd (upd (upd X.m bp [.bool true,.str [],.int .i64 0]) bc [.ad bp 0,.int .i64 (-1),.bool false,.bool false,.bool false,.int .i64 (-1),.bool false,.nilp]) bp [.bool true,.str t,.int .i64 0]) bc [.ad bp 0,.int .i64 (-1),.bool false,.bool false,.bool false,.int .i64 (-1),.bool false,.nilp] },[.gone,.gone],?_,rfl,_,hX.push (e' := ⟨at',bc,bp,0,takeC cn0 t⟩) h3 hok (hX.rep.push (fun x hx => ?_) ⟨?_,?_,fun q hq => ?_,?_⟩ (fun x hx => ?_)) (b4u c5e htl),rfl,?_⟩
        · unfold dmO
          dsimp only
          rw [List.map_append]
          rfl
        · rw [htc] at hx
          have hx2 : x ∉ [bc, bp] := hx
          simp only [List.mem_cons, List.not_mem_nil, or_false, not_or] at hx2
          rw [a2a hx2.1, a2a hx2.2, a2a hx2.1, a2a hx2.2]
        · show upd _ _ _ bc = some (cnC bp (paO (takeC cn0 t).ans 0) (takeC cn0 t))
          rw [a2q, htc]
          rfl
        · show upd _ _ _ bp = some [.bool true, .str (takeC cn0 t).s, .int .i64 (takeC cn0 t).st]
          rw [a2a hne, a2q, htc]
        · rw [htc] at hq
          cases hq
        · rw [htc]
          show [bc, bp].Nodup
          simp only [List.nodup_cons, List.mem_cons, List.not_mem_nil, or_false, List.nodup_nil, and_true, not_false_eq_true]
          exact hb1.1
        · rw [htc] at hx
          have hx2 : x ∈ [bc, bp] := hx
          simp only [List.mem_cons, List.not_mem_nil, or_false] at hx2
          rcases hx2 with rfl | rfl
          · exact hb1.2
          · exact hbp
        · show DS.mk _ _ _ (lcE (X.l ++ [_])) _ = _
          unfold lcE
          rw [List.map_append]
          rfl
      · have hen := hX.rep.ok i e h1
        have hm := hen.c
        have hcn := hX.cn e (List.mem_of_getElem? h1)
        rw [h4, Option.getD_some, h5] at hS
        cases hcl : e.c.closed with
        | true =>
          rw [if_pos hcl] at hS
          have hm2 : X.m e.bc = some [.ad e.bp 0, .int .i64 e.c.user, .bool true, .bool e.c.lost, .bool e.c.waits, .int .i64 e.c.asks, .bool e.c.ends, paE e] := by rw [hm, ← hcl]
          repeat' (first|(first|(refine a0d ?_;refine a0q [0,1,2,3] rfl rfl hg ?_ ?_ rfl rfl ?_;(focus ((repeat constructor);done));(focus ((repeat constructor);done));rintro _ _ ⟨rfl,rfl⟩;refine ⟨_,_,by repeat constructor,by repeat constructor,?_⟩)|refine a0b (a1b (n := 0) rfl rfl) rfl ?_|refine a0b (a2t rfl rfl rfl .int (a3z _) h3) rfl ?_|(refine a1g ?_;first|refine a0b (a4t rfl rfl rfl) rfl ?_|refine a0b (a1s rfl rfl rfl (by omega)) rfl ?_|refine a0b (a1r rfl rfl rfl (by omega)) rfl ?_)|(refine a0z ?_;refine a0b (a2g (id := 3) rfl rfl hm2 rfl) rfl ?_))|(refine a2i ?_;first|refine a0b (a0k rfl) rfl ?_|(refine k_g ?_;first|refine a1j rfl rfl (by with_reducible rfl) ?_|refine a1w rfl rfl (by with_reducible rfl) rfl ?_)|refine a0b (a0f rfl rfl) rfl ?_|(refine a0z ?_;first|refine a0b (a0w rfl rfl) rfl ?_)|(refine a1i ?_;first|refine a0b (a0j rfl (by with_reducible rfl) rfl) rfl ?_|refine a0b (a0i rfl (by with_reducible rfl) rfl) rfl ?_)|refine a0b (a0e rfl) rfl ?_|(refine a0d ?_;first|refine a0b (a0t rfl) rfl ?_)|refine a0u ?_|refine a2n rfl rfl rfl (by first|exact ln5) (by repeat constructor) rfl ?_|refine a0b (a1u rfl rfl rfl (by repeat constructor)) rfl ?_|refine a0b (a0y rfl (by with_reducible rfl)) rfl ?_|refine a0b (a1p rfl (by with_reducible rfl)) rfl ?_)|(first|refine a1f ?_|(refine a1h ?_;first|refine a0c (a0a ?_)|refine a0c ?_|refine a0a ?_|(refine a0x ?_;first|refine a0g rfl (by with_reducible rfl) ?_|refine a0h rfl (by with_reducible rfl) ?_)|refine a0n ?_|refine a0l ?_)|refine a0v ?_))
          refine ret1 (by first | exact .inr rfl | exact .inl rfl) rfl rfl ?_
          rw [hS]
          exact ⟨dmO X, [], rfl, rfl, X, hX, rfl, rfl⟩
        | false =>
          rw [if_neg (by rw [hcl]; decide)] at hS
          have hbp := c1p hen
          have hm2 : X.m e.bc = some [.ad e.bp 0, .int .i64 e.c.user, .bool false, .bool e.c.lost, .bool e.c.waits, .int .i64 e.c.asks, .bool e.c.ends, paE e] := by rw [hm, ← hcl]
          have hF := b9u (w0 := w0) (base := base) (t := t) hcn.s ht0 hen.p
          obtain ⟨f1, f2, hfd⟩ : ∃ f1 f2, feedS e.c.s e.c.st t = (f1, f2) := ⟨_, _, rfl⟩
          rw [hfd] at hF
          dsimp only at hF
          have hmm : upd X.m e.bp [.bool true, .str f2, .int .i64 e.c.st] e.bc = some [.ad e.bp 0, .int .i64 e.c.user, .bool false, .bool e.c.lost, .bool e.c.waits, .int .i64 e.c.asks, .bool e.c.ends, paE e] := (a2a (fun k => hbp k.symm)).trans hm2
          have htc : takeC e.c t = { e.c with s := f2, lost := decide (f1 = 2) || e.c.lost } := by unfold takeC; rw [hfd]
          obtain ⟨L, hL⟩ : ∃ L, L = (decide (f1 = 2) || e.c.lost) := ⟨_, rfl⟩
          rw [← hL] at htc
          have fin : ∃ os1 ex, [AO.box [.int .i64 X.users, .int .i64 X.conns, .int .i64 X.asks, .mp 1, .mp 2], .map (X.l.map enK), .map (X.ss.map ssK), .hp (upd (upd X.m e.bp [.bool true, .str f2, .int .i64 e.c.st]) e.bc [.ad e.bp 0, .int .i64 e.c.user, .bool false, .bool L, .bool e.c.waits, .int .i64 e.c.asks, .bool e.c.ends, paE e])] = os1 ++ ex ∧ DmR (arriveD X.ds at' t) (.int .i64 0) os1 := by
            rw [hS]
            refine ⟨dmO { X with l := X.l.set i { e with c := takeC e.c t },m := upd (upd X.m e.bp [.bool true,.str f2,.int .i64 e.c.st]) e.bc [.ad e.bp 0,.int .i64 e.c.user,.bool false,.bool L,.bool e.c.waits,.int .i64 e.c.asks,.bool e.c.ends,paE e] },[],?_,rfl,_,hX.set (e' := { e with c := takeC e.c t }) h1 rfl (hX.rep.set h1 (fun x hx hx' => ?_) ⟨?_,?_,fun q hq => ?_,?_⟩ (fun x hx => ?_)) (b4u hcn htl),rfl,rfl⟩
            · rw [a6a (e' := { e with c := takeC e.c t }) h1 rfl rfl]
              rfl
            · rw [a2a (show x ≠ e.bc from fun k => hx (k ▸ a9b e)), a2a (show x ≠ e.bp from fun k => hx (k ▸ b3c e))]
            · show upd _ _ _ e.bc = some (cnC e.bp (paO (takeC e.c t).ans e.ba) (takeC e.c t))
              rw [a2q, htc]
              show _ = (some [.ad e.bp 0, .int .i64 e.c.user, .bool e.c.closed, .bool L, .bool e.c.waits, .int .i64 e.c.asks, .bool e.c.ends, paE e] : Option (List AV))
              rw [hcl]
            · show upd _ _ _ e.bp = some [.bool true, .str (takeC e.c t).s, .int .i64 (takeC e.c t).st]
              rw [a2a hbp, a2q, htc]
            · have hq2 : e.c.ans = some q := by rw [htc] at hq; exact hq
              have := c5f hen hq2
              show upd _ _ _ e.ba = _
              rw [a2a this.1, a2a this.2, hen.a q hq2]
            · rw [htc]; exact hen.nd
            · rw [htc] at hx; exact .inl hx
          by_cases hf2 : f1 = 2
          · have hLt : L = true := by rw [hL, decide_eq_true hf2]; rfl
            rw [hLt] at fin
            repeat' (first|(first|(refine a0d ?_;refine a0q [0,1,2,3] rfl rfl hg ?_ ?_ rfl rfl ?_;(focus ((repeat constructor);done));(focus ((repeat constructor);done));rintro _ _ ⟨rfl,rfl⟩;refine ⟨_,_,by repeat constructor,by repeat constructor,?_⟩)|(refine a0d ?_;refine a0q [3] rfl rfl hF ?_ ?_ rfl rfl ?_;(focus ((repeat constructor);done));(focus ((repeat constructor);done));rintro _ _ ⟨rfl,rfl⟩;refine ⟨_,_,by repeat constructor,by repeat constructor,?_⟩)|refine a0b (a1b (n := 0) rfl rfl) rfl ?_|refine a0b (a2t rfl rfl rfl .int (a3z _) h3) rfl ?_|(refine a1g ?_;first|refine a0b (a4t rfl rfl rfl) rfl ?_|refine a0b (a1s rfl rfl rfl (by omega)) rfl ?_|refine a0b (a1r rfl rfl rfl (by omega)) rfl ?_)|(refine a0z ?_;refine a0b (a2g (id := 3) rfl rfl hm2 rfl) rfl ?_)|(refine a0z ?_;refine a0b (a2g (id := 3) rfl rfl hmm rfl) rfl ?_)|refine a3d (id := 3) rfl rfl rfl rfl rfl rfl rfl hmm (by repeat constructor) (by repeat constructor) ?_)|(refine a2i ?_;first|refine a0b (a0k rfl) rfl ?_|(refine k_g ?_;first|refine a1j rfl rfl (by with_reducible rfl) ?_|refine a1w rfl rfl (by with_reducible rfl) rfl ?_)|refine a0b (a0f rfl rfl) rfl ?_|(refine a0z ?_;first|refine a0b (a0w rfl rfl) rfl ?_)|(refine a1i ?_;first|refine a0b (a0j rfl (by with_reducible rfl) rfl) rfl ?_|refine a0b (a0i rfl (by with_reducible rfl) rfl) rfl ?_)|refine a0b (a0e rfl) rfl ?_|(refine a0d ?_;first|refine a0b (a0t rfl) rfl ?_)|refine a0u ?_|refine a2n rfl rfl rfl (by first|exact ln5) (by repeat constructor) rfl ?_|refine a0b (a1u rfl rfl rfl (by repeat constructor)) rfl ?_|refine a0b (a0y rfl (by with_reducible rfl)) rfl ?_|refine a0b (a1p rfl (by with_reducible rfl)) rfl ?_)|(first|refine a1f ?_|(refine a1h ?_;first|refine a0c (a0a ?_)|refine a0c ?_|refine a0a ?_|(refine a0x ?_;first|refine a0g rfl (by with_reducible rfl) ?_|refine a0h rfl (by with_reducible rfl) ?_)|refine a0n ?_|refine a0l ?_)|refine a0v ?_))
            refine ret1 (by first | exact .inr rfl | exact .inl rfl) rfl rfl ?_
            exact fin
          · have hLf : L = e.c.lost := by rw [hL, decide_eq_false hf2]; rfl
            rw [hLf] at fin
            repeat' (first|(first|(refine a0d ?_;refine a0q [0,1,2,3] rfl rfl hg ?_ ?_ rfl rfl ?_;(focus ((repeat constructor);done));(focus ((repeat constructor);done));rintro _ _ ⟨rfl,rfl⟩;refine ⟨_,_,by repeat constructor,by repeat constructor,?_⟩)|(refine a0d ?_;refine a0q [3] rfl rfl hF ?_ ?_ rfl rfl ?_;(focus ((repeat constructor);done));(focus ((repeat constructor);done));rintro _ _ ⟨rfl,rfl⟩;refine ⟨_,_,by repeat constructor,by repeat constructor,?_⟩)|refine a0b (a1b (n := 0) rfl rfl) rfl ?_|refine a0b (a2t rfl rfl rfl .int (a3z _) h3) rfl ?_|(refine a1g ?_;first|refine a0b (a4t rfl rfl rfl) rfl ?_|refine a0b (a1s rfl rfl rfl (by omega)) rfl ?_|refine a0b (a1r rfl rfl rfl (by omega)) rfl ?_)|(refine a0z ?_;refine a0b (a2g (id := 3) rfl rfl hm2 rfl) rfl ?_)|(refine a0z ?_;refine a0b (a2g (id := 3) rfl rfl hmm rfl) rfl ?_)|refine a3d (id := 3) rfl rfl rfl rfl rfl rfl rfl hmm (by repeat constructor) (by repeat constructor) ?_)|(refine a2i ?_;first|refine a0b (a0k rfl) rfl ?_|(refine k_g ?_;first|refine a1j rfl rfl (by with_reducible rfl) ?_|refine a1w rfl rfl (by with_reducible rfl) rfl ?_)|refine a0b (a0f rfl rfl) rfl ?_|(refine a0z ?_;first|refine a0b (a0w rfl rfl) rfl ?_)|(refine a1i ?_;first|refine a0b (a0j rfl (by with_reducible rfl) rfl) rfl ?_|refine a0b (a0i rfl (by with_reducible rfl) rfl) rfl ?_)|refine a0b (a0e rfl) rfl ?_|(refine a0d ?_;first|refine a0b (a0t rfl) rfl ?_)|refine a0u ?_|refine a2n rfl rfl rfl (by first|exact ln5) (by repeat constructor) rfl ?_|refine a0b (a1u rfl rfl rfl (by repeat constructor)) rfl ?_|refine a0b (a0y rfl (by with_reducible rfl)) rfl ?_|refine a0b (a1p rfl (by with_reducible rfl)) rfl ?_)|(first|refine a1f ?_|(refine a1h ?_;first|refine a0c (a0a ?_)|refine a0c ?_|refine a0a ?_|(refine a0x ?_;first|refine a0g rfl (by with_reducible rfl) ?_|refine a0h rfl (by with_reducible rfl) ?_)|refine a0n ?_|refine a0l ?_)|refine a0v ?_))
            refine ret1 (by first | exact .inr rfl | exact .inl rfl) rfl rfl ?_
            exact fin
    · have hS : arriveD X.ds at' t = (X.ds, 1) := if_neg fun k => htl k.2
      repeat' (first|(first|(refine a0d ?_;refine a0q [0,1,2,3] rfl rfl hg ?_ ?_ rfl rfl ?_;(focus ((repeat constructor);done));(focus ((repeat constructor);done));rintro _ _ ⟨rfl,rfl⟩;refine ⟨_,_,by repeat constructor,by repeat constructor,?_⟩)|(refine a1g ?_;first|refine a0b (a1s rfl rfl rfl (by omega)) rfl ?_|refine a0b (a1r rfl rfl rfl (by omega)) rfl ?_))|(refine a2i ?_;first|refine a0b (a0k rfl) rfl ?_|(refine k_g ?_;first|refine a1j rfl rfl (by with_reducible rfl) ?_|refine a1w rfl rfl (by with_reducible rfl) rfl ?_)|refine a0b (a0f rfl rfl) rfl ?_|(refine a0z ?_;first|refine a0b (a0w rfl rfl) rfl ?_)|(refine a1i ?_;first|refine a0b (a0j rfl (by with_reducible rfl) rfl) rfl ?_|refine a0b (a0i rfl (by with_reducible rfl) rfl) rfl ?_)|refine a0b (a0e rfl) rfl ?_|(refine a0d ?_;first|refine a0b (a0t rfl) rfl ?_)|refine a0u ?_|refine a2n rfl rfl rfl (by first|exact ln5) (by repeat constructor) rfl ?_|refine a0b (a1u rfl rfl rfl (by repeat constructor)) rfl ?_|refine a0b (a0y rfl (by with_reducible rfl)) rfl ?_|refine a0b (a1p rfl (by with_reducible rfl)) rfl ?_)|(first|refine a1f ?_|(refine a1h ?_;first|refine a0c (a0a ?_)|refine a0c ?_|refine a0a ?_|(refine a0x ?_;first|refine a0g rfl (by with_reducible rfl) ?_|refine a0h rfl (by with_reducible rfl) ?_)|refine a0n ?_|refine a0l ?_)|refine a0v ?_))
      refine ret1 (by first | exact .inr rfl | exact .inl rfl) rfl rfl ?_
      rw [hS]
      exact ⟨dmO X, _, rfl, rfl, X, hX, rfl, rfl⟩
  · rw [decide_eq_false hok] at hg
    have hS : arriveD X.ds at' t = (X.ds, 1) := if_neg fun k => hok k.1
    repeat' (first|(first|(refine a0d ?_;refine a0q [0,1,2,3] rfl rfl hg ?_ ?_ rfl rfl ?_;(focus ((repeat constructor);done));(focus ((repeat constructor);done));rintro _ _ ⟨rfl,rfl⟩;refine ⟨_,_,by repeat constructor,by repeat constructor,?_⟩))|(refine a2i ?_;first|refine a0b (a0k rfl) rfl ?_|(refine k_g ?_;first|refine a1j rfl rfl (by with_reducible rfl) ?_|refine a1w rfl rfl (by with_reducible rfl) rfl ?_)|refine a0b (a0f rfl rfl) rfl ?_|(refine a0z ?_;first|refine a0b (a0w rfl rfl) rfl ?_)|(refine a1i ?_;first|refine a0b (a0j rfl (by with_reducible rfl) rfl) rfl ?_|refine a0b (a0i rfl (by with_reducible rfl) rfl) rfl ?_)|refine a0b (a0e rfl) rfl ?_|(refine a0d ?_;first|refine a0b (a0t rfl) rfl ?_)|refine a0u ?_|refine a2n rfl rfl rfl (by first|exact ln5) (by repeat constructor) rfl ?_|refine a0b (a1u rfl rfl rfl (by repeat constructor)) rfl ?_|refine a0b (a0y rfl (by with_reducible rfl)) rfl ?_|refine a0b (a1p rfl (by with_reducible rfl)) rfl ?_)|(first|refine a1f ?_|(refine a1h ?_;first|refine a0c (a0a ?_)|refine a0c ?_|refine a0a ?_|(refine a0x ?_;first|refine a0g rfl (by with_reducible rfl) ?_|refine a0h rfl (by with_reducible rfl) ?_)|refine a0n ?_|refine a0l ?_)|refine a0v ?_))
    refine ret1 (by first | exact .inr rfl | exact .inl rfl) rfl rfl ?_
    rw [hS]
    exact ⟨dmO X, _, rfl, rfl, X, hX, rfl, rfl⟩
set_option maxHeartbeats 4000000 in
set_option maxHeartbeats 4000000 in
theorem a7x {X : Dem} {at' : Int} {t : List UInt8} (hX : DemOk X) (ht0 : t.length ≤ 140737488351232) : ACalls (EE w0 base) 10 [.op 0 0, .int .i64 at', .str t] (dmO X) (DmR (arriveD X.ds at' t)) := by
  refine a3o (b9z hX ht0) ?_
  rintro rv os ⟨os1, ex, rfl, rfl, X', h1, rfl, h2⟩
  exact ⟨dmO X', ex, rfl, ⟨rfl, X', h1, rfl, h2⟩, rfl, b5s X', Nat.le_refl _⟩
theorem b9t {u c a : Int} : ACalls (EE w0 base) 8 [.int .i64 u, .int .i64 c, .int .i64 a] [] fun rv os => if (1 ≤ u ∧ u ≤ 16) ∧ (1 ≤ c ∧ c ≤ 64) ∧ 1 ≤ a ∧ a ≤ 64 then rv = .tup [.op 2 0, .int .i64 0] ∧ os = [.map [], .map [], .box [.int .i64 u, .int .i64 c, .int .i64 a, .mp 0, .mp 1]] else rv = .tup [.nilp, .int .i64 1] ∧ os = [] := by
  refine a1e Tryz.func8 rfl rfl rfl (.cons (.cons (.cons .nil))) ?_
  by_cases h : (1 ≤ u ∧ u ≤ 16) ∧ (1 ≤ c ∧ c ≤ 64) ∧ 1 ≤ a ∧ a ≤ 64
  · obtain ⟨⟨h1, h2⟩, ⟨h3, h4⟩, h5, h6⟩ := h
    repeat' (first|((refine a1g ?_;first|refine a0b (a1s rfl rfl rfl (by omega)) rfl ?_|refine a0b (a1r rfl rfl rfl (by omega)) rfl ?_))|(refine a2i ?_;first|refine a0b (a0k rfl) rfl ?_|(refine k_g ?_;first|refine a1j rfl rfl (by with_reducible rfl) ?_|refine a1w rfl rfl (by with_reducible rfl) rfl ?_)|(refine a1i ?_;first|refine a0b (a0j rfl (by with_reducible rfl) rfl) rfl ?_|refine a0b (a0i rfl (by with_reducible rfl) rfl) rfl ?_)|refine a0b (a0e rfl) rfl ?_|refine a0u ?_|refine a2n rfl rfl rfl (by first|exact ln0|exact ln1|exact ln2) (by repeat constructor) rfl ?_|refine a0b (a1u rfl rfl rfl (by repeat constructor)) rfl ?_|refine b0e (by first|exact ln0|exact ln1|exact ln2) (by repeat constructor) rfl ?_)|(first|refine a1f ?_|(refine a1h ?_;first|refine a0c (a0a ?_)|refine a0c ?_|refine a0a ?_|(refine a0x ?_;first|refine a0g rfl (by with_reducible rfl) ?_|refine a0h rfl (by with_reducible rfl) ?_)|refine a0n ?_|refine a0l ?_)|refine a0v ?_))
    refine ret2 (by first | exact .inr rfl | exact .inl rfl) rfl rfl rfl ?_
    rw [if_pos ⟨⟨h1, h2⟩, ⟨h3, h4⟩, h5, h6⟩]
    exact ⟨rfl, rfl⟩
  · have h' : u < 1 ∨ (1 ≤ u ∧ 16 < u) ∨ (1 ≤ u ∧ u ≤ 16 ∧ c < 1) ∨ (1 ≤ u ∧ u ≤ 16 ∧ 1 ≤ c ∧ 64 < c) ∨ (1 ≤ u ∧ u ≤ 16 ∧ 1 ≤ c ∧ c ≤ 64 ∧ a < 1) ∨ (1 ≤ u ∧ u ≤ 16 ∧ 1 ≤ c ∧ c ≤ 64 ∧ 1 ≤ a ∧ 64 < a) := by omega
    rcases h' with h' | h' | h' | h' | h' | h'
    all_goals
      repeat' (first|((refine a1g ?_;first|refine a0b (a1s rfl rfl rfl (by omega)) rfl ?_|refine a0b (a1r rfl rfl rfl (by omega)) rfl ?_))|(refine a2i ?_;first|refine a0b (a0k rfl) rfl ?_|(refine k_g ?_;first|refine a1j rfl rfl (by with_reducible rfl) ?_|refine a1w rfl rfl (by with_reducible rfl) rfl ?_)|(refine a1i ?_;first|refine a0b (a0j rfl (by with_reducible rfl) rfl) rfl ?_|refine a0b (a0i rfl (by with_reducible rfl) rfl) rfl ?_)|refine a0b (a0e rfl) rfl ?_|refine a0u ?_|refine a2n rfl rfl rfl (by first|exact ln0|exact ln1|exact ln2) (by repeat constructor) rfl ?_|refine a0b (a1u rfl rfl rfl (by repeat constructor)) rfl ?_|refine b0e (by first|exact ln0|exact ln1|exact ln2) (by repeat constructor) rfl ?_)|(first|refine a1f ?_|(refine a1h ?_;first|refine a0c (a0a ?_)|refine a0c ?_|refine a0a ?_|(refine a0x ?_;first|refine a0g rfl (by with_reducible rfl) ?_|refine a0h rfl (by with_reducible rfl) ?_)|refine a0n ?_|refine a0l ?_)|refine a0v ?_))
      refine ret2 (by first | exact .inr rfl | exact .inl rfl) rfl rfl rfl ?_
      rw [if_neg h]
      exact ⟨rfl, rfl⟩
end
end Go.Proofs.YtkljmljkiodnpaaGreatDoor.L

namespace Go.Proofs.YtkljmljkiodnpaaGreatDoor.L
open Go Go.RowKit Go.Proofs
attribute [local irreducible] AL QL AWp Thn InB RetQ ACalls LoopQ HL HO HW HQ NoG JmpQ MidQ HF

def ReqR (X : Dem) (e : En) (x : Cn × At) (rv : AV) (os : List AO) : Prop := rv = .agg (atC x.2) ∧ ∃ m' ex, m' = upd X.m e.bc (cnC e.bp (paE e) x.1) ∧ os = [AO.box [.int .i64 X.users, .int .i64 X.conns, .int .i64 X.asks, .mp 1, .mp 2], .map (X.l.map enK), .map (X.ss.map ssK), .hp m'] ++ ex
section
variable {w0 : World} {base : Nat}
set_option maxHeartbeats 32000000 in
theorem c1w {X : Dem} {i : Nat} {e : En} {h : Hd} {b : List UInt8} (hG : Tabs w0 base) (hX : DemOk X) (hi : X.l[i]? = some e) (hg : GoodH h) (hb : b.length ≤ 65536) :
    ACalls (EE w0 base) 33 [.op 0 0, .ad e.bc 0, .agg (rqCs h b)] (dmO X) (ReqR X e (requestC X.ds e.c h b)) := by
  have hm := (hX.rep.ok i e hi).c
  have hm2 : X.m e.bc = some [.ad e.bp 0, .int .i64 e.c.user, .bool e.c.closed, .bool e.c.lost, .bool e.c.waits, .int .i64 e.c.asks, .bool e.c.ends, paE e] := hm
  obtain ⟨CL, hCL⟩ : ∃ CL, CL = closesS h := ⟨_, rfl⟩
  have hLo := c4h (w0 := w0) (base := base) (h := h) hG hb hm
  have hT := b7p (w0 := w0) (base := base) (b := b) hG.g hg
  have hPl1 := a4j (w0 := w0) (base := base) (st := 401) (b := []) (cl := closesS h)
  have hPl3 := a4j (w0 := w0) (base := base) (st := 403) (b := []) (cl := closesS h)
  have hPl5 := a4j (w0 := w0) (base := base) (st := 503) (b := []) (cl := closesS h)
  have hPlT := a4j (w0 := w0) (base := base) (st := 503) (b := []) (cl := true)
  have hE1 := a4f (w0 := w0) (base := base) hG (a4e 401 (closesS h)) hm
  have hE3 := a4f (w0 := w0) (base := base) hG (a4e 403 (closesS h)) hm
  have hET := a4f (w0 := w0) (base := base) hG (a4e 503 true) hm
  have hE5 := a4f (w0 := w0) (base := base) hG (a4e 503 (closesS h)) hm
  have hXo : X.ds.ss = X.ss ∧ X.ds.l = lcE X.l ∧ X.ds.conns = X.conns ∧ X.ds.asks = X.asks := ⟨rfl, rfl, rfl, rfl⟩
  have hR : requestC X.ds e.c h b = (if h.m = postS ∧ tgtP h.t = loginS then loginC e.c h b
    else match sget (tokenS h) X.ss with
      | none => emitsC e.c (plR 401 (closesS h))
      | some u => if e.c.user ≠ -1 ∧ e.c.user ≠ u then emitsC e.c (plR 403 (closesS h))
        else if e.c.user = -1 ∧ X.conns ≤ cntC (lcE X.l) u then emitsC e.c (plR 503 true)
        else if h.m = postS ∧ tgtP h.t = logoutS then handsC { e.c with user := u } (closesS h) (-1) { at0 with kind := 3, token := tokenS h, user := u }
        else if X.asks ≤ cntA (lcE X.l) u then emitsC { e.c with user := u } (plR 503 (closesS h))
        else handsC { e.c with user := u } (closesS h) u { at0 with kind := 4, user := u, rq := some (h, b) }) := rfl
  refine a1e Tryz.func33 rfl rfl rfl (.cons (.cons (.cons .nil))) ?_
  by_cases hP : h.m = postS
  · by_cases hL : tgtP h.t = loginS
    · rw [if_pos ⟨hP, hL⟩] at hR
      obtain ⟨⟨c1, a1⟩, hc1⟩ : ∃ p, p = loginC e.c h b := ⟨_, rfl⟩
      rw [← hc1] at hLo hR
      rw [hR]
      clear hR hc1
      obtain ⟨ak, ao, acl, au, atk, an, aw, rq⟩ := a1
      rcases rq with _ | ⟨h', b'⟩
      all_goals
        repeat' (first|(first|refine a0b (a1b (n := 0) rfl rfl) rfl ?_|(refine a0z ?_;refine a0b (a2g (id := 3) rfl rfl hm2 rfl) rfl ?_)|(refine a1g ?_;first|refine a0b (a1s rfl rfl rfl (by omega)) rfl ?_|refine a0b (a1r rfl rfl rfl (by omega)) rfl ?_|refine a0b (a2j (n := postS) hP rfl rfl) rfl ?_|refine a0b (a2l (n := postS) hP rfl rfl) rfl ?_|refine a0b (a2j (n := loginS) hL rfl rfl) rfl ?_|refine a0b (a2l (n := loginS) hL rfl rfl) rfl ?_|refine a0b (a2j (n := logoutS) hO rfl rfl) rfl ?_|refine a0b (a2l (n := logoutS) hO rfl rfl) rfl ?_)|(refine a0d ?_;refine a0q [3] rfl rfl hLo ?_ ?_ rfl rfl ?_;(focus ((repeat constructor);done));(focus ((repeat constructor);done));rintro _ _ ⟨rfl,rfl⟩;refine ⟨_,_,by repeat constructor,by repeat constructor,?_⟩))|(refine a2i ?_;first|refine a0b (a0k rfl) rfl ?_|(refine k_g ?_;first|refine a1j rfl rfl (by with_reducible rfl) ?_|refine a1x rfl rfl (by with_reducible rfl) rfl ?_)|refine a0b (a0f rfl rfl) rfl ?_|(refine a0z ?_;first|refine a0b (a0w rfl rfl) rfl ?_|refine a0b (a0m rfl rfl rfl) rfl ?_)|(refine a1i ?_;first|refine a0b (a0j rfl (by with_reducible rfl) rfl) rfl ?_|refine a0b (a0i rfl (by with_reducible rfl) rfl) rfl ?_)|refine a0b (a0e rfl) rfl ?_|refine a0b (a0r rfl rfl) rfl ?_|refine a0u ?_|refine a2n rfl rfl rfl (by first|exact ln4|exact ln5) (by repeat constructor) rfl ?_|refine a1d rfl rfl rfl (by first|exact ln4|exact ln5) (by repeat constructor) rfl ?_|refine a1a rfl rfl rfl rfl rfl (by repeat constructor) (by repeat constructor) ?_|refine a0b (a1u rfl rfl rfl (by repeat constructor)) rfl ?_|refine a0b (a0y rfl (by with_reducible rfl)) rfl ?_|refine a0b (a1p rfl (by with_reducible rfl)) rfl ?_)|(first|refine a1f ?_|(refine a1h ?_;first|refine a0c (a0a ?_)|refine a0c ?_|refine a0a ?_|(refine a0x ?_;first|refine a0g rfl (by with_reducible rfl) ?_|refine a0h rfl (by with_reducible rfl) ?_)|refine a0n ?_|refine a0l ?_)|refine a0v ?_))
        refine retc0 (by first | exact .inr rfl | exact .inl rfl) rfl rfl rfl rfl ?_
        exact ⟨rfl, _, _, rfl, rfl⟩
    rw [if_neg (fun k => hL k.2)] at hR
    have hs := b8m (tokenS h) X.ss
    cases hq : sget (tokenS h) X.ss with
    | none =>
      rw [hq] at hs hR
      dsimp only [Option.map_none] at hs hR
      repeat' (first|(first|refine a0b (a1b (n := 0) rfl rfl) rfl ?_|(refine a0z ?_;refine a0b (a2g (id := 3) rfl rfl hm2 rfl) rfl ?_)|(refine a1g ?_;first|refine a0b (a1s rfl rfl rfl (by omega)) rfl ?_|refine a0b (a1r rfl rfl rfl (by omega)) rfl ?_|refine a0b (a2j (n := postS) hP rfl rfl) rfl ?_|refine a0b (a2l (n := postS) hP rfl rfl) rfl ?_|refine a0b (a2j (n := loginS) hL rfl rfl) rfl ?_|refine a0b (a2l (n := loginS) hL rfl rfl) rfl ?_|refine a0b (a2j (n := logoutS) hO rfl rfl) rfl ?_|refine a0b (a2l (n := logoutS) hO rfl rfl) rfl ?_)|(refine a0d ?_;refine a0o rfl rfl rfl rfl hT ?_;rintro _ rfl)|refine a0b (a9w rfl rfl rfl .str (a4l _) hs rfl) rfl ?_|(refine a0d ?_;refine a0o rfl rfl rfl rfl hPl1 ?_;rintro _ rfl)|(refine a0d ?_;refine a0q [3] rfl rfl hE1 ?_ ?_ rfl rfl ?_;(focus ((repeat constructor);done));(focus ((repeat constructor);done));rintro _ _ ⟨rfl,rfl⟩;refine ⟨_,_,by repeat constructor,by repeat constructor,?_⟩))|(refine a2i ?_;first|refine a0b (a0k rfl) rfl ?_|(refine k_g ?_;first|refine a1j rfl rfl (by with_reducible rfl) ?_|refine a1x rfl rfl (by with_reducible rfl) rfl ?_)|refine a0b (a0f rfl rfl) rfl ?_|(refine a0z ?_;first|refine a0b (a0w rfl rfl) rfl ?_|refine a0b (a0m rfl rfl rfl) rfl ?_)|(refine a1i ?_;first|refine a0b (a0j rfl (by with_reducible rfl) rfl) rfl ?_|refine a0b (a0i rfl (by with_reducible rfl) rfl) rfl ?_)|refine a0b (a0e rfl) rfl ?_|refine a0b (a0r rfl rfl) rfl ?_|refine a0u ?_|refine a2n rfl rfl rfl (by first|exact ln4|exact ln5) (by repeat constructor) rfl ?_|refine a1d rfl rfl rfl (by first|exact ln4|exact ln5) (by repeat constructor) rfl ?_|refine a1a rfl rfl rfl rfl rfl (by repeat constructor) (by repeat constructor) ?_|refine a0b (a1u rfl rfl rfl (by repeat constructor)) rfl ?_|refine a0b (a0y rfl (by with_reducible rfl)) rfl ?_|refine a0b (a1p rfl (by with_reducible rfl)) rfl ?_)|(first|refine a1f ?_|(refine a1h ?_;first|refine a0c (a0a ?_)|refine a0c ?_|refine a0a ?_|(refine a0x ?_;first|refine a0g rfl (by with_reducible rfl) ?_|refine a0h rfl (by with_reducible rfl) ?_)|refine a0n ?_|refine a0l ?_)|refine a0v ?_))
      refine retc0 (by first | exact .inr rfl | exact .inl rfl) rfl rfl rfl rfl ?_
      rw [hR]
      exact ⟨rfl, _, _, rfl, rfl⟩
    | some u =>
      rw [hq] at hs hR
      dsimp only [Option.map_some] at hs hR
      have hu := hX.ss _ (b0i hq)
      dsimp only at hu
      have hC := b5x (w0 := w0) (base := base) (u := u) hX
      unfold cntAV at hC
      rw [show countsD X.ds u = (cntC (lcE X.l) u, cntA (lcE X.l) u) from if_pos ⟨hu.2.1, hu.2.2⟩] at hC
      dsimp only at hC
      obtain ⟨nc, hnc⟩ : ∃ nc, cntC (lcE X.l) u = nc := ⟨_, rfl⟩
      obtain ⟨na, hna⟩ : ∃ na, cntA (lcE X.l) u = na := ⟨_, rfl⟩
      rw [hnc, hna] at hC hR
      by_cases h3 : e.c.user ≠ -1 ∧ e.c.user ≠ u
      · rw [if_pos h3] at hR
        obtain ⟨h3a, h3b⟩ := h3
        repeat' (first|(first|refine a0b (a1b (n := 0) rfl rfl) rfl ?_|(refine a0z ?_;refine a0b (a2g (id := 3) rfl rfl hm2 rfl) rfl ?_)|(refine a1g ?_;first|refine a0b (a1s rfl rfl rfl (by omega)) rfl ?_|refine a0b (a1r rfl rfl rfl (by omega)) rfl ?_|refine a0b (a2j (n := postS) hP rfl rfl) rfl ?_|refine a0b (a2l (n := postS) hP rfl rfl) rfl ?_|refine a0b (a2j (n := loginS) hL rfl rfl) rfl ?_|refine a0b (a2l (n := loginS) hL rfl rfl) rfl ?_|refine a0b (a2j (n := logoutS) hO rfl rfl) rfl ?_|refine a0b (a2l (n := logoutS) hO rfl rfl) rfl ?_)|(refine a0d ?_;refine a0o rfl rfl rfl rfl hT ?_;rintro _ rfl)|refine a0b (a3b rfl rfl rfl .str (a4l _) hs) rfl ?_|(refine a0d ?_;refine a0o rfl rfl rfl rfl hPl3 ?_;rintro _ rfl)|(refine a0d ?_;refine a0q [3] rfl rfl hE3 ?_ ?_ rfl rfl ?_;(focus ((repeat constructor);done));(focus ((repeat constructor);done));rintro _ _ ⟨rfl,rfl⟩;refine ⟨_,_,by repeat constructor,by repeat constructor,?_⟩))|(refine a2i ?_;first|refine a0b (a0k rfl) rfl ?_|(refine k_g ?_;first|refine a1j rfl rfl (by with_reducible rfl) ?_|refine a1x rfl rfl (by with_reducible rfl) rfl ?_)|refine a0b (a0f rfl rfl) rfl ?_|(refine a0z ?_;first|refine a0b (a0w rfl rfl) rfl ?_|refine a0b (a0m rfl rfl rfl) rfl ?_)|(refine a1i ?_;first|refine a0b (a0j rfl (by with_reducible rfl) rfl) rfl ?_|refine a0b (a0i rfl (by with_reducible rfl) rfl) rfl ?_)|refine a0b (a0e rfl) rfl ?_|refine a0b (a0r rfl rfl) rfl ?_|refine a0u ?_|refine a2n rfl rfl rfl (by first|exact ln4|exact ln5) (by repeat constructor) rfl ?_|refine a1d rfl rfl rfl (by first|exact ln4|exact ln5) (by repeat constructor) rfl ?_|refine a1a rfl rfl rfl rfl rfl (by repeat constructor) (by repeat constructor) ?_|refine a0b (a1u rfl rfl rfl (by repeat constructor)) rfl ?_|refine a0b (a0y rfl (by with_reducible rfl)) rfl ?_|refine a0b (a1p rfl (by with_reducible rfl)) rfl ?_)|(first|refine a1f ?_|(refine a1h ?_;first|refine a0c (a0a ?_)|refine a0c ?_|refine a0a ?_|(refine a0x ?_;first|refine a0g rfl (by with_reducible rfl) ?_|refine a0h rfl (by with_reducible rfl) ?_)|refine a0n ?_|refine a0l ?_)|refine a0v ?_))
        refine retc0 (by first | exact .inr rfl | exact .inl rfl) rfl rfl rfl rfl ?_
        rw [hR]
        exact ⟨rfl, _, _, rfl, rfl⟩
      rw [if_neg h3] at hR
      by_cases hu1 : e.c.user = -1
      · by_cases h5 : X.conns ≤ nc
        · rw [if_pos ⟨hu1, h5⟩] at hR
          repeat' (first|(first|refine a0b (a1b (n := 0) rfl rfl) rfl ?_|(refine a0z ?_;refine a0b (a2g (id := 3) rfl rfl hm2 rfl) rfl ?_)|(refine a1g ?_;first|refine a0b (a1s rfl rfl rfl (by omega)) rfl ?_|refine a0b (a1r rfl rfl rfl (by omega)) rfl ?_|refine a0b (a2j (n := postS) hP rfl rfl) rfl ?_|refine a0b (a2l (n := postS) hP rfl rfl) rfl ?_|refine a0b (a2j (n := loginS) hL rfl rfl) rfl ?_|refine a0b (a2l (n := loginS) hL rfl rfl) rfl ?_|refine a0b (a2j (n := logoutS) hO rfl rfl) rfl ?_|refine a0b (a2l (n := logoutS) hO rfl rfl) rfl ?_)|(refine a0d ?_;refine a0o rfl rfl rfl rfl hT ?_;rintro _ rfl)|refine a0b (a3b rfl rfl rfl .str (a4l _) hs) rfl ?_|(refine a0d ?_;refine a0q [0,1,2,3] rfl rfl hC ?_ ?_ rfl rfl ?_;(focus ((repeat constructor);done));(focus ((repeat constructor);done));rintro _ _ ⟨rfl,rfl⟩;refine ⟨_,_,by repeat constructor,by repeat constructor,?_⟩)|(refine a0d ?_;refine a0o rfl rfl rfl rfl hPlT ?_;rintro _ rfl)|(refine a0d ?_;refine a0q [3] rfl rfl hET ?_ ?_ rfl rfl ?_;(focus ((repeat constructor);done));(focus ((repeat constructor);done));rintro _ _ ⟨rfl,rfl⟩;refine ⟨_,_,by repeat constructor,by repeat constructor,?_⟩))|(refine a2i ?_;first|refine a0b (a0k rfl) rfl ?_|(refine k_g ?_;first|refine a1j rfl rfl (by with_reducible rfl) ?_|refine a1x rfl rfl (by with_reducible rfl) rfl ?_)|refine a0b (a0f rfl rfl) rfl ?_|(refine a0z ?_;first|refine a0b (a0w rfl rfl) rfl ?_|refine a0b (a0m rfl rfl rfl) rfl ?_)|(refine a1i ?_;first|refine a0b (a0j rfl (by with_reducible rfl) rfl) rfl ?_|refine a0b (a0i rfl (by with_reducible rfl) rfl) rfl ?_)|refine a0b (a0e rfl) rfl ?_|refine a0b (a0r rfl rfl) rfl ?_|refine a0u ?_|refine a2n rfl rfl rfl (by first|exact ln4|exact ln5) (by repeat constructor) rfl ?_|refine a1d rfl rfl rfl (by first|exact ln4|exact ln5) (by repeat constructor) rfl ?_|refine a1a rfl rfl rfl rfl rfl (by repeat constructor) (by repeat constructor) ?_|refine a0b (a1u rfl rfl rfl (by repeat constructor)) rfl ?_|refine a0b (a0y rfl (by with_reducible rfl)) rfl ?_|refine a0b (a1p rfl (by with_reducible rfl)) rfl ?_)|(first|refine a1f ?_|(refine a1h ?_;first|refine a0c (a0a ?_)|refine a0c ?_|refine a0a ?_|(refine a0x ?_;first|refine a0g rfl (by with_reducible rfl) ?_|refine a0h rfl (by with_reducible rfl) ?_)|refine a0n ?_|refine a0l ?_)|refine a0v ?_))
          refine retc0 (by first | exact .inr rfl | exact .inl rfl) rfl rfl rfl rfl ?_
          rw [hR]
          exact ⟨rfl, _, _, rfl, rfl⟩
        rw [if_neg (fun k => h5 k.2)] at hR
        have hm3 : upd X.m e.bc [.ad e.bp 0, .int .i64 u, .bool e.c.closed, .bool e.c.lost, .bool e.c.waits, .int .i64 e.c.asks, .bool e.c.ends, paE e] e.bc = some (cnC e.bp (paE e) { e.c with user := u }) := a2q
        have hH3 := a5e (w0 := w0) (base := base) (h := h) (b := b) (u := -1) (a := { at0 with kind := 3, token := tokenS h, user := u }) hm3
        have hH4 := a5e (w0 := w0) (base := base) (h := h) (b := b) (u := u) (a := { at0 with kind := 4, user := u, rq := some (h, b) }) hm3
        have hE6 := a4f (w0 := w0) (base := base) hG (a4e 503 (closesS h)) hm3
        by_cases hO : tgtP h.t = logoutS
        · rw [if_pos ⟨hP, hO⟩] at hR
          repeat' (first|(first|refine a0b (a1b (n := 0) rfl rfl) rfl ?_|(refine a0z ?_;refine a0b (a2g (id := 3) rfl rfl hm2 rfl) rfl ?_)|(refine a1g ?_;first|refine a0b (a1s rfl rfl rfl (by omega)) rfl ?_|refine a0b (a1r rfl rfl rfl (by omega)) rfl ?_|refine a0b (a2j (n := postS) hP rfl rfl) rfl ?_|refine a0b (a2l (n := postS) hP rfl rfl) rfl ?_|refine a0b (a2j (n := loginS) hL rfl rfl) rfl ?_|refine a0b (a2l (n := loginS) hL rfl rfl) rfl ?_|refine a0b (a2j (n := logoutS) hO rfl rfl) rfl ?_|refine a0b (a2l (n := logoutS) hO rfl rfl) rfl ?_)|(refine a0d ?_;refine a0o rfl rfl rfl rfl hT ?_;rintro _ rfl)|refine a0b (a3b rfl rfl rfl .str (a4l _) hs) rfl ?_|(refine a0d ?_;refine a0q [0,1,2,3] rfl rfl hC ?_ ?_ rfl rfl ?_;(focus ((repeat constructor);done));(focus ((repeat constructor);done));rintro _ _ ⟨rfl,rfl⟩;refine ⟨_,_,by repeat constructor,by repeat constructor,?_⟩)|refine a3d (id := 3) rfl rfl rfl rfl rfl rfl rfl hm2 (by repeat constructor) (by repeat constructor) ?_|(refine a4a (.le 96 (.agg (atC ({ at0 with kind := 3,token := tokenS h,user := u } : At))) rfl (.agg (by repeat (first|exact .nil|refine .cons .nil ?_|refine .cons (.refl _) ?_)))) ?_;(refine a0d ?_;refine a0q [3] rfl rfl hH3 ?_ ?_ rfl rfl ?_;(focus ((repeat constructor);done));(focus ((repeat constructor);done));rintro _ _ ⟨rfl,rfl⟩;refine ⟨_,_,by repeat constructor,by repeat constructor,?_⟩)))|(refine a2i ?_;first|refine a0b (a0k rfl) rfl ?_|(refine k_g ?_;first|refine a1j rfl rfl (by with_reducible rfl) ?_|refine a1x rfl rfl (by with_reducible rfl) rfl ?_)|refine a0b (a0f rfl rfl) rfl ?_|(refine a0z ?_;first|refine a0b (a0w rfl rfl) rfl ?_|refine a0b (a0m rfl rfl rfl) rfl ?_)|(refine a1i ?_;first|refine a0b (a0j rfl (by with_reducible rfl) rfl) rfl ?_|refine a0b (a0i rfl (by with_reducible rfl) rfl) rfl ?_)|refine a0b (a0e rfl) rfl ?_|refine a0b (a0r rfl rfl) rfl ?_|refine a0u ?_|refine a2n rfl rfl rfl (by first|exact ln4|exact ln5) (by repeat constructor) rfl ?_|refine a1d rfl rfl rfl (by first|exact ln4|exact ln5) (by repeat constructor) rfl ?_|refine a1a rfl rfl rfl rfl rfl (by repeat constructor) (by repeat constructor) ?_|refine a0b (a1u rfl rfl rfl (by repeat constructor)) rfl ?_|refine a0b (a0y rfl (by with_reducible rfl)) rfl ?_|refine a0b (a1p rfl (by with_reducible rfl)) rfl ?_)|(first|refine a1f ?_|(refine a1h ?_;first|refine a0c (a0a ?_)|refine a0c ?_|refine a0a ?_|(refine a0x ?_;first|refine a0g rfl (by with_reducible rfl) ?_|refine a0h rfl (by with_reducible rfl) ?_)|refine a0n ?_|refine a0l ?_)|refine a0v ?_))
          refine retc0 (by first | exact .inr rfl | exact .inl rfl) rfl rfl rfl rfl ?_
          rw [hR]
          exact ⟨rfl, _, _, a5h, rfl⟩
        rw [if_neg (fun k => hO k.2)] at hR
        by_cases h6 : X.asks ≤ na
        · rw [if_pos h6] at hR
          repeat' (first|(first|refine a0b (a1b (n := 0) rfl rfl) rfl ?_|(refine a0z ?_;refine a0b (a2g (id := 3) rfl rfl hm2 rfl) rfl ?_)|(refine a1g ?_;first|refine a0b (a1s rfl rfl rfl (by omega)) rfl ?_|refine a0b (a1r rfl rfl rfl (by omega)) rfl ?_|refine a0b (a2j (n := postS) hP rfl rfl) rfl ?_|refine a0b (a2l (n := postS) hP rfl rfl) rfl ?_|refine a0b (a2j (n := loginS) hL rfl rfl) rfl ?_|refine a0b (a2l (n := loginS) hL rfl rfl) rfl ?_|refine a0b (a2j (n := logoutS) hO rfl rfl) rfl ?_|refine a0b (a2l (n := logoutS) hO rfl rfl) rfl ?_)|(refine a0d ?_;refine a0o rfl rfl rfl rfl hT ?_;rintro _ rfl)|refine a0b (a3b rfl rfl rfl .str (a4l _) hs) rfl ?_|(refine a0d ?_;refine a0q [0,1,2,3] rfl rfl hC ?_ ?_ rfl rfl ?_;(focus ((repeat constructor);done));(focus ((repeat constructor);done));rintro _ _ ⟨rfl,rfl⟩;refine ⟨_,_,by repeat constructor,by repeat constructor,?_⟩)|refine a3d (id := 3) rfl rfl rfl rfl rfl rfl rfl hm2 (by repeat constructor) (by repeat constructor) ?_|(refine a0d ?_;refine a0o rfl rfl rfl rfl hPl5 ?_;rintro _ rfl)|(refine a0d ?_;refine a0q [3] rfl rfl hE6 ?_ ?_ rfl rfl ?_;(focus ((repeat constructor);done));(focus ((repeat constructor);done));rintro _ _ ⟨rfl,rfl⟩;refine ⟨_,_,by repeat constructor,by repeat constructor,?_⟩))|(refine a2i ?_;first|refine a0b (a0k rfl) rfl ?_|(refine k_g ?_;first|refine a1j rfl rfl (by with_reducible rfl) ?_|refine a1x rfl rfl (by with_reducible rfl) rfl ?_)|refine a0b (a0f rfl rfl) rfl ?_|(refine a0z ?_;first|refine a0b (a0w rfl rfl) rfl ?_|refine a0b (a0m rfl rfl rfl) rfl ?_)|(refine a1i ?_;first|refine a0b (a0j rfl (by with_reducible rfl) rfl) rfl ?_|refine a0b (a0i rfl (by with_reducible rfl) rfl) rfl ?_)|refine a0b (a0e rfl) rfl ?_|refine a0b (a0r rfl rfl) rfl ?_|refine a0u ?_|refine a2n rfl rfl rfl (by first|exact ln4|exact ln5) (by repeat constructor) rfl ?_|refine a1d rfl rfl rfl (by first|exact ln4|exact ln5) (by repeat constructor) rfl ?_|refine a1a rfl rfl rfl rfl rfl (by repeat constructor) (by repeat constructor) ?_|refine a0b (a1u rfl rfl rfl (by repeat constructor)) rfl ?_|refine a0b (a0y rfl (by with_reducible rfl)) rfl ?_|refine a0b (a1p rfl (by with_reducible rfl)) rfl ?_)|(first|refine a1f ?_|(refine a1h ?_;first|refine a0c (a0a ?_)|refine a0c ?_|refine a0a ?_|(refine a0x ?_;first|refine a0g rfl (by with_reducible rfl) ?_|refine a0h rfl (by with_reducible rfl) ?_)|refine a0n ?_|refine a0l ?_)|refine a0v ?_))
          refine retc0 (by first | exact .inr rfl | exact .inl rfl) rfl rfl rfl rfl ?_
          rw [hR]
          exact ⟨rfl, _, _, a5h, rfl⟩
        · rw [if_neg h6] at hR
          repeat' (first|(first|refine a0b (a1b (n := 0) rfl rfl) rfl ?_|(refine a0z ?_;refine a0b (a2g (id := 3) rfl rfl hm2 rfl) rfl ?_)|(refine a1g ?_;first|refine a0b (a1s rfl rfl rfl (by omega)) rfl ?_|refine a0b (a1r rfl rfl rfl (by omega)) rfl ?_|refine a0b (a2j (n := postS) hP rfl rfl) rfl ?_|refine a0b (a2l (n := postS) hP rfl rfl) rfl ?_|refine a0b (a2j (n := loginS) hL rfl rfl) rfl ?_|refine a0b (a2l (n := loginS) hL rfl rfl) rfl ?_|refine a0b (a2j (n := logoutS) hO rfl rfl) rfl ?_|refine a0b (a2l (n := logoutS) hO rfl rfl) rfl ?_)|(refine a0d ?_;refine a0o rfl rfl rfl rfl hT ?_;rintro _ rfl)|refine a0b (a3b rfl rfl rfl .str (a4l _) hs) rfl ?_|(refine a0d ?_;refine a0q [0,1,2,3] rfl rfl hC ?_ ?_ rfl rfl ?_;(focus ((repeat constructor);done));(focus ((repeat constructor);done));rintro _ _ ⟨rfl,rfl⟩;refine ⟨_,_,by repeat constructor,by repeat constructor,?_⟩)|refine a3d (id := 3) rfl rfl rfl rfl rfl rfl rfl hm2 (by repeat constructor) (by repeat constructor) ?_|(refine a0d ?_;refine a0q [3] rfl rfl hH4 ?_ ?_ rfl rfl ?_;(focus ((repeat constructor);done));(focus ((repeat constructor);done));rintro _ _ ⟨rfl,rfl⟩;refine ⟨_,_,by repeat constructor,by repeat constructor,?_⟩))|(refine a2i ?_;first|refine a0b (a0k rfl) rfl ?_|(refine k_g ?_;first|refine a1j rfl rfl (by with_reducible rfl) ?_|refine a1x rfl rfl (by with_reducible rfl) rfl ?_)|refine a0b (a0f rfl rfl) rfl ?_|(refine a0z ?_;first|refine a0b (a0w rfl rfl) rfl ?_|refine a0b (a0m rfl rfl rfl) rfl ?_)|(refine a1i ?_;first|refine a0b (a0j rfl (by with_reducible rfl) rfl) rfl ?_|refine a0b (a0i rfl (by with_reducible rfl) rfl) rfl ?_)|refine a0b (a0e rfl) rfl ?_|refine a0b (a0r rfl rfl) rfl ?_|refine a0u ?_|refine a2n rfl rfl rfl (by first|exact ln4|exact ln5) (by repeat constructor) rfl ?_|refine a1d rfl rfl rfl (by first|exact ln4|exact ln5) (by repeat constructor) rfl ?_|refine a1a rfl rfl rfl rfl rfl (by repeat constructor) (by repeat constructor) ?_|refine a0b (a1u rfl rfl rfl (by repeat constructor)) rfl ?_|refine a0b (a0y rfl (by with_reducible rfl)) rfl ?_|refine a0b (a1p rfl (by with_reducible rfl)) rfl ?_)|(first|refine a1f ?_|(refine a1h ?_;first|refine a0c (a0a ?_)|refine a0c ?_|refine a0a ?_|(refine a0x ?_;first|refine a0g rfl (by with_reducible rfl) ?_|refine a0h rfl (by with_reducible rfl) ?_)|refine a0n ?_|refine a0l ?_)|refine a0v ?_))
          refine retc0 (by first | exact .inr rfl | exact .inl rfl) rfl rfl rfl rfl ?_
          rw [hR]
          exact ⟨rfl, _, _, a5h, rfl⟩
      · have hu2 : e.c.user = u := Classical.byContradiction fun k => h3 ⟨hu1, k⟩
        rw [if_neg (fun k => hu1 k.1)] at hR
        have hcu : { e.c with user := u } = e.c := by rw [← hu2]
        rw [hcu] at hR
        have hH3 := a5e (w0 := w0) (base := base) (h := h) (b := b) (u := -1) (a := { at0 with kind := 3, token := tokenS h, user := u }) hm
        have hH4 := a5e (w0 := w0) (base := base) (h := h) (b := b) (u := u) (a := { at0 with kind := 4, user := u, rq := some (h, b) }) hm
        have hE6 := a4f (w0 := w0) (base := base) hG (a4e 503 (closesS h)) hm
        by_cases hO : tgtP h.t = logoutS
        · rw [if_pos ⟨hP, hO⟩] at hR
          repeat' (first|(first|refine a0b (a1b (n := 0) rfl rfl) rfl ?_|(refine a0z ?_;refine a0b (a2g (id := 3) rfl rfl hm2 rfl) rfl ?_)|(refine a1g ?_;first|refine a0b (a1s rfl rfl rfl (by omega)) rfl ?_|refine a0b (a1r rfl rfl rfl (by omega)) rfl ?_|refine a0b (a2j (n := postS) hP rfl rfl) rfl ?_|refine a0b (a2l (n := postS) hP rfl rfl) rfl ?_|refine a0b (a2j (n := loginS) hL rfl rfl) rfl ?_|refine a0b (a2l (n := loginS) hL rfl rfl) rfl ?_|refine a0b (a2j (n := logoutS) hO rfl rfl) rfl ?_|refine a0b (a2l (n := logoutS) hO rfl rfl) rfl ?_)|(refine a0d ?_;refine a0o rfl rfl rfl rfl hT ?_;rintro _ rfl)|refine a0b (a3b rfl rfl rfl .str (a4l _) hs) rfl ?_|(refine a0d ?_;refine a0q [0,1,2,3] rfl rfl hC ?_ ?_ rfl rfl ?_;(focus ((repeat constructor);done));(focus ((repeat constructor);done));rintro _ _ ⟨rfl,rfl⟩;refine ⟨_,_,by repeat constructor,by repeat constructor,?_⟩)|(refine a4a (.le 96 (.agg (atC ({ at0 with kind := 3,token := tokenS h,user := u } : At))) rfl (.agg (by repeat (first|exact .nil|refine .cons .nil ?_|refine .cons (.refl _) ?_)))) ?_;(refine a0d ?_;refine a0q [3] rfl rfl hH3 ?_ ?_ rfl rfl ?_;(focus ((repeat constructor);done));(focus ((repeat constructor);done));rintro _ _ ⟨rfl,rfl⟩;refine ⟨_,_,by repeat constructor,by repeat constructor,?_⟩)))|(refine a2i ?_;first|refine a0b (a0k rfl) rfl ?_|(refine k_g ?_;first|refine a1j rfl rfl (by with_reducible rfl) ?_|refine a1x rfl rfl (by with_reducible rfl) rfl ?_)|refine a0b (a0f rfl rfl) rfl ?_|(refine a0z ?_;first|refine a0b (a0w rfl rfl) rfl ?_|refine a0b (a0m rfl rfl rfl) rfl ?_)|(refine a1i ?_;first|refine a0b (a0j rfl (by with_reducible rfl) rfl) rfl ?_|refine a0b (a0i rfl (by with_reducible rfl) rfl) rfl ?_)|refine a0b (a0e rfl) rfl ?_|refine a0b (a0r rfl rfl) rfl ?_|refine a0u ?_|refine a2n rfl rfl rfl (by first|exact ln4|exact ln5) (by repeat constructor) rfl ?_|refine a1d rfl rfl rfl (by first|exact ln4|exact ln5) (by repeat constructor) rfl ?_|refine a1a rfl rfl rfl rfl rfl (by repeat constructor) (by repeat constructor) ?_|refine a0b (a1u rfl rfl rfl (by repeat constructor)) rfl ?_|refine a0b (a0y rfl (by with_reducible rfl)) rfl ?_|refine a0b (a1p rfl (by with_reducible rfl)) rfl ?_)|(first|refine a1f ?_|(refine a1h ?_;first|refine a0c (a0a ?_)|refine a0c ?_|refine a0a ?_|(refine a0x ?_;first|refine a0g rfl (by with_reducible rfl) ?_|refine a0h rfl (by with_reducible rfl) ?_)|refine a0n ?_|refine a0l ?_)|refine a0v ?_))
          refine retc0 (by first | exact .inr rfl | exact .inl rfl) rfl rfl rfl rfl ?_
          rw [hR]
          exact ⟨rfl, _, _, rfl, rfl⟩
        rw [if_neg (fun k => hO k.2)] at hR
        by_cases h6 : X.asks ≤ na
        · rw [if_pos h6] at hR
          repeat' (first|(first|refine a0b (a1b (n := 0) rfl rfl) rfl ?_|(refine a0z ?_;refine a0b (a2g (id := 3) rfl rfl hm2 rfl) rfl ?_)|(refine a1g ?_;first|refine a0b (a1s rfl rfl rfl (by omega)) rfl ?_|refine a0b (a1r rfl rfl rfl (by omega)) rfl ?_|refine a0b (a2j (n := postS) hP rfl rfl) rfl ?_|refine a0b (a2l (n := postS) hP rfl rfl) rfl ?_|refine a0b (a2j (n := loginS) hL rfl rfl) rfl ?_|refine a0b (a2l (n := loginS) hL rfl rfl) rfl ?_|refine a0b (a2j (n := logoutS) hO rfl rfl) rfl ?_|refine a0b (a2l (n := logoutS) hO rfl rfl) rfl ?_)|(refine a0d ?_;refine a0o rfl rfl rfl rfl hT ?_;rintro _ rfl)|refine a0b (a3b rfl rfl rfl .str (a4l _) hs) rfl ?_|(refine a0d ?_;refine a0q [0,1,2,3] rfl rfl hC ?_ ?_ rfl rfl ?_;(focus ((repeat constructor);done));(focus ((repeat constructor);done));rintro _ _ ⟨rfl,rfl⟩;refine ⟨_,_,by repeat constructor,by repeat constructor,?_⟩)|(refine a0d ?_;refine a0o rfl rfl rfl rfl hPl5 ?_;rintro _ rfl)|(refine a0d ?_;refine a0q [3] rfl rfl hE6 ?_ ?_ rfl rfl ?_;(focus ((repeat constructor);done));(focus ((repeat constructor);done));rintro _ _ ⟨rfl,rfl⟩;refine ⟨_,_,by repeat constructor,by repeat constructor,?_⟩))|(refine a2i ?_;first|refine a0b (a0k rfl) rfl ?_|(refine k_g ?_;first|refine a1j rfl rfl (by with_reducible rfl) ?_|refine a1x rfl rfl (by with_reducible rfl) rfl ?_)|refine a0b (a0f rfl rfl) rfl ?_|(refine a0z ?_;first|refine a0b (a0w rfl rfl) rfl ?_|refine a0b (a0m rfl rfl rfl) rfl ?_)|(refine a1i ?_;first|refine a0b (a0j rfl (by with_reducible rfl) rfl) rfl ?_|refine a0b (a0i rfl (by with_reducible rfl) rfl) rfl ?_)|refine a0b (a0e rfl) rfl ?_|refine a0b (a0r rfl rfl) rfl ?_|refine a0u ?_|refine a2n rfl rfl rfl (by first|exact ln4|exact ln5) (by repeat constructor) rfl ?_|refine a1d rfl rfl rfl (by first|exact ln4|exact ln5) (by repeat constructor) rfl ?_|refine a1a rfl rfl rfl rfl rfl (by repeat constructor) (by repeat constructor) ?_|refine a0b (a1u rfl rfl rfl (by repeat constructor)) rfl ?_|refine a0b (a0y rfl (by with_reducible rfl)) rfl ?_|refine a0b (a1p rfl (by with_reducible rfl)) rfl ?_)|(first|refine a1f ?_|(refine a1h ?_;first|refine a0c (a0a ?_)|refine a0c ?_|refine a0a ?_|(refine a0x ?_;first|refine a0g rfl (by with_reducible rfl) ?_|refine a0h rfl (by with_reducible rfl) ?_)|refine a0n ?_|refine a0l ?_)|refine a0v ?_))
          refine retc0 (by first | exact .inr rfl | exact .inl rfl) rfl rfl rfl rfl ?_
          rw [hR]
          exact ⟨rfl, _, _, rfl, rfl⟩
        · rw [if_neg h6] at hR
          repeat' (first|(first|refine a0b (a1b (n := 0) rfl rfl) rfl ?_|(refine a0z ?_;refine a0b (a2g (id := 3) rfl rfl hm2 rfl) rfl ?_)|(refine a1g ?_;first|refine a0b (a1s rfl rfl rfl (by omega)) rfl ?_|refine a0b (a1r rfl rfl rfl (by omega)) rfl ?_|refine a0b (a2j (n := postS) hP rfl rfl) rfl ?_|refine a0b (a2l (n := postS) hP rfl rfl) rfl ?_|refine a0b (a2j (n := loginS) hL rfl rfl) rfl ?_|refine a0b (a2l (n := loginS) hL rfl rfl) rfl ?_|refine a0b (a2j (n := logoutS) hO rfl rfl) rfl ?_|refine a0b (a2l (n := logoutS) hO rfl rfl) rfl ?_)|(refine a0d ?_;refine a0o rfl rfl rfl rfl hT ?_;rintro _ rfl)|refine a0b (a3b rfl rfl rfl .str (a4l _) hs) rfl ?_|(refine a0d ?_;refine a0q [0,1,2,3] rfl rfl hC ?_ ?_ rfl rfl ?_;(focus ((repeat constructor);done));(focus ((repeat constructor);done));rintro _ _ ⟨rfl,rfl⟩;refine ⟨_,_,by repeat constructor,by repeat constructor,?_⟩)|(refine a0d ?_;refine a0q [3] rfl rfl hH4 ?_ ?_ rfl rfl ?_;(focus ((repeat constructor);done));(focus ((repeat constructor);done));rintro _ _ ⟨rfl,rfl⟩;refine ⟨_,_,by repeat constructor,by repeat constructor,?_⟩))|(refine a2i ?_;first|refine a0b (a0k rfl) rfl ?_|(refine k_g ?_;first|refine a1j rfl rfl (by with_reducible rfl) ?_|refine a1x rfl rfl (by with_reducible rfl) rfl ?_)|refine a0b (a0f rfl rfl) rfl ?_|(refine a0z ?_;first|refine a0b (a0w rfl rfl) rfl ?_|refine a0b (a0m rfl rfl rfl) rfl ?_)|(refine a1i ?_;first|refine a0b (a0j rfl (by with_reducible rfl) rfl) rfl ?_|refine a0b (a0i rfl (by with_reducible rfl) rfl) rfl ?_)|refine a0b (a0e rfl) rfl ?_|refine a0b (a0r rfl rfl) rfl ?_|refine a0u ?_|refine a2n rfl rfl rfl (by first|exact ln4|exact ln5) (by repeat constructor) rfl ?_|refine a1d rfl rfl rfl (by first|exact ln4|exact ln5) (by repeat constructor) rfl ?_|refine a1a rfl rfl rfl rfl rfl (by repeat constructor) (by repeat constructor) ?_|refine a0b (a1u rfl rfl rfl (by repeat constructor)) rfl ?_|refine a0b (a0y rfl (by with_reducible rfl)) rfl ?_|refine a0b (a1p rfl (by with_reducible rfl)) rfl ?_)|(first|refine a1f ?_|(refine a1h ?_;first|refine a0c (a0a ?_)|refine a0c ?_|refine a0a ?_|(refine a0x ?_;first|refine a0g rfl (by with_reducible rfl) ?_|refine a0h rfl (by with_reducible rfl) ?_)|refine a0n ?_|refine a0l ?_)|refine a0v ?_))
          refine retc0 (by first | exact .inr rfl | exact .inl rfl) rfl rfl rfl rfl ?_
          rw [hR]
          exact ⟨rfl, _, _, rfl, rfl⟩
  · rw [if_neg (fun k => hP k.1)] at hR
    have hs := b8m (tokenS h) X.ss
    cases hq : sget (tokenS h) X.ss with
    | none =>
      rw [hq] at hs hR
      dsimp only [Option.map_none] at hs hR
      repeat' (first|(first|refine a0b (a1b (n := 0) rfl rfl) rfl ?_|(refine a0z ?_;refine a0b (a2g (id := 3) rfl rfl hm2 rfl) rfl ?_)|(refine a1g ?_;first|refine a0b (a1s rfl rfl rfl (by omega)) rfl ?_|refine a0b (a1r rfl rfl rfl (by omega)) rfl ?_|refine a0b (a2j (n := postS) hP rfl rfl) rfl ?_|refine a0b (a2l (n := postS) hP rfl rfl) rfl ?_|refine a0b (a2j (n := loginS) hL rfl rfl) rfl ?_|refine a0b (a2l (n := loginS) hL rfl rfl) rfl ?_|refine a0b (a2j (n := logoutS) hO rfl rfl) rfl ?_|refine a0b (a2l (n := logoutS) hO rfl rfl) rfl ?_)|(refine a0d ?_;refine a0o rfl rfl rfl rfl hT ?_;rintro _ rfl)|refine a0b (a9w rfl rfl rfl .str (a4l _) hs rfl) rfl ?_|(refine a0d ?_;refine a0o rfl rfl rfl rfl hPl1 ?_;rintro _ rfl)|(refine a0d ?_;refine a0q [3] rfl rfl hE1 ?_ ?_ rfl rfl ?_;(focus ((repeat constructor);done));(focus ((repeat constructor);done));rintro _ _ ⟨rfl,rfl⟩;refine ⟨_,_,by repeat constructor,by repeat constructor,?_⟩))|(refine a2i ?_;first|refine a0b (a0k rfl) rfl ?_|(refine k_g ?_;first|refine a1j rfl rfl (by with_reducible rfl) ?_|refine a1x rfl rfl (by with_reducible rfl) rfl ?_)|refine a0b (a0f rfl rfl) rfl ?_|(refine a0z ?_;first|refine a0b (a0w rfl rfl) rfl ?_|refine a0b (a0m rfl rfl rfl) rfl ?_)|(refine a1i ?_;first|refine a0b (a0j rfl (by with_reducible rfl) rfl) rfl ?_|refine a0b (a0i rfl (by with_reducible rfl) rfl) rfl ?_)|refine a0b (a0e rfl) rfl ?_|refine a0b (a0r rfl rfl) rfl ?_|refine a0u ?_|refine a2n rfl rfl rfl (by first|exact ln4|exact ln5) (by repeat constructor) rfl ?_|refine a1d rfl rfl rfl (by first|exact ln4|exact ln5) (by repeat constructor) rfl ?_|refine a1a rfl rfl rfl rfl rfl (by repeat constructor) (by repeat constructor) ?_|refine a0b (a1u rfl rfl rfl (by repeat constructor)) rfl ?_|refine a0b (a0y rfl (by with_reducible rfl)) rfl ?_|refine a0b (a1p rfl (by with_reducible rfl)) rfl ?_)|(first|refine a1f ?_|(refine a1h ?_;first|refine a0c (a0a ?_)|refine a0c ?_|refine a0a ?_|(refine a0x ?_;first|refine a0g rfl (by with_reducible rfl) ?_|refine a0h rfl (by with_reducible rfl) ?_)|refine a0n ?_|refine a0l ?_)|refine a0v ?_))
      refine retc0 (by first | exact .inr rfl | exact .inl rfl) rfl rfl rfl rfl ?_
      rw [hR]
      exact ⟨rfl, _, _, rfl, rfl⟩
    | some u =>
      rw [hq] at hs hR
      dsimp only [Option.map_some] at hs hR
      have hu := hX.ss _ (b0i hq)
      dsimp only at hu
      have hC := b5x (w0 := w0) (base := base) (u := u) hX
      unfold cntAV at hC
      rw [show countsD X.ds u = (cntC (lcE X.l) u, cntA (lcE X.l) u) from if_pos ⟨hu.2.1, hu.2.2⟩] at hC
      dsimp only at hC
      obtain ⟨nc, hnc⟩ : ∃ nc, cntC (lcE X.l) u = nc := ⟨_, rfl⟩
      obtain ⟨na, hna⟩ : ∃ na, cntA (lcE X.l) u = na := ⟨_, rfl⟩
      rw [hnc, hna] at hC hR
      by_cases h3 : e.c.user ≠ -1 ∧ e.c.user ≠ u
      · rw [if_pos h3] at hR
        obtain ⟨h3a, h3b⟩ := h3
        repeat' (first|(first|refine a0b (a1b (n := 0) rfl rfl) rfl ?_|(refine a0z ?_;refine a0b (a2g (id := 3) rfl rfl hm2 rfl) rfl ?_)|(refine a1g ?_;first|refine a0b (a1s rfl rfl rfl (by omega)) rfl ?_|refine a0b (a1r rfl rfl rfl (by omega)) rfl ?_|refine a0b (a2j (n := postS) hP rfl rfl) rfl ?_|refine a0b (a2l (n := postS) hP rfl rfl) rfl ?_|refine a0b (a2j (n := loginS) hL rfl rfl) rfl ?_|refine a0b (a2l (n := loginS) hL rfl rfl) rfl ?_|refine a0b (a2j (n := logoutS) hO rfl rfl) rfl ?_|refine a0b (a2l (n := logoutS) hO rfl rfl) rfl ?_)|(refine a0d ?_;refine a0o rfl rfl rfl rfl hT ?_;rintro _ rfl)|refine a0b (a3b rfl rfl rfl .str (a4l _) hs) rfl ?_|(refine a0d ?_;refine a0o rfl rfl rfl rfl hPl3 ?_;rintro _ rfl)|(refine a0d ?_;refine a0q [3] rfl rfl hE3 ?_ ?_ rfl rfl ?_;(focus ((repeat constructor);done));(focus ((repeat constructor);done));rintro _ _ ⟨rfl,rfl⟩;refine ⟨_,_,by repeat constructor,by repeat constructor,?_⟩))|(refine a2i ?_;first|refine a0b (a0k rfl) rfl ?_|(refine k_g ?_;first|refine a1j rfl rfl (by with_reducible rfl) ?_|refine a1x rfl rfl (by with_reducible rfl) rfl ?_)|refine a0b (a0f rfl rfl) rfl ?_|(refine a0z ?_;first|refine a0b (a0w rfl rfl) rfl ?_|refine a0b (a0m rfl rfl rfl) rfl ?_)|(refine a1i ?_;first|refine a0b (a0j rfl (by with_reducible rfl) rfl) rfl ?_|refine a0b (a0i rfl (by with_reducible rfl) rfl) rfl ?_)|refine a0b (a0e rfl) rfl ?_|refine a0b (a0r rfl rfl) rfl ?_|refine a0u ?_|refine a2n rfl rfl rfl (by first|exact ln4|exact ln5) (by repeat constructor) rfl ?_|refine a1d rfl rfl rfl (by first|exact ln4|exact ln5) (by repeat constructor) rfl ?_|refine a1a rfl rfl rfl rfl rfl (by repeat constructor) (by repeat constructor) ?_|refine a0b (a1u rfl rfl rfl (by repeat constructor)) rfl ?_|refine a0b (a0y rfl (by with_reducible rfl)) rfl ?_|refine a0b (a1p rfl (by with_reducible rfl)) rfl ?_)|(first|refine a1f ?_|(refine a1h ?_;first|refine a0c (a0a ?_)|refine a0c ?_|refine a0a ?_|(refine a0x ?_;first|refine a0g rfl (by with_reducible rfl) ?_|refine a0h rfl (by with_reducible rfl) ?_)|refine a0n ?_|refine a0l ?_)|refine a0v ?_))
        refine retc0 (by first | exact .inr rfl | exact .inl rfl) rfl rfl rfl rfl ?_
        rw [hR]
        exact ⟨rfl, _, _, rfl, rfl⟩
      rw [if_neg h3] at hR
      by_cases hu1 : e.c.user = -1
      · by_cases h5 : X.conns ≤ nc
        · rw [if_pos ⟨hu1, h5⟩] at hR
          repeat' (first|(first|refine a0b (a1b (n := 0) rfl rfl) rfl ?_|(refine a0z ?_;refine a0b (a2g (id := 3) rfl rfl hm2 rfl) rfl ?_)|(refine a1g ?_;first|refine a0b (a1s rfl rfl rfl (by omega)) rfl ?_|refine a0b (a1r rfl rfl rfl (by omega)) rfl ?_|refine a0b (a2j (n := postS) hP rfl rfl) rfl ?_|refine a0b (a2l (n := postS) hP rfl rfl) rfl ?_|refine a0b (a2j (n := loginS) hL rfl rfl) rfl ?_|refine a0b (a2l (n := loginS) hL rfl rfl) rfl ?_|refine a0b (a2j (n := logoutS) hO rfl rfl) rfl ?_|refine a0b (a2l (n := logoutS) hO rfl rfl) rfl ?_)|(refine a0d ?_;refine a0o rfl rfl rfl rfl hT ?_;rintro _ rfl)|refine a0b (a3b rfl rfl rfl .str (a4l _) hs) rfl ?_|(refine a0d ?_;refine a0q [0,1,2,3] rfl rfl hC ?_ ?_ rfl rfl ?_;(focus ((repeat constructor);done));(focus ((repeat constructor);done));rintro _ _ ⟨rfl,rfl⟩;refine ⟨_,_,by repeat constructor,by repeat constructor,?_⟩)|(refine a0d ?_;refine a0o rfl rfl rfl rfl hPlT ?_;rintro _ rfl)|(refine a0d ?_;refine a0q [3] rfl rfl hET ?_ ?_ rfl rfl ?_;(focus ((repeat constructor);done));(focus ((repeat constructor);done));rintro _ _ ⟨rfl,rfl⟩;refine ⟨_,_,by repeat constructor,by repeat constructor,?_⟩))|(refine a2i ?_;first|refine a0b (a0k rfl) rfl ?_|(refine k_g ?_;first|refine a1j rfl rfl (by with_reducible rfl) ?_|refine a1x rfl rfl (by with_reducible rfl) rfl ?_)|refine a0b (a0f rfl rfl) rfl ?_|(refine a0z ?_;first|refine a0b (a0w rfl rfl) rfl ?_|refine a0b (a0m rfl rfl rfl) rfl ?_)|(refine a1i ?_;first|refine a0b (a0j rfl (by with_reducible rfl) rfl) rfl ?_|refine a0b (a0i rfl (by with_reducible rfl) rfl) rfl ?_)|refine a0b (a0e rfl) rfl ?_|refine a0b (a0r rfl rfl) rfl ?_|refine a0u ?_|refine a2n rfl rfl rfl (by first|exact ln4|exact ln5) (by repeat constructor) rfl ?_|refine a1d rfl rfl rfl (by first|exact ln4|exact ln5) (by repeat constructor) rfl ?_|refine a1a rfl rfl rfl rfl rfl (by repeat constructor) (by repeat constructor) ?_|refine a0b (a1u rfl rfl rfl (by repeat constructor)) rfl ?_|refine a0b (a0y rfl (by with_reducible rfl)) rfl ?_|refine a0b (a1p rfl (by with_reducible rfl)) rfl ?_)|(first|refine a1f ?_|(refine a1h ?_;first|refine a0c (a0a ?_)|refine a0c ?_|refine a0a ?_|(refine a0x ?_;first|refine a0g rfl (by with_reducible rfl) ?_|refine a0h rfl (by with_reducible rfl) ?_)|refine a0n ?_|refine a0l ?_)|refine a0v ?_))
          refine retc0 (by first | exact .inr rfl | exact .inl rfl) rfl rfl rfl rfl ?_
          rw [hR]
          exact ⟨rfl, _, _, rfl, rfl⟩
        rw [if_neg (fun k => h5 k.2)] at hR
        have hm3 : upd X.m e.bc [.ad e.bp 0, .int .i64 u, .bool e.c.closed, .bool e.c.lost, .bool e.c.waits, .int .i64 e.c.asks, .bool e.c.ends, paE e] e.bc = some (cnC e.bp (paE e) { e.c with user := u }) := a2q
        have hH3 := a5e (w0 := w0) (base := base) (h := h) (b := b) (u := -1) (a := { at0 with kind := 3, token := tokenS h, user := u }) hm3
        have hH4 := a5e (w0 := w0) (base := base) (h := h) (b := b) (u := u) (a := { at0 with kind := 4, user := u, rq := some (h, b) }) hm3
        have hE6 := a4f (w0 := w0) (base := base) hG (a4e 503 (closesS h)) hm3
        rw [if_neg (fun k => hP k.1)] at hR
        by_cases h6 : X.asks ≤ na
        · rw [if_pos h6] at hR
          repeat' (first|(first|refine a0b (a1b (n := 0) rfl rfl) rfl ?_|(refine a0z ?_;refine a0b (a2g (id := 3) rfl rfl hm2 rfl) rfl ?_)|(refine a1g ?_;first|refine a0b (a1s rfl rfl rfl (by omega)) rfl ?_|refine a0b (a1r rfl rfl rfl (by omega)) rfl ?_|refine a0b (a2j (n := postS) hP rfl rfl) rfl ?_|refine a0b (a2l (n := postS) hP rfl rfl) rfl ?_|refine a0b (a2j (n := loginS) hL rfl rfl) rfl ?_|refine a0b (a2l (n := loginS) hL rfl rfl) rfl ?_|refine a0b (a2j (n := logoutS) hO rfl rfl) rfl ?_|refine a0b (a2l (n := logoutS) hO rfl rfl) rfl ?_)|(refine a0d ?_;refine a0o rfl rfl rfl rfl hT ?_;rintro _ rfl)|refine a0b (a3b rfl rfl rfl .str (a4l _) hs) rfl ?_|(refine a0d ?_;refine a0q [0,1,2,3] rfl rfl hC ?_ ?_ rfl rfl ?_;(focus ((repeat constructor);done));(focus ((repeat constructor);done));rintro _ _ ⟨rfl,rfl⟩;refine ⟨_,_,by repeat constructor,by repeat constructor,?_⟩)|refine a3d (id := 3) rfl rfl rfl rfl rfl rfl rfl hm2 (by repeat constructor) (by repeat constructor) ?_|(refine a0d ?_;refine a0o rfl rfl rfl rfl hPl5 ?_;rintro _ rfl)|(refine a0d ?_;refine a0q [3] rfl rfl hE6 ?_ ?_ rfl rfl ?_;(focus ((repeat constructor);done));(focus ((repeat constructor);done));rintro _ _ ⟨rfl,rfl⟩;refine ⟨_,_,by repeat constructor,by repeat constructor,?_⟩))|(refine a2i ?_;first|refine a0b (a0k rfl) rfl ?_|(refine k_g ?_;first|refine a1j rfl rfl (by with_reducible rfl) ?_|refine a1x rfl rfl (by with_reducible rfl) rfl ?_)|refine a0b (a0f rfl rfl) rfl ?_|(refine a0z ?_;first|refine a0b (a0w rfl rfl) rfl ?_|refine a0b (a0m rfl rfl rfl) rfl ?_)|(refine a1i ?_;first|refine a0b (a0j rfl (by with_reducible rfl) rfl) rfl ?_|refine a0b (a0i rfl (by with_reducible rfl) rfl) rfl ?_)|refine a0b (a0e rfl) rfl ?_|refine a0b (a0r rfl rfl) rfl ?_|refine a0u ?_|refine a2n rfl rfl rfl (by first|exact ln4|exact ln5) (by repeat constructor) rfl ?_|refine a1d rfl rfl rfl (by first|exact ln4|exact ln5) (by repeat constructor) rfl ?_|refine a1a rfl rfl rfl rfl rfl (by repeat constructor) (by repeat constructor) ?_|refine a0b (a1u rfl rfl rfl (by repeat constructor)) rfl ?_|refine a0b (a0y rfl (by with_reducible rfl)) rfl ?_|refine a0b (a1p rfl (by with_reducible rfl)) rfl ?_)|(first|refine a1f ?_|(refine a1h ?_;first|refine a0c (a0a ?_)|refine a0c ?_|refine a0a ?_|(refine a0x ?_;first|refine a0g rfl (by with_reducible rfl) ?_|refine a0h rfl (by with_reducible rfl) ?_)|refine a0n ?_|refine a0l ?_)|refine a0v ?_))
          refine retc0 (by first | exact .inr rfl | exact .inl rfl) rfl rfl rfl rfl ?_
          rw [hR]
          exact ⟨rfl, _, _, a5h, rfl⟩
        · rw [if_neg h6] at hR
          repeat' (first|(first|refine a0b (a1b (n := 0) rfl rfl) rfl ?_|(refine a0z ?_;refine a0b (a2g (id := 3) rfl rfl hm2 rfl) rfl ?_)|(refine a1g ?_;first|refine a0b (a1s rfl rfl rfl (by omega)) rfl ?_|refine a0b (a1r rfl rfl rfl (by omega)) rfl ?_|refine a0b (a2j (n := postS) hP rfl rfl) rfl ?_|refine a0b (a2l (n := postS) hP rfl rfl) rfl ?_|refine a0b (a2j (n := loginS) hL rfl rfl) rfl ?_|refine a0b (a2l (n := loginS) hL rfl rfl) rfl ?_|refine a0b (a2j (n := logoutS) hO rfl rfl) rfl ?_|refine a0b (a2l (n := logoutS) hO rfl rfl) rfl ?_)|(refine a0d ?_;refine a0o rfl rfl rfl rfl hT ?_;rintro _ rfl)|refine a0b (a3b rfl rfl rfl .str (a4l _) hs) rfl ?_|(refine a0d ?_;refine a0q [0,1,2,3] rfl rfl hC ?_ ?_ rfl rfl ?_;(focus ((repeat constructor);done));(focus ((repeat constructor);done));rintro _ _ ⟨rfl,rfl⟩;refine ⟨_,_,by repeat constructor,by repeat constructor,?_⟩)|refine a3d (id := 3) rfl rfl rfl rfl rfl rfl rfl hm2 (by repeat constructor) (by repeat constructor) ?_|(refine a0d ?_;refine a0q [3] rfl rfl hH4 ?_ ?_ rfl rfl ?_;(focus ((repeat constructor);done));(focus ((repeat constructor);done));rintro _ _ ⟨rfl,rfl⟩;refine ⟨_,_,by repeat constructor,by repeat constructor,?_⟩))|(refine a2i ?_;first|refine a0b (a0k rfl) rfl ?_|(refine k_g ?_;first|refine a1j rfl rfl (by with_reducible rfl) ?_|refine a1x rfl rfl (by with_reducible rfl) rfl ?_)|refine a0b (a0f rfl rfl) rfl ?_|(refine a0z ?_;first|refine a0b (a0w rfl rfl) rfl ?_|refine a0b (a0m rfl rfl rfl) rfl ?_)|(refine a1i ?_;first|refine a0b (a0j rfl (by with_reducible rfl) rfl) rfl ?_|refine a0b (a0i rfl (by with_reducible rfl) rfl) rfl ?_)|refine a0b (a0e rfl) rfl ?_|refine a0b (a0r rfl rfl) rfl ?_|refine a0u ?_|refine a2n rfl rfl rfl (by first|exact ln4|exact ln5) (by repeat constructor) rfl ?_|refine a1d rfl rfl rfl (by first|exact ln4|exact ln5) (by repeat constructor) rfl ?_|refine a1a rfl rfl rfl rfl rfl (by repeat constructor) (by repeat constructor) ?_|refine a0b (a1u rfl rfl rfl (by repeat constructor)) rfl ?_|refine a0b (a0y rfl (by with_reducible rfl)) rfl ?_|refine a0b (a1p rfl (by with_reducible rfl)) rfl ?_)|(first|refine a1f ?_|(refine a1h ?_;first|refine a0c (a0a ?_)|refine a0c ?_|refine a0a ?_|(refine a0x ?_;first|refine a0g rfl (by with_reducible rfl) ?_|refine a0h rfl (by with_reducible rfl) ?_)|refine a0n ?_|refine a0l ?_)|refine a0v ?_))
          refine retc0 (by first | exact .inr rfl | exact .inl rfl) rfl rfl rfl rfl ?_
          rw [hR]
          exact ⟨rfl, _, _, a5h, rfl⟩
      · have hu2 : e.c.user = u := Classical.byContradiction fun k => h3 ⟨hu1, k⟩
        rw [if_neg (fun k => hu1 k.1)] at hR
        have hcu : { e.c with user := u } = e.c := by rw [← hu2]
        rw [hcu] at hR
        have hH3 := a5e (w0 := w0) (base := base) (h := h) (b := b) (u := -1) (a := { at0 with kind := 3, token := tokenS h, user := u }) hm
        have hH4 := a5e (w0 := w0) (base := base) (h := h) (b := b) (u := u) (a := { at0 with kind := 4, user := u, rq := some (h, b) }) hm
        have hE6 := a4f (w0 := w0) (base := base) hG (a4e 503 (closesS h)) hm
        rw [if_neg (fun k => hP k.1)] at hR
        by_cases h6 : X.asks ≤ na
        · rw [if_pos h6] at hR
          repeat' (first|(first|refine a0b (a1b (n := 0) rfl rfl) rfl ?_|(refine a0z ?_;refine a0b (a2g (id := 3) rfl rfl hm2 rfl) rfl ?_)|(refine a1g ?_;first|refine a0b (a1s rfl rfl rfl (by omega)) rfl ?_|refine a0b (a1r rfl rfl rfl (by omega)) rfl ?_|refine a0b (a2j (n := postS) hP rfl rfl) rfl ?_|refine a0b (a2l (n := postS) hP rfl rfl) rfl ?_|refine a0b (a2j (n := loginS) hL rfl rfl) rfl ?_|refine a0b (a2l (n := loginS) hL rfl rfl) rfl ?_|refine a0b (a2j (n := logoutS) hO rfl rfl) rfl ?_|refine a0b (a2l (n := logoutS) hO rfl rfl) rfl ?_)|(refine a0d ?_;refine a0o rfl rfl rfl rfl hT ?_;rintro _ rfl)|refine a0b (a3b rfl rfl rfl .str (a4l _) hs) rfl ?_|(refine a0d ?_;refine a0q [0,1,2,3] rfl rfl hC ?_ ?_ rfl rfl ?_;(focus ((repeat constructor);done));(focus ((repeat constructor);done));rintro _ _ ⟨rfl,rfl⟩;refine ⟨_,_,by repeat constructor,by repeat constructor,?_⟩)|(refine a0d ?_;refine a0o rfl rfl rfl rfl hPl5 ?_;rintro _ rfl)|(refine a0d ?_;refine a0q [3] rfl rfl hE6 ?_ ?_ rfl rfl ?_;(focus ((repeat constructor);done));(focus ((repeat constructor);done));rintro _ _ ⟨rfl,rfl⟩;refine ⟨_,_,by repeat constructor,by repeat constructor,?_⟩))|(refine a2i ?_;first|refine a0b (a0k rfl) rfl ?_|(refine k_g ?_;first|refine a1j rfl rfl (by with_reducible rfl) ?_|refine a1x rfl rfl (by with_reducible rfl) rfl ?_)|refine a0b (a0f rfl rfl) rfl ?_|(refine a0z ?_;first|refine a0b (a0w rfl rfl) rfl ?_|refine a0b (a0m rfl rfl rfl) rfl ?_)|(refine a1i ?_;first|refine a0b (a0j rfl (by with_reducible rfl) rfl) rfl ?_|refine a0b (a0i rfl (by with_reducible rfl) rfl) rfl ?_)|refine a0b (a0e rfl) rfl ?_|refine a0b (a0r rfl rfl) rfl ?_|refine a0u ?_|refine a2n rfl rfl rfl (by first|exact ln4|exact ln5) (by repeat constructor) rfl ?_|refine a1d rfl rfl rfl (by first|exact ln4|exact ln5) (by repeat constructor) rfl ?_|refine a1a rfl rfl rfl rfl rfl (by repeat constructor) (by repeat constructor) ?_|refine a0b (a1u rfl rfl rfl (by repeat constructor)) rfl ?_|refine a0b (a0y rfl (by with_reducible rfl)) rfl ?_|refine a0b (a1p rfl (by with_reducible rfl)) rfl ?_)|(first|refine a1f ?_|(refine a1h ?_;first|refine a0c (a0a ?_)|refine a0c ?_|refine a0a ?_|(refine a0x ?_;first|refine a0g rfl (by with_reducible rfl) ?_|refine a0h rfl (by with_reducible rfl) ?_)|refine a0n ?_|refine a0l ?_)|refine a0v ?_))
          refine retc0 (by first | exact .inr rfl | exact .inl rfl) rfl rfl rfl rfl ?_
          rw [hR]
          exact ⟨rfl, _, _, rfl, rfl⟩
        · rw [if_neg h6] at hR
          repeat' (first|(first|refine a0b (a1b (n := 0) rfl rfl) rfl ?_|(refine a0z ?_;refine a0b (a2g (id := 3) rfl rfl hm2 rfl) rfl ?_)|(refine a1g ?_;first|refine a0b (a1s rfl rfl rfl (by omega)) rfl ?_|refine a0b (a1r rfl rfl rfl (by omega)) rfl ?_|refine a0b (a2j (n := postS) hP rfl rfl) rfl ?_|refine a0b (a2l (n := postS) hP rfl rfl) rfl ?_|refine a0b (a2j (n := loginS) hL rfl rfl) rfl ?_|refine a0b (a2l (n := loginS) hL rfl rfl) rfl ?_|refine a0b (a2j (n := logoutS) hO rfl rfl) rfl ?_|refine a0b (a2l (n := logoutS) hO rfl rfl) rfl ?_)|(refine a0d ?_;refine a0o rfl rfl rfl rfl hT ?_;rintro _ rfl)|refine a0b (a3b rfl rfl rfl .str (a4l _) hs) rfl ?_|(refine a0d ?_;refine a0q [0,1,2,3] rfl rfl hC ?_ ?_ rfl rfl ?_;(focus ((repeat constructor);done));(focus ((repeat constructor);done));rintro _ _ ⟨rfl,rfl⟩;refine ⟨_,_,by repeat constructor,by repeat constructor,?_⟩)|(refine a0d ?_;refine a0q [3] rfl rfl hH4 ?_ ?_ rfl rfl ?_;(focus ((repeat constructor);done));(focus ((repeat constructor);done));rintro _ _ ⟨rfl,rfl⟩;refine ⟨_,_,by repeat constructor,by repeat constructor,?_⟩))|(refine a2i ?_;first|refine a0b (a0k rfl) rfl ?_|(refine k_g ?_;first|refine a1j rfl rfl (by with_reducible rfl) ?_|refine a1x rfl rfl (by with_reducible rfl) rfl ?_)|refine a0b (a0f rfl rfl) rfl ?_|(refine a0z ?_;first|refine a0b (a0w rfl rfl) rfl ?_|refine a0b (a0m rfl rfl rfl) rfl ?_)|(refine a1i ?_;first|refine a0b (a0j rfl (by with_reducible rfl) rfl) rfl ?_|refine a0b (a0i rfl (by with_reducible rfl) rfl) rfl ?_)|refine a0b (a0e rfl) rfl ?_|refine a0b (a0r rfl rfl) rfl ?_|refine a0u ?_|refine a2n rfl rfl rfl (by first|exact ln4|exact ln5) (by repeat constructor) rfl ?_|refine a1d rfl rfl rfl (by first|exact ln4|exact ln5) (by repeat constructor) rfl ?_|refine a1a rfl rfl rfl rfl rfl (by repeat constructor) (by repeat constructor) ?_|refine a0b (a1u rfl rfl rfl (by repeat constructor)) rfl ?_|refine a0b (a0y rfl (by with_reducible rfl)) rfl ?_|refine a0b (a1p rfl (by with_reducible rfl)) rfl ?_)|(first|refine a1f ?_|(refine a1h ?_;first|refine a0c (a0a ?_)|refine a0c ?_|refine a0a ?_|(refine a0x ?_;first|refine a0g rfl (by with_reducible rfl) ?_|refine a0h rfl (by with_reducible rfl) ?_)|refine a0n ?_|refine a0l ?_)|refine a0v ?_))
          refine retc0 (by first | exact .inr rfl | exact .inl rfl) rfl rfl rfl rfl ?_
          rw [hR]
          exact ⟨rfl, _, _, rfl, rfl⟩
theorem c4d {X : Dem} {i : Nat} {e : En} {h : Hd} {b : List UInt8} (hG : Tabs w0 base) (hX : DemOk X) (hi : X.l[i]? = some e) (hg : GoodH h) (hb : b.length ≤ 65536) :
    ACalls (EE w0 base) 33 [.op 0 0, .ad e.bc 0, .agg (rqCs h b)] (dmO X) fun rv os => rv = .agg (atC (requestC X.ds e.c h b).2) ∧ os = dmO { X with m := upd X.m e.bc (cnC e.bp (paE e) (requestC X.ds e.c h b).1) } := by
  refine a3o (c1w hG hX hi hg hb) ?_
  rintro rv os ⟨rfl, m', ex, rfl, rfl⟩
  exact ⟨_, ex, rfl, ⟨rfl, rfl⟩, c1o _ _, b5s { X with m := upd X.m e.bc (cnC e.bp (paE e) (requestC X.ds e.c h b).1) }, Nat.le_refl _⟩
end
end Go.Proofs.YtkljmljkiodnpaaGreatDoor.L

namespace Go.Proofs.YtkljmljkiodnpaaGreatDoor.L
open Go Go.RowKit Go.Proofs
attribute [local irreducible] AL QL AWp Thn InB RetQ ACalls LoopQ HL HO HW HQ NoG JmpQ MidQ HF

theorem b6y {s : List UInt8} {at' : Nat} {h : Hd} {b : List UInt8} {k : Nat} (ha : at' ≤ s.length) (e : bodyAt s at' h = .got b k) : b.length ≤ 16384 := by
  unfold bodyAt at e
  have hR := a8z h
  split at e
  · cases e
  split at e
  · split at e
    · cases e
    · injection e with e1 e2
      subst e1
      rw [List.length_drop, List.length_take]
      omega
  split at e
  · have := a5d s (s.length + 1) [] at' ha
    unfold chunksS at e
    rw [e] at this
    exact this.2.2
  · injection e with e1 e2
    subst e1
    exact Nat.zero_le _
theorem b6l {s : List UInt8} {h : Hd} {b : List UInt8} {k : Nat} (e : nextL s = .got h b k) : b.length ≤ 16384 := by
  unfold nextL at e
  rcases b1a s with hx | ⟨i, hx, hi4⟩
  · rw [hx, if_pos (by decide)] at e
    split at e <;> cases e
  · rw [hx, if_neg (by omega), Int.toNat_natCast] at e
    split at e
    · cases e
    · have hz : ∀ b' k', bodyAt s (i + 4) (headParse (s.take (i + 4))).1 = .got b' k' → b'.length ≤ 16384 := fun b' k' => b6y hi4
      revert e hz
      generalize bodyAt s (i + 4) (headParse (s.take (i + 4))).1 = z
      intro e hz
      cases z with
      | more => cases e
      | bad st => cases e
      | got b' k' =>
        injection e with e1 e2 e3
        subst e2
        exact hz _ _ rfl
theorem b0q (D : DS) (c : Cn) (h : Hd) (b : List UInt8) : (requestC D c h b).1.s = c.s ∧ (requestC D c h b).1.st = c.st ∧ (requestC D c h b).1.ans = c.ans := by
  unfold requestC loginC emitsC handsC
  repeat' (first | (refine ⟨rfl, rfl, rfl⟩) | split)
theorem b0s {D D' : DS} (h1 : D'.ss = D.ss) (h2 : D'.conns = D.conns) (h3 : D'.asks = D.asks) (h4 : ∀ u, cntC D'.l u = cntC D.l u) (h5 : ∀ u, cntA D'.l u = cntA D.l u) (c : Cn) (h : Hd) (b : List UInt8) : requestC D' c h b = requestC D c h b := by
  unfold requestC
  simp only [h1, h2, h3, h4, h5]
theorem c3w {e : En} {c' : Cn} (h1 : c'.closed = e.c.closed) (h2 : c'.user = e.c.user) (h3 : c'.waits = e.c.waits) (h4 : c'.asks = e.c.asks) (u : Int) : ∀ {l : List En} {i : Nat}, l[i]? = some e → cntC (lcE (l.set i { e with c := c' })) u = cntC (lcE l) u ∧ cntA (lcE (l.set i { e with c := c' })) u = cntA (lcE l) u := by
  intro l
  induction l with
  | nil => intro i hi; cases hi
  | cons p l ih =>
    intro i hi
    cases i with
    | zero =>
      have hp : p = e := by simpa using hi
      subst hp
      constructor
      · unfold cntC lcE
        simp only [List.set_cons_zero, List.map_cons, List.filter_cons, h1, h2]
        cases (!p.c.closed && decide (p.c.user = u)) <;> rfl
      · unfold cntA lcE
        simp only [List.set_cons_zero, List.map_cons, List.filter_cons, h3, h4]
        cases (p.c.waits && decide (p.c.asks = u)) <;> rfl
    | succ i =>
      have hi' : l[i]? = some e := by simpa using hi
      obtain ⟨a1, a2⟩ := ih hi'
      constructor
      · unfold cntC lcE at a1 ⊢
        simp only [List.set_cons_succ, List.map_cons, List.filter_cons]
        cases (!p.c.closed && decide (p.c.user = u))
        · exact a1
        · exact congrArg (· + 1) a1
      · unfold cntA lcE at a2 ⊢
        simp only [List.set_cons_succ, List.map_cons, List.filter_cons]
        cases (p.c.waits && decide (p.c.asks = u))
        · exact a2
        · exact congrArg (· + 1) a2
theorem RepE.two {m m' : Nat → Option (List AV)} {l : List En} {i : Nat} {e : En} {c' : Cn} (h : RepE m l) (hi : l[i]? = some e) (h1 : c'.ans = none) (cm : m' e.bc = some (cnC e.bp .nilp c')) (pm : m' e.bp = some [.bool true, .str c'.s, .int .i64 c'.st]) (ho : ∀ x, x ≠ e.bc → x ≠ e.bp → m' x = m x) : RepE m' (l.set i { e with c := c' }) := by
  have hen := h.ok i e hi
  have hads : adsE { e with c := c' } = [e.bc, e.bp] := by
    show adsO e.bc e.bp e.ba c'.ans = _
    rw [h1]
    rfl
  refine h.set hi (fun x hx _ => ho x (fun k => hx (k ▸ a9b e)) (fun k => hx (k ▸ b3c e))) ⟨?_, pm, fun r hr => ?_, ?_⟩ (fun x hx => ?_)
  · show m' e.bc = some (cnC e.bp (paO c'.ans e.ba) c')
    rw [h1]
    exact cm
  · have hr2 : c'.ans = some r := hr
    rw [h1] at hr2
    cases hr2
  · rw [hads]
    simp only [List.nodup_cons, List.mem_cons, List.not_mem_nil, or_false, List.nodup_nil, and_true, not_false_eq_true]
    exact fun k => c1p hen k.symm
  · rw [hads] at hx
    simp only [List.mem_cons, List.not_mem_nil, or_false] at hx
    rcases hx with rfl | rfl
    · exact .inl (a9b e)
    · exact .inl (b3c e)
theorem a5o {D : DS} {c : Cn} (ha : c.ans = none) : pickC D c = (if c.waits then (c, at0) else if c.lost then emitsC c (plR 413 true)
    else if c.st ≠ 0 then emitsC c (plR c.st true) else match nextL c.s with
      | .more => (c, at0)
      | .bad st => emitsC { c with s := [], st := st } (plR st true)
      | .got h b k => requestC D { c with s := c.s.drop k } h b) := by
  obtain ⟨s, st, user, closed, lost, waits, asks, ends, ans⟩ := c
  have ha' : ans = none := ha
  subst ha'
  rfl
def PkR (X : Dem) (at' : Int) (rv : AV) (os : List AO) : Prop := rv = .tup [.agg (atC (pickD X.ds at').2.1), .int .i64 (pickD X.ds at').2.2] ∧ ∃ X', DemOk X' ∧ os = dmO X' ∧ X'.ds = (pickD X.ds at').1
theorem a8i {X : Dem} {at' : Int} {i : Nat} {e : En} {c' : Cn} {a : At} {m' : Nat → Option (List AV)} {rv : AV} {os : List AO} (hX : DemOk X) (hok : inAt at') (hi : X.l[i]? = some e) (h4 : lget at' (lcE X.l) = some e.c) (h5 : ∀ c',lset at' c' (lcE X.l) = lcE (X.l.set i { e with c := c' })) (hcl : e.c.closed = false) (hp : pickC X.ds e.c = (c',a)) (hr : RepE m' (X.l.set i { e with c := c' })) (hc : CnOk c') (h1 : rv = .tup [.agg (atC a),.int .i64 0]) (h2 : os = [.box [.int .i64 X.users,.int .i64 X.conns,.int .i64 X.asks,.mp 1,.mp 2],.map (X.l.map enK),.map (X.ss.map ssK),.hp m']) : PkR X at' rv os := by
  have h4' : lget at' X.ds.l = some e.c := h4
  have hS : pickD X.ds at' = ({ X.ds with l := lset at' c' (lcE X.l) }, a, 0) := by
    unfold pickD
    rw [if_pos hok, h4']
    dsimp only
    rw [hcl, if_neg (by decide), hp]
    rfl
  unfold PkR
  rw [hS, h1, h2]
  refine ⟨rfl, { X with l := X.l.set i { e with c := c' }, m := m' }, hX.set (e' := { e with c := c' }) hi rfl hr hc, ?_, ?_⟩
  · rw [a6a (e' := { e with c := c' }) hi rfl rfl]
  · rw [h5]
    rfl
theorem c3x (n : Nat) (a : At) (e : Int) : clB n (.tup [.agg (atC a), .int .i64 e]) = true := by
  obtain ⟨ak, ao, acl, au, atk, an, aw, rq⟩ := a
  match rq with
  | none => rfl
  | some (h, b) => rfl
section
variable {w0 : World} {base : Nat}
set_option maxHeartbeats 16000000 in
theorem c4e {X : Dem} {at' : Int} (hG : Tabs w0 base) (hX : DemOk X) : ACalls (EE w0 base) 13 [.op 0 0, .int .i64 at'] (dmO X) fun rv os => ∃ os1 ex, os = os1 ++ ex ∧ PkR X at' rv os1 := by
  have hg := c4i (w0 := w0) (base := base) (at' := at') hX
  have ho := c2p (w0 := w0) (base := base) (at' := at') hX
  refine a1e Tryz.func13 rfl rfl rfl (.cons (.cons .nil)) ?_
  by_cases hok : inAt at'
  · rw [decide_eq_true hok] at hg
    have hO : openD X.ds at' = (match lget at' (lcE X.l) with | none => false | some c => !c.closed) := rfl
    rcases a5z at' X.l with ⟨h1, h2, h3⟩ | ⟨i, e, h1, h2, h3, h4, h5⟩
    · rw [h2] at hO
      dsimp only at hO
      rw [hO] at ho
      have hS : pickD X.ds at' = (X.ds, at0, 0) := by
        unfold pickD
        rw [if_pos hok, show lget at' X.ds.l = none from h2]
      repeat' (first|(first|(refine a0d ?_;refine a0q [0,1,2,3] rfl rfl hg ?_ ?_ rfl rfl ?_;(focus ((repeat constructor);done));(focus ((repeat constructor);done));rintro _ _ ⟨rfl,rfl⟩;refine ⟨_,_,by repeat constructor,by repeat constructor,?_⟩)|(refine a0d ?_;refine a0q [0,1,2,3] rfl rfl ho ?_ ?_ rfl rfl ?_;(focus ((repeat constructor);done));(focus ((repeat constructor);done));rintro _ _ ⟨rfl,rfl⟩;refine ⟨_,_,by repeat constructor,by repeat constructor,?_⟩))|(refine a2i ?_;first|refine a0b (a0k rfl) rfl ?_|(refine k_g ?_;first|refine a1j rfl rfl (by with_reducible rfl) ?_|refine a1w rfl rfl (by with_reducible rfl) rfl ?_)|refine a0b (a0f rfl rfl) rfl ?_|(refine a0z ?_;first|refine a0b (a0w rfl rfl) rfl ?_|refine a0b (a0m rfl rfl rfl) rfl ?_)|(refine a1i ?_;first|refine a0b (a0j rfl (by with_reducible rfl) rfl) rfl ?_|refine a0b (a0i rfl (by with_reducible rfl) rfl) rfl ?_)|refine a0b (a0e rfl) rfl ?_|refine a0b (a0r rfl rfl) rfl ?_|refine a0u ?_|refine a1d rfl rfl rfl (by first|exact ln4|exact ln5) (by repeat constructor) rfl ?_|refine a1a rfl rfl rfl rfl rfl (by repeat constructor) (by repeat constructor) ?_|refine a0b (a1u rfl rfl rfl (by repeat constructor)) rfl ?_|refine a0b (a0y rfl (by with_reducible rfl)) rfl ?_|refine a0b (a1p rfl (by with_reducible rfl)) rfl ?_|refine a0b (a2x rfl rfl) rfl ?_)|(first|refine a1f ?_|(refine a1h ?_;first|refine a0c (a0a ?_)|refine a0c ?_|refine a0a ?_|(refine a0x ?_;first|refine a0g rfl (by with_reducible rfl) ?_|refine a0h rfl (by with_reducible rfl) ?_|(refine a2d rfl (fun hc => ?_) (fun hc => ?_) <;> (try (exact absurd hc (by decide)))))|refine a0p ?_|refine a0n ?_|refine a0l ?_)|refine a0v ?_|refine a1y ?_|refine a1c ?_))
      refine a2o (.boxLe (id := 4) (atC at0) rfl (by repeat (first | exact .nil | refine .cons .nil ?_ | refine .cons (.refl _) ?_)) rfl) ?_
      refine retc1 (by first | exact .inr rfl | exact .inl rfl) rfl rfl rfl rfl rfl ?_
      exact ⟨dmO X, _, rfl, by unfold PkR; rw [hS]; exact ⟨rfl, X, hX, rfl, rfl⟩⟩
    · rw [h4] at hO
      dsimp only at hO
      rw [hO] at ho
      have hen := hX.rep.ok i e h1
      have hm := hen.c
      have hcn := hX.cn e (List.mem_of_getElem? h1)
      have hlt := (List.getElem?_eq_some_iff.1 h1).1
      have hbp := c1p hen
      cases hcl : e.c.closed with
      | true =>
        rw [hcl] at ho
        have hS : pickD X.ds at' = (X.ds, at0, 0) := by
          unfold pickD
          rw [if_pos hok, show lget at' X.ds.l = some e.c from h4]
          dsimp only
          rw [if_pos hcl]
        repeat' (first|(first|(refine a0d ?_;refine a0q [0,1,2,3] rfl rfl hg ?_ ?_ rfl rfl ?_;(focus ((repeat constructor);done));(focus ((repeat constructor);done));rintro _ _ ⟨rfl,rfl⟩;refine ⟨_,_,by repeat constructor,by repeat constructor,?_⟩)|(refine a0d ?_;refine a0q [0,1,2,3] rfl rfl ho ?_ ?_ rfl rfl ?_;(focus ((repeat constructor);done));(focus ((repeat constructor);done));rintro _ _ ⟨rfl,rfl⟩;refine ⟨_,_,by repeat constructor,by repeat constructor,?_⟩))|(refine a2i ?_;first|refine a0b (a0k rfl) rfl ?_|(refine k_g ?_;first|refine a1j rfl rfl (by with_reducible rfl) ?_|refine a1w rfl rfl (by with_reducible rfl) rfl ?_)|refine a0b (a0f rfl rfl) rfl ?_|(refine a0z ?_;first|refine a0b (a0w rfl rfl) rfl ?_|refine a0b (a0m rfl rfl rfl) rfl ?_)|(refine a1i ?_;first|refine a0b (a0j rfl (by with_reducible rfl) rfl) rfl ?_|refine a0b (a0i rfl (by with_reducible rfl) rfl) rfl ?_)|refine a0b (a0e rfl) rfl ?_|refine a0b (a0r rfl rfl) rfl ?_|refine a0u ?_|refine a1d rfl rfl rfl (by first|exact ln4|exact ln5) (by repeat constructor) rfl ?_|refine a1a rfl rfl rfl rfl rfl (by repeat constructor) (by repeat constructor) ?_|refine a0b (a1u rfl rfl rfl (by repeat constructor)) rfl ?_|refine a0b (a0y rfl (by with_reducible rfl)) rfl ?_|refine a0b (a1p rfl (by with_reducible rfl)) rfl ?_|refine a0b (a2x rfl rfl) rfl ?_)|(first|refine a1f ?_|(refine a1h ?_;first|refine a0c (a0a ?_)|refine a0c ?_|refine a0a ?_|(refine a0x ?_;first|refine a0g rfl (by with_reducible rfl) ?_|refine a0h rfl (by with_reducible rfl) ?_|(refine a2d rfl (fun hc => ?_) (fun hc => ?_) <;> (try (exact absurd hc (by decide)))))|refine a0p ?_|refine a0n ?_|refine a0l ?_)|refine a0v ?_|refine a1y ?_|refine a1c ?_))
        refine a2o (.boxLe (id := 4) (atC at0) rfl (by repeat (first | exact .nil | refine .cons .nil ?_ | refine .cons (.refl _) ?_)) rfl) ?_
        refine retc1 (by first | exact .inr rfl | exact .inl rfl) rfl rfl rfl rfl rfl ?_
        exact ⟨dmO X, _, rfl, by unfold PkR; rw [hS]; exact ⟨rfl, X, hX, rfl, rfl⟩⟩
      | false =>
        rw [hcl] at ho
        cases ha : e.c.ans with
        | some r =>
          have hpa : paE e = .ad e.ba 0 := by
            show paO e.c.ans e.ba = _
            rw [ha]
            rfl
          have hm2 : X.m e.bc = some [.ad e.bp 0, .int .i64 e.c.user, .bool e.c.closed, .bool e.c.lost, .bool e.c.waits, .int .i64 e.c.asks, .bool e.c.ends, .ad e.ba 0] := by rw [hm, hpa]
          have hra := hen.a r ha
          have hfit := hcn.a r ha
          have hba := c5f hen ha
          obtain ⟨rst, rfs, rbody, rcl⟩ := r
          have hra2 : X.m e.ba = some [.int .i64 rst, .rs (rfs.map prAV), .str rbody, .bool rcl] := hra
          have hmU : upd X.m e.bc [.ad e.bp 0, .int .i64 e.c.user, .bool e.c.closed, .bool e.c.lost, .bool e.c.waits, .int .i64 e.c.asks, .bool e.c.ends, .nilp] e.bc = some (cnC e.bp .nilp { e.c with ans := none }) := a2q
          have hmU2 : upd X.m e.bc [.ad e.bp 0, .int .i64 e.c.user, .bool e.c.closed, .bool e.c.lost, .bool e.c.waits, .int .i64 e.c.asks, .bool e.c.ends, .nilp] e.bc = some [.ad e.bp 0, .int .i64 e.c.user, .bool e.c.closed, .bool e.c.lost, .bool e.c.waits, .int .i64 e.c.asks, .bool e.c.ends, .nilp] := a2q
          have hE := a4f (w0 := w0) (base := base) (r := ⟨rst, rfs, rbody, rcl || e.c.ends⟩) hG ⟨hfit.fs, hfit.each, hfit.body⟩ hmU
          have hP : pickC X.ds e.c = ((emitsC { e.c with ans := none } ⟨rst, rfs, rbody, rcl || e.c.ends⟩).1, (emitsC { e.c with ans := none } ⟨rst, rfs, rbody, rcl || e.c.ends⟩).2) := by
            unfold pickC
            rw [ha]
          have hfin : RepE (upd (upd X.m e.bc [.ad e.bp 0,.int .i64 e.c.user,.bool e.c.closed,.bool e.c.lost,.bool e.c.waits,.int .i64 e.c.asks,.bool e.c.ends,.nilp]) e.bc (cnC e.bp .nilp (emitsC { e.c with ans := none } ⟨rst,rfs,rbody,rcl || e.c.ends⟩).1)) (X.l.set i { e with c := (emitsC { e.c with ans := none } ⟨rst,rfs,rbody,rcl || e.c.ends⟩).1 }) := hX.rep.two h1 rfl a2q (by rw [a2a hbp,a2a hbp];exact hen.p) (fun x hx _ => by rw [a2a hx,a2a hx])
          have hok2 : CnOk (emitsC { e.c with ans := none } ⟨rst, rfs, rbody, rcl || e.c.ends⟩).1 := ⟨hcn.s, fun q hq => by cases hq⟩
          cases rcl
          all_goals
            repeat' (first|(first|(refine a0d ?_;refine a0q [0,1,2,3] rfl rfl hg ?_ ?_ rfl rfl ?_;(focus ((repeat constructor);done));(focus ((repeat constructor);done));rintro _ _ ⟨rfl,rfl⟩;refine ⟨_,_,by repeat constructor,by repeat constructor,?_⟩)|(refine a0d ?_;refine a0q [0,1,2,3] rfl rfl ho ?_ ?_ rfl rfl ?_;(focus ((repeat constructor);done));(focus ((repeat constructor);done));rintro _ _ ⟨rfl,rfl⟩;refine ⟨_,_,by repeat constructor,by repeat constructor,?_⟩)|refine a0b (a1b (n := 0) rfl rfl) rfl ?_|refine a0b (a2t rfl rfl rfl .int (a3z _) h3) rfl ?_|(refine a1g ?_;first|refine a0b (a4z rfl rfl rfl) rfl ?_)|(refine a0z ?_;refine a0b (a2g (id := 3) rfl rfl hm2 rfl) rfl ?_)|(refine a0z ?_;refine a0b (a2g (id := 3) rfl rfl hmU2 rfl) rfl ?_)|(refine a0z ?_;refine a0b (a9i (id := 3) rfl rfl hra2 rfl rfl) rfl ?_)|refine a3d (id := 3) rfl rfl rfl rfl rfl rfl rfl hm2 (by repeat constructor) (by repeat constructor) ?_|(refine a0d ?_;refine a0q [3] rfl rfl hE ?_ ?_ rfl rfl ?_;(focus ((repeat constructor);done));(focus ((repeat constructor);done));rintro _ _ ⟨rfl,rfl⟩;refine ⟨_,_,by repeat constructor,by repeat constructor,?_⟩))|(refine a2i ?_;first|refine a0b (a0k rfl) rfl ?_|(refine k_g ?_;first|refine a1j rfl rfl (by with_reducible rfl) ?_|refine a1w rfl rfl (by with_reducible rfl) rfl ?_)|refine a0b (a0f rfl rfl) rfl ?_|(refine a0z ?_;first|refine a0b (a0w rfl rfl) rfl ?_|refine a0b (a0m rfl rfl rfl) rfl ?_)|(refine a1i ?_;first|refine a0b (a0j rfl (by with_reducible rfl) rfl) rfl ?_|refine a0b (a0i rfl (by with_reducible rfl) rfl) rfl ?_)|refine a0b (a0e rfl) rfl ?_|refine a0b (a0r rfl rfl) rfl ?_|refine a0u ?_|refine a1d rfl rfl rfl (by first|exact ln4|exact ln5) (by repeat constructor) rfl ?_|refine a1a rfl rfl rfl rfl rfl (by repeat constructor) (by repeat constructor) ?_|refine a0b (a1u rfl rfl rfl (by repeat constructor)) rfl ?_|refine a0b (a0y rfl (by with_reducible rfl)) rfl ?_|refine a0b (a1p rfl (by with_reducible rfl)) rfl ?_|refine a0b (a2x rfl rfl) rfl ?_)|(first|refine a1f ?_|(refine a1h ?_;first|refine a0c (a0a ?_)|refine a0c ?_|refine a0a ?_|(refine a0x ?_;first|refine a0g rfl (by with_reducible rfl) ?_|refine a0h rfl (by with_reducible rfl) ?_|(refine a2d rfl (fun hc => ?_) (fun hc => ?_) <;> (try (exact absurd hc (by decide)))))|refine a0p ?_|refine a0n ?_|refine a0l ?_)|refine a0v ?_|refine a1y ?_|refine a1c ?_))
            refine retc1 (by first | exact .inr rfl | exact .inl rfl) rfl rfl rfl rfl rfl ?_
            exact ⟨[_, _, _, _], _, rfl, a8i hX hok h1 h4 h5 hcl hP hfin hok2 rfl rfl⟩
        | none =>
          have hpa : paE e = .nilp := by
            show paO e.c.ans e.ba = _
            rw [ha]
            rfl
          rw [hpa] at hm
          have hm2 : X.m e.bc = some [.ad e.bp 0, .int .i64 e.c.user, .bool e.c.closed, .bool e.c.lost, .bool e.c.waits, .int .i64 e.c.asks, .bool e.c.ends, .nilp] := hm
          have hP := a5o (D := X.ds) ha
          cases hw : e.c.waits with
          | true =>
            rw [if_pos hw] at hP
            have hm3 : X.m e.bc = some [.ad e.bp 0, .int .i64 e.c.user, .bool e.c.closed, .bool e.c.lost, .bool true, .int .i64 e.c.asks, .bool e.c.ends, .nilp] := by rw [hm2, hw]
            repeat' (first|(first|(refine a0d ?_;refine a0q [0,1,2,3] rfl rfl hg ?_ ?_ rfl rfl ?_;(focus ((repeat constructor);done));(focus ((repeat constructor);done));rintro _ _ ⟨rfl,rfl⟩;refine ⟨_,_,by repeat constructor,by repeat constructor,?_⟩)|(refine a0d ?_;refine a0q [0,1,2,3] rfl rfl ho ?_ ?_ rfl rfl ?_;(focus ((repeat constructor);done));(focus ((repeat constructor);done));rintro _ _ ⟨rfl,rfl⟩;refine ⟨_,_,by repeat constructor,by repeat constructor,?_⟩)|refine a0b (a1b (n := 0) rfl rfl) rfl ?_|refine a0b (a2t rfl rfl rfl .int (a3z _) h3) rfl ?_|(refine a1g ?_;first|refine a0b (a3t rfl rfl) rfl ?_)|(refine a0z ?_;refine a0b (a2g (id := 3) rfl rfl hm3 rfl) rfl ?_))|(refine a2i ?_;first|refine a0b (a0k rfl) rfl ?_|(refine k_g ?_;first|refine a1j rfl rfl (by with_reducible rfl) ?_|refine a1w rfl rfl (by with_reducible rfl) rfl ?_)|refine a0b (a0f rfl rfl) rfl ?_|(refine a0z ?_;first|refine a0b (a0w rfl rfl) rfl ?_|refine a0b (a0m rfl rfl rfl) rfl ?_)|(refine a1i ?_;first|refine a0b (a0j rfl (by with_reducible rfl) rfl) rfl ?_|refine a0b (a0i rfl (by with_reducible rfl) rfl) rfl ?_)|refine a0b (a0e rfl) rfl ?_|refine a0b (a0r rfl rfl) rfl ?_|refine a0u ?_|refine a1d rfl rfl rfl (by first|exact ln4|exact ln5) (by repeat constructor) rfl ?_|refine a1a rfl rfl rfl rfl rfl (by repeat constructor) (by repeat constructor) ?_|refine a0b (a1u rfl rfl rfl (by repeat constructor)) rfl ?_|refine a0b (a0y rfl (by with_reducible rfl)) rfl ?_|refine a0b (a1p rfl (by with_reducible rfl)) rfl ?_|refine a0b (a2x rfl rfl) rfl ?_)|(first|refine a1f ?_|(refine a1h ?_;first|refine a0c (a0a ?_)|refine a0c ?_|refine a0a ?_|(refine a0x ?_;first|refine a0g rfl (by with_reducible rfl) ?_|refine a0h rfl (by with_reducible rfl) ?_|(refine a2d rfl (fun hc => ?_) (fun hc => ?_) <;> (try (exact absurd hc (by decide)))))|refine a0p ?_|refine a0n ?_|refine a0l ?_)|refine a0v ?_|refine a1y ?_|refine a1c ?_))
            refine a2o (.boxLe (id := 4) (atC at0) rfl (by repeat (first | exact .nil | refine .cons .nil ?_ | refine .cons (.refl _) ?_)) rfl) ?_
            refine retc1 (by first | exact .inr rfl | exact .inl rfl) rfl rfl rfl rfl rfl ?_
            exact ⟨[_, _, _, _], _, rfl, a8i hX hok h1 h4 h5 hcl hP (hX.rep.two h1 ha hm hen.p (fun _ _ _ => rfl)) hcn rfl rfl⟩
          | false =>
            rw [if_neg (by rw [hw]; decide)] at hP
            cases hlo : e.c.lost with
            | true =>
              rw [if_pos hlo] at hP
              have hm3 : X.m e.bc = some [.ad e.bp 0, .int .i64 e.c.user, .bool e.c.closed, .bool true, .bool false, .int .i64 e.c.asks, .bool e.c.ends, .nilp] := by rw [hm2, hw, hlo]
              have hPl := a4j (w0 := w0) (base := base) (st := 413) (b := []) (cl := true)
              have hE := a4f (w0 := w0) (base := base) (c := e.c) hG (a4e 413 true) hm
              repeat' (first|(first|(refine a0d ?_;refine a0q [0,1,2,3] rfl rfl hg ?_ ?_ rfl rfl ?_;(focus ((repeat constructor);done));(focus ((repeat constructor);done));rintro _ _ ⟨rfl,rfl⟩;refine ⟨_,_,by repeat constructor,by repeat constructor,?_⟩)|(refine a0d ?_;refine a0q [0,1,2,3] rfl rfl ho ?_ ?_ rfl rfl ?_;(focus ((repeat constructor);done));(focus ((repeat constructor);done));rintro _ _ ⟨rfl,rfl⟩;refine ⟨_,_,by repeat constructor,by repeat constructor,?_⟩)|refine a0b (a1b (n := 0) rfl rfl) rfl ?_|refine a0b (a2t rfl rfl rfl .int (a3z _) h3) rfl ?_|(refine a1g ?_;first|refine a0b (a3t rfl rfl) rfl ?_)|(refine a0z ?_;refine a0b (a2g (id := 3) rfl rfl hm3 rfl) rfl ?_)|(refine a0d ?_;refine a0o rfl rfl rfl rfl hPl ?_;rintro _ rfl)|(refine a0d ?_;refine a0q [3] rfl rfl hE ?_ ?_ rfl rfl ?_;(focus ((repeat constructor);done));(focus ((repeat constructor);done));rintro _ _ ⟨rfl,rfl⟩;refine ⟨_,_,by repeat constructor,by repeat constructor,?_⟩))|(refine a2i ?_;first|refine a0b (a0k rfl) rfl ?_|(refine k_g ?_;first|refine a1j rfl rfl (by with_reducible rfl) ?_|refine a1w rfl rfl (by with_reducible rfl) rfl ?_)|refine a0b (a0f rfl rfl) rfl ?_|(refine a0z ?_;first|refine a0b (a0w rfl rfl) rfl ?_|refine a0b (a0m rfl rfl rfl) rfl ?_)|(refine a1i ?_;first|refine a0b (a0j rfl (by with_reducible rfl) rfl) rfl ?_|refine a0b (a0i rfl (by with_reducible rfl) rfl) rfl ?_)|refine a0b (a0e rfl) rfl ?_|refine a0b (a0r rfl rfl) rfl ?_|refine a0u ?_|refine a1d rfl rfl rfl (by first|exact ln4|exact ln5) (by repeat constructor) rfl ?_|refine a1a rfl rfl rfl rfl rfl (by repeat constructor) (by repeat constructor) ?_|refine a0b (a1u rfl rfl rfl (by repeat constructor)) rfl ?_|refine a0b (a0y rfl (by with_reducible rfl)) rfl ?_|refine a0b (a1p rfl (by with_reducible rfl)) rfl ?_|refine a0b (a2x rfl rfl) rfl ?_)|(first|refine a1f ?_|(refine a1h ?_;first|refine a0c (a0a ?_)|refine a0c ?_|refine a0a ?_|(refine a0x ?_;first|refine a0g rfl (by with_reducible rfl) ?_|refine a0h rfl (by with_reducible rfl) ?_|(refine a2d rfl (fun hc => ?_) (fun hc => ?_) <;> (try (exact absurd hc (by decide)))))|refine a0p ?_|refine a0n ?_|refine a0l ?_)|refine a0v ?_|refine a1y ?_|refine a1c ?_))
              refine retc1 (by first | exact .inr rfl | exact .inl rfl) rfl rfl rfl rfl rfl ?_
              exact ⟨[_, _, _, _], _, rfl, a8i hX hok h1 h4 h5 hcl hP (hX.rep.two h1 ha a2q (by rw [a2a hbp]; exact hen.p) (fun x hx _ => a2a hx)) ⟨hcn.s, hcn.a⟩ rfl rfl⟩
            | false =>
              rw [if_neg (by rw [hlo]; decide)] at hP
              have hm3 : X.m e.bc = some [.ad e.bp 0, .int .i64 e.c.user, .bool e.c.closed, .bool false, .bool false, .int .i64 e.c.asks, .bool e.c.ends, .nilp] := by rw [hm2, hw, hlo]
              have hN := c4f (w0 := w0) (base := base) hG.g hcn.s hen.p
              by_cases hst : e.c.st = 0
              · rw [if_neg (fun k => k hst)] at hP
                have hfa := a8p e.c.s
                have hbody := fun h b k => b6l (s := e.c.s) (h := h) (b := b) (k := k)
                have hV : nextV e.c.s e.c.st = (match nextL e.c.s with | .more => (.tup [req0, .bool false, .int .i64 0], e.c.s, 0) | .bad st => (.tup [req0, .bool false, .int .i64 st], [], st) | .got h b k => (.tup [reqAV h b, .bool true, .int .i64 0], e.c.s.drop k, 0)) := if_neg (fun k => k hst)
                cases hn : nextL e.c.s with
                | more =>
                  rw [hn] at hV hP
                  dsimp only at hV hP
                  rw [hV] at hN
                  dsimp only at hN
                  repeat' (first|(first|(refine a0d ?_;refine a0q [0,1,2,3] rfl rfl hg ?_ ?_ rfl rfl ?_;(focus ((repeat constructor);done));(focus ((repeat constructor);done));rintro _ _ ⟨rfl,rfl⟩;refine ⟨_,_,by repeat constructor,by repeat constructor,?_⟩)|(refine a0d ?_;refine a0q [0,1,2,3] rfl rfl ho ?_ ?_ rfl rfl ?_;(focus ((repeat constructor);done));(focus ((repeat constructor);done));rintro _ _ ⟨rfl,rfl⟩;refine ⟨_,_,by repeat constructor,by repeat constructor,?_⟩)|refine a0b (a1b (n := 0) rfl rfl) rfl ?_|refine a0b (a2t rfl rfl rfl .int (a3z _) h3) rfl ?_|(refine a1g ?_;first|refine a0b (a3t rfl rfl) rfl ?_|refine a0b (a1r rfl rfl rfl (by omega)) rfl ?_)|(refine a0z ?_;refine a0b (a2g (id := 3) rfl rfl hm3 rfl) rfl ?_)|(refine a0d ?_;refine a0q [3] rfl rfl hN ?_ ?_ rfl rfl ?_;(focus ((repeat constructor);done));(focus ((repeat constructor);done));rintro _ _ ⟨rfl,rfl⟩;refine ⟨_,_,by repeat constructor,by repeat constructor,?_⟩))|(refine a2i ?_;first|refine a0b (a0k rfl) rfl ?_|(refine k_g ?_;first|refine a1j rfl rfl (by with_reducible rfl) ?_|refine a1w rfl rfl (by with_reducible rfl) rfl ?_)|refine a0b (a0f rfl rfl) rfl ?_|(refine a0z ?_;first|refine a0b (a0w rfl rfl) rfl ?_|refine a0b (a0m rfl rfl rfl) rfl ?_)|(refine a1i ?_;first|refine a0b (a0j rfl (by with_reducible rfl) rfl) rfl ?_|refine a0b (a0i rfl (by with_reducible rfl) rfl) rfl ?_)|refine a0b (a0e rfl) rfl ?_|refine a0b (a0r rfl rfl) rfl ?_|refine a0u ?_|refine a1d rfl rfl rfl (by first|exact ln4|exact ln5) (by repeat constructor) rfl ?_|refine a1a rfl rfl rfl rfl rfl (by repeat constructor) (by repeat constructor) ?_|refine a0b (a1u rfl rfl rfl (by repeat constructor)) rfl ?_|refine a0b (a0y rfl (by with_reducible rfl)) rfl ?_|refine a0b (a1p rfl (by with_reducible rfl)) rfl ?_|refine a0b (a2x rfl rfl) rfl ?_)|(first|refine a1f ?_|(refine a1h ?_;first|refine a0c (a0a ?_)|refine a0c ?_|refine a0a ?_|(refine a0x ?_;first|refine a0g rfl (by with_reducible rfl) ?_|refine a0h rfl (by with_reducible rfl) ?_|(refine a2d rfl (fun hc => ?_) (fun hc => ?_) <;> (try (exact absurd hc (by decide)))))|refine a0p ?_|refine a0n ?_|refine a0l ?_)|refine a0v ?_|refine a1y ?_|refine a1c ?_))
                  refine a2o (.boxLe (id := 4) (atC at0) rfl (by repeat (first | exact .nil | refine .cons .nil ?_ | refine .cons (.refl _) ?_)) rfl) ?_
                  refine retc1 (by first | exact .inr rfl | exact .inl rfl) rfl rfl rfl rfl rfl ?_
                  exact ⟨[_, _, _, _], _, rfl, a8i hX hok h1 h4 h5 hcl hP (hX.rep.two h1 ha ((a2a (fun k => hbp k.symm)).trans hm) (by rw [a2q, hst]) (fun x _ hx => a2a hx)) hcn rfl rfl⟩
                | bad st =>
                  rw [hn] at hV hP hfa
                  dsimp only at hV hP
                  rw [hV] at hN
                  dsimp only at hN
                  have hst2 : st ≠ 0 := by
                    rcases hfa with k | k | k | k <;> omega
                  have hmN : upd X.m e.bp [.bool true, .str [], .int .i64 st] e.bc = some (cnC e.bp .nilp { e.c with s := [], st := st }) := (a2a (fun k => hbp k.symm)).trans hm
                  have hPl := a4j (w0 := w0) (base := base) (st := st) (b := []) (cl := true)
                  have hE := a4f (w0 := w0) (base := base) hG (a4e st true) hmN
                  repeat' (first|(first|(refine a0d ?_;refine a0q [0,1,2,3] rfl rfl hg ?_ ?_ rfl rfl ?_;(focus ((repeat constructor);done));(focus ((repeat constructor);done));rintro _ _ ⟨rfl,rfl⟩;refine ⟨_,_,by repeat constructor,by repeat constructor,?_⟩)|(refine a0d ?_;refine a0q [0,1,2,3] rfl rfl ho ?_ ?_ rfl rfl ?_;(focus ((repeat constructor);done));(focus ((repeat constructor);done));rintro _ _ ⟨rfl,rfl⟩;refine ⟨_,_,by repeat constructor,by repeat constructor,?_⟩)|refine a0b (a1b (n := 0) rfl rfl) rfl ?_|refine a0b (a2t rfl rfl rfl .int (a3z _) h3) rfl ?_|(refine a1g ?_;first|refine a0b (a3t rfl rfl) rfl ?_|refine a0b (a1s rfl rfl rfl (by omega)) rfl ?_)|(refine a0z ?_;refine a0b (a2g (id := 3) rfl rfl hm3 rfl) rfl ?_)|(refine a0d ?_;refine a0q [3] rfl rfl hN ?_ ?_ rfl rfl ?_;(focus ((repeat constructor);done));(focus ((repeat constructor);done));rintro _ _ ⟨rfl,rfl⟩;refine ⟨_,_,by repeat constructor,by repeat constructor,?_⟩)|(refine a0d ?_;refine a0o rfl rfl rfl rfl hPl ?_;rintro _ rfl)|(refine a0d ?_;refine a0q [3] rfl rfl hE ?_ ?_ rfl rfl ?_;(focus ((repeat constructor);done));(focus ((repeat constructor);done));rintro _ _ ⟨rfl,rfl⟩;refine ⟨_,_,by repeat constructor,by repeat constructor,?_⟩))|(refine a2i ?_;first|refine a0b (a0k rfl) rfl ?_|(refine k_g ?_;first|refine a1j rfl rfl (by with_reducible rfl) ?_|refine a1w rfl rfl (by with_reducible rfl) rfl ?_)|refine a0b (a0f rfl rfl) rfl ?_|(refine a0z ?_;first|refine a0b (a0w rfl rfl) rfl ?_|refine a0b (a0m rfl rfl rfl) rfl ?_)|(refine a1i ?_;first|refine a0b (a0j rfl (by with_reducible rfl) rfl) rfl ?_|refine a0b (a0i rfl (by with_reducible rfl) rfl) rfl ?_)|refine a0b (a0e rfl) rfl ?_|refine a0b (a0r rfl rfl) rfl ?_|refine a0u ?_|refine a1d rfl rfl rfl (by first|exact ln4|exact ln5) (by repeat constructor) rfl ?_|refine a1a rfl rfl rfl rfl rfl (by repeat constructor) (by repeat constructor) ?_|refine a0b (a1u rfl rfl rfl (by repeat constructor)) rfl ?_|refine a0b (a0y rfl (by with_reducible rfl)) rfl ?_|refine a0b (a1p rfl (by with_reducible rfl)) rfl ?_|refine a0b (a2x rfl rfl) rfl ?_)|(first|refine a1f ?_|(refine a1h ?_;first|refine a0c (a0a ?_)|refine a0c ?_|refine a0a ?_|(refine a0x ?_;first|refine a0g rfl (by with_reducible rfl) ?_|refine a0h rfl (by with_reducible rfl) ?_|(refine a2d rfl (fun hc => ?_) (fun hc => ?_) <;> (try (exact absurd hc (by decide)))))|refine a0p ?_|refine a0n ?_|refine a0l ?_)|refine a0v ?_|refine a1y ?_|refine a1c ?_))
                  refine retc1 (by first | exact .inr rfl | exact .inl rfl) rfl rfl rfl rfl rfl ?_
                  exact ⟨[_, _, _, _], _, rfl, a8i hX hok h1 h4 h5 hcl hP (hX.rep.two h1 ha a2q (by rw [a2a hbp, a2q]) (fun x hx hx' => by rw [a2a hx, a2a hx'])) ⟨Nat.zero_le _, hcn.a⟩ rfl rfl⟩
                | got h b k =>
                  rw [hn] at hV hP hfa
                  dsimp only at hV hP
                  rw [hV] at hN
                  dsimp only at hN
                  have hb := hbody h b k hn
                  have hmN : upd X.m e.bp [.bool true, .str (e.c.s.drop k), .int .i64 0] e.bc = some (cnC e.bp .nilp { e.c with s := e.c.s.drop k }) := (a2a (fun k => hbp k.symm)).trans hm
                  have hX' := hX.set (e' := { e with c := { e.c with s := e.c.s.drop k } }) (m' := upd X.m e.bp [.bool true,.str (e.c.s.drop k),.int .i64 0]) h1 rfl (hX.rep.two h1 ha hmN (by rw [a2q];show _ = some [AV.bool true,AV.str (e.c.s.drop k),AV.int .i64 e.c.st];rw [hst]) (fun x _ hx => a2a hx)) ⟨by show (e.c.s.drop k).length ≤ 65536;rw [List.length_drop];have := hcn.s;omega,hcn.a⟩
                  have hRq : ACalls (EE w0 base) 33 [.op 0 0,.ad e.bc 0,.agg (rqCs h b)] [.box [.int .i64 X.users,.int .i64 X.conns,.int .i64 X.asks,.mp 1,.mp 2],.map (X.l.map enK),.map (X.ss.map ssK),.hp (upd X.m e.bp [.bool true,.str (e.c.s.drop k),.int .i64 0])] fun rv os => rv = .agg (atC (requestC X.ds { e.c with s := e.c.s.drop k } h b).2) ∧ os = [.box [.int .i64 X.users,.int .i64 X.conns,.int .i64 X.asks,.mp 1,.mp 2],.map (X.l.map enK),.map (X.ss.map ssK),.hp (upd (upd X.m e.bp [.bool true,.str (e.c.s.drop k),.int .i64 0]) e.bc (cnC e.bp .nilp (requestC X.ds { e.c with s := e.c.s.drop k } h b).1))] := by
                    have h0 := c4d (w0 := w0) (base := base) (i := i) (e := { e with c := { e.c with s := e.c.s.drop k } }) (h := h) (b := b) hG hX' (List.getElem?_set_self hlt) hfa.1 (by omega)
                    rw [a6a (e' := { e with c := { e.c with s := e.c.s.drop k } }) h1 rfl rfl] at h0
                    refine a2u h0 ?_
                    have hcs := fun u => c3w (e := e) (c' := { e.c with s := e.c.s.drop k }) rfl rfl rfl rfl u h1
                    have e1 : requestC (Dem.ds { X with l := X.l.set i { e with c := { e.c with s := e.c.s.drop k } },m := upd X.m e.bp [.bool true,.str (e.c.s.drop k),.int .i64 0] }) { e.c with s := e.c.s.drop k } h b = requestC X.ds { e.c with s := e.c.s.drop k } h b := b0s (D := X.ds) (D' := Dem.ds { X with l := X.l.set i { e with c := { e.c with s := e.c.s.drop k } },m := upd X.m e.bp [.bool true,.str (e.c.s.drop k),.int .i64 0] }) rfl rfl rfl (fun u => (hcs u).1) (fun u => (hcs u).2) _ _ _
                    rintro rv os ⟨rfl, rfl⟩
                    refine ⟨congrArg (fun z => AV.agg (atC z.2)) e1, ?_⟩
                    refine (a6a (e' := { e with c := { e.c with s := e.c.s.drop k } }) h1 rfl rfl _).trans ?_
                    show _ = _
                    rw [← e1, ← hpa]
                  have hsm := b0q X.ds { e.c with s := e.c.s.drop k } h b
                  obtain ⟨⟨c1, a1⟩, hc1⟩ : ∃ p, p = requestC X.ds { e.c with s := e.c.s.drop k } h b := ⟨_, rfl⟩
                  rw [← hc1] at hRq hP hsm
                  obtain ⟨ak, ao, acl, au, atk, an, aw, rq⟩ := a1
                  rcases rq with _ | ⟨h', b'⟩
                  all_goals
                    repeat' (first|(first|(refine a0d ?_;refine a0q [0,1,2,3] rfl rfl hg ?_ ?_ rfl rfl ?_;(focus ((repeat constructor);done));(focus ((repeat constructor);done));rintro _ _ ⟨rfl,rfl⟩;refine ⟨_,_,by repeat constructor,by repeat constructor,?_⟩)|(refine a0d ?_;refine a0q [0,1,2,3] rfl rfl ho ?_ ?_ rfl rfl ?_;(focus ((repeat constructor);done));(focus ((repeat constructor);done));rintro _ _ ⟨rfl,rfl⟩;refine ⟨_,_,by repeat constructor,by repeat constructor,?_⟩)|refine a0b (a1b (n := 0) rfl rfl) rfl ?_|refine a0b (a2t rfl rfl rfl .int (a3z _) h3) rfl ?_|(refine a1g ?_;first|refine a0b (a3t rfl rfl) rfl ?_|refine a0b (a1r rfl rfl rfl (by omega)) rfl ?_)|(refine a0z ?_;refine a0b (a2g (id := 3) rfl rfl hm3 rfl) rfl ?_)|(refine a0d ?_;refine a0q [3] rfl rfl hN ?_ ?_ rfl rfl ?_;(focus ((repeat constructor);done));(focus ((repeat constructor);done));rintro _ _ ⟨rfl,rfl⟩;refine ⟨_,_,by repeat constructor,by repeat constructor,?_⟩)|(refine a0d ?_;refine a0q [0,1,2,3] rfl rfl hRq ?_ ?_ rfl rfl ?_;(focus ((repeat constructor);done));(focus ((repeat constructor);done));rintro _ _ ⟨rfl,rfl⟩;refine ⟨_,_,by repeat constructor,by repeat constructor,?_⟩))|(refine a2i ?_;first|refine a0b (a0k rfl) rfl ?_|(refine k_g ?_;first|refine a1j rfl rfl (by with_reducible rfl) ?_|refine a1w rfl rfl (by with_reducible rfl) rfl ?_)|refine a0b (a0f rfl rfl) rfl ?_|(refine a0z ?_;first|refine a0b (a0w rfl rfl) rfl ?_|refine a0b (a0m rfl rfl rfl) rfl ?_)|(refine a1i ?_;first|refine a0b (a0j rfl (by with_reducible rfl) rfl) rfl ?_|refine a0b (a0i rfl (by with_reducible rfl) rfl) rfl ?_)|refine a0b (a0e rfl) rfl ?_|refine a0b (a0r rfl rfl) rfl ?_|refine a0u ?_|refine a1d rfl rfl rfl (by first|exact ln4|exact ln5) (by repeat constructor) rfl ?_|refine a1a rfl rfl rfl rfl rfl (by repeat constructor) (by repeat constructor) ?_|refine a0b (a1u rfl rfl rfl (by repeat constructor)) rfl ?_|refine a0b (a0y rfl (by with_reducible rfl)) rfl ?_|refine a0b (a1p rfl (by with_reducible rfl)) rfl ?_|refine a0b (a2x rfl rfl) rfl ?_)|(first|refine a1f ?_|(refine a1h ?_;first|refine a0c (a0a ?_)|refine a0c ?_|refine a0a ?_|(refine a0x ?_;first|refine a0g rfl (by with_reducible rfl) ?_|refine a0h rfl (by with_reducible rfl) ?_|(refine a2d rfl (fun hc => ?_) (fun hc => ?_) <;> (try (exact absurd hc (by decide)))))|refine a0p ?_|refine a0n ?_|refine a0l ?_)|refine a0v ?_|refine a1y ?_|refine a1c ?_))
                    refine retc1 (by first | exact .inr rfl | exact .inl rfl) rfl rfl rfl rfl rfl ?_
                    exact ⟨[_,_,_,_],_,rfl,a8i hX hok h1 h4 h5 hcl hP (hX.rep.two h1 (hsm.2.2.trans ha) a2q (by rw [a2a hbp,a2q,hsm.1,hsm.2.1];show _ = some [AV.bool true,AV.str (e.c.s.drop k),AV.int .i64 e.c.st];rw [hst]) (fun x hx hx' => by rw [a2a hx,a2a hx'])) ⟨by rw [hsm.1];show (e.c.s.drop k).length ≤ 65536;rw [List.length_drop];have := hcn.s;omega,fun q hq => by rw [hsm.2.2] at hq;exact hcn.a q hq⟩ rfl rfl⟩
              · rw [if_pos hst] at hP
                have hV : nextV e.c.s e.c.st = (.tup [req0, .bool false, .int .i64 e.c.st], e.c.s, e.c.st) := if_pos hst
                rw [hV] at hN
                dsimp only at hN
                have hmN : upd X.m e.bp [.bool true, .str e.c.s, .int .i64 e.c.st] e.bc = some (cnC e.bp .nilp e.c) := (a2a (fun k => hbp k.symm)).trans hm
                have hPl := a4j (w0 := w0) (base := base) (st := e.c.st) (b := []) (cl := true)
                have hE := a4f (w0 := w0) (base := base) hG (a4e e.c.st true) hmN
                repeat' (first|(first|(refine a0d ?_;refine a0q [0,1,2,3] rfl rfl hg ?_ ?_ rfl rfl ?_;(focus ((repeat constructor);done));(focus ((repeat constructor);done));rintro _ _ ⟨rfl,rfl⟩;refine ⟨_,_,by repeat constructor,by repeat constructor,?_⟩)|(refine a0d ?_;refine a0q [0,1,2,3] rfl rfl ho ?_ ?_ rfl rfl ?_;(focus ((repeat constructor);done));(focus ((repeat constructor);done));rintro _ _ ⟨rfl,rfl⟩;refine ⟨_,_,by repeat constructor,by repeat constructor,?_⟩)|refine a0b (a1b (n := 0) rfl rfl) rfl ?_|refine a0b (a2t rfl rfl rfl .int (a3z _) h3) rfl ?_|(refine a1g ?_;first|refine a0b (a3t rfl rfl) rfl ?_|refine a0b (a1s rfl rfl rfl (by omega)) rfl ?_)|(refine a0z ?_;refine a0b (a2g (id := 3) rfl rfl hm3 rfl) rfl ?_)|(refine a0d ?_;refine a0q [3] rfl rfl hN ?_ ?_ rfl rfl ?_;(focus ((repeat constructor);done));(focus ((repeat constructor);done));rintro _ _ ⟨rfl,rfl⟩;refine ⟨_,_,by repeat constructor,by repeat constructor,?_⟩)|(refine a0d ?_;refine a0o rfl rfl rfl rfl hPl ?_;rintro _ rfl)|(refine a0d ?_;refine a0q [3] rfl rfl hE ?_ ?_ rfl rfl ?_;(focus ((repeat constructor);done));(focus ((repeat constructor);done));rintro _ _ ⟨rfl,rfl⟩;refine ⟨_,_,by repeat constructor,by repeat constructor,?_⟩))|(refine a2i ?_;first|refine a0b (a0k rfl) rfl ?_|(refine k_g ?_;first|refine a1j rfl rfl (by with_reducible rfl) ?_|refine a1w rfl rfl (by with_reducible rfl) rfl ?_)|refine a0b (a0f rfl rfl) rfl ?_|(refine a0z ?_;first|refine a0b (a0w rfl rfl) rfl ?_|refine a0b (a0m rfl rfl rfl) rfl ?_)|(refine a1i ?_;first|refine a0b (a0j rfl (by with_reducible rfl) rfl) rfl ?_|refine a0b (a0i rfl (by with_reducible rfl) rfl) rfl ?_)|refine a0b (a0e rfl) rfl ?_|refine a0b (a0r rfl rfl) rfl ?_|refine a0u ?_|refine a1d rfl rfl rfl (by first|exact ln4|exact ln5) (by repeat constructor) rfl ?_|refine a1a rfl rfl rfl rfl rfl (by repeat constructor) (by repeat constructor) ?_|refine a0b (a1u rfl rfl rfl (by repeat constructor)) rfl ?_|refine a0b (a0y rfl (by with_reducible rfl)) rfl ?_|refine a0b (a1p rfl (by with_reducible rfl)) rfl ?_|refine a0b (a2x rfl rfl) rfl ?_)|(first|refine a1f ?_|(refine a1h ?_;first|refine a0c (a0a ?_)|refine a0c ?_|refine a0a ?_|(refine a0x ?_;first|refine a0g rfl (by with_reducible rfl) ?_|refine a0h rfl (by with_reducible rfl) ?_|(refine a2d rfl (fun hc => ?_) (fun hc => ?_) <;> (try (exact absurd hc (by decide)))))|refine a0p ?_|refine a0n ?_|refine a0l ?_)|refine a0v ?_|refine a1y ?_|refine a1c ?_))
                refine retc1 (by first | exact .inr rfl | exact .inl rfl) rfl rfl rfl rfl rfl ?_
                exact ⟨[_, _, _, _], _, rfl, a8i hX hok h1 h4 h5 hcl hP (hX.rep.two h1 ha a2q (by rw [a2a hbp, a2q]) (fun x hx hx' => by rw [a2a hx, a2a hx'])) ⟨hcn.s, hcn.a⟩ rfl rfl⟩
  · rw [decide_eq_false hok] at hg
    have hS : pickD X.ds at' = (X.ds, at0, 1) := if_neg hok
    repeat' (first|(first|(refine a0d ?_;refine a0q [0,1,2,3] rfl rfl hg ?_ ?_ rfl rfl ?_;(focus ((repeat constructor);done));(focus ((repeat constructor);done));rintro _ _ ⟨rfl,rfl⟩;refine ⟨_,_,by repeat constructor,by repeat constructor,?_⟩))|(refine a2i ?_;first|refine a0b (a0k rfl) rfl ?_|(refine k_g ?_;first|refine a1j rfl rfl (by with_reducible rfl) ?_|refine a1w rfl rfl (by with_reducible rfl) rfl ?_)|refine a0b (a0f rfl rfl) rfl ?_|(refine a0z ?_;first|refine a0b (a0w rfl rfl) rfl ?_|refine a0b (a0m rfl rfl rfl) rfl ?_)|(refine a1i ?_;first|refine a0b (a0j rfl (by with_reducible rfl) rfl) rfl ?_|refine a0b (a0i rfl (by with_reducible rfl) rfl) rfl ?_)|refine a0b (a0e rfl) rfl ?_|refine a0b (a0r rfl rfl) rfl ?_|refine a0u ?_|refine a1d rfl rfl rfl (by first|exact ln4|exact ln5) (by repeat constructor) rfl ?_|refine a1a rfl rfl rfl rfl rfl (by repeat constructor) (by repeat constructor) ?_|refine a0b (a1u rfl rfl rfl (by repeat constructor)) rfl ?_|refine a0b (a0y rfl (by with_reducible rfl)) rfl ?_|refine a0b (a1p rfl (by with_reducible rfl)) rfl ?_|refine a0b (a2x rfl rfl) rfl ?_)|(first|refine a1f ?_|(refine a1h ?_;first|refine a0c (a0a ?_)|refine a0c ?_|refine a0a ?_|(refine a0x ?_;first|refine a0g rfl (by with_reducible rfl) ?_|refine a0h rfl (by with_reducible rfl) ?_|(refine a2d rfl (fun hc => ?_) (fun hc => ?_) <;> (try (exact absurd hc (by decide)))))|refine a0p ?_|refine a0n ?_|refine a0l ?_)|refine a0v ?_|refine a1y ?_|refine a1c ?_))
    refine a2o (.boxLe (id := 4) (atC at0) rfl (by repeat (first | exact .nil | refine .cons .nil ?_ | refine .cons (.refl _) ?_)) rfl) ?_
    refine retc1 (by first | exact .inr rfl | exact .inl rfl) rfl rfl rfl rfl rfl ?_
    exact ⟨dmO X, _, rfl, by unfold PkR; rw [hS]; exact ⟨rfl, X, hX, rfl, rfl⟩⟩
theorem b3l {X : Dem} {at' : Int} (hG : Tabs w0 base) (hX : DemOk X) : ACalls (EE w0 base) 13 [.op 0 0, .int .i64 at'] (dmO X) (PkR X at') := by
  refine a3o (c4e hG hX) ?_
  rintro rv os ⟨os1, ex, rfl, rfl, X', h1, rfl, h2⟩
  exact ⟨dmO X', ex, rfl, ⟨rfl, X', h1, rfl, h2⟩, c3x _ _ _, b5s X', Nat.le_refl _⟩
end
end Go.Proofs.YtkljmljkiodnpaaGreatDoor.L

namespace Go.Proofs.YtkljmljkiodnpaaGreatDoor.L
open Go Go.RowKit Go.Proofs
attribute [local irreducible] AL QL AWp Thn InB RetQ ACalls LoopQ HL HO HW HQ NoG JmpQ MidQ HF

abbrev zDem : AV := .rp [.int .i64 0, .int .i64 0, .int .i64 0, .nilmp, .nilmp]
section
variable {w0 : World} {base : Nat}
theorem b1t {a : At} : PCalls (EE w0 base) 23 [.agg (atC a)] fun rv => rv = .agg (atC a) := by
  obtain ⟨ak, ao, acl, au, atk, an, aw, rq⟩ := a
  refine a1e Tryz.func23 rfl rfl rfl (.cons .nil) ?_
  match rq with
  | none =>
    repeat' (first|(refine a2i ?_;first|refine a0b (a0f rfl rfl) rfl ?_|(refine a0z ?_;first|refine a0b (a0w rfl rfl) rfl ?_|refine a0b (a0m rfl rfl rfl) rfl ?_)|refine a0u ?_|refine a2n rfl rfl rfl (by first|exact ln0|exact ln1) (by repeat constructor) rfl ?_|refine a1d rfl rfl rfl (by first|exact ln0|exact ln1) (by repeat constructor) rfl ?_|refine a1a rfl rfl rfl rfl rfl (by repeat constructor) (by repeat constructor) ?_|refine a0b (a1u rfl rfl rfl (by repeat constructor)) rfl ?_)|(first|refine a1f ?_|(refine a1h ?_;first|refine a0c (a0a ?_)|refine a0c ?_|refine a0a ?_|refine a0n ?_)))
    refine retc0 (by first | exact .inr rfl | exact .inl rfl) rfl rfl rfl rfl ?_
    exact ⟨rfl, rfl⟩
  | some (h, b) =>
    repeat' (first|(refine a2i ?_;first|refine a0b (a0f rfl rfl) rfl ?_|(refine a0z ?_;first|refine a0b (a0w rfl rfl) rfl ?_|refine a0b (a0m rfl rfl rfl) rfl ?_)|refine a0u ?_|refine a2n rfl rfl rfl (by first|exact ln0|exact ln1) (by repeat constructor) rfl ?_|refine a1d rfl rfl rfl (by first|exact ln0|exact ln1) (by repeat constructor) rfl ?_|refine a1a rfl rfl rfl rfl rfl (by repeat constructor) (by repeat constructor) ?_|refine a0b (a1u rfl rfl rfl (by repeat constructor)) rfl ?_)|(first|refine a1f ?_|(refine a1h ?_;first|refine a0c (a0a ?_)|refine a0c ?_|refine a0a ?_|refine a0n ?_)))
    refine retc0 (by first | exact .inr rfl | exact .inl rfl) rfl rfl rfl rfl ?_
    exact ⟨rfl, rfl⟩
def AtB (a : At) : Prop := ∀ h b, a.rq = some (h, b) → RqB (rqOf h b)
set_option maxHeartbeats 2000000 in
theorem b5b {a : At} (ha : AtB a) : PCalls (EE w0 base) 22 [.agg (atC a), .agg (atC a)] fun rv => rv = .bool true := by
  have hS : PCalls (EE w0 base) 39 [.agg (rqO a.rq), .agg (rqO a.rq)] fun rv => rv = .bool true := by
    unfold AtB at ha
    revert ha
    match a.rq with
    | none =>
      intro ha
      have h0 := b5a (w0 := w0) (base := base) (x := rq0) (y := rq0) ⟨by decide, by decide⟩ ⟨by decide, by decide⟩
      rw [a8h] at h0
      exact h0
    | some (h, b) =>
      intro ha
      have h1 := ha h b rfl
      have h0 := b5a (w0 := w0) (base := base) (x := rqOf h b) (y := rqOf h b) h1 h1
      rw [a8h] at h0
      exact h0
  obtain ⟨ak, ao, acl, au, atk, an, aw, rq⟩ := a
  refine a1e Tryz.func22 rfl rfl rfl (.cons (.cons .nil)) ?_
  match rq, hS with
  | none, hS =>
    repeat' (first|(first|(refine a0d ?_;refine a0o rfl rfl rfl rfl hS ?_;rintro _ rfl)|(refine a1g ?_;first|refine a0b (a1s rfl rfl rfl rfl) rfl ?_|refine a0b (a2j rfl rfl rfl) rfl ?_|refine a0b (b5i rfl rfl rfl) rfl ?_))|(refine a2i ?_;first|refine a0b (a0k rfl) rfl ?_|(refine k_g ?_;first|refine a1j rfl rfl (by with_reducible rfl) ?_)|refine a0b (a0f rfl rfl) rfl ?_|(refine a0z ?_;first|refine a0b (a0w rfl rfl) rfl ?_|refine a0b (a0m rfl rfl rfl) rfl ?_)|(refine a1i ?_;first|refine a0b (a0j rfl (by with_reducible rfl) rfl) rfl ?_)|refine a0b (a0e rfl) rfl ?_|refine a0u ?_|refine a2n rfl rfl rfl (by first|exact ln0|exact ln1) (by repeat constructor) rfl ?_)|(first|refine a1f ?_|(refine a1h ?_;first|refine a0c (a0a ?_)|refine a0c ?_|refine a0a ?_|refine a0n ?_)))
    refine ret1 (by first | exact .inr rfl | exact .inl rfl) rfl rfl ?_
    exact ⟨rfl, rfl⟩
  | some (h, b), hS =>
    repeat' (first|(first|(refine a0d ?_;refine a0o rfl rfl rfl rfl hS ?_;rintro _ rfl)|(refine a1g ?_;first|refine a0b (a1s rfl rfl rfl rfl) rfl ?_|refine a0b (a2j rfl rfl rfl) rfl ?_|refine a0b (b5i rfl rfl rfl) rfl ?_))|(refine a2i ?_;first|refine a0b (a0k rfl) rfl ?_|(refine k_g ?_;first|refine a1j rfl rfl (by with_reducible rfl) ?_)|refine a0b (a0f rfl rfl) rfl ?_|(refine a0z ?_;first|refine a0b (a0w rfl rfl) rfl ?_|refine a0b (a0m rfl rfl rfl) rfl ?_)|(refine a1i ?_;first|refine a0b (a0j rfl (by with_reducible rfl) rfl) rfl ?_)|refine a0b (a0e rfl) rfl ?_|refine a0u ?_|refine a2n rfl rfl rfl (by first|exact ln0|exact ln1) (by repeat constructor) rfl ?_)|(first|refine a1f ?_|(refine a1h ?_;first|refine a0c (a0a ?_)|refine a0c ?_|refine a0a ?_|refine a0n ?_)))
    refine ret1 (by first | exact .inr rfl | exact .inl rfl) rfl rfl ?_
    exact ⟨rfl, rfl⟩
theorem a4o {pv : AV} (h : pv = .nilp ∨ pv = zDem) : PCalls (EE w0 base) 29 [pv] fun rv => rv = .bool false := by
  refine a1e Tryz.func29 rfl rfl rfl (.cons .nil) ?_
  rcases h with rfl | rfl
  all_goals
    repeat' (first|(first|(refine a1g ?_;first|refine a0b (a3t rfl rfl) rfl ?_|refine a0b (a4z rfl rfl rfl) rfl ?_|refine a0b (a1r rfl rfl rfl (by omega)) rfl ?_)|refine a0b (a1b (n := 0) rfl rfl) rfl ?_)|(refine a2i ?_;first|refine a0b (a0k rfl) rfl ?_|(refine k_g ?_;first|refine a1j rfl rfl (by with_reducible rfl) ?_|refine a1x rfl rfl (by with_reducible rfl) rfl ?_)|refine a0b (a0f rfl rfl) rfl ?_|(refine a0z ?_;first|refine a0b (a0w rfl rfl) rfl ?_)|(refine a1i ?_;first|refine a0b (a0j rfl (by with_reducible rfl) rfl) rfl ?_|refine a0b (a0i rfl (by with_reducible rfl) rfl) rfl ?_)|refine a0b (a0e rfl) rfl ?_|refine a0u ?_)|(first|refine a1f ?_|(refine a1h ?_;first|refine a0c (a0a ?_)|refine a0c ?_|refine a0a ?_|refine a0n ?_)))
    refine ret1 (by first | exact .inr rfl | exact .inl rfl) rfl rfl ?_
    exact ⟨rfl, rfl⟩
theorem a6r {pv : AV} {n : Int} (h : pv = .nilp ∨ pv = zDem) : PCalls (EE w0 base) 26 [pv, .int .i64 n] fun rv => rv = .bool false := by
  have hg := a4o (w0 := w0) (base := base) h
  refine a1e Tryz.func26 rfl rfl rfl (.cons (.cons .nil)) ?_
  rcases h with rfl | rfl
  all_goals
    repeat' (first|((refine a0d ?_;refine a0o rfl rfl rfl rfl hg ?_;rintro _ rfl))|(refine a2i ?_;first|refine a0b (a0k rfl) rfl ?_|(refine k_g ?_;first|refine a1x rfl rfl (by with_reducible rfl) rfl ?_)|(refine a1i ?_;first|refine a0b (a0i rfl (by with_reducible rfl) rfl) rfl ?_)|refine a0b (a0e rfl) rfl ?_|refine a0u ?_)|(first|refine a1f ?_|(refine a1h ?_;first|refine a0c (a0a ?_)|refine a0c ?_|refine a0a ?_|refine a0n ?_)))
    refine ret1 (by first | exact .inr rfl | exact .inl rfl) rfl rfl ?_
    exact ⟨rfl, rfl⟩
theorem b1u {pv : AV} {n : Int} (h : pv = .nilp ∨ pv = zDem) : PCalls (EE w0 base) 13 [pv, .int .i64 n] fun rv => rv = .tup [.agg (atC at0), .int .i64 1] := by
  have hg := a6r (w0 := w0) (base := base) (n := n) h
  refine a1e Tryz.func13 rfl rfl rfl (.cons (.cons .nil)) ?_
  rcases h with rfl | rfl
  all_goals
    repeat' (first|((refine a0d ?_;refine a0o rfl rfl rfl rfl hg ?_;rintro _ rfl))|(refine a2i ?_;first|refine a0b (a0k rfl) rfl ?_|refine a0b (a0e rfl) rfl ?_|refine a0u ?_|refine a1d rfl rfl rfl (by first|exact ln0) (by repeat constructor) rfl ?_|refine a1a rfl rfl rfl rfl rfl (by repeat constructor) (by repeat constructor) ?_|refine a0b (a1u rfl rfl rfl (by repeat constructor)) rfl ?_|refine a0b (a1p rfl (by with_reducible rfl)) rfl ?_)|(first|refine a1f ?_|(refine a1h ?_;first|refine a0c (a0a ?_)|refine a0c ?_|refine a0a ?_|(refine a0x ?_;first|refine a0g rfl (by with_reducible rfl) ?_)|refine a0n ?_)|refine a0v ?_))
    refine a2o (.boxLe (id := 0) (atC at0) rfl (by repeat (first | exact .nil | refine .cons .nil ?_ | refine .cons (.refl _) ?_)) rfl) ?_
    refine retc1 (by first | exact .inr rfl | exact .inl rfl) rfl rfl rfl rfl rfl ?_
    exact ⟨rfl, rfl⟩
theorem a8e {pv : AV} {n : Int} (h : pv = .nilp ∨ pv = zDem) : PCalls (EE w0 base) 11 [pv, .int .i64 n] fun rv => rv = .tup [.int .i64 0, .int .i64 0] := by
  have hg := a4o (w0 := w0) (base := base) h
  refine a1e Tryz.func11 rfl rfl rfl (.cons (.cons .nil)) ?_
  rcases h with rfl | rfl
  all_goals
    repeat' (first|((refine a0d ?_;refine a0o rfl rfl rfl rfl hg ?_;rintro _ rfl))|(refine a2i ?_;first|refine a0b (a0k rfl) rfl ?_|(refine k_g ?_;first|refine a1w rfl rfl (by with_reducible rfl) rfl ?_)|(refine a1i ?_;first|refine a0b (a0j rfl (by with_reducible rfl) rfl) rfl ?_)|refine a0b (a0e rfl) rfl ?_|refine a0u ?_|refine a0b (a1p rfl (by with_reducible rfl)) rfl ?_)|(first|refine a1f ?_|(refine a1h ?_;first|refine a0c (a0a ?_)|refine a0c ?_|refine a0a ?_|(refine a0x ?_;first|refine a0g rfl (by with_reducible rfl) ?_)|refine a0n ?_)|refine a0v ?_))
    refine ret2 (by first | exact .inr rfl | exact .inl rfl) rfl rfl rfl ?_
    exact ⟨rfl, rfl⟩
theorem a8f {pv : AV} {n : Int} {t : List UInt8} (h : pv = .nilp ∨ pv = zDem) : PCalls (EE w0 base) 10 [pv, .int .i64 n, .str t] fun rv => rv = .int .i64 1 := by
  have hg := a6r (w0 := w0) (base := base) (n := n) h
  refine a1e Tryz.func10 rfl rfl rfl (.cons (.cons (.cons .nil))) ?_
  rcases h with rfl | rfl
  all_goals
    repeat' (first|((refine a0d ?_;refine a0o rfl rfl rfl rfl hg ?_;rintro _ rfl))|(refine a2i ?_;first|refine a0b (a0k rfl) rfl ?_|(refine k_g ?_;first|refine a1w rfl rfl (by with_reducible rfl) rfl ?_)|(refine a1i ?_;first|refine a0b (a0j rfl (by with_reducible rfl) rfl) rfl ?_)|refine a0b (a0e rfl) rfl ?_|refine a0u ?_|refine a0b (a1p rfl (by with_reducible rfl)) rfl ?_)|(first|refine a1f ?_|(refine a1h ?_;first|refine a0c (a0a ?_)|refine a0c ?_|refine a0a ?_|(refine a0x ?_;first|refine a0g rfl (by with_reducible rfl) ?_)|refine a0n ?_)|refine a0v ?_))
    refine ret1 (by first | exact .inr rfl | exact .inl rfl) rfl rfl ?_
    exact ⟨rfl, rfl⟩
theorem b1r {pv : AV} {n : Int} (h : pv = .nilp ∨ pv = zDem) : PCalls (EE w0 base) 21 [pv, .int .i64 n] fun rv => rv = .int .i64 1 := by
  have hg := a6r (w0 := w0) (base := base) (n := n) h
  refine a1e Tryz.func21 rfl rfl rfl (.cons (.cons .nil)) ?_
  rcases h with rfl | rfl
  all_goals
    repeat' (first|((refine a0d ?_;refine a0o rfl rfl rfl rfl hg ?_;rintro _ rfl))|(refine a2i ?_;first|refine a0b (a0k rfl) rfl ?_|refine a0b (a0e rfl) rfl ?_|refine a0u ?_|refine a0b (a1p rfl (by with_reducible rfl)) rfl ?_)|(first|refine a1f ?_|(refine a1h ?_;first|refine a0c (a0a ?_)|refine a0c ?_|refine a0a ?_|(refine a0x ?_;first|refine a0g rfl (by with_reducible rfl) ?_)|refine a0n ?_)|refine a0v ?_))
    refine ret1 (by first | exact .inr rfl | exact .inl rfl) rfl rfl ?_
    exact ⟨rfl, rfl⟩
theorem a8g {pv : AV} {n : Int} {r : Rp} (h : pv = .nilp ∨ pv = zDem) : PCalls (EE w0 base) 16 [pv, .int .i64 n, .agg (rpC r)] fun rv => rv = .int .i64 1 := by
  have hg := a6r (w0 := w0) (base := base) (n := n) h
  refine a1e Tryz.func16 rfl rfl rfl (.cons (.cons (.cons .nil))) ?_
  rcases h with rfl | rfl
  all_goals
    repeat' (first|((refine a0d ?_;refine a0o rfl rfl rfl rfl hg ?_;rintro _ rfl))|(refine a2i ?_;first|refine a0b (a0k rfl) rfl ?_|refine a0b (a0e rfl) rfl ?_|refine a0u ?_|refine a2n rfl rfl rfl (by first|exact ln0) (by repeat constructor) rfl ?_|refine a0b (a1p rfl (by with_reducible rfl)) rfl ?_)|(first|refine a1f ?_|(refine a1h ?_;first|refine a0c (a0a ?_)|refine a0c ?_|refine a0a ?_|(refine a0x ?_;first|refine a0g rfl (by with_reducible rfl) ?_)|refine a0n ?_)|refine a0v ?_))
    refine ret1 (by first | exact .inr rfl | exact .inl rfl) rfl rfl ?_
    exact ⟨rfl, rfl⟩
theorem b2b {pv : AV} {n : Int} {t : List UInt8} (h : pv = .nilp ∨ pv = zDem) : PCalls (EE w0 base) 15 [pv, .str t, .int .i64 n] fun rv => rv = .int .i64 1 := by
  have hg := a4o (w0 := w0) (base := base) h
  refine a1e Tryz.func15 rfl rfl rfl (.cons (.cons (.cons .nil))) ?_
  rcases h with rfl | rfl
  all_goals
    repeat' (first|((refine a0d ?_;refine a0o rfl rfl rfl rfl hg ?_;rintro _ rfl))|(refine a2i ?_;first|refine a0b (a0k rfl) rfl ?_|(refine k_g ?_;first|refine a1w rfl rfl (by with_reducible rfl) rfl ?_)|(refine a1i ?_;first|refine a0b (a0j rfl (by with_reducible rfl) rfl) rfl ?_)|refine a0b (a0e rfl) rfl ?_|refine a0u ?_|refine a0b (a1p rfl (by with_reducible rfl)) rfl ?_)|(first|refine a1f ?_|(refine a1h ?_;first|refine a0c (a0a ?_)|refine a0c ?_|refine a0a ?_|(refine a0x ?_;first|refine a0g rfl (by with_reducible rfl) ?_)|refine a0n ?_)|refine a0v ?_))
    refine ret1 (by first | exact .inr rfl | exact .inl rfl) rfl rfl ?_
    exact ⟨rfl, rfl⟩
theorem b1z {pv : AV} {t : List UInt8} (h : pv = .nilp ∨ pv = zDem) : PCalls (EE w0 base) 18 [pv, .str t] fun rv => rv = .int .i64 1 := by
  have hg := a4o (w0 := w0) (base := base) h
  refine a1e Tryz.func18 rfl rfl rfl (.cons (.cons .nil)) ?_
  rcases h with rfl | rfl
  all_goals
    repeat' (first|((refine a0d ?_;refine a0o rfl rfl rfl rfl hg ?_;rintro _ rfl))|(refine a2i ?_;first|refine a0b (a0k rfl) rfl ?_|refine a0b (a0e rfl) rfl ?_|refine a0u ?_|refine a0b (a1p rfl (by with_reducible rfl)) rfl ?_)|(first|refine a1f ?_|(refine a1h ?_;first|refine a0c (a0a ?_)|refine a0c ?_|refine a0a ?_|(refine a0x ?_;first|refine a0g rfl (by with_reducible rfl) ?_)|refine a0n ?_)|refine a0v ?_))
    refine ret1 (by first | exact .inr rfl | exact .inl rfl) rfl rfl ?_
    exact ⟨rfl, rfl⟩
theorem b1q {pv : AV} {n : Int} (h : pv = .nilp ∨ pv = zDem) : PCalls (EE w0 base) 19 [pv, .int .i64 n] fun rv => rv = .int .i64 (-1) := by
  have hg := a6r (w0 := w0) (base := base) (n := n) h
  refine a1e Tryz.func19 rfl rfl rfl (.cons (.cons .nil)) ?_
  rcases h with rfl | rfl
  all_goals
    repeat' (first|((refine a0d ?_;refine a0o rfl rfl rfl rfl hg ?_;rintro _ rfl))|(refine a2i ?_;first|refine a0b (a0k rfl) rfl ?_|(refine k_g ?_;first|refine a1w rfl rfl (by with_reducible rfl) rfl ?_)|(refine a1i ?_;first|refine a0b (a0j rfl (by with_reducible rfl) rfl) rfl ?_)|refine a0b (a0e rfl) rfl ?_|refine a0u ?_|refine a0b (a1p rfl (by with_reducible rfl)) rfl ?_)|(first|refine a1f ?_|(refine a1h ?_;first|refine a0c (a0a ?_)|refine a0c ?_|refine a0a ?_|(refine a0x ?_;first|refine a0g rfl (by with_reducible rfl) ?_)|refine a0n ?_)|refine a0v ?_))
    refine ret1 (by first | exact .inr rfl | exact .inl rfl) rfl rfl ?_
    exact ⟨rfl, rfl⟩
theorem b1v {pv : AV} {n : Int} (h : pv = .nilp ∨ pv = zDem) : PCalls (EE w0 base) 24 [pv, .int .i64 n] fun rv => rv = .bool false := by
  have hg := a4o (w0 := w0) (base := base) h
  refine a1e Tryz.func24 rfl rfl rfl (.cons (.cons .nil)) ?_
  rcases h with rfl | rfl
  all_goals
    repeat' (first|((refine a0d ?_;refine a0o rfl rfl rfl rfl hg ?_;rintro _ rfl))|(refine a2i ?_;first|refine a0b (a0k rfl) rfl ?_|(refine k_g ?_;first|refine a1x rfl rfl (by with_reducible rfl) rfl ?_)|(refine a1i ?_;first|refine a0b (a0i rfl (by with_reducible rfl) rfl) rfl ?_)|refine a0b (a0e rfl) rfl ?_|refine a0u ?_)|(first|refine a1f ?_|(refine a1h ?_;first|refine a0c (a0a ?_)|refine a0c ?_|refine a0a ?_|refine a0n ?_)))
    refine ret1 (by first | exact .inr rfl | exact .inl rfl) rfl rfl ?_
    exact ⟨rfl, rfl⟩
theorem a9s {pv : AV} {n : Int} (h : pv = .nilp ∨ pv = zDem) : PCalls (EE w0 base) 12 [pv, .int .i64 n] fun rv => rv = .bool false := by
  have hg := a6r (w0 := w0) (base := base) (n := n) h
  refine a1e Tryz.func12 rfl rfl rfl (.cons (.cons .nil)) ?_
  rcases h with rfl | rfl
  all_goals
    repeat' (first|((refine a0d ?_;refine a0o rfl rfl rfl rfl hg ?_;rintro _ rfl))|(refine a2i ?_;first|refine a0b (a0k rfl) rfl ?_|(refine k_g ?_;first|refine a1x rfl rfl (by with_reducible rfl) rfl ?_)|(refine a1i ?_;first|refine a0b (a0i rfl (by with_reducible rfl) rfl) rfl ?_)|refine a0b (a0e rfl) rfl ?_|refine a0u ?_)|(first|refine a1f ?_|(refine a1h ?_;first|refine a0c (a0a ?_)|refine a0c ?_|refine a0a ?_|refine a0n ?_)))
    refine ret1 (by first | exact .inr rfl | exact .inl rfl) rfl rfl ?_
    exact ⟨rfl, rfl⟩
theorem b2a {pv : AV} (h : pv = .nilp ∨ pv = zDem) : PCalls (EE w0 base) 25 [pv] fun rv => rv = .nilp := by
  have hg := a4o (w0 := w0) (base := base) h
  refine a1e Tryz.func25 rfl rfl rfl (.cons .nil) ?_
  rcases h with rfl | rfl
  all_goals
    repeat' (first|((refine a0d ?_;refine a0o rfl rfl rfl rfl hg ?_;rintro _ rfl))|(refine a2i ?_;first|refine a0b (a0k rfl) rfl ?_|refine a0b (a0e rfl) rfl ?_|refine a0u ?_|refine a0b (a1p rfl (by with_reducible rfl)) rfl ?_)|(first|refine a1f ?_|(refine a1h ?_;first|refine a0c (a0a ?_)|refine a0c ?_|refine a0a ?_|(refine a0x ?_;first|refine a0g rfl (by with_reducible rfl) ?_)|refine a0n ?_)|refine a0v ?_))
    refine ret1 (by first | exact .inr rfl | exact .inl rfl) rfl rfl ?_
    exact ⟨rfl, rfl⟩
end
end Go.Proofs.YtkljmljkiodnpaaGreatDoor.L

namespace Go.Proofs.YtkljmljkiodnpaaGreatDoor.L
open Go Go.RowKit Go.Proofs
attribute [local irreducible] AL QL AWp Thn InB RetQ ACalls LoopQ HL HO HW HQ NoG JmpQ MidQ HF

abbrev getL : List UInt8 := [71, 69, 84, 32, 47, 32, 72, 84, 84, 80, 47, 49, 46, 49, 13, 10, 72, 111, 115, 116, 58, 32, 97, 13, 10, 67, 111, 111, 107, 105, 101, 58, 32, 115, 105, 100, 61, 116, 13, 10, 13, 10, 71, 69, 84, 32, 47, 32, 72, 84, 84, 80, 47, 49, 46, 49, 13, 10, 72, 111, 115, 116, 58, 32, 97, 13, 10, 67, 111, 111, 107, 105, 101, 58, 32, 115, 105, 100, 61, 116, 13, 10, 13, 10]
def d18 : DS := ⟨2, 1, 1, [], []⟩
def rp18 : Rp := ⟨200, [], [104, 105], false⟩
theorem b3s {α : Type} {p : α × Int} {b : Int} (h : p.2 = b) : p = (p.1, b) := by subst h; rfl
theorem c2b {α β : Type} {p : α × β × Int} {b : Int} (h : p.2.2 = b) : p = (p.1, p.2.1, b) := by subst h; rfl
def aw1 : DS := (bindD d18 [116] 1).1
def aw2 : DS := (arriveD aw1 0 getL).1
def aw3 : DS := (pickD aw2 0).1
def aw4 : DS := (answerD aw3 0 rp18).1
def aw5 : DS := (pickD aw4 0).1
theorem awf1 : (bindD d18 [116] 1).2 = 0 := by decide +kernel
theorem awf2 : (arriveD aw1 0 getL).2 = 0 := by decide +kernel
theorem awf3 : (pickD aw2 0).2.2 = 0 := by decide +kernel
theorem awf4 : (answerD aw3 0 rp18).2 = 0 := by decide +kernel
theorem awf5 : (pickD aw4 0).2.2 = 0 := by decide +kernel
theorem awf6 : userD aw5 0 = 1 := by decide +kernel
theorem awf7 : (pickD aw2 0).2.1.kind = 4 ∧ (pickD aw2 0).2.1.user = 1 ∧ (pickD aw2 0).2.1.rq.isSome = true := by decide +kernel
theorem awf8 : (pickD aw4 0).2.1.kind = 1 ∧ (pickD aw4 0).2.1.rq.isSome = false ∧ 20 < (pickD aw4 0).2.1.out.length := by decide +kernel
theorem aw18 : ∃ (D1 D2 D3 D4 D5 : DS) (a b : At), bindD d18 [116] 1 = (D1, 0) ∧ arriveD D1 0 getL = (D2, 0) ∧ pickD D2 0 = (D3, a, 0) ∧ answerD D3 0 rp18 = (D4, 0) ∧ pickD D4 0 = (D5, b, 0) ∧ userD D5 0 = 1 ∧ (a.kind = 4 ∧ a.user = 1 ∧ a.rq.isSome = true) ∧ b.kind = 1 ∧ b.rq.isSome = false ∧ 20 < b.out.length :=
  ⟨aw1, aw2, aw3, aw4, aw5, (pickD aw2 0).2.1, (pickD aw4 0).2.1, b3s awf1, b3s awf2, c2b awf3, b3s awf4, c2b awf5, awf6, awf7, awf8⟩
abbrev X18 : Dem := ⟨2, 1, 1, [], [], fun _ => none⟩
theorem c5l : DemOk X18 := ⟨by decide, by decide, by decide, ⟨(fun i e h => by cases h), (fun i j e e' h => by cases h)⟩, List.nodup_nil, (fun e h => by cases h), (fun e h => by cases h), (fun p h => by cases h)⟩
theorem c0n : RpFit rp18 := ⟨by decide, (fun p h => by cases h), by decide⟩
section
variable {w0 : World} {base : Nat}
set_option maxHeartbeats 8000000 in
theorem b2c (hG : Tabs w0 base) : PCalls (EE w0 base) 9 [] fun rv => rv = .bool true := by
  obtain ⟨D1, D2, D3, D4, D5, a, b, f1, f2, f3, f4, f5, f6, ⟨f7, f8, f9⟩, f10, f11, f12⟩ := aw18
  have hN : ACalls (EE w0 base) 8 [.int .i64 2, .int .i64 1, .int .i64 1] [] fun rv os => rv = .tup [.op 2 0, .int .i64 0] ∧ os = [.map [], .map [], .box [.int .i64 2, .int .i64 1, .int .i64 1, .mp 0, .mp 1]] := a2u (b9t (w0 := w0) (base := base) (u := 2) (c := 1) (a := 1)) fun rv os h => by rwa [if_pos (by decide)] at h
  have hB : ACalls (EE w0 base) 15 [.op 0 0, .str [116], .int .i64 1] [.box [.int .i64 2, .int .i64 1, .int .i64 1, .mp 1, .mp 2], .map [], .map [], .hp fun _ => none] fun rv os => rv = .int .i64 0 ∧ ∃ X', DemOk X' ∧ os = dmO X' ∧ X'.ds = D1 := by
    refine a2u (b9y (w0 := w0) (base := base) (X := X18) (t := [116]) (u := 1) c5l) ?_
    intro rv os h
    have h0 : DmR (bindD d18 [116] 1) rv os := h
    rw [f1] at h0
    exact h0
  have hA : ∀ X, DemOk X → X.ds = D1 → ACalls (EE w0 base) 10 [.op 0 0, .int .i64 0, .str getL] (dmO X) fun rv os => rv = .int .i64 0 ∧ ∃ X', DemOk X' ∧ os = dmO X' ∧ X'.ds = D2 := by
    intro X hX hd
    have h0 := a7x (w0 := w0) (base := base) (at' := 0) (t := getL) hX (by decide)
    rw [hd, f2] at h0
    exact h0
  have hP1 : ∀ X, DemOk X → X.ds = D2 → ACalls (EE w0 base) 13 [.op 0 0, .int .i64 0] (dmO X) fun rv os => rv = .tup [.agg (atC a), .int .i64 0] ∧ ∃ X', DemOk X' ∧ os = dmO X' ∧ X'.ds = D3 := by
    intro X hX hd
    have h0 := b3l (w0 := w0) (base := base) (at' := 0) hG hX
    unfold PkR at h0
    rw [hd, f3] at h0
    exact h0
  have hW : ∀ X, DemOk X → X.ds = D3 → ACalls (EE w0 base) 16 [.op 0 0, .int .i64 0, .agg (rpC rp18)] (dmO X) fun rv os => rv = .int .i64 0 ∧ ∃ X', DemOk X' ∧ os = dmO X' ∧ X'.ds = D4 := by
    intro X hX hd
    have h0 := a7y (w0 := w0) (base := base) (at' := 0) (r := rp18) hX c0n (by decide)
    rw [hd, f4] at h0
    exact h0
  have hP2 : ∀ X, DemOk X → X.ds = D4 → ACalls (EE w0 base) 13 [.op 0 0, .int .i64 0] (dmO X) fun rv os => rv = .tup [.agg (atC b), .int .i64 0] ∧ ∃ X', DemOk X' ∧ os = dmO X' ∧ X'.ds = D5 := by
    intro X hX hd
    have h0 := b3l (w0 := w0) (base := base) (at' := 0) hG hX
    unfold PkR at h0
    rw [hd, f5] at h0
    exact h0
  have hU : ∀ X, DemOk X → X.ds = D5 → ACalls (EE w0 base) 19 [.op 0 0, .int .i64 0] (dmO X) fun rv os => rv = .int .i64 1 ∧ os = dmO X := by
    intro X hX hd
    have h0 := a4b (w0 := w0) (base := base) (at' := 0) hX
    rw [hd, f6] at h0
    exact h0
  obtain ⟨ak, ao, acl, au, atk, an, aw, rq⟩ := a
  obtain ⟨bk, bo, bcl, bu, btk, bn, bw, rq'⟩ := b
  dsimp only at f7 f8 f9 f10 f11 f12
  subst f7 f8 f10
  cases rq with
  | none => cases f9
  | some q =>
    obtain ⟨h, bd⟩ := q
    cases rq' with
    | some q' => cases f11
    | none =>
      refine a1e Tryz.func9 rfl rfl rfl .nil ?_
      repeat' (first|(first|(refine a0d ?_;refine a0q [] rfl rfl hN ?_ ?_ rfl rfl ?_;(focus ((repeat constructor);done));(focus ((repeat constructor);done));rintro _ _ ⟨rfl,rfl⟩;refine ⟨_,_,by repeat constructor,by repeat constructor,?_⟩;refine a4a (.hp0 (by repeat constructor)) ?_)|(refine a0d ?_;refine a0q [2,0,1,3] rfl rfl hB ?_ ?_ rfl rfl ?_;(focus ((repeat constructor);done));(focus ((repeat constructor);done));rintro _ _ ⟨rfl,X1,hX1,rfl,hd1⟩;refine ⟨_,_,by repeat constructor,by repeat constructor,?_⟩)|(refine a0d ?_;refine a0q [2,0,1,3] rfl rfl (hA X1 hX1 hd1) ?_ ?_ rfl rfl ?_;(focus ((repeat constructor);done));(focus ((repeat constructor);done));rintro _ _ ⟨rfl,X2,hX2,rfl,hd2⟩;refine ⟨_,_,by repeat constructor,by repeat constructor,?_⟩)|(refine a0d ?_;refine a0q [2,0,1,3] rfl rfl (hP1 X2 hX2 hd2) ?_ ?_ rfl rfl ?_;(focus ((repeat constructor);done));(focus ((repeat constructor);done));rintro _ _ ⟨rfl,X3,hX3,rfl,hd3⟩;refine ⟨_,_,by repeat constructor,by repeat constructor,?_⟩)|(refine a0d ?_;refine a4a (.le 30 (.agg (rpC rp18)) rfl (.agg (by repeat (first|exact .nil|refine .cons .nil ?_|refine .cons (.refl _) ?_)))) ?_;refine a0q [2,0,1,3] rfl rfl (hW X3 hX3 hd3) ?_ ?_ rfl rfl ?_;(focus ((repeat constructor);done));(focus ((repeat constructor);done));rintro _ _ ⟨rfl,X4,hX4,rfl,hd4⟩;refine ⟨_,_,by repeat constructor,by repeat constructor,?_⟩)|(refine a0d ?_;refine a0q [2,0,1,3] rfl rfl (hP2 X4 hX4 hd4) ?_ ?_ rfl rfl ?_;(focus ((repeat constructor);done));(focus ((repeat constructor);done));rintro _ _ ⟨rfl,X5,hX5,rfl,hd5⟩;refine ⟨_,_,by repeat constructor,by repeat constructor,?_⟩)|(refine a0d ?_;refine a0q [2,0,1,3] rfl rfl (hU X5 hX5 hd5) ?_ ?_ rfl rfl ?_;(focus ((repeat constructor);done));(focus ((repeat constructor);done));rintro _ _ ⟨rfl,rfl⟩;refine ⟨_,_,by repeat constructor,by repeat constructor,?_⟩)|(refine a1g ?_;first|refine a0b (a1s rfl rfl rfl (by omega)) rfl ?_|refine a0b (a1r rfl rfl rfl (by omega)) rfl ?_|refine a0b (a4t rfl rfl rfl) rfl ?_))|(refine a2i ?_;first|refine a0b (a0k rfl) rfl ?_|(refine k_g ?_;first|refine a1j rfl rfl (by with_reducible rfl) ?_|refine a1x rfl rfl (by with_reducible rfl) rfl ?_|(refine a2c rfl rfl (fun hc => ?_) (fun hc => ?_) <;> (try (exfalso;omega))))|refine a0b (a0f rfl rfl) rfl ?_|(refine a0z ?_;first|refine a0b (a0w rfl rfl) rfl ?_)|(refine a1g ?_;first|refine a0b (a1k rfl rfl rfl) rfl ?_)|(refine a1i ?_;first|refine a0b (a0j rfl (by with_reducible rfl) rfl) rfl ?_|refine a0b (a0i rfl (by with_reducible rfl) rfl) rfl ?_)|refine a0b (a0e rfl) rfl ?_|(refine a0d ?_;first|refine a0b (a0t rfl) rfl ?_)|refine a0b (a0r rfl rfl) rfl ?_|refine a0u ?_|refine a1d rfl rfl rfl (by first|exact ln4|exact ln5) (by repeat constructor) rfl ?_|refine a1a rfl rfl rfl rfl rfl (by repeat constructor) (by repeat constructor) ?_|refine a0b (a1u rfl rfl rfl (by repeat constructor)) rfl ?_)|(first|refine a1f ?_|(refine a1h ?_;first|refine a0c (a0a ?_)|refine a0c ?_|refine a0a ?_|(refine a0x ?_;first|refine a0h rfl (by with_reducible rfl) ?_)|refine a0n ?_|refine a0l ?_)))
      all_goals first
        | (refine ret1 (by first | exact .inr rfl | exact .inl rfl) rfl rfl ?_
           exact ⟨rfl, rfl⟩)
        | (exfalso; first | exact absurd rfl hc | (dsimp only at hc; omega))
abbrev at0C : List AV := [.int .i64 0, .str [], .bool false, .int .i64 0, .str [], .str [], .str [], .str [], .str [], .int .i64 0, .rs [], .str [], .rs [], .str [], .bool false]
abbrev rpZ : Rp := ⟨0, [], [], false⟩
set_option maxHeartbeats 8000000 in
theorem b0k {n : Int} {s : List UInt8} (hG : Tabs w0 base) : PCalls (EE w0 base) 7 [.int .i64 n, .str s] fun rv => rv = .bool true := by
  have hW := b2c (w0 := w0) (base := base) hG
  have hPl : PCalls (EE w0 base) 23 [.agg at0C] fun rv => rv = .agg at0C := b1t (a := at0)
  have hS : PCalls (EE w0 base) 22 [.agg at0C, .agg at0C] fun rv => rv = .bool true := b5b (a := at0) (fun h b e => by cases e)
  have hk1 : PCalls (EE w0 base) 13 [.nilp, .int .i64 n] fun rv => rv = .tup [.agg at0C, .int .i64 1] := b1u (.inl rfl)
  have hk2 : PCalls (EE w0 base) 13 [zDem, .int .i64 n] fun rv => rv = .tup [.agg at0C, .int .i64 1] := b1u (.inr rfl)
  have hc1 := a8e (w0 := w0) (base := base) (n := n) (.inl rfl)
  have hc2 := a8e (w0 := w0) (base := base) (n := n) (.inr rfl)
  have ha1 := a8f (w0 := w0) (base := base) (n := n) (t := s) (.inl rfl)
  have ha2 := a8f (w0 := w0) (base := base) (n := n) (t := s) (.inr rfl)
  have hs1 := b1r (w0 := w0) (base := base) (n := n) (.inl rfl)
  have hs2 := b1r (w0 := w0) (base := base) (n := n) (.inr rfl)
  have hw1 := a8g (w0 := w0) (base := base) (n := n) (r := rpZ) (.inl rfl)
  have hw2 := a8g (w0 := w0) (base := base) (n := n) (r := rpZ) (.inr rfl)
  have hb1 := b2b (w0 := w0) (base := base) (n := n) (t := s) (.inl rfl)
  have hb2 := b2b (w0 := w0) (base := base) (n := n) (t := s) (.inr rfl)
  have hf1 := b1z (w0 := w0) (base := base) (t := s) (.inl rfl)
  have hf2 := b1z (w0 := w0) (base := base) (t := s) (.inr rfl)
  have hu1 := b1q (w0 := w0) (base := base) (n := n) (.inl rfl)
  have hu2 := b1q (w0 := w0) (base := base) (n := n) (.inr rfl)
  have ho1 := b1v (w0 := w0) (base := base) (n := n) (.inl rfl)
  have ho2 := b1v (w0 := w0) (base := base) (n := n) (.inr rfl)
  have ht1 := a9s (w0 := w0) (base := base) (n := n) (.inl rfl)
  have ht2 := a9s (w0 := w0) (base := base) (n := n) (.inr rfl)
  have hy1 := b2a (w0 := w0) (base := base) (.inl rfl)
  have hy2 := b2a (w0 := w0) (base := base) (.inr rfl)
  refine a1e Tryz.func7 rfl rfl rfl (.cons (.cons .nil)) ?_
  repeat' (first|((refine a4a (.boxRp 13 rfl (by repeat constructor) rfl) ?_))|(refine a2i ?_;first|refine a0b (a0k rfl) rfl ?_|(refine k_g ?_;first|refine a1j rfl rfl (by with_reducible rfl) ?_|(refine a2c rfl rfl (fun hc => ?_) (fun hc => ?_) <;> (try (exfalso;omega))))|(refine a0z ?_;first|refine a0b (a0w rfl rfl) rfl ?_|refine a0b (a0m rfl rfl rfl) rfl ?_)|(refine a1g ?_;first|refine a0b (a1k rfl rfl rfl) rfl ?_|refine a0b (a1q rfl rfl (by (first|exact w64 (by omega) (by omega)|rfl))) rfl ?_)|(refine a1i ?_;first|refine a0b (a0i rfl (by with_reducible rfl) rfl) rfl ?_)|refine a0b (a0e rfl) rfl ?_|(refine a0d ?_;first|refine a0b (a3e rfl rfl rfl) rfl ?_)|refine a0b (a0r rfl rfl) rfl ?_|refine a0u ?_|refine a2n rfl rfl rfl (by first|exact ln0|exact ln1|exact ln2) (by repeat constructor) rfl ?_|refine a1d rfl rfl rfl (by first|exact ln0|exact ln1|exact ln2) (by repeat constructor) rfl ?_|refine a1a rfl rfl rfl rfl rfl (by repeat constructor) (by repeat constructor) ?_|refine a0b (a1u rfl rfl rfl (by repeat constructor)) rfl ?_|refine a2e (by rfl) (by rfl) (by rfl) (by rfl) (by decide) (by decide) (by rfl) (by rfl) (by repeat constructor) (by rfl) (by repeat constructor) (by rfl) (by first|exact ln0|exact ln1|exact ln2) (by repeat constructor) rfl ?_|refine a0b (a0y rfl (by with_reducible rfl)) rfl ?_)|(first|refine a1f ?_|(refine a1h ?_;first|refine a0c (a0a ?_)|refine a0c ?_|refine a0a ?_|(refine a0x ?_;first|refine a0h rfl (by with_reducible rfl) ?_|(refine a0s rfl (fun hc => ?_) (fun hc => ?_) <;> (try (exfalso;omega))))|refine a0p ?_|refine a0n ?_|refine a0l ?_|refine a1n ?_)|refine a1t ?_|refine a1l ?_|refine a1y ?_|refine a1m ?_))
  refine a2s (fun i : Nat => ⟨[(0, .int .i64 n), (1, .str s), (5, .os 1 0), (6, .int .i64 i)], [.gone, .row 25 1 0 0 [[.nilp], [zDem]]]⟩) (fun i => i ≤ 2) (fun i => 2 - i) 0 (.of (.same (by repeat constructor))) (Nat.zero_le _) ?_
  intro i hi
  dsimp only
  match i, hi with
  | 0, _ =>
    repeat' (first|(first|refine a0b (a5j rfl rfl rfl rfl rfl (by decide) (by decide)) rfl ?_|(refine a0d ?_;refine a0o rfl rfl rfl rfl hk1 ?_;rintro _ rfl)|(refine a0d ?_;refine a0o rfl rfl rfl rfl hc1 ?_;rintro _ rfl)|(refine a0d ?_;refine a0o rfl rfl rfl rfl ha1 ?_;rintro _ rfl)|(refine a0d ?_;refine a0o rfl rfl rfl rfl hs1 ?_;rintro _ rfl)|(refine a0d ?_;refine a0o rfl rfl rfl rfl hPl ?_;rintro _ rfl)|(refine a0d ?_;refine a4a (.le 55 (.agg at0C) rfl (.agg (by repeat (first|exact .nil|refine .cons .nil ?_|refine .cons (.refl _) ?_)))) ?_;refine a0o rfl rfl rfl rfl hS ?_;rintro _ rfl)|(refine a0d ?_;refine a4a (.le 62 (.agg (rpC rpZ)) rfl (.agg (by repeat (first|exact .nil|refine .cons .nil ?_|refine .cons (.refl _) ?_)))) ?_;refine a0o rfl rfl rfl rfl hw1 ?_;rintro _ rfl)|(refine a0d ?_;refine a0o rfl rfl rfl rfl hb1 ?_;rintro _ rfl)|(refine a0d ?_;refine a0o rfl rfl rfl rfl hf1 ?_;rintro _ rfl)|(refine a0d ?_;refine a0o rfl rfl rfl rfl hu1 ?_;rintro _ rfl)|(refine a0d ?_;refine a0o rfl rfl rfl rfl ho1 ?_;rintro _ rfl)|(refine a0d ?_;refine a0o rfl rfl rfl rfl ht1 ?_;rintro _ rfl)|(refine a0d ?_;refine a0o rfl rfl rfl rfl hy1 ?_;rintro _ rfl)|refine a0b (a3t rfl rfl) rfl ?_)|(refine a2i ?_;first|refine a0b (a0k rfl) rfl ?_|(refine k_g ?_;first|refine a1j rfl rfl (by with_reducible rfl) ?_|(refine a2c rfl rfl (fun hc => ?_) (fun hc => ?_) <;> (try (exfalso;omega))))|(refine a0z ?_;first|refine a0b (a0w rfl rfl) rfl ?_|refine a0b (a0m rfl rfl rfl) rfl ?_)|(refine a1g ?_;first|refine a0b (a1k rfl rfl rfl) rfl ?_|refine a0b (a1q rfl rfl (by (first|exact w64 (by omega) (by omega)|rfl))) rfl ?_)|(refine a1i ?_;first|refine a0b (a0i rfl (by with_reducible rfl) rfl) rfl ?_)|refine a0b (a0e rfl) rfl ?_|(refine a0d ?_;first|refine a0b (a3e rfl rfl rfl) rfl ?_)|refine a0b (a0r rfl rfl) rfl ?_|refine a0u ?_|refine a2n rfl rfl rfl (by first|exact ln0|exact ln1|exact ln2) (by repeat constructor) rfl ?_|refine a1d rfl rfl rfl (by first|exact ln0|exact ln1|exact ln2) (by repeat constructor) rfl ?_|refine a1a rfl rfl rfl rfl rfl (by repeat constructor) (by repeat constructor) ?_|refine a0b (a1u rfl rfl rfl (by repeat constructor)) rfl ?_|refine a2e (by rfl) (by rfl) (by rfl) (by rfl) (by decide) (by decide) (by rfl) (by rfl) (by repeat constructor) (by rfl) (by repeat constructor) (by rfl) (by first|exact ln0|exact ln1|exact ln2) (by repeat constructor) rfl ?_|refine a0b (a0y rfl (by with_reducible rfl)) rfl ?_)|(first|refine a1f ?_|(refine a1h ?_;first|refine a0c (a0a ?_)|refine a0c ?_|refine a0a ?_|(refine a0x ?_;first|refine a0h rfl (by with_reducible rfl) ?_|(refine a0s rfl (fun hc => ?_) (fun hc => ?_) <;> (try (exfalso;omega))))|refine a0p ?_|refine a0n ?_|refine a0l ?_|refine a1n ?_)|refine a1t ?_|refine a1l ?_|refine a1y ?_|refine a1m ?_))
    all_goals first
      | (rename_i hc; exact absurd (by decide) hc)
      | (first | refine a1o 1 (.of (.same (by repeat constructor))) ?_ ?_ | refine a1o 1 (.of (a2b [_] rfl (by repeat constructor) rfl (by repeat constructor) rfl)) ?_ ?_ | refine a1o 1 (.of (a2b [_, _] rfl (by repeat constructor) rfl (by repeat constructor) rfl)) ?_ ?_ | refine a1o 1 (.of (a2b [_, _, _] rfl (by repeat constructor) rfl (by repeat constructor) rfl)) ?_ ?_
         · decide
         · decide)
  | 1, _ =>
    repeat' (first|(first|refine a0b (a5j rfl rfl rfl rfl rfl (by decide) (by decide)) rfl ?_|(refine a0d ?_;refine a0o rfl rfl rfl rfl hk2 ?_;rintro _ rfl)|(refine a0d ?_;refine a0o rfl rfl rfl rfl hc2 ?_;rintro _ rfl)|(refine a0d ?_;refine a0o rfl rfl rfl rfl ha2 ?_;rintro _ rfl)|(refine a0d ?_;refine a0o rfl rfl rfl rfl hs2 ?_;rintro _ rfl)|(refine a0d ?_;refine a0o rfl rfl rfl rfl hPl ?_;rintro _ rfl)|(refine a0d ?_;refine a4a (.le 55 (.agg at0C) rfl (.agg (by repeat (first|exact .nil|refine .cons .nil ?_|refine .cons (.refl _) ?_)))) ?_;refine a0o rfl rfl rfl rfl hS ?_;rintro _ rfl)|(refine a0d ?_;refine a4a (.le 62 (.agg (rpC rpZ)) rfl (.agg (by repeat (first|exact .nil|refine .cons .nil ?_|refine .cons (.refl _) ?_)))) ?_;refine a0o rfl rfl rfl rfl hw2 ?_;rintro _ rfl)|(refine a0d ?_;refine a0o rfl rfl rfl rfl hb2 ?_;rintro _ rfl)|(refine a0d ?_;refine a0o rfl rfl rfl rfl hf2 ?_;rintro _ rfl)|(refine a0d ?_;refine a0o rfl rfl rfl rfl hu2 ?_;rintro _ rfl)|(refine a0d ?_;refine a0o rfl rfl rfl rfl ho2 ?_;rintro _ rfl)|(refine a0d ?_;refine a0o rfl rfl rfl rfl ht2 ?_;rintro _ rfl)|(refine a0d ?_;refine a0o rfl rfl rfl rfl hy2 ?_;rintro _ rfl)|refine a0b (a3t rfl rfl) rfl ?_)|(refine a2i ?_;first|refine a0b (a0k rfl) rfl ?_|(refine k_g ?_;first|refine a1j rfl rfl (by with_reducible rfl) ?_|(refine a2c rfl rfl (fun hc => ?_) (fun hc => ?_) <;> (try (exfalso;omega))))|(refine a0z ?_;first|refine a0b (a0w rfl rfl) rfl ?_|refine a0b (a0m rfl rfl rfl) rfl ?_)|(refine a1g ?_;first|refine a0b (a1k rfl rfl rfl) rfl ?_|refine a0b (a1q rfl rfl (by (first|exact w64 (by omega) (by omega)|rfl))) rfl ?_)|(refine a1i ?_;first|refine a0b (a0i rfl (by with_reducible rfl) rfl) rfl ?_)|refine a0b (a0e rfl) rfl ?_|(refine a0d ?_;first|refine a0b (a3e rfl rfl rfl) rfl ?_)|refine a0b (a0r rfl rfl) rfl ?_|refine a0u ?_|refine a2n rfl rfl rfl (by first|exact ln0|exact ln1|exact ln2) (by repeat constructor) rfl ?_|refine a1d rfl rfl rfl (by first|exact ln0|exact ln1|exact ln2) (by repeat constructor) rfl ?_|refine a1a rfl rfl rfl rfl rfl (by repeat constructor) (by repeat constructor) ?_|refine a0b (a1u rfl rfl rfl (by repeat constructor)) rfl ?_|refine a2e (by rfl) (by rfl) (by rfl) (by rfl) (by decide) (by decide) (by rfl) (by rfl) (by repeat constructor) (by rfl) (by repeat constructor) (by rfl) (by first|exact ln0|exact ln1|exact ln2) (by repeat constructor) rfl ?_|refine a0b (a0y rfl (by with_reducible rfl)) rfl ?_)|(first|refine a1f ?_|(refine a1h ?_;first|refine a0c (a0a ?_)|refine a0c ?_|refine a0a ?_|(refine a0x ?_;first|refine a0h rfl (by with_reducible rfl) ?_|(refine a0s rfl (fun hc => ?_) (fun hc => ?_) <;> (try (exfalso;omega))))|refine a0p ?_|refine a0n ?_|refine a0l ?_|refine a1n ?_)|refine a1t ?_|refine a1l ?_|refine a1y ?_|refine a1m ?_))
    all_goals first
      | (rename_i hc; exact absurd (by decide) hc)
      | (first | refine a1o 2 (.of (.same (by repeat constructor))) ?_ ?_ | refine a1o 2 (.of (a2b [_] rfl (by repeat constructor) rfl (by repeat constructor) rfl)) ?_ ?_ | refine a1o 2 (.of (a2b [_, _] rfl (by repeat constructor) rfl (by repeat constructor) rfl)) ?_ ?_ | refine a1o 2 (.of (a2b [_, _, _] rfl (by repeat constructor) rfl (by repeat constructor) rfl)) ?_ ?_
         · decide
         · decide)
  | 2, _ =>
    repeat' (first|((refine a0d ?_;refine a0o rfl rfl rfl rfl hW ?_;rintro _ rfl))|(refine a2i ?_;first|refine a0b (a0k rfl) rfl ?_|(refine k_g ?_;first|refine a1j rfl rfl (by with_reducible rfl) ?_|(refine a2c rfl rfl (fun hc => ?_) (fun hc => ?_) <;> (try (exfalso;omega))))|(refine a0z ?_;first|refine a0b (a0w rfl rfl) rfl ?_|refine a0b (a0m rfl rfl rfl) rfl ?_)|(refine a1g ?_;first|refine a0b (a1k rfl rfl rfl) rfl ?_|refine a0b (a1q rfl rfl (by (first|exact w64 (by omega) (by omega)|rfl))) rfl ?_)|(refine a1i ?_;first|refine a0b (a0i rfl (by with_reducible rfl) rfl) rfl ?_)|refine a0b (a0e rfl) rfl ?_|(refine a0d ?_;first|refine a0b (a3e rfl rfl rfl) rfl ?_)|refine a0b (a0r rfl rfl) rfl ?_|refine a0u ?_|refine a2n rfl rfl rfl (by first|exact ln0|exact ln1|exact ln2) (by repeat constructor) rfl ?_|refine a1d rfl rfl rfl (by first|exact ln0|exact ln1|exact ln2) (by repeat constructor) rfl ?_|refine a1a rfl rfl rfl rfl rfl (by repeat constructor) (by repeat constructor) ?_|refine a0b (a1u rfl rfl rfl (by repeat constructor)) rfl ?_|refine a2e (by rfl) (by rfl) (by rfl) (by rfl) (by decide) (by decide) (by rfl) (by rfl) (by repeat constructor) (by rfl) (by repeat constructor) (by rfl) (by first|exact ln0|exact ln1|exact ln2) (by repeat constructor) rfl ?_|refine a0b (a0y rfl (by with_reducible rfl)) rfl ?_)|(first|refine a1f ?_|(refine a1h ?_;first|refine a0c (a0a ?_)|refine a0c ?_|refine a0a ?_|(refine a0x ?_;first|refine a0h rfl (by with_reducible rfl) ?_|(refine a0s rfl (fun hc => ?_) (fun hc => ?_) <;> (try (exfalso;omega))))|refine a0p ?_|refine a0n ?_|refine a0l ?_|refine a1n ?_)|refine a1t ?_|refine a1l ?_|refine a1y ?_|refine a1m ?_))
    all_goals first
      | (rename_i hc; exact absurd hc (by decide))
      | (refine ret1 (by first | exact .inr rfl | exact .inl rfl) rfl rfl ?_
         exact ⟨rfl, rfl⟩)
end
end Go.Proofs.YtkljmljkiodnpaaGreatDoor.L

namespace Go.Proofs.YtkljmljkiodnpaaGreatDoor.L
open Go Go.RowKit Go.Proofs Go.ChangeShapes Go.WideShapes Go.ChangeAt
attribute [local irreducible] AL QL AWp Thn InB RetQ ACalls LoopQ
theorem rowOwn : ownKnob Tryz.prog.godebug = none := by kernel_rfl
theorem rowLaid : laidOutB Tryz.prog = true := by kernel_rfl
theorem c3r {W : World} (h : W.ShapedOpen Tryz.prog) : Glob W W.heap.size := by
  obtain ⟨m, hm⟩ := cell_of_shapedOpen_int (P := Tryz.prog) (g := 0) (t := 3) (zero := #[.int .i64 0]) (k := .i64) h (of_decide_eq_true (by kernel_rfl)) (by kernel_rfl) (by kernel_rfl) (by kernel_rfl) (by kernel_rfl) (by kernel_rfl)
  refine ⟨?_, m, hm⟩
  by_cases h0 : 0 < W.heap.size
  · exact h0
  · exfalso
    have : W.heap[0]? = none := by rw [Array.getElem?_eq_none_iff]; omega
    simp [World.cell?, this] at hm
theorem gES : Tryz.prog.globalNamed "strconv.ErrSyntax" = some 1 := by kernel_rfl
theorem gER : Tryz.prog.globalNamed "strconv.ErrRange" = some 2 := by kernel_rfl
theorem gPow : Tryz.prog.globalNamed "internal/strconv.uint64pow10" = some 3 := by kernel_rfl
theorem gESType : (Tryz.prog.globals[1]?).map (·.type) = some 130 := by kernel_rfl
theorem gERType : (Tryz.prog.globals[2]?).map (·.type) = some 130 := by kernel_rfl
theorem starErr : "*" ++ "errors.errorString" = "*errors.errorString" := by decide
theorem rowErr (u : TypeId) (h : Tryz.prog.typeName? 3 u = some "*errors.errorString") : u = 223 :=
  typeName_ptr_named (nm := "errors.errorString") (by rw [starErr]; kernel_rfl) (by kernel_rfl) (by decide) u (by rw [starErr]; exact h)
abbrev powL : List (String × DataW Unit) := [("internal/strconv.uint64pow10", Lib.tabData .u64 Lib.pow10Tab)]
abbrev esL : List (String × DataW Unit) := [("strconv.ErrSyntax", .iface "*errors.errorString" (.ptr (.agg [.lit (.string [105, 110, 118, 97, 108, 105, 100, 32, 115, 121, 110, 116, 97, 120])])))]
abbrev erL : List (String × DataW Unit) := [("strconv.ErrRange", .iface "*errors.errorString" (.ptr (.agg [.lit (.string [118, 97, 108, 117, 101, 32, 111, 117, 116, 32, 111, 102, 32, 114, 97, 110, 103, 101])])))]
theorem b7h {W : World} {l : List (String × DataW Unit)} (h : W.ShapedOpen Tryz.prog) (hL : laidMet Tryz.prog l W) (h1 : l.filter (fun x => x.1 == "internal/strconv.uint64pow10") = powL) (h2 : l.filter (fun x => x.1 == "strconv.ErrSyntax") = esL) (h3 : l.filter (fun x => x.1 == "strconv.ErrRange") = erL) : Tabs W W.heap.size := by
  have f1 := hL.filter (fun x => x.1 == "internal/strconv.uint64pow10")
  have f2 := hL.filter (fun x => x.1 == "strconv.ErrSyntax")
  have f3 := hL.filter (fun x => x.1 == "strconv.ErrRange")
  rw [h1] at f1
  rw [h2] at f2
  rw [h3] at f3
  obtain ⟨a0, s0, hv0, -, -, -⟩ := laid_sentinel f2 gES gESType Tryz.underlying130 rowErr Tryz.underlying223 Tryz.underlying225 rfl rfl Tryz.underlying9 (by kernel_rfl) (by kernel_rfl)
  obtain ⟨a1, s1, hv1, -, -, -⟩ := laid_sentinel f3 gER gERType Tryz.underlying130 rowErr Tryz.underlying223 Tryz.underlying225 rfl rfl Tryz.underlying9 (by kernel_rfl) (by kernel_rfl)
  have c0 : W.cell? ⟨1, 0, none⟩ = some (.iface 223 (.pointer (some a0))) := by have h0 := World.var?_cell gES hv0 0; simpa using h0
  have c1 : W.cell? ⟨2, 0, none⟩ = some (.iface 223 (.pointer (some a1))) := by have h0 := World.var?_cell gER hv1 0; simpa using h0
  have hT : Lib.TabIs Tryz.prog W "internal/strconv.uint64pow10" .u64 Lib.pow10Tab := Lib.tabIs_of_head (g := (Tryz.prog.globalNamed "internal/strconv.uint64pow10").getD 0) (t := ((Tryz.prog.globals[(Tryz.prog.globalNamed "internal/strconv.uint64pow10").getD 0]?).map (·.type)).getD 0) (e := 207) (n := 20) (by kernel_rfl) (by kernel_rfl) (by kernel_rfl) (by kernel_rfl) (by kernel_rfl) (by kernel_rfl) f1
  have c2 := hT.cell gPow 0 (by decide)
  refine ⟨c3r h, ?_, ⟨_, _, c0⟩, ⟨_, _, c1⟩, hT⟩
  by_cases h0 : 4 ≤ W.heap.size
  · exact h0
  · exfalso
    have : W.heap[3]? = none := by rw [Array.getElem?_eq_none_iff]; omega
    simp [World.cell?, this] at c2
end Go.Proofs.YtkljmljkiodnpaaGreatDoor.L
