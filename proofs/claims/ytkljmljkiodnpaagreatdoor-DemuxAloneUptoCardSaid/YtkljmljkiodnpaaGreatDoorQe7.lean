/- Part 7 of the texts behind the theorem of this claim: Layer 18 (demux): connections of one user beside those of others, plain; Layer 18 (demux): the law DemuxAlone; What rows of layer 18 hand in: scripts -/
import Derived.Test.YtkljmljkiodnpaaGreatDoorQe6
set_option linter.unusedVariables false
set_option linter.unusedSimpArgs false
set_option maxRecDepth 100000
namespace Go.Proofs.YtkljmljkiodnpaaGreatDoor.L
open Go Go.RowKit Go.Proofs

theorem a5a (j k : Int) (c : Cn) : ∀ (l : List (Int × Cn)), lget j (lset k c l) = if j = k then some c else lget j l := by
  intro l
  induction l with
  | nil =>
    rfl
  | cons p l ih =>
    rw [lset]
    by_cases h : k = p.1
    · rw [if_pos h, lget, lget]
      by_cases h2 : j = p.1
      · rw [if_pos h2, if_pos (h2.trans h.symm)]
      · rw [if_neg h2, if_neg (fun e => h2 (e.trans h)), if_neg h2]
    · rw [if_neg h, lget, lget, ih]
      by_cases h2 : j = p.1
      · rw [if_pos h2, if_pos h2, if_neg (fun e => h (e.symm.trans h2))]
      · rw [if_neg h2, if_neg h2]
theorem c0z {k : Int} {c : Cn} {p : Int × Cn} : ∀ {l : List (Int × Cn)}, p ∈ lset k c l → p ∈ l ∨ p = (k, c) := by
  intro l
  induction l with
  | nil => intro h; rw [lset] at h; exact .inr (List.mem_singleton.1 h)
  | cons q l ih =>
    intro h
    rw [lset] at h
    split at h
    · rename_i e
      rcases List.mem_cons.1 h with rfl | h
      · exact .inr (by rw [e])
      · exact .inl (List.mem_cons_of_mem _ h)
    · rcases List.mem_cons.1 h with rfl | h
      · exact .inl List.mem_cons_self
      · rcases ih h with h | h
        · exact .inl (List.mem_cons_of_mem _ h)
        · exact .inr h
theorem b5l {k : Int} {c : Cn} : ∀ {l : List (Int × Cn)}, lget k l = some c → (k, c) ∈ l := by
  intro l
  induction l with
  | nil => intro h; cases h
  | cons p l ih =>
    intro h
    rw [lget] at h
    split at h
    · rename_i e
      injection h with h
      rw [e, ← h]
      exact List.mem_cons_self
    · exact List.mem_cons_of_mem _ (ih h)
def ss2 : List (List UInt8 × Int) := [([116], 0), ([117], 1)]
structure Fix (D : DS) : Prop where
  users : D.users = 2
  conns : D.conns = 4
  asks : D.asks = 4
  ss : D.ss = ss2
  keys : ∀ p ∈ D.l, 0 ≤ p.1 ∧ p.1 < 4
  nd : (D.l.map (·.1)).Nodup
def D20 : DS := ⟨2, 4, 4, [], ss2⟩
theorem Fix.len {D : DS} (h : Fix D) : D.l.length ≤ 4 := by
  have := a8o 4 (D.l.map (·.1)) h.nd (fun x hx => by
    obtain ⟨p, hp, rfl⟩ := List.mem_map.1 hx
    exact h.keys p hp)
  rwa [List.length_map] at this
theorem a8t {α : Type} {p : α → Bool} : ∀ {l : List α} {x : α}, x ∈ l → p x = false → (l.filter p).length < l.length := by
  intro l
  induction l with
  | nil => intro x h; cases h
  | cons y l ih =>
    intro x h hx
    have hle := List.length_filter_le p l
    rw [List.filter_cons, List.length_cons]
    rcases List.mem_cons.1 h with rfl | h
    · rw [hx, if_neg (by decide)]
      omega
    · have := ih h hx
      split
      · rw [List.length_cons]; omega
      · omega
theorem c1m (u : Int) : cntC [] u = 0 := rfl
theorem c1n (u : Int) : cntA [] u = 0 := rfl
theorem c0h {t : List UInt8} {u : Int} (h : sget t ss2 = some u) : u = 0 ∨ u = 1 := by
  have := b0i h
  unfold ss2 at this
  simp only [List.mem_cons, List.not_mem_nil, or_false, Prod.mk.injEq] at this
  rcases this with ⟨_, h⟩ | ⟨_, h⟩
  · exact .inl h
  · exact .inr h
theorem b0r {D : DS} {k : Int} {c c2 : Cn} {h : Hd} {b : List UInt8} (hF : Fix D) (hm : (k, c) ∈ D.l) (hw : c.waits = false) (hu : c2.user = c.user) : requestC D c2 h b = requestC D20 c2 h b := by
  have hlen := hF.len
  unfold requestC
  rw [hF.ss, hF.conns, hF.asks]
  show _ = (if h.m = postS ∧ tgtP h.t = loginS then loginC c2 h b
    else match sget (tokenS h) ss2 with
      | none => emitsC c2 (plR 401 (closesS h))
      | some u => if c2.user ≠ -1 ∧ c2.user ≠ u then emitsC c2 (plR 403 (closesS h))
        else if c2.user = -1 ∧ (4 : Int) ≤ (cntC [] u : Nat) then emitsC c2 (plR 503 true)
        else if h.m = postS ∧ tgtP h.t = logoutS then handsC { c2 with user := u } (closesS h) (-1) { at0 with kind := 3, token := tokenS h, user := u }
        else if (4 : Int) ≤ (cntA [] u : Nat) then emitsC { c2 with user := u } (plR 503 (closesS h))
        else handsC { c2 with user := u } (closesS h) u { at0 with kind := 4, user := u, rq := some (h, b) })
  by_cases h1 : h.m = postS ∧ tgtP h.t = loginS
  · rw [if_pos h1, if_pos h1]
  rw [if_neg h1, if_neg h1]
  cases hq : sget (tokenS h) ss2 with
  | none => rfl
  | some u =>
    dsimp only
    by_cases h2 : c2.user ≠ -1 ∧ c2.user ≠ u
    · rw [if_pos h2, if_pos h2]
    rw [if_neg h2, if_neg h2]
    have hu2 := c0h hq
    have h3 : ¬ (c2.user = -1 ∧ (4 : Int) ≤ (cntC D.l u : Nat)) := by
      rintro ⟨a1, a2⟩
      have := a8t (p := fun e : Int × Cn => !e.2.closed && decide (e.2.user = u)) hm (by
        have : ¬ c.user = u := by rw [← hu, a1]; omega
        simp only [Bool.and_eq_false_iff, decide_eq_false_iff_not]
        exact .inr this)
      unfold cntC at a2
      omega
    have h4 : ¬ (c2.user = -1 ∧ (4 : Int) ≤ (cntC [] u : Nat)) := by
      rw [c1m]
      omega
    rw [if_neg h3, if_neg h4]
    by_cases h5 : h.m = postS ∧ tgtP h.t = logoutS
    · rw [if_pos h5, if_pos h5]
    rw [if_neg h5, if_neg h5]
    have h6 : ¬ (4 : Int) ≤ (cntA D.l u : Nat) := by
      intro a2
      have := a8t (p := fun e : Int × Cn => e.2.waits && decide (e.2.asks = u)) hm (by
        show (c.waits && _) = false
        rw [hw]
        rfl)
      unfold cntA at a2
      omega
    have h7 : ¬ (4 : Int) ≤ (cntA [] u : Nat) := by
      rw [c1n]
      omega
    rw [if_neg h6, if_neg h7]
theorem a9v {D : DS} {k : Int} {c : Cn} (hF : Fix D) (hm : (k, c) ∈ D.l) : pickC D c = pickC D20 c := by
  cases ha : c.ans with
  | some r =>
    unfold pickC
    rw [ha]
  | none =>
    rw [a5o ha, a5o ha]
    by_cases h1 : c.waits = true
    · rw [if_pos h1, if_pos h1]
    rw [if_neg h1, if_neg h1]
    by_cases h2 : c.lost = true
    · rw [if_pos h2, if_pos h2]
    rw [if_neg h2, if_neg h2]
    by_cases h3 : c.st ≠ 0
    · rw [if_pos h3, if_pos h3]
    rw [if_neg h3, if_neg h3]
    cases nextL c.s with
    | more => rfl
    | bad st => rfl
    | got h b k => exact b0r hF hm (by simpa using h1) rfl
def One (A A' : DS) (k : Int) : Prop := A' = A ∨ ∃ c, A' = { A with l := lset k c A.l }
def Both (A A' B B' : DS) (k : Int) : Prop := (A' = A ∧ B' = B) ∨ ∃ c, A' = { A with l := lset k c A.l } ∧ B' = { B with l := lset k c B.l }
theorem a7h {A B : DS} {k : Int} (t : List UInt8) (h : lget k A.l = lget k B.l) : (arriveD A k t).2 = (arriveD B k t).2 ∧ Both A (arriveD A k t).1 B (arriveD B k t).1 k := by
  unfold arriveD
  rw [h]
  by_cases h1 : inAt k ∧ t.length ≤ 65536
  · rw [if_pos h1, if_pos h1]
    by_cases h2 : ((lget k B.l).getD cn0).closed = true
    · rw [if_pos h2, if_pos h2]
      exact ⟨rfl, .inl ⟨rfl, rfl⟩⟩
    · rw [if_neg h2, if_neg h2]
      exact ⟨rfl, .inr ⟨_, rfl, rfl⟩⟩
  · rw [if_neg h1, if_neg h1]
    exact ⟨rfl, .inl ⟨rfl, rfl⟩⟩
theorem a9r {A B : DS} {k : Int} (h : lget k A.l = lget k B.l) : (shutD A k).2 = (shutD B k).2 ∧ Both A (shutD A k).1 B (shutD B k).1 k := by
  unfold shutD
  rw [h]
  by_cases h1 : inAt k
  · rw [if_pos h1, if_pos h1]
    cases lget k B.l with
    | none => exact ⟨rfl, .inl ⟨rfl, rfl⟩⟩
    | some c =>
      dsimp only
      by_cases h2 : c.closed = true
      · rw [if_pos h2, if_pos h2]
        exact ⟨rfl, .inl ⟨rfl, rfl⟩⟩
      · rw [if_neg h2, if_neg h2]
        exact ⟨rfl, .inr ⟨_, rfl, rfl⟩⟩
  · rw [if_neg h1, if_neg h1]
    exact ⟨rfl, .inl ⟨rfl, rfl⟩⟩
theorem a7i {A B : DS} {k : Int} (r : Rp) (h : lget k A.l = lget k B.l) : (answerD A k r).2 = (answerD B k r).2 ∧ Both A (answerD A k r).1 B (answerD B k r).1 k := by
  unfold answerD
  rw [h]
  by_cases h1 : inAt k
  · rw [if_pos h1, if_pos h1]
    cases lget k B.l with
    | none => exact ⟨rfl, .inl ⟨rfl, rfl⟩⟩
    | some c =>
      dsimp only
      by_cases h2 : c.waits = true
      · rw [if_pos h2, if_pos h2]
        exact ⟨rfl, .inr ⟨_, rfl, rfl⟩⟩
      · rw [if_neg h2, if_neg h2]
        exact ⟨rfl, .inl ⟨rfl, rfl⟩⟩
  · rw [if_neg h1, if_neg h1]
    exact ⟨rfl, .inl ⟨rfl, rfl⟩⟩
theorem a9u {A B : DS} {k : Int} (hA : Fix A) (hB : Fix B) (h : lget k A.l = lget k B.l) : (pickD A k).2 = (pickD B k).2 ∧ Both A (pickD A k).1 B (pickD B k).1 k := by
  unfold pickD
  by_cases h1 : inAt k
  · rw [if_pos h1, if_pos h1]
    cases hb : lget k B.l with
    | none =>
      rw [hb] at h
      rw [h]
      exact ⟨rfl, .inl ⟨rfl, rfl⟩⟩
    | some c =>
      rw [hb] at h
      rw [h]
      dsimp only
      by_cases h2 : c.closed = true
      · rw [if_pos h2, if_pos h2]
        exact ⟨rfl, .inl ⟨rfl, rfl⟩⟩
      · rw [if_neg h2, if_neg h2, a9v hA (b5l h), a9v hB (b5l hb)]
        exact ⟨rfl, .inr ⟨_, rfl, rfl⟩⟩
  · rw [if_neg h1, if_neg h1]
    exact ⟨rfl, .inl ⟨rfl, rfl⟩⟩
theorem Both.self {A A' A'' : DS} {k : Int} (h : Both A A' A A'' k) (e : A'' = A') : One A A' k := by
  rcases h with ⟨h, _⟩ | ⟨c, h, _⟩
  · exact .inl h
  · exact .inr ⟨c, h⟩
theorem b4j (A : DS) (k : Int) (t : List UInt8) : One A (arriveD A k t).1 k := (a7h t rfl).2.self rfl
theorem b7m (A : DS) (k : Int) : One A (shutD A k).1 k := (a9r rfl).2.self rfl
theorem b4k (A : DS) (k : Int) (r : Rp) : One A (answerD A k r).1 k := (a7i r rfl).2.self rfl
theorem b8b {A : DS} (hA : Fix A) (k : Int) : One A (pickD A k).1 k := (a9u hA hA rfl).2.self rfl
theorem b8o (k : Int) (c : Cn) : ∀ (l : List (Int × Cn)), (lset k c l).map (·.1) = l.map (·.1) ∨ (k ∉ l.map (·.1) ∧ (lset k c l).map (·.1) = l.map (·.1) ++ [k]) := by
  intro l
  induction l with
  | nil => exact .inr ⟨by simp, rfl⟩
  | cons p l ih =>
    rw [lset]
    by_cases h : k = p.1
    · rw [if_pos h]
      exact .inl rfl
    · rw [if_neg h]
      rcases ih with ih | ⟨i1, i2⟩
      · left
        rw [List.map_cons, List.map_cons, ih]
      · right
        refine ⟨?_, ?_⟩
        · rw [List.map_cons, List.mem_cons]
          rintro (e | e)
          · exact h e
          · exact i1 e
        · rw [List.map_cons, List.map_cons, i2]
          rfl
theorem Fix.lset {D : DS} {k : Int} {c : Cn} (h : Fix D) (hk : 0 ≤ k ∧ k < 4) : Fix { D with l := lset k c D.l } := by
  refine ⟨h.users, h.conns, h.asks, h.ss, fun p hp => ?_, ?_⟩
  · rcases c0z hp with hp | rfl
    · exact h.keys p hp
    · exact hk
  · show ((L.lset k c D.l).map (·.1)).Nodup
    rcases b8o k c D.l with e | ⟨e1, e2⟩
    · rw [e]; exact h.nd
    · rw [e2, List.nodup_append]
      refine ⟨h.nd, by simp, fun a ha b hb => ?_⟩
      rw [List.mem_singleton.1 hb]
      exact fun e => e1 (e ▸ ha)
theorem Fix.one {A A' : DS} {k : Int} (h : Fix A) (hk : 0 ≤ k ∧ k < 4) (ho : One A A' k) : Fix A' := by
  rcases ho with rfl | ⟨c, rfl⟩
  · exact h
  · exact h.lset hk
structure Alike (A B : DS) : Prop where
  a : Fix A
  b : Fix B
  zero : lget 0 A.l = lget 0 B.l
  one : lget 1 A.l = lget 1 B.l
theorem Alike.at {A B : DS} (h : Alike A B) {k : Int} (h0 : 0 ≤ k) (h1 : k ≤ 1) : lget k A.l = lget k B.l := by
  have : k = 0 ∨ k = 1 := by omega
  rcases this with rfl | rfl
  · exact h.zero
  · exact h.one
theorem Alike.left {A A' B : DS} {k : Int} (h : Alike A B) (h1 : 1 < k) (h3 : k ≤ 3) (ho : One A A' k) : Alike A' B := by
  refine ⟨h.a.one ⟨by omega, by omega⟩ ho, h.b, ?_, ?_⟩
  · rcases ho with rfl | ⟨c, rfl⟩
    · exact h.zero
    · show lget 0 (lset k c A.l) = _
      rw [a5a, if_neg (by omega)]
      exact h.zero
  · rcases ho with rfl | ⟨c, rfl⟩
    · exact h.one
    · show lget 1 (lset k c A.l) = _
      rw [a5a, if_neg (by omega)]
      exact h.one
theorem Alike.both {A A' B B' : DS} {k : Int} (h : Alike A B) (h0 : 0 ≤ k) (h1 : k ≤ 1) (ho : Both A A' B B' k) : Alike A' B' := by
  rcases ho with ⟨rfl, rfl⟩ | ⟨c, rfl, rfl⟩
  · exact h
  · refine ⟨h.a.lset ⟨h0, by omega⟩, h.b.lset ⟨h0, by omega⟩, ?_, ?_⟩
    · show lget 0 (lset k c A.l) = lget 0 (lset k c B.l)
      rw [a5a, a5a, h.zero]
    · show lget 1 (lset k c A.l) = lget 1 (lset k c B.l)
      rw [a5a, a5a, h.one]
theorem Alike.user {A B : DS} (h : Alike A B) {k : Int} (h0 : 0 ≤ k) (h1 : k ≤ 1) : userD A k = userD B k := by
  unfold userD
  rw [h.at h0 h1]
theorem c3g {D : DS} {k : Int} : AtB (pickD D k).2.1 := by
  intro h b e
  have hC : ∀ c : Cn, (pickC D c).2.rq = some (h, b) → GoodH h := by
    intro c e
    cases ha : c.ans with
    | some r =>
      unfold pickC at e
      rw [ha] at e
      cases e
    | none =>
      rw [a5o ha] at e
      split at e
      · cases e
      split at e
      · cases e
      split at e
      · cases e
      have hf := a8p c.s
      revert e hf
      cases nextL c.s with
      | more => intro e; cases e
      | bad st => intro e; cases e
      | got h' b' k' =>
        intro e hf
        have hg : GoodH h' := hf.1
        have : (requestC D { c with s := c.s.drop k' } h' b').2.rq = none ∨ (requestC D { c with s := c.s.drop k' } h' b').2.rq = some (h', b') := by
          unfold requestC loginC emitsC handsC
          repeat' (first | exact .inl rfl | exact .inr rfl | split)
        dsimp only at e
        rcases this with k1 | k1
        · rw [k1] at e; cases e
        · rw [k1] at e
          injection e with e
          injection e with e1 e2
          rw [← e1]
          exact hg
  unfold pickD at e
  split at e
  · split at e
    · cases e
    · split at e
      · cases e
      · exact c4s (hC _ e)
  · cases e
end Go.Proofs.YtkljmljkiodnpaaGreatDoor.L

namespace Go.Proofs.YtkljmljkiodnpaaGreatDoor.L
open Go Go.RowKit Go.Proofs
attribute [local irreducible] AL QL AWp Thn InB RetQ ACalls LoopQ HL HO HW HQ NoG JmpQ MidQ HF

structure Op18 where
  kd : Int
  at' : Int
  us : Int
  tx : List UInt8
  r : Rp
abbrev opC (o : Op18) : List AV := [.int .i64 o.kd, .int .i64 o.at', .int .i64 o.us, .str o.tx, .int .i64 o.r.st, .rs (o.r.fs.map prAV), .str o.r.body, .bool o.r.cl]
structure OpFit (o : Op18) : Prop where
  tx : o.tx.length ≤ 140737488351232
  r : RpFit o.r
  fs : o.r.fs.length * 32 ≤ 140737488355328
abbrev sidT : List UInt8 := [115, 105, 100, 61, 116]
abbrev sidU : List UInt8 := [115, 105, 100, 61, 117]
theorem ln8 {α : Type} {a b c d e f g h : α} : [a, b, c, d, e, f, g, h].length = 8 := rfl
theorem ln9 {α : Type} {a b c d e f g h i : α} : [a, b, c, d, e, f, g, h, i].length = 9 := rfl
theorem ln10 {α : Type} {a b c d e f g h i j : α} : [a, b, c, d, e, f, g, h, i, j].length = 10 := rfl
section
variable {w0 : World} {base : Nat}
theorem b4x {s t : List UInt8} (hs : s.length ≤ 140737488351232) (ht : t.length ≤ 1099511627776) : PCalls (EE w0 base) 20 [.str s, .str t] fun rv => ∃ v, rv = .bool v := by
  refine a1e Tryz.func20 rfl rfl rfl (.cons (.cons .nil)) ?_
  repeat' (first|(refine a2i ?_;first|refine a0b (a0k rfl) rfl ?_|(refine a1g ?_;first|refine a0b (a1q rfl rfl (by (first|exact w64 (by omega) (by omega)|rfl))) rfl ?_|refine a0b (a3a rfl rfl) rfl ?_)|refine a0b (a0e rfl) rfl ?_|(refine a0d ?_;first|refine a0b (a0t rfl) rfl ?_)|refine a0u ?_)|(first|refine a1f ?_|(refine a1h ?_;first|refine a0c (a0a ?_)|refine a0c ?_|refine a0a ?_|(refine a0x ?_;first|refine a0g rfl (by with_reducible rfl) ?_|refine a0h rfl (by with_reducible rfl) ?_|(refine a0s rfl (fun hc => ?_) (fun hc => ?_) <;> (try (exfalso;omega))))|refine a0p ?_|refine a0n ?_|refine a0l ?_|refine a1n ?_)|refine a0v ?_|refine a1t ?_|refine a2m ?_|refine a1l ?_|refine a1y ?_|refine a1c ?_|refine a1m ?_))
  refine a2s (fun i : Nat => ⟨[(0, .str s), (1, .str t), (5, .int .i64 i)], []⟩) (fun i => i ≤ s.length + 1) (fun i => s.length + 1 - i) 0 (.of (.same (by repeat constructor))) (Nat.zero_le _) ?_
  intro i hi
  dsimp only
  by_cases hlt : i + t.length ≤ s.length
  · repeat' (first|(first|refine a0b (a6g rfl rfl rfl (by omega) (by omega) (by omega)) rfl ?_|(refine a1g ?_;first|refine a0b (a1s rfl rfl rfl (by omega)) rfl ?_))|(refine a2i ?_;first|refine a0b (a0k rfl) rfl ?_|(refine a1g ?_;first|refine a0b (a1q rfl rfl (by (first|exact w64 (by omega) (by omega)|rfl))) rfl ?_|refine a0b (a3a rfl rfl) rfl ?_)|refine a0b (a0e rfl) rfl ?_|(refine a0d ?_;first|refine a0b (a0t rfl) rfl ?_)|refine a0u ?_)|(first|refine a1f ?_|(refine a1h ?_;first|refine a0c (a0a ?_)|refine a0c ?_|refine a0a ?_|(refine a0x ?_;first|refine a0g rfl (by with_reducible rfl) ?_|refine a0h rfl (by with_reducible rfl) ?_|(refine a0s rfl (fun hc => ?_) (fun hc => ?_) <;> (try (exfalso;omega))))|refine a0p ?_|refine a0n ?_|refine a0l ?_|refine a1n ?_)|refine a0v ?_|refine a1t ?_|refine a2m ?_|refine a1l ?_|refine a1y ?_|refine a1c ?_|refine a1m ?_))
    all_goals first
      | (refine ret1 (by first | exact .inr rfl | exact .inl rfl) rfl rfl ?_
         exact ⟨⟨_, rfl⟩, rfl⟩)
      | (first | refine a1o (i + 1) (.of (.same (by repeat constructor))) ?_ ?_ | fail
         · omega
         · omega)
  · repeat' (first|((refine a1g ?_;first|refine a0b (a1r rfl rfl rfl (by omega)) rfl ?_))|(refine a2i ?_;first|refine a0b (a0k rfl) rfl ?_|(refine a1g ?_;first|refine a0b (a1q rfl rfl (by (first|exact w64 (by omega) (by omega)|rfl))) rfl ?_|refine a0b (a3a rfl rfl) rfl ?_)|refine a0b (a0e rfl) rfl ?_|(refine a0d ?_;first|refine a0b (a0t rfl) rfl ?_)|refine a0u ?_)|(first|refine a1f ?_|(refine a1h ?_;first|refine a0c (a0a ?_)|refine a0c ?_|refine a0a ?_|(refine a0x ?_;first|refine a0g rfl (by with_reducible rfl) ?_|refine a0h rfl (by with_reducible rfl) ?_|(refine a0s rfl (fun hc => ?_) (fun hc => ?_) <;> (try (exfalso;omega))))|refine a0p ?_|refine a0n ?_|refine a0l ?_|refine a1n ?_)|refine a0v ?_|refine a1t ?_|refine a2m ?_|refine a1l ?_|refine a1y ?_|refine a1c ?_|refine a1m ?_))
    all_goals
      refine ret1 (by first | exact .inr rfl | exact .inl rfl) rfl rfl ?_
      exact ⟨⟨_, rfl⟩, rfl⟩
set_option maxHeartbeats 64000000 in
theorem b1x {l : List Op18} (hG : Tabs w0 base) (hl : l.length ≤ 1099511627776) (hf : ∀ o ∈ l, OpFit o) : PCalls (EE w0 base) 6 [.rs (l.map opC)] fun rv => rv = .bool true := by
  have hlen : (l.map opC).length = l.length := List.length_map _
  have hW := b2c (w0 := w0) (base := base) hG
  have hN : ACalls (EE w0 base) 8 [.int .i64 2, .int .i64 4, .int .i64 4] [] fun rv os => rv = .tup [.op 2 0, .int .i64 0] ∧ os = [.map [], .map [], .box [.int .i64 2, .int .i64 4, .int .i64 4, .mp 0, .mp 1]] := a2u (b9t (w0 := w0) (base := base) (u := 2) (c := 4) (a := 4)) fun rv os h => by rwa [if_pos (by decide)] at h
  have hX0 : DemOk ⟨2, 4, 4, [], [], fun _ => none⟩ := ⟨by decide, by decide, by decide, ⟨(fun i e h => by cases h), (fun i j e e' h => by cases h)⟩, List.nodup_nil, (fun e h => by cases h), (fun e h => by cases h), (fun p h => by cases h)⟩
  have hB1 : ACalls (EE w0 base) 15 [.op 0 0, .str [116], .int .i64 0] [.box [.int .i64 2, .int .i64 4, .int .i64 4, .mp 1, .mp 2], .map [], .map [], .hp fun _ => none] fun rv os => rv = .int .i64 0 ∧ ∃ X', DemOk X' ∧ os = dmO X' ∧ X'.ds = ⟨2, 4, 4, [], [([116], 0)]⟩ := b9y (w0 := w0) (base := base) (t := [116]) (u := 0) hX0
  have hB2 : ∀ X, DemOk X → X.ds = ⟨2, 4, 4, [], [([116], 0)]⟩ → ACalls (EE w0 base) 15 [.op 0 0, .str [117], .int .i64 1] (dmO X) fun rv os => rv = .int .i64 0 ∧ ∃ X', DemOk X' ∧ os = dmO X' ∧ X'.ds = D20 := by
    intro X hX hd
    have h0 := b9y (w0 := w0) (base := base) (t := [117]) (u := 1) hX
    rw [hd] at h0
    exact h0
  refine a1e Tryz.func6 rfl rfl rfl (.cons .nil) ?_
  repeat' (first|(first|refine a1d rfl rfl rfl (by first|exact ln8|exact ln9|exact ln10) (by repeat constructor) rfl ?_|(refine a0d ?_;refine a0q [] rfl rfl hN ?_ ?_ rfl rfl ?_;(focus ((repeat constructor);done));(focus ((repeat constructor);done));rintro _ _ ⟨rfl,rfl⟩;refine ⟨_,_,by repeat constructor,by repeat constructor,?_⟩;refine a4a (.hp0 (by repeat constructor)) ?_)|(refine a0d ?_;refine a0q [2,0,1,3] rfl rfl hB1 ?_ ?_ rfl rfl ?_;(focus ((repeat constructor);done));(focus ((repeat constructor);done));rintro _ _ ⟨rfl,X1,hX1,rfl,hdX1⟩;refine ⟨_,_,by repeat constructor,by repeat constructor,?_⟩)|(refine a0d ?_;refine a0q [2,0,1,3] rfl rfl (hB2 X1 hX1 hdX1) ?_ ?_ rfl rfl ?_;(focus ((repeat constructor);done));(focus ((repeat constructor);done));rintro _ _ ⟨rfl,X2,hX2,rfl,hdX2⟩;refine ⟨_,_,by repeat constructor,by repeat constructor,?_⟩)|(refine a0d ?_;refine a0q [6,4,5,7] rfl rfl hB1 ?_ ?_ rfl rfl ?_;(focus ((repeat constructor);done));(focus ((repeat constructor);done));rintro _ _ ⟨rfl,Y1,hY1,rfl,hdY1⟩;refine ⟨_,_,by repeat constructor,by repeat constructor,?_⟩)|(refine a0d ?_;refine a0q [6,4,5,7] rfl rfl (hB2 Y1 hY1 hdY1) ?_ ?_ rfl rfl ?_;(focus ((repeat constructor);done));(focus ((repeat constructor);done));rintro _ _ ⟨rfl,Y2,hY2,rfl,hdY2⟩;refine ⟨_,_,by repeat constructor,by repeat constructor,?_⟩)|(refine a1g ?_;first|refine a0b (a1r rfl rfl rfl (by omega)) rfl ?_|refine a0b (a4t rfl rfl rfl) rfl ?_))|(refine a2i ?_;first|refine a0b (a0k rfl) rfl ?_|(refine k_g ?_;first|refine a1j rfl rfl (by with_reducible rfl) ?_|refine a1x rfl rfl (by with_reducible rfl) rfl ?_|refine a1w rfl rfl (by with_reducible rfl) rfl ?_|(refine a2c rfl rfl (fun hc => ?_) (fun hc => ?_) <;> (try (exfalso;omega))))|refine a0b (a0f rfl rfl) rfl ?_|(refine a0z ?_;first|refine a0b (a0w rfl rfl) rfl ?_|refine a0b (a0m rfl rfl rfl) rfl ?_)|(refine a1g ?_;first|refine a0b (a1k rfl rfl rfl) rfl ?_|refine a0b (a1q rfl rfl (by (first|exact w64 (by omega) (by omega)|rfl))) rfl ?_)|(refine a1i ?_;first|refine a0b (a0j rfl (by with_reducible rfl) rfl) rfl ?_|refine a0b (a0i rfl (by with_reducible rfl) rfl) rfl ?_)|refine a0b (a0e rfl) rfl ?_|(refine a0d ?_;first|refine a0b (a2f rfl) rfl ?_)|refine a0b (a0r rfl rfl) rfl ?_|refine a0u ?_|refine a1a rfl rfl rfl rfl rfl (by repeat constructor) (by repeat constructor) ?_|refine a0b (a0y rfl (by with_reducible rfl)) rfl ?_)|(first|refine a1f ?_|(refine a1h ?_;first|refine a0c (a0a ?_)|refine a0c ?_|refine a0a ?_|(refine a0x ?_;first|refine a0g rfl (by with_reducible rfl) ?_|refine a0h rfl (by with_reducible rfl) ?_|(refine a0s rfl (fun hc => ?_) (fun hc => ?_) <;> (try (exfalso;omega)))|(refine a2d rfl (fun hc => ?_) (fun hc => ?_) <;> (try (exact absurd hc (by decide)))))|refine a0p ?_|refine a0n ?_|refine a0l ?_|refine a1n ?_)|refine a0v ?_|refine a1t ?_|refine a2m ?_|refine a1l ?_|refine a1y ?_|refine a1c ?_|refine a1m ?_|refine a3j rfl ?_))
  have hal0 : Alike X2.ds Y2.ds := by
    rw [hdX2, hdY2]
    exact ⟨⟨rfl, rfl, rfl, rfl, (fun p h => by cases h), List.nodup_nil⟩, ⟨rfl, rfl, rfl, rfl, (fun p h => by cases h), List.nodup_nil⟩, rfl, rfl⟩
  refine a2s (fun q : Nat × Dem × Dem => ⟨[(0,.rs (l.map opC)),(3,.op 2 0),(5,.op 6 0),(7,.int .i64 q.1)],[.map (q.2.1.l.map enK),.map (q.2.1.ss.map ssK),.box [.int .i64 q.2.1.users,.int .i64 q.2.1.conns,.int .i64 q.2.1.asks,.mp 0,.mp 1],.hp q.2.1.m,.map (q.2.2.l.map enK),.map (q.2.2.ss.map ssK),.box [.int .i64 q.2.2.users,.int .i64 q.2.2.conns,.int .i64 q.2.2.asks,.mp 4,.mp 5],.hp q.2.2.m]⟩) (fun q => q.1 ≤ l.length ∧ DemOk q.2.1 ∧ DemOk q.2.2 ∧ Alike q.2.1.ds q.2.2.ds) (fun q => l.length - q.1) (0,X2,Y2) (.of (.same (by repeat constructor))) ⟨Nat.zero_le _,hX2,hY2,hal0⟩ ?_
  rintro ⟨i, Xa, Xb⟩ ⟨hi, hXa, hXb, hal⟩
  dsimp only at hi hXa hXb hal ⊢
  clear hB1 hB2 hN hX0 hal0
  by_cases hlt : i < l.length
  · obtain ⟨o, ho⟩ : ∃ o, l[i]? = some o := ⟨_, List.getElem?_eq_getElem hlt⟩
    have hfit := hf o (List.mem_of_getElem? ho)
    obtain ⟨kd, at', us, tx, rp⟩ := o
    obtain ⟨ftx, frp, ffs⟩ := hfit
    dsimp only at ftx frp ffs
    have hrow : (l.map opC)[((i : Nat) : Int).toNat]? = some [.int .i64 kd, .int .i64 at', .int .i64 us, .str tx, .int .i64 rp.st, .rs (rp.fs.map prAV), .str rp.body, .bool rp.cl] := by
      have : ((i : Nat) : Int).toNat = i := rfl
      rw [this, List.getElem?_map, ho]
      rfl
    by_cases hsk : 4 < kd ∨ at' < 0 ∨ 3 < at'
    · have hsk2 : 4 < kd ∨ (kd ≤ 4 ∧ at' < 0) ∨ (kd ≤ 4 ∧ 0 ≤ at' ∧ 3 < at') := by omega
      rcases hsk2 with hsk2 | hsk2 | hsk2
      all_goals
        repeat' (first|(first|refine a1d rfl rfl rfl (by first|exact ln8|exact ln9|exact ln10) (by repeat constructor) rfl ?_|refine a0b (a1z rfl rfl (by omega) hrow rfl) rfl ?_|(refine a1g ?_;first|refine a0b (a1s rfl rfl rfl (by omega)) rfl ?_|refine a0b (a1r rfl rfl rfl (by omega)) rfl ?_))|(refine a2i ?_;first|refine a0b (a0k rfl) rfl ?_|(refine k_g ?_;first|refine a1j rfl rfl (by with_reducible rfl) ?_|refine a1x rfl rfl (by with_reducible rfl) rfl ?_|refine a1w rfl rfl (by with_reducible rfl) rfl ?_|(refine a2c rfl rfl (fun hc => ?_) (fun hc => ?_) <;> (try (exfalso;omega))))|refine a0b (a0f rfl rfl) rfl ?_|(refine a0z ?_;first|refine a0b (a0w rfl rfl) rfl ?_|refine a0b (a0m rfl rfl rfl) rfl ?_)|(refine a1g ?_;first|refine a0b (a1k rfl rfl rfl) rfl ?_|refine a0b (a1q rfl rfl (by (first|exact w64 (by omega) (by omega)|rfl))) rfl ?_)|(refine a1i ?_;first|refine a0b (a0j rfl (by with_reducible rfl) rfl) rfl ?_|refine a0b (a0i rfl (by with_reducible rfl) rfl) rfl ?_)|refine a0b (a0e rfl) rfl ?_|(refine a0d ?_;first|refine a0b (a2f rfl) rfl ?_)|refine a0b (a0r rfl rfl) rfl ?_|refine a0u ?_|refine a1a rfl rfl rfl rfl rfl (by repeat constructor) (by repeat constructor) ?_|refine a0b (a0y rfl (by with_reducible rfl)) rfl ?_)|(first|refine a1f ?_|(refine a1h ?_;first|refine a0c (a0a ?_)|refine a0c ?_|refine a0a ?_|(refine a0x ?_;first|refine a0g rfl (by with_reducible rfl) ?_|refine a0h rfl (by with_reducible rfl) ?_|(refine a0s rfl (fun hc => ?_) (fun hc => ?_) <;> (try (exfalso;omega)))|(refine a2d rfl (fun hc => ?_) (fun hc => ?_) <;> (try (exact absurd hc (by decide)))))|refine a0p ?_|refine a0n ?_|refine a0l ?_|refine a1n ?_)|refine a0v ?_|refine a1t ?_|refine a2m ?_|refine a1l ?_|refine a1y ?_|refine a1c ?_|refine a1m ?_|refine a3j rfl ?_))
        first|refine a1o (i + 1,Xa,Xb) (.of (.same (by repeat constructor))) ?_ ?_|refine a1o (i + 1,Xa,Xb) (.of (a2b [_] rfl (by repeat constructor) rfl (by repeat constructor) rfl)) ?_ ?_|refine a1o (i + 1,Xa,Xb) (.of (a2b [_,_] rfl (by repeat constructor) rfl (by repeat constructor) rfl)) ?_ ?_|refine a1o (i + 1,Xa,Xb) (.of (a2b [_,_,_] rfl (by repeat constructor) rfl (by repeat constructor) rfl)) ?_ ?_
        · exact ⟨hlt, hXa, hXb, hal⟩
        · dsimp only; omega
    obtain ⟨hk4, ha0, ha3⟩ : kd ≤ 4 ∧ 0 ≤ at' ∧ at' ≤ 3 := by omega
    clear hsk
    by_cases ha1 : 1 < at'
    · have hWi := b4x (w0 := w0) (base := base) (s := tx) (t := sidT) ftx (by decide)
      have hk : kd = 1 ∨ kd = 2 ∨ kd = 3 ∨ kd = 4 ∨ (kd ≠ 1 ∧ kd ≠ 2 ∧ kd ≠ 3 ∧ kd ≠ 4) := by omega
      rcases hk with hk | hk | hk | hk | ⟨hk1, hk2, hk3, hk5⟩
      · repeat' (first|(first|refine a1d rfl rfl rfl (by first|exact ln8|exact ln9|exact ln10) (by repeat constructor) rfl ?_|refine a0b (a1z rfl rfl (by omega) hrow rfl) rfl ?_|(refine a1g ?_;first|refine a0b (a1s rfl rfl rfl (by omega)) rfl ?_|refine a0b (a1r rfl rfl rfl (by omega)) rfl ?_)|(refine a0d ?_;refine a0o rfl rfl rfl rfl hWi ?_;rintro _ ⟨v,rfl⟩)|(refine a0d ?_;refine a0q [2,0,1,3] rfl rfl (a7x (w0 := w0) (base := base) (at' := at') (t := tx) hXa ftx) ?_ ?_ rfl rfl ?_;(focus ((repeat constructor);done));(focus ((repeat constructor);done));rintro _ _ ⟨rfl,X1,hX1,rfl,hdX1⟩;refine ⟨_,_,by repeat constructor,by repeat constructor,?_⟩)|(refine a0d ?_;refine a0q [2,0,1,3] rfl rfl (a4b (w0 := w0) (base := base) (at' := at') hX1) ?_ ?_ rfl rfl ?_;(focus ((repeat constructor);done));(focus ((repeat constructor);done));rintro _ _ ⟨rfl,rfl⟩;refine ⟨_,_,by repeat constructor,by repeat constructor,?_⟩)|(refine a0d ?_;refine a0o rfl rfl rfl rfl hW ?_;rintro _ rfl))|(refine a2i ?_;first|refine a0b (a0k rfl) rfl ?_|(refine k_g ?_;first|refine a1j rfl rfl (by with_reducible rfl) ?_|refine a1x rfl rfl (by with_reducible rfl) rfl ?_|refine a1w rfl rfl (by with_reducible rfl) rfl ?_|(refine a2c rfl rfl (fun hc => ?_) (fun hc => ?_) <;> (try (exfalso;omega))))|refine a0b (a0f rfl rfl) rfl ?_|(refine a0z ?_;first|refine a0b (a0w rfl rfl) rfl ?_|refine a0b (a0m rfl rfl rfl) rfl ?_)|(refine a1g ?_;first|refine a0b (a1k rfl rfl rfl) rfl ?_|refine a0b (a1q rfl rfl (by (first|exact w64 (by omega) (by omega)|rfl))) rfl ?_)|(refine a1i ?_;first|refine a0b (a0j rfl (by with_reducible rfl) rfl) rfl ?_|refine a0b (a0i rfl (by with_reducible rfl) rfl) rfl ?_)|refine a0b (a0e rfl) rfl ?_|(refine a0d ?_;first|refine a0b (a2f rfl) rfl ?_)|refine a0b (a0r rfl rfl) rfl ?_|refine a0u ?_|refine a1a rfl rfl rfl rfl rfl (by repeat constructor) (by repeat constructor) ?_|refine a0b (a0y rfl (by with_reducible rfl)) rfl ?_)|(first|refine a1f ?_|(refine a1h ?_;first|refine a0c (a0a ?_)|refine a0c ?_|refine a0a ?_|(refine a0x ?_;first|refine a0g rfl (by with_reducible rfl) ?_|refine a0h rfl (by with_reducible rfl) ?_|(refine a0s rfl (fun hc => ?_) (fun hc => ?_) <;> (try (exfalso;omega)))|(refine a2d rfl (fun hc => ?_) (fun hc => ?_) <;> (try (exact absurd hc (by decide)))))|refine a0p ?_|refine a0n ?_|refine a0l ?_|refine a1n ?_)|refine a0v ?_|refine a1t ?_|refine a2m ?_|refine a1l ?_|refine a1y ?_|refine a1c ?_|refine a1m ?_|refine a3j rfl ?_))
        all_goals first
          | (refine ret1 (by first | exact .inr rfl | exact .inl rfl) rfl rfl ?_
             exact ⟨rfl, rfl⟩)
          | (first|refine a1o (i + 1,X1,Xb) (.of (.same (by repeat constructor))) ?_ ?_|refine a1o (i + 1,X1,Xb) (.of (a2b [_] rfl (by repeat constructor) rfl (by repeat constructor) rfl)) ?_ ?_|refine a1o (i + 1,X1,Xb) (.of (a2b [_,_] rfl (by repeat constructor) rfl (by repeat constructor) rfl)) ?_ ?_|refine a1o (i + 1,X1,Xb) (.of (a2b [_,_,_] rfl (by repeat constructor) rfl (by repeat constructor) rfl)) ?_ ?_
             · exact ⟨hlt, hX1, hXb, by rw [hdX1]; exact hal.left ha1 ha3 (b4j _ _ _)⟩
             · dsimp only; omega)
          | (first|refine a1o (i + 1,Xa,Xb) (.of (.same (by repeat constructor))) ?_ ?_|refine a1o (i + 1,Xa,Xb) (.of (a2b [_] rfl (by repeat constructor) rfl (by repeat constructor) rfl)) ?_ ?_|refine a1o (i + 1,Xa,Xb) (.of (a2b [_,_] rfl (by repeat constructor) rfl (by repeat constructor) rfl)) ?_ ?_|refine a1o (i + 1,Xa,Xb) (.of (a2b [_,_,_] rfl (by repeat constructor) rfl (by repeat constructor) rfl)) ?_ ?_
             · exact ⟨hlt, hXa, hXb, hal⟩
             · dsimp only; omega)
      · repeat' (first|(first|refine a1d rfl rfl rfl (by first|exact ln8|exact ln9|exact ln10) (by repeat constructor) rfl ?_|refine a0b (a1z rfl rfl (by omega) hrow rfl) rfl ?_|(refine a1g ?_;first|refine a0b (a1s rfl rfl rfl (by omega)) rfl ?_|refine a0b (a1r rfl rfl rfl (by omega)) rfl ?_)|(refine a0d ?_;refine a0o rfl rfl rfl rfl hWi ?_;rintro _ ⟨v,rfl⟩)|(refine a0d ?_;refine a0q [2,0,1,3] rfl rfl (b9r (w0 := w0) (base := base) (at' := at') hXa) ?_ ?_ rfl rfl ?_;(focus ((repeat constructor);done));(focus ((repeat constructor);done));rintro _ _ ⟨rfl,X1,hX1,rfl,hdX1⟩;refine ⟨_,_,by repeat constructor,by repeat constructor,?_⟩)|(refine a0d ?_;refine a0q [2,0,1,3] rfl rfl (a4b (w0 := w0) (base := base) (at' := at') hX1) ?_ ?_ rfl rfl ?_;(focus ((repeat constructor);done));(focus ((repeat constructor);done));rintro _ _ ⟨rfl,rfl⟩;refine ⟨_,_,by repeat constructor,by repeat constructor,?_⟩)|(refine a0d ?_;refine a0o rfl rfl rfl rfl hW ?_;rintro _ rfl))|(refine a2i ?_;first|refine a0b (a0k rfl) rfl ?_|(refine k_g ?_;first|refine a1j rfl rfl (by with_reducible rfl) ?_|refine a1x rfl rfl (by with_reducible rfl) rfl ?_|refine a1w rfl rfl (by with_reducible rfl) rfl ?_|(refine a2c rfl rfl (fun hc => ?_) (fun hc => ?_) <;> (try (exfalso;omega))))|refine a0b (a0f rfl rfl) rfl ?_|(refine a0z ?_;first|refine a0b (a0w rfl rfl) rfl ?_|refine a0b (a0m rfl rfl rfl) rfl ?_)|(refine a1g ?_;first|refine a0b (a1k rfl rfl rfl) rfl ?_|refine a0b (a1q rfl rfl (by (first|exact w64 (by omega) (by omega)|rfl))) rfl ?_)|(refine a1i ?_;first|refine a0b (a0j rfl (by with_reducible rfl) rfl) rfl ?_|refine a0b (a0i rfl (by with_reducible rfl) rfl) rfl ?_)|refine a0b (a0e rfl) rfl ?_|(refine a0d ?_;first|refine a0b (a2f rfl) rfl ?_)|refine a0b (a0r rfl rfl) rfl ?_|refine a0u ?_|refine a1a rfl rfl rfl rfl rfl (by repeat constructor) (by repeat constructor) ?_|refine a0b (a0y rfl (by with_reducible rfl)) rfl ?_)|(first|refine a1f ?_|(refine a1h ?_;first|refine a0c (a0a ?_)|refine a0c ?_|refine a0a ?_|(refine a0x ?_;first|refine a0g rfl (by with_reducible rfl) ?_|refine a0h rfl (by with_reducible rfl) ?_|(refine a0s rfl (fun hc => ?_) (fun hc => ?_) <;> (try (exfalso;omega)))|(refine a2d rfl (fun hc => ?_) (fun hc => ?_) <;> (try (exact absurd hc (by decide)))))|refine a0p ?_|refine a0n ?_|refine a0l ?_|refine a1n ?_)|refine a0v ?_|refine a1t ?_|refine a2m ?_|refine a1l ?_|refine a1y ?_|refine a1c ?_|refine a1m ?_|refine a3j rfl ?_))
        all_goals first
          | (refine ret1 (by first | exact .inr rfl | exact .inl rfl) rfl rfl ?_
             exact ⟨rfl, rfl⟩)
          | (first|refine a1o (i + 1,X1,Xb) (.of (.same (by repeat constructor))) ?_ ?_|refine a1o (i + 1,X1,Xb) (.of (a2b [_] rfl (by repeat constructor) rfl (by repeat constructor) rfl)) ?_ ?_|refine a1o (i + 1,X1,Xb) (.of (a2b [_,_] rfl (by repeat constructor) rfl (by repeat constructor) rfl)) ?_ ?_|refine a1o (i + 1,X1,Xb) (.of (a2b [_,_,_] rfl (by repeat constructor) rfl (by repeat constructor) rfl)) ?_ ?_
             · exact ⟨hlt, hX1, hXb, by rw [hdX1]; exact hal.left ha1 ha3 (b7m _ _)⟩
             · dsimp only; omega)
          | (first|refine a1o (i + 1,Xa,Xb) (.of (.same (by repeat constructor))) ?_ ?_|refine a1o (i + 1,Xa,Xb) (.of (a2b [_] rfl (by repeat constructor) rfl (by repeat constructor) rfl)) ?_ ?_|refine a1o (i + 1,Xa,Xb) (.of (a2b [_,_] rfl (by repeat constructor) rfl (by repeat constructor) rfl)) ?_ ?_|refine a1o (i + 1,Xa,Xb) (.of (a2b [_,_,_] rfl (by repeat constructor) rfl (by repeat constructor) rfl)) ?_ ?_
             · exact ⟨hlt, hXa, hXb, hal⟩
             · dsimp only; omega)
      · have hPa : ∃ ac er, (pickD Xa.ds at').2 = (ac, er) := ⟨_, _, rfl⟩
        obtain ⟨ac, er, hac⟩ := hPa
        have hPa : ACalls (EE w0 base) 13 [.op 0 0, .int .i64 at'] (dmO Xa) fun rv os => rv = .tup [.agg (atC ac), .int .i64 er] ∧ ∃ X', DemOk X' ∧ os = dmO X' ∧ X'.ds = (pickD Xa.ds at').1 := by
          have h0 := b3l (w0 := w0) (base := base) (at' := at') hG hXa
          unfold PkR at h0
          rw [hac] at h0
          exact h0
        obtain ⟨ak, ao, acl, au, atk, an, aw, rq⟩ := ac
        rcases rq with _ | ⟨h', b'⟩
        all_goals
          repeat' (first|(first|refine a1d rfl rfl rfl (by first|exact ln8|exact ln9|exact ln10) (by repeat constructor) rfl ?_|refine a0b (a1z rfl rfl (by omega) hrow rfl) rfl ?_|(refine a1g ?_;first|refine a0b (a1s rfl rfl rfl (by omega)) rfl ?_|refine a0b (a1r rfl rfl rfl (by omega)) rfl ?_)|(refine a0d ?_;refine a0o rfl rfl rfl rfl hWi ?_;rintro _ ⟨v,rfl⟩)|(refine a0d ?_;refine a0q [2,0,1,3] rfl rfl hPa ?_ ?_ rfl rfl ?_;(focus ((repeat constructor);done));(focus ((repeat constructor);done));rintro _ _ ⟨rfl,X1,hX1,rfl,hdX1⟩;refine ⟨_,_,by repeat constructor,by repeat constructor,?_⟩)|(refine a0d ?_;refine a0q [2,0,1,3] rfl rfl (a4b (w0 := w0) (base := base) (at' := at') hX1) ?_ ?_ rfl rfl ?_;(focus ((repeat constructor);done));(focus ((repeat constructor);done));rintro _ _ ⟨rfl,rfl⟩;refine ⟨_,_,by repeat constructor,by repeat constructor,?_⟩)|(refine a0d ?_;refine a0o rfl rfl rfl rfl hW ?_;rintro _ rfl))|(refine a2i ?_;first|refine a0b (a0k rfl) rfl ?_|(refine k_g ?_;first|refine a1j rfl rfl (by with_reducible rfl) ?_|refine a1x rfl rfl (by with_reducible rfl) rfl ?_|refine a1w rfl rfl (by with_reducible rfl) rfl ?_|(refine a2c rfl rfl (fun hc => ?_) (fun hc => ?_) <;> (try (exfalso;omega))))|refine a0b (a0f rfl rfl) rfl ?_|(refine a0z ?_;first|refine a0b (a0w rfl rfl) rfl ?_|refine a0b (a0m rfl rfl rfl) rfl ?_)|(refine a1g ?_;first|refine a0b (a1k rfl rfl rfl) rfl ?_|refine a0b (a1q rfl rfl (by (first|exact w64 (by omega) (by omega)|rfl))) rfl ?_)|(refine a1i ?_;first|refine a0b (a0j rfl (by with_reducible rfl) rfl) rfl ?_|refine a0b (a0i rfl (by with_reducible rfl) rfl) rfl ?_)|refine a0b (a0e rfl) rfl ?_|(refine a0d ?_;first|refine a0b (a2f rfl) rfl ?_)|refine a0b (a0r rfl rfl) rfl ?_|refine a0u ?_|refine a1a rfl rfl rfl rfl rfl (by repeat constructor) (by repeat constructor) ?_|refine a0b (a0y rfl (by with_reducible rfl)) rfl ?_)|(first|refine a1f ?_|(refine a1h ?_;first|refine a0c (a0a ?_)|refine a0c ?_|refine a0a ?_|(refine a0x ?_;first|refine a0g rfl (by with_reducible rfl) ?_|refine a0h rfl (by with_reducible rfl) ?_|(refine a0s rfl (fun hc => ?_) (fun hc => ?_) <;> (try (exfalso;omega)))|(refine a2d rfl (fun hc => ?_) (fun hc => ?_) <;> (try (exact absurd hc (by decide)))))|refine a0p ?_|refine a0n ?_|refine a0l ?_|refine a1n ?_)|refine a0v ?_|refine a1t ?_|refine a2m ?_|refine a1l ?_|refine a1y ?_|refine a1c ?_|refine a1m ?_|refine a3j rfl ?_))
          all_goals first
            | (refine ret1 (by first | exact .inr rfl | exact .inl rfl) rfl rfl ?_
               exact ⟨rfl, rfl⟩)
            | (first|refine a1o (i + 1,X1,Xb) (.of (.same (by repeat constructor))) ?_ ?_|refine a1o (i + 1,X1,Xb) (.of (a2b [_] rfl (by repeat constructor) rfl (by repeat constructor) rfl)) ?_ ?_|refine a1o (i + 1,X1,Xb) (.of (a2b [_,_] rfl (by repeat constructor) rfl (by repeat constructor) rfl)) ?_ ?_|refine a1o (i + 1,X1,Xb) (.of (a2b [_,_,_] rfl (by repeat constructor) rfl (by repeat constructor) rfl)) ?_ ?_
               · exact ⟨hlt, hX1, hXb, by rw [hdX1]; exact hal.left ha1 ha3 (b8b hal.a _)⟩
               · dsimp only; omega)
      · repeat' (first|(first|refine a1d rfl rfl rfl (by first|exact ln8|exact ln9|exact ln10) (by repeat constructor) rfl ?_|refine a0b (a1z rfl rfl (by omega) hrow rfl) rfl ?_|(refine a1g ?_;first|refine a0b (a1s rfl rfl rfl (by omega)) rfl ?_|refine a0b (a1r rfl rfl rfl (by omega)) rfl ?_)|(refine a0d ?_;refine a0o rfl rfl rfl rfl hWi ?_;rintro _ ⟨v,rfl⟩)|(refine a0d ?_;refine a0q [2,0,1,3] rfl rfl (a7y (w0 := w0) (base := base) (at' := at') (r := rp) hXa frp ffs) ?_ ?_ rfl rfl ?_;(focus ((repeat constructor);done));(focus ((repeat constructor);done));rintro _ _ ⟨rfl,X1,hX1,rfl,hdX1⟩;refine ⟨_,_,by repeat constructor,by repeat constructor,?_⟩)|(refine a0d ?_;refine a0q [2,0,1,3] rfl rfl (a4b (w0 := w0) (base := base) (at' := at') hX1) ?_ ?_ rfl rfl ?_;(focus ((repeat constructor);done));(focus ((repeat constructor);done));rintro _ _ ⟨rfl,rfl⟩;refine ⟨_,_,by repeat constructor,by repeat constructor,?_⟩)|(refine a0d ?_;refine a0o rfl rfl rfl rfl hW ?_;rintro _ rfl))|(refine a2i ?_;first|refine a0b (a0k rfl) rfl ?_|(refine k_g ?_;first|refine a1j rfl rfl (by with_reducible rfl) ?_|refine a1x rfl rfl (by with_reducible rfl) rfl ?_|refine a1w rfl rfl (by with_reducible rfl) rfl ?_|(refine a2c rfl rfl (fun hc => ?_) (fun hc => ?_) <;> (try (exfalso;omega))))|refine a0b (a0f rfl rfl) rfl ?_|(refine a0z ?_;first|refine a0b (a0w rfl rfl) rfl ?_|refine a0b (a0m rfl rfl rfl) rfl ?_)|(refine a1g ?_;first|refine a0b (a1k rfl rfl rfl) rfl ?_|refine a0b (a1q rfl rfl (by (first|exact w64 (by omega) (by omega)|rfl))) rfl ?_)|(refine a1i ?_;first|refine a0b (a0j rfl (by with_reducible rfl) rfl) rfl ?_|refine a0b (a0i rfl (by with_reducible rfl) rfl) rfl ?_)|refine a0b (a0e rfl) rfl ?_|(refine a0d ?_;first|refine a0b (a2f rfl) rfl ?_)|refine a0b (a0r rfl rfl) rfl ?_|refine a0u ?_|refine a1a rfl rfl rfl rfl rfl (by repeat constructor) (by repeat constructor) ?_|refine a0b (a0y rfl (by with_reducible rfl)) rfl ?_)|(first|refine a1f ?_|(refine a1h ?_;first|refine a0c (a0a ?_)|refine a0c ?_|refine a0a ?_|(refine a0x ?_;first|refine a0g rfl (by with_reducible rfl) ?_|refine a0h rfl (by with_reducible rfl) ?_|(refine a0s rfl (fun hc => ?_) (fun hc => ?_) <;> (try (exfalso;omega)))|(refine a2d rfl (fun hc => ?_) (fun hc => ?_) <;> (try (exact absurd hc (by decide)))))|refine a0p ?_|refine a0n ?_|refine a0l ?_|refine a1n ?_)|refine a0v ?_|refine a1t ?_|refine a2m ?_|refine a1l ?_|refine a1y ?_|refine a1c ?_|refine a1m ?_|refine a3j rfl ?_))
        all_goals first
          | (refine ret1 (by first | exact .inr rfl | exact .inl rfl) rfl rfl ?_
             exact ⟨rfl, rfl⟩)
          | (first|refine a1o (i + 1,X1,Xb) (.of (.same (by repeat constructor))) ?_ ?_|refine a1o (i + 1,X1,Xb) (.of (a2b [_] rfl (by repeat constructor) rfl (by repeat constructor) rfl)) ?_ ?_|refine a1o (i + 1,X1,Xb) (.of (a2b [_,_] rfl (by repeat constructor) rfl (by repeat constructor) rfl)) ?_ ?_|refine a1o (i + 1,X1,Xb) (.of (a2b [_,_,_] rfl (by repeat constructor) rfl (by repeat constructor) rfl)) ?_ ?_
             · exact ⟨hlt, hX1, hXb, by rw [hdX1]; exact hal.left ha1 ha3 (b4k _ _ _)⟩
             · dsimp only; omega)
          | (first|refine a1o (i + 1,Xa,Xb) (.of (.same (by repeat constructor))) ?_ ?_|refine a1o (i + 1,Xa,Xb) (.of (a2b [_] rfl (by repeat constructor) rfl (by repeat constructor) rfl)) ?_ ?_|refine a1o (i + 1,Xa,Xb) (.of (a2b [_,_] rfl (by repeat constructor) rfl (by repeat constructor) rfl)) ?_ ?_|refine a1o (i + 1,Xa,Xb) (.of (a2b [_,_,_] rfl (by repeat constructor) rfl (by repeat constructor) rfl)) ?_ ?_
             · exact ⟨hlt, hXa, hXb, hal⟩
             · dsimp only; omega)
      · repeat' (first|(first|refine a1d rfl rfl rfl (by first|exact ln8|exact ln9|exact ln10) (by repeat constructor) rfl ?_|refine a0b (a1z rfl rfl (by omega) hrow rfl) rfl ?_|(refine a1g ?_;first|refine a0b (a1s rfl rfl rfl (by omega)) rfl ?_|refine a0b (a1r rfl rfl rfl (by omega)) rfl ?_)|(refine a0d ?_;refine a0o rfl rfl rfl rfl hWi ?_;rintro _ ⟨v,rfl⟩)|(refine a0d ?_;refine a0q [2,0,1,3] rfl rfl (a4b (w0 := w0) (base := base) (at' := at') hXa) ?_ ?_ rfl rfl ?_;(focus ((repeat constructor);done));(focus ((repeat constructor);done));rintro _ _ ⟨rfl,rfl⟩;refine ⟨_,_,by repeat constructor,by repeat constructor,?_⟩)|(refine a0d ?_;refine a0o rfl rfl rfl rfl hW ?_;rintro _ rfl))|(refine a2i ?_;first|refine a0b (a0k rfl) rfl ?_|(refine k_g ?_;first|refine a1j rfl rfl (by with_reducible rfl) ?_|refine a1x rfl rfl (by with_reducible rfl) rfl ?_|refine a1w rfl rfl (by with_reducible rfl) rfl ?_|(refine a2c rfl rfl (fun hc => ?_) (fun hc => ?_) <;> (try (exfalso;omega))))|refine a0b (a0f rfl rfl) rfl ?_|(refine a0z ?_;first|refine a0b (a0w rfl rfl) rfl ?_|refine a0b (a0m rfl rfl rfl) rfl ?_)|(refine a1g ?_;first|refine a0b (a1k rfl rfl rfl) rfl ?_|refine a0b (a1q rfl rfl (by (first|exact w64 (by omega) (by omega)|rfl))) rfl ?_)|(refine a1i ?_;first|refine a0b (a0j rfl (by with_reducible rfl) rfl) rfl ?_|refine a0b (a0i rfl (by with_reducible rfl) rfl) rfl ?_)|refine a0b (a0e rfl) rfl ?_|(refine a0d ?_;first|refine a0b (a2f rfl) rfl ?_)|refine a0b (a0r rfl rfl) rfl ?_|refine a0u ?_|refine a1a rfl rfl rfl rfl rfl (by repeat constructor) (by repeat constructor) ?_|refine a0b (a0y rfl (by with_reducible rfl)) rfl ?_)|(first|refine a1f ?_|(refine a1h ?_;first|refine a0c (a0a ?_)|refine a0c ?_|refine a0a ?_|(refine a0x ?_;first|refine a0g rfl (by with_reducible rfl) ?_|refine a0h rfl (by with_reducible rfl) ?_|(refine a0s rfl (fun hc => ?_) (fun hc => ?_) <;> (try (exfalso;omega)))|(refine a2d rfl (fun hc => ?_) (fun hc => ?_) <;> (try (exact absurd hc (by decide)))))|refine a0p ?_|refine a0n ?_|refine a0l ?_|refine a1n ?_)|refine a0v ?_|refine a1t ?_|refine a2m ?_|refine a1l ?_|refine a1y ?_|refine a1c ?_|refine a1m ?_|refine a3j rfl ?_))
        all_goals first
          | (refine ret1 (by first | exact .inr rfl | exact .inl rfl) rfl rfl ?_
             exact ⟨rfl, rfl⟩)
          | (first|refine a1o (i + 1,Xa,Xb) (.of (.same (by repeat constructor))) ?_ ?_|refine a1o (i + 1,Xa,Xb) (.of (a2b [_] rfl (by repeat constructor) rfl (by repeat constructor) rfl)) ?_ ?_|refine a1o (i + 1,Xa,Xb) (.of (a2b [_,_] rfl (by repeat constructor) rfl (by repeat constructor) rfl)) ?_ ?_|refine a1o (i + 1,Xa,Xb) (.of (a2b [_,_,_] rfl (by repeat constructor) rfl (by repeat constructor) rfl)) ?_ ?_
             · exact ⟨hlt, hXa, hXb, hal⟩
             · dsimp only; omega)
    have ha1' : at' ≤ 1 := by omega
    have hat := hal.at ha0 ha1'
    have hWi := b4x (w0 := w0) (base := base) (s := tx) (t := sidU) ftx (by decide)
    have hk : kd = 1 ∨ kd = 2 ∨ kd = 3 ∨ kd = 4 ∨ (kd ≠ 1 ∧ kd ≠ 2 ∧ kd ≠ 3 ∧ kd ≠ 4) := by omega
    rcases hk with hk | hk | hk | hk | ⟨hk1, hk2, hk3, hk5⟩
    · have hbo := a7h tx hat
      have hbe := hbo.1
      repeat' (first|(first|refine a1d rfl rfl rfl (by first|exact ln8|exact ln9|exact ln10) (by repeat constructor) rfl ?_|refine a2y (id := 32) [(5,[2,0,1,3]),(11,[6,4,5,7])] [⟨0,true,[],bl 13 2014⟩,⟨1,true,[],bl 13 2009⟩,⟨2,true,[],bl 13 2011⟩,⟨3,true,[],bl 13 1991⟩,⟨4,true,[],bl 13 1999⟩,⟨6,true,[2,0,1,3],bl 13 1983⟩,⟨7,true,[2,0,1,3],bl 13 1663⟩,⟨8,true,[2,0,1,3],bl 13 1791⟩,⟨9,true,[2,0,1,3],bl 13 511⟩,⟨10,true,[2,0,1,3],bl 13 1023⟩,⟨5,false,[],[]⟩,⟨11,false,[],[]⟩,⟨12,true,[],bl 13 4095⟩] (by kernel_rfl) (by kernel_rfl) rfl (by kernel_rfl) ?_|refine a2k (a1r rfl rfl rfl (by omega)) rfl ?_|refine a0b (a1z rfl rfl (by omega) hrow rfl) rfl ?_|(refine a1g ?_;first|refine a0b (a1s rfl rfl rfl (by omega)) rfl ?_|refine a0b (a1r rfl rfl rfl (by omega)) rfl ?_)|(refine a0d ?_;refine a0q [2,0,1,3] rfl rfl (a4b (w0 := w0) (base := base) (at' := 0) hXa) ?_ ?_ rfl rfl ?_;(focus ((repeat constructor);done));(focus ((repeat constructor);done));rintro _ _ ⟨rfl,rfl⟩;refine ⟨_,_,by repeat constructor,by repeat constructor,?_⟩)|(refine a0d ?_;refine a0q [2,0,1,3] rfl rfl (a4b (w0 := w0) (base := base) (at' := 1) hXa) ?_ ?_ rfl rfl ?_;(focus ((repeat constructor);done));(focus ((repeat constructor);done));rintro _ _ ⟨rfl,rfl⟩;refine ⟨_,_,by repeat constructor,by repeat constructor,?_⟩)|(refine a0d ?_;refine a0o rfl rfl rfl rfl hWi ?_;rintro _ ⟨v,rfl⟩)|(refine a0d ?_;refine a0q [2,0,1,3] rfl rfl (a7x (w0 := w0) (base := base) (at' := at') (t := tx) hXa ftx) ?_ ?_ rfl rfl ?_;(focus ((repeat constructor);done));(focus ((repeat constructor);done));rintro _ _ ⟨rfl,X1,hX1,rfl,hdX1⟩;refine ⟨_,_,by repeat constructor,by repeat constructor,?_⟩)|(refine a0d ?_;refine a0q [6,4,5,7] rfl rfl (a7x (w0 := w0) (base := base) (at' := at') (t := tx) hXb ftx) ?_ ?_ rfl rfl ?_;(focus ((repeat constructor);done));(focus ((repeat constructor);done));rintro _ _ ⟨rfl,Y1,hY1,rfl,hdY1⟩;refine ⟨_,_,by repeat constructor,by repeat constructor,?_⟩)|(refine a0d ?_;refine a0o rfl rfl rfl rfl hW ?_;rintro _ rfl))|(refine a2i ?_;first|refine a0b (a0k rfl) rfl ?_|(refine k_g ?_;first|refine a1j rfl rfl (by with_reducible rfl) ?_|refine a1x rfl rfl (by with_reducible rfl) rfl ?_|refine a1w rfl rfl (by with_reducible rfl) rfl ?_|(refine a2c rfl rfl (fun hc => ?_) (fun hc => ?_) <;> (try (exfalso;omega))))|refine a0b (a0f rfl rfl) rfl ?_|(refine a0z ?_;first|refine a0b (a0w rfl rfl) rfl ?_|refine a0b (a0m rfl rfl rfl) rfl ?_)|(refine a1g ?_;first|refine a0b (a1k rfl rfl rfl) rfl ?_|refine a0b (a1q rfl rfl (by (first|exact w64 (by omega) (by omega)|rfl))) rfl ?_)|(refine a1i ?_;first|refine a0b (a0j rfl (by with_reducible rfl) rfl) rfl ?_|refine a0b (a0i rfl (by with_reducible rfl) rfl) rfl ?_)|refine a0b (a0e rfl) rfl ?_|(refine a0d ?_;first|refine a0b (a2f rfl) rfl ?_)|refine a0b (a0r rfl rfl) rfl ?_|refine a0u ?_|refine a1a rfl rfl rfl rfl rfl (by repeat constructor) (by repeat constructor) ?_|refine a0b (a0y rfl (by with_reducible rfl)) rfl ?_)|(first|refine a1f ?_|(refine a1h ?_;first|refine a0c (a0a ?_)|refine a0c ?_|refine a0a ?_|(refine a0x ?_;first|refine a0g rfl (by with_reducible rfl) ?_|refine a0h rfl (by with_reducible rfl) ?_|(refine a0s rfl (fun hc => ?_) (fun hc => ?_) <;> (try (exfalso;omega)))|(refine a2d rfl (fun hc => ?_) (fun hc => ?_) <;> (try (exact absurd hc (by decide)))))|refine a0p ?_|refine a0n ?_|refine a0l ?_|refine a1n ?_)|refine a0v ?_|refine a1t ?_|refine a2m ?_|refine a1l ?_|refine a1y ?_|refine a1c ?_|refine a1m ?_|refine a3j rfl ?_)|(first|(refine a7p ?_;first|refine a7r rfl ?_|refine a2k (a0k rfl) rfl ?_|refine a2k (a0e rfl) rfl ?_|refine a2k (a0f rfl rfl) rfl ?_|refine a2k (a0w rfl rfl) rfl ?_|refine a2k (a0m rfl rfl rfl) rfl ?_|refine a2k (a1k rfl rfl rfl) rfl ?_|refine a2k (a0j rfl (by with_reducible rfl) rfl) rfl ?_|refine a2k (a0i rfl (by with_reducible rfl) rfl) rfl ?_|refine a2k (a2f rfl) rfl ?_|refine a2k (a0r rfl rfl) rfl ?_|refine a2k (a1q rfl rfl (by (first|exact w64 (by omega) (by omega)|rfl))) rfl ?_|refine a2k (a0y rfl (by with_reducible rfl)) rfl ?_)|refine a4n rfl ?_|(refine a7q ?_;first|refine a7s ?_|refine c1e rfl rfl (by with_reducible rfl) ?_)|refine a3r ?_|refine a3h ?_))
      all_goals first
        | (refine ret1 (by first | exact .inr rfl | exact .inl rfl) rfl rfl ?_
           exact ⟨rfl, rfl⟩)
        | (first|refine a1o (i + 1,X1,Y1) (.of (.same (by repeat constructor))) ?_ ?_|refine a1o (i + 1,X1,Y1) (.of (a2b [_] rfl (by repeat constructor) rfl (by repeat constructor) rfl)) ?_ ?_|refine a1o (i + 1,X1,Y1) (.of (a2b [_,_] rfl (by repeat constructor) rfl (by repeat constructor) rfl)) ?_ ?_|refine a1o (i + 1,X1,Y1) (.of (a2b [_,_,_] rfl (by repeat constructor) rfl (by repeat constructor) rfl)) ?_ ?_
           · exact ⟨hlt, hX1, hY1, by rw [hdX1, hdY1]; exact hal.both ha0 ha1' hbo.2⟩
           · dsimp only; omega)
        | (first|refine a1o (i + 1,Xa,Xb) (.of (.same (by repeat constructor))) ?_ ?_|refine a1o (i + 1,Xa,Xb) (.of (a2b [_] rfl (by repeat constructor) rfl (by repeat constructor) rfl)) ?_ ?_|refine a1o (i + 1,Xa,Xb) (.of (a2b [_,_] rfl (by repeat constructor) rfl (by repeat constructor) rfl)) ?_ ?_|refine a1o (i + 1,Xa,Xb) (.of (a2b [_,_,_] rfl (by repeat constructor) rfl (by repeat constructor) rfl)) ?_ ?_
           · exact ⟨hlt, hXa, hXb, hal⟩
           · dsimp only; omega)
    · have hbo := a9r hat
      have hbe := hbo.1
      repeat' (first|(first|refine a1d rfl rfl rfl (by first|exact ln8|exact ln9|exact ln10) (by repeat constructor) rfl ?_|refine a2y (id := 35) [(3,[2,0,1,3]),(7,[6,4,5,7])] [⟨0,true,[],bl 9 118⟩,⟨1,true,[],bl 9 113⟩,⟨2,true,[],bl 9 115⟩,⟨4,true,[2,0,1,3],bl 9 111⟩,⟨5,true,[2,0,1,3],bl 9 31⟩,⟨6,true,[2,0,1,3],bl 9 63⟩,⟨3,false,[],[]⟩,⟨7,false,[],[]⟩,⟨8,true,[],bl 9 255⟩] (by kernel_rfl) (by kernel_rfl) rfl (by kernel_rfl) ?_|refine a2k (a1r rfl rfl rfl (by omega)) rfl ?_|refine a0b (a1z rfl rfl (by omega) hrow rfl) rfl ?_|(refine a1g ?_;first|refine a0b (a1s rfl rfl rfl (by omega)) rfl ?_|refine a0b (a1r rfl rfl rfl (by omega)) rfl ?_)|(refine a0d ?_;refine a0q [2,0,1,3] rfl rfl (a4b (w0 := w0) (base := base) (at' := 0) hXa) ?_ ?_ rfl rfl ?_;(focus ((repeat constructor);done));(focus ((repeat constructor);done));rintro _ _ ⟨rfl,rfl⟩;refine ⟨_,_,by repeat constructor,by repeat constructor,?_⟩)|(refine a0d ?_;refine a0q [2,0,1,3] rfl rfl (a4b (w0 := w0) (base := base) (at' := 1) hXa) ?_ ?_ rfl rfl ?_;(focus ((repeat constructor);done));(focus ((repeat constructor);done));rintro _ _ ⟨rfl,rfl⟩;refine ⟨_,_,by repeat constructor,by repeat constructor,?_⟩)|(refine a0d ?_;refine a0o rfl rfl rfl rfl hWi ?_;rintro _ ⟨v,rfl⟩)|(refine a0d ?_;refine a0q [2,0,1,3] rfl rfl (b9r (w0 := w0) (base := base) (at' := at') hXa) ?_ ?_ rfl rfl ?_;(focus ((repeat constructor);done));(focus ((repeat constructor);done));rintro _ _ ⟨rfl,X1,hX1,rfl,hdX1⟩;refine ⟨_,_,by repeat constructor,by repeat constructor,?_⟩)|(refine a0d ?_;refine a0q [6,4,5,7] rfl rfl (b9r (w0 := w0) (base := base) (at' := at') hXb) ?_ ?_ rfl rfl ?_;(focus ((repeat constructor);done));(focus ((repeat constructor);done));rintro _ _ ⟨rfl,Y1,hY1,rfl,hdY1⟩;refine ⟨_,_,by repeat constructor,by repeat constructor,?_⟩)|(refine a0d ?_;refine a0o rfl rfl rfl rfl hW ?_;rintro _ rfl))|(refine a2i ?_;first|refine a0b (a0k rfl) rfl ?_|(refine k_g ?_;first|refine a1j rfl rfl (by with_reducible rfl) ?_|refine a1x rfl rfl (by with_reducible rfl) rfl ?_|refine a1w rfl rfl (by with_reducible rfl) rfl ?_|(refine a2c rfl rfl (fun hc => ?_) (fun hc => ?_) <;> (try (exfalso;omega))))|refine a0b (a0f rfl rfl) rfl ?_|(refine a0z ?_;first|refine a0b (a0w rfl rfl) rfl ?_|refine a0b (a0m rfl rfl rfl) rfl ?_)|(refine a1g ?_;first|refine a0b (a1k rfl rfl rfl) rfl ?_|refine a0b (a1q rfl rfl (by (first|exact w64 (by omega) (by omega)|rfl))) rfl ?_)|(refine a1i ?_;first|refine a0b (a0j rfl (by with_reducible rfl) rfl) rfl ?_|refine a0b (a0i rfl (by with_reducible rfl) rfl) rfl ?_)|refine a0b (a0e rfl) rfl ?_|(refine a0d ?_;first|refine a0b (a2f rfl) rfl ?_)|refine a0b (a0r rfl rfl) rfl ?_|refine a0u ?_|refine a1a rfl rfl rfl rfl rfl (by repeat constructor) (by repeat constructor) ?_|refine a0b (a0y rfl (by with_reducible rfl)) rfl ?_)|(first|refine a1f ?_|(refine a1h ?_;first|refine a0c (a0a ?_)|refine a0c ?_|refine a0a ?_|(refine a0x ?_;first|refine a0g rfl (by with_reducible rfl) ?_|refine a0h rfl (by with_reducible rfl) ?_|(refine a0s rfl (fun hc => ?_) (fun hc => ?_) <;> (try (exfalso;omega)))|(refine a2d rfl (fun hc => ?_) (fun hc => ?_) <;> (try (exact absurd hc (by decide)))))|refine a0p ?_|refine a0n ?_|refine a0l ?_|refine a1n ?_)|refine a0v ?_|refine a1t ?_|refine a2m ?_|refine a1l ?_|refine a1y ?_|refine a1c ?_|refine a1m ?_|refine a3j rfl ?_)|(first|(refine a7p ?_;first|refine a7r rfl ?_|refine a2k (a0k rfl) rfl ?_|refine a2k (a0e rfl) rfl ?_|refine a2k (a0f rfl rfl) rfl ?_|refine a2k (a0w rfl rfl) rfl ?_|refine a2k (a0m rfl rfl rfl) rfl ?_|refine a2k (a1k rfl rfl rfl) rfl ?_|refine a2k (a0j rfl (by with_reducible rfl) rfl) rfl ?_|refine a2k (a0i rfl (by with_reducible rfl) rfl) rfl ?_|refine a2k (a2f rfl) rfl ?_|refine a2k (a0r rfl rfl) rfl ?_|refine a2k (a1q rfl rfl (by (first|exact w64 (by omega) (by omega)|rfl))) rfl ?_|refine a2k (a0y rfl (by with_reducible rfl)) rfl ?_)|refine a4n rfl ?_|(refine a7q ?_;first|refine a7s ?_|refine c1e rfl rfl (by with_reducible rfl) ?_)|refine a3r ?_|refine a3h ?_))
      all_goals first
        | (refine ret1 (by first | exact .inr rfl | exact .inl rfl) rfl rfl ?_
           exact ⟨rfl, rfl⟩)
        | (first|refine a1o (i + 1,X1,Y1) (.of (.same (by repeat constructor))) ?_ ?_|refine a1o (i + 1,X1,Y1) (.of (a2b [_] rfl (by repeat constructor) rfl (by repeat constructor) rfl)) ?_ ?_|refine a1o (i + 1,X1,Y1) (.of (a2b [_,_] rfl (by repeat constructor) rfl (by repeat constructor) rfl)) ?_ ?_|refine a1o (i + 1,X1,Y1) (.of (a2b [_,_,_] rfl (by repeat constructor) rfl (by repeat constructor) rfl)) ?_ ?_
           · exact ⟨hlt, hX1, hY1, by rw [hdX1, hdY1]; exact hal.both ha0 ha1' hbo.2⟩
           · dsimp only; omega)
        | (first|refine a1o (i + 1,Xa,Xb) (.of (.same (by repeat constructor))) ?_ ?_|refine a1o (i + 1,Xa,Xb) (.of (a2b [_] rfl (by repeat constructor) rfl (by repeat constructor) rfl)) ?_ ?_|refine a1o (i + 1,Xa,Xb) (.of (a2b [_,_] rfl (by repeat constructor) rfl (by repeat constructor) rfl)) ?_ ?_|refine a1o (i + 1,Xa,Xb) (.of (a2b [_,_,_] rfl (by repeat constructor) rfl (by repeat constructor) rfl)) ?_ ?_
           · exact ⟨hlt, hXa, hXb, hal⟩
           · dsimp only; omega)
    · have hbo := a9u hal.a hal.b hat
      obtain ⟨ac, er, hac⟩ : ∃ ac er, (pickD Xa.ds at').2 = (ac, er) := ⟨_, _, rfl⟩
      have hbc : (pickD Xb.ds at').2 = (ac, er) := hbo.1.symm.trans hac
      have hPa : ACalls (EE w0 base) 13 [.op 0 0, .int .i64 at'] (dmO Xa) fun rv os => rv = .tup [.agg (atC ac), .int .i64 er] ∧ ∃ X', DemOk X' ∧ os = dmO X' ∧ X'.ds = (pickD Xa.ds at').1 := by
        have h0 := b3l (w0 := w0) (base := base) (at' := at') hG hXa
        unfold PkR at h0
        rw [hac] at h0
        exact h0
      have hPb : ACalls (EE w0 base) 13 [.op 0 0, .int .i64 at'] (dmO Xb) fun rv os => rv = .tup [.agg (atC ac), .int .i64 er] ∧ ∃ X', DemOk X' ∧ os = dmO X' ∧ X'.ds = (pickD Xb.ds at').1 := by
        have h0 := b3l (w0 := w0) (base := base) (at' := at') hG hXb
        unfold PkR at h0
        rw [hbc] at h0
        exact h0
      have hBd : AtB ac := by have h0 := c3g (D := Xa.ds) (k := at'); rw [hac] at h0; exact h0
      have hPl := b1t (w0 := w0) (base := base) (a := ac)
      have hSm := b5b (w0 := w0) (base := base) (a := ac) hBd
      obtain ⟨ak, ao, acl, au, atk, an, aw, rq⟩ := ac
      rcases rq with _ | ⟨h', b'⟩
      all_goals
        repeat' (first|(first|refine a1d rfl rfl rfl (by first|exact ln8|exact ln9|exact ln10) (by repeat constructor) rfl ?_|refine a2y (id := 42) [] [⟨0,true,[],bl 11 4⟩,⟨2,true,[],bl 11 3⟩,⟨1,false,[],[]⟩,⟨3,false,[],[]⟩,⟨4,false,[],[]⟩,⟨5,true,[],bl 11 31⟩,⟨6,true,[],bl 11 63⟩,⟨7,true,[],bl 11 383⟩,⟨8,true,[],bl 11 255⟩,⟨9,true,[],bl 11 511⟩,⟨10,true,[],bl 11 1023⟩] (by kernel_rfl) (by kernel_rfl) rfl (by kernel_rfl) ?_|refine a2k (a1r rfl rfl rfl (by omega)) rfl ?_|refine a0b (a1z rfl rfl (by omega) hrow rfl) rfl ?_|(refine a1g ?_;first|refine a0b (a1s rfl rfl rfl (by omega)) rfl ?_|refine a0b (a1r rfl rfl rfl (by omega)) rfl ?_)|(refine a0d ?_;refine a0q [2,0,1,3] rfl rfl (a4b (w0 := w0) (base := base) (at' := 0) hXa) ?_ ?_ rfl rfl ?_;(focus ((repeat constructor);done));(focus ((repeat constructor);done));rintro _ _ ⟨rfl,rfl⟩;refine ⟨_,_,by repeat constructor,by repeat constructor,?_⟩)|(refine a0d ?_;refine a0q [2,0,1,3] rfl rfl (a4b (w0 := w0) (base := base) (at' := 1) hXa) ?_ ?_ rfl rfl ?_;(focus ((repeat constructor);done));(focus ((repeat constructor);done));rintro _ _ ⟨rfl,rfl⟩;refine ⟨_,_,by repeat constructor,by repeat constructor,?_⟩)|(refine a0d ?_;refine a0q [2,0,1,3] rfl rfl hPa ?_ ?_ rfl rfl ?_;(focus ((repeat constructor);done));(focus ((repeat constructor);done));rintro _ _ ⟨rfl,X1,hX1,rfl,hdX1⟩;refine ⟨_,_,by repeat constructor,by repeat constructor,?_⟩)|(refine a0d ?_;refine a0q [6,4,5,7] rfl rfl hPb ?_ ?_ rfl rfl ?_;(focus ((repeat constructor);done));(focus ((repeat constructor);done));rintro _ _ ⟨rfl,Y1,hY1,rfl,hdY1⟩;refine ⟨_,_,by repeat constructor,by repeat constructor,?_⟩)|(refine a0d ?_;refine a0q [2,0,1,3] rfl rfl (a4b (w0 := w0) (base := base) (at' := at') hX1) ?_ ?_ rfl rfl ?_;(focus ((repeat constructor);done));(focus ((repeat constructor);done));rintro _ _ ⟨rfl,rfl⟩;refine ⟨_,_,by repeat constructor,by repeat constructor,?_⟩)|(refine a0d ?_;refine a0o rfl rfl rfl rfl hPl ?_;rintro _ rfl)|(refine a0d ?_;refine a0o rfl rfl rfl rfl hSm ?_;rintro _ rfl)|(refine a0d ?_;refine a0o rfl rfl rfl rfl hW ?_;rintro _ rfl))|(refine a2i ?_;first|refine a0b (a0k rfl) rfl ?_|(refine k_g ?_;first|refine a1j rfl rfl (by with_reducible rfl) ?_|refine a1x rfl rfl (by with_reducible rfl) rfl ?_|refine a1w rfl rfl (by with_reducible rfl) rfl ?_|(refine a2c rfl rfl (fun hc => ?_) (fun hc => ?_) <;> (try (exfalso;omega))))|refine a0b (a0f rfl rfl) rfl ?_|(refine a0z ?_;first|refine a0b (a0w rfl rfl) rfl ?_|refine a0b (a0m rfl rfl rfl) rfl ?_)|(refine a1g ?_;first|refine a0b (a1k rfl rfl rfl) rfl ?_|refine a0b (a1q rfl rfl (by (first|exact w64 (by omega) (by omega)|rfl))) rfl ?_)|(refine a1i ?_;first|refine a0b (a0j rfl (by with_reducible rfl) rfl) rfl ?_|refine a0b (a0i rfl (by with_reducible rfl) rfl) rfl ?_)|refine a0b (a0e rfl) rfl ?_|(refine a0d ?_;first|refine a0b (a2f rfl) rfl ?_)|refine a0b (a0r rfl rfl) rfl ?_|refine a0u ?_|refine a1a rfl rfl rfl rfl rfl (by repeat constructor) (by repeat constructor) ?_|refine a0b (a0y rfl (by with_reducible rfl)) rfl ?_)|(first|refine a1f ?_|(refine a1h ?_;first|refine a0c (a0a ?_)|refine a0c ?_|refine a0a ?_|(refine a0x ?_;first|refine a0g rfl (by with_reducible rfl) ?_|refine a0h rfl (by with_reducible rfl) ?_|(refine a0s rfl (fun hc => ?_) (fun hc => ?_) <;> (try (exfalso;omega)))|(refine a2d rfl (fun hc => ?_) (fun hc => ?_) <;> (try (exact absurd hc (by decide)))))|refine a0p ?_|refine a0n ?_|refine a0l ?_|refine a1n ?_)|refine a0v ?_|refine a1t ?_|refine a2m ?_|refine a1l ?_|refine a1y ?_|refine a1c ?_|refine a1m ?_|refine a3j rfl ?_)|(first|(refine a7p ?_;first|refine a7r rfl ?_|refine a2k (a0k rfl) rfl ?_|refine a2k (a0e rfl) rfl ?_|refine a2k (a0f rfl rfl) rfl ?_|refine a2k (a0w rfl rfl) rfl ?_|refine a2k (a0m rfl rfl rfl) rfl ?_|refine a2k (a1k rfl rfl rfl) rfl ?_|refine a2k (a0j rfl (by with_reducible rfl) rfl) rfl ?_|refine a2k (a0i rfl (by with_reducible rfl) rfl) rfl ?_|refine a2k (a2f rfl) rfl ?_|refine a2k (a0r rfl rfl) rfl ?_|refine a2k (a1q rfl rfl (by (first|exact w64 (by omega) (by omega)|rfl))) rfl ?_|refine a2k (a0y rfl (by with_reducible rfl)) rfl ?_)|refine a4n rfl ?_|(refine a7q ?_;first|refine a7s ?_|refine c1e rfl rfl (by with_reducible rfl) ?_)|refine a3r ?_|refine a3h ?_))
        all_goals first
          | (refine ret1 (by first | exact .inr rfl | exact .inl rfl) rfl rfl ?_
             exact ⟨rfl, rfl⟩)
          | (first|refine a1o (i + 1,X1,Y1) (.of (.same (by repeat constructor))) ?_ ?_|refine a1o (i + 1,X1,Y1) (.of (a2b [_] rfl (by repeat constructor) rfl (by repeat constructor) rfl)) ?_ ?_|refine a1o (i + 1,X1,Y1) (.of (a2b [_,_] rfl (by repeat constructor) rfl (by repeat constructor) rfl)) ?_ ?_|refine a1o (i + 1,X1,Y1) (.of (a2b [_,_,_] rfl (by repeat constructor) rfl (by repeat constructor) rfl)) ?_ ?_
             · exact ⟨hlt, hX1, hY1, by rw [hdX1, hdY1]; exact hal.both ha0 ha1' hbo.2⟩
             · dsimp only; omega)
    · have hbo := a7i rp hat
      have hbe := hbo.1
      repeat' (first|(first|refine a1d rfl rfl rfl (by first|exact ln8|exact ln9|exact ln10) (by repeat constructor) rfl ?_|refine a2y (id := 45) [(5,[2,0,1,3]),(11,[6,4,5,7])] [⟨0,true,[],bl 13 2014⟩,⟨1,true,[],bl 13 2009⟩,⟨2,true,[],bl 13 2011⟩,⟨3,true,[],bl 13 1991⟩,⟨4,true,[],bl 13 1999⟩,⟨6,true,[2,0,1,3],bl 13 1983⟩,⟨7,true,[2,0,1,3],bl 13 1663⟩,⟨8,true,[2,0,1,3],bl 13 1791⟩,⟨9,true,[2,0,1,3],bl 13 511⟩,⟨10,true,[2,0,1,3],bl 13 1023⟩,⟨5,false,[],[]⟩,⟨11,false,[],[]⟩,⟨12,true,[],bl 13 4095⟩] (by kernel_rfl) (by kernel_rfl) rfl (by kernel_rfl) ?_|refine a2k (a1r rfl rfl rfl (by omega)) rfl ?_|refine a0b (a1z rfl rfl (by omega) hrow rfl) rfl ?_|(refine a1g ?_;first|refine a0b (a1s rfl rfl rfl (by omega)) rfl ?_|refine a0b (a1r rfl rfl rfl (by omega)) rfl ?_)|(refine a0d ?_;refine a0q [2,0,1,3] rfl rfl (a4b (w0 := w0) (base := base) (at' := 0) hXa) ?_ ?_ rfl rfl ?_;(focus ((repeat constructor);done));(focus ((repeat constructor);done));rintro _ _ ⟨rfl,rfl⟩;refine ⟨_,_,by repeat constructor,by repeat constructor,?_⟩)|(refine a0d ?_;refine a0q [2,0,1,3] rfl rfl (a4b (w0 := w0) (base := base) (at' := 1) hXa) ?_ ?_ rfl rfl ?_;(focus ((repeat constructor);done));(focus ((repeat constructor);done));rintro _ _ ⟨rfl,rfl⟩;refine ⟨_,_,by repeat constructor,by repeat constructor,?_⟩)|(refine a0d ?_;refine a0o rfl rfl rfl rfl hWi ?_;rintro _ ⟨v,rfl⟩)|(refine a0d ?_;refine a0q [2,0,1,3] rfl rfl (a7y (w0 := w0) (base := base) (at' := at') (r := rp) hXa frp ffs) ?_ ?_ rfl rfl ?_;(focus ((repeat constructor);done));(focus ((repeat constructor);done));rintro _ _ ⟨rfl,X1,hX1,rfl,hdX1⟩;refine ⟨_,_,by repeat constructor,by repeat constructor,?_⟩)|(refine a0d ?_;refine a0q [6,4,5,7] rfl rfl (a7y (w0 := w0) (base := base) (at' := at') (r := rp) hXb frp ffs) ?_ ?_ rfl rfl ?_;(focus ((repeat constructor);done));(focus ((repeat constructor);done));rintro _ _ ⟨rfl,Y1,hY1,rfl,hdY1⟩;refine ⟨_,_,by repeat constructor,by repeat constructor,?_⟩)|(refine a0d ?_;refine a0o rfl rfl rfl rfl hW ?_;rintro _ rfl))|(refine a2i ?_;first|refine a0b (a0k rfl) rfl ?_|(refine k_g ?_;first|refine a1j rfl rfl (by with_reducible rfl) ?_|refine a1x rfl rfl (by with_reducible rfl) rfl ?_|refine a1w rfl rfl (by with_reducible rfl) rfl ?_|(refine a2c rfl rfl (fun hc => ?_) (fun hc => ?_) <;> (try (exfalso;omega))))|refine a0b (a0f rfl rfl) rfl ?_|(refine a0z ?_;first|refine a0b (a0w rfl rfl) rfl ?_|refine a0b (a0m rfl rfl rfl) rfl ?_)|(refine a1g ?_;first|refine a0b (a1k rfl rfl rfl) rfl ?_|refine a0b (a1q rfl rfl (by (first|exact w64 (by omega) (by omega)|rfl))) rfl ?_)|(refine a1i ?_;first|refine a0b (a0j rfl (by with_reducible rfl) rfl) rfl ?_|refine a0b (a0i rfl (by with_reducible rfl) rfl) rfl ?_)|refine a0b (a0e rfl) rfl ?_|(refine a0d ?_;first|refine a0b (a2f rfl) rfl ?_)|refine a0b (a0r rfl rfl) rfl ?_|refine a0u ?_|refine a1a rfl rfl rfl rfl rfl (by repeat constructor) (by repeat constructor) ?_|refine a0b (a0y rfl (by with_reducible rfl)) rfl ?_)|(first|refine a1f ?_|(refine a1h ?_;first|refine a0c (a0a ?_)|refine a0c ?_|refine a0a ?_|(refine a0x ?_;first|refine a0g rfl (by with_reducible rfl) ?_|refine a0h rfl (by with_reducible rfl) ?_|(refine a0s rfl (fun hc => ?_) (fun hc => ?_) <;> (try (exfalso;omega)))|(refine a2d rfl (fun hc => ?_) (fun hc => ?_) <;> (try (exact absurd hc (by decide)))))|refine a0p ?_|refine a0n ?_|refine a0l ?_|refine a1n ?_)|refine a0v ?_|refine a1t ?_|refine a2m ?_|refine a1l ?_|refine a1y ?_|refine a1c ?_|refine a1m ?_|refine a3j rfl ?_)|(first|(refine a7p ?_;first|refine a7r rfl ?_|refine a2k (a0k rfl) rfl ?_|refine a2k (a0e rfl) rfl ?_|refine a2k (a0f rfl rfl) rfl ?_|refine a2k (a0w rfl rfl) rfl ?_|refine a2k (a0m rfl rfl rfl) rfl ?_|refine a2k (a1k rfl rfl rfl) rfl ?_|refine a2k (a0j rfl (by with_reducible rfl) rfl) rfl ?_|refine a2k (a0i rfl (by with_reducible rfl) rfl) rfl ?_|refine a2k (a2f rfl) rfl ?_|refine a2k (a0r rfl rfl) rfl ?_|refine a2k (a1q rfl rfl (by (first|exact w64 (by omega) (by omega)|rfl))) rfl ?_|refine a2k (a0y rfl (by with_reducible rfl)) rfl ?_)|refine a4n rfl ?_|(refine a7q ?_;first|refine a7s ?_|refine c1e rfl rfl (by with_reducible rfl) ?_)|refine a3r ?_|refine a3h ?_))
      all_goals first
        | (refine ret1 (by first | exact .inr rfl | exact .inl rfl) rfl rfl ?_
           exact ⟨rfl, rfl⟩)
        | (first|refine a1o (i + 1,X1,Y1) (.of (.same (by repeat constructor))) ?_ ?_|refine a1o (i + 1,X1,Y1) (.of (a2b [_] rfl (by repeat constructor) rfl (by repeat constructor) rfl)) ?_ ?_|refine a1o (i + 1,X1,Y1) (.of (a2b [_,_] rfl (by repeat constructor) rfl (by repeat constructor) rfl)) ?_ ?_|refine a1o (i + 1,X1,Y1) (.of (a2b [_,_,_] rfl (by repeat constructor) rfl (by repeat constructor) rfl)) ?_ ?_
           · exact ⟨hlt, hX1, hY1, by rw [hdX1, hdY1]; exact hal.both ha0 ha1' hbo.2⟩
           · dsimp only; omega)
        | (first|refine a1o (i + 1,Xa,Xb) (.of (.same (by repeat constructor))) ?_ ?_|refine a1o (i + 1,Xa,Xb) (.of (a2b [_] rfl (by repeat constructor) rfl (by repeat constructor) rfl)) ?_ ?_|refine a1o (i + 1,Xa,Xb) (.of (a2b [_,_] rfl (by repeat constructor) rfl (by repeat constructor) rfl)) ?_ ?_|refine a1o (i + 1,Xa,Xb) (.of (a2b [_,_,_] rfl (by repeat constructor) rfl (by repeat constructor) rfl)) ?_ ?_
           · exact ⟨hlt, hXa, hXb, hal⟩
           · dsimp only; omega)
    · repeat' (first|(first|refine a1d rfl rfl rfl (by first|exact ln8|exact ln9|exact ln10) (by repeat constructor) rfl ?_|refine a0b (a1z rfl rfl (by omega) hrow rfl) rfl ?_|(refine a1g ?_;first|refine a0b (a1s rfl rfl rfl (by omega)) rfl ?_|refine a0b (a1r rfl rfl rfl (by omega)) rfl ?_)|(refine a0d ?_;refine a0q [2,0,1,3] rfl rfl (a4b (w0 := w0) (base := base) (at' := 0) hXa) ?_ ?_ rfl rfl ?_;(focus ((repeat constructor);done));(focus ((repeat constructor);done));rintro _ _ ⟨rfl,rfl⟩;refine ⟨_,_,by repeat constructor,by repeat constructor,?_⟩)|(refine a0d ?_;refine a0q [2,0,1,3] rfl rfl (a4b (w0 := w0) (base := base) (at' := 1) hXa) ?_ ?_ rfl rfl ?_;(focus ((repeat constructor);done));(focus ((repeat constructor);done));rintro _ _ ⟨rfl,rfl⟩;refine ⟨_,_,by repeat constructor,by repeat constructor,?_⟩)|(refine a0d ?_;refine a0o rfl rfl rfl rfl hW ?_;rintro _ rfl))|(refine a2i ?_;first|refine a0b (a0k rfl) rfl ?_|(refine k_g ?_;first|refine a1j rfl rfl (by with_reducible rfl) ?_|refine a1x rfl rfl (by with_reducible rfl) rfl ?_|refine a1w rfl rfl (by with_reducible rfl) rfl ?_|(refine a2c rfl rfl (fun hc => ?_) (fun hc => ?_) <;> (try (exfalso;omega))))|refine a0b (a0f rfl rfl) rfl ?_|(refine a0z ?_;first|refine a0b (a0w rfl rfl) rfl ?_|refine a0b (a0m rfl rfl rfl) rfl ?_)|(refine a1g ?_;first|refine a0b (a1k rfl rfl rfl) rfl ?_|refine a0b (a1q rfl rfl (by (first|exact w64 (by omega) (by omega)|rfl))) rfl ?_)|(refine a1i ?_;first|refine a0b (a0j rfl (by with_reducible rfl) rfl) rfl ?_|refine a0b (a0i rfl (by with_reducible rfl) rfl) rfl ?_)|refine a0b (a0e rfl) rfl ?_|(refine a0d ?_;first|refine a0b (a2f rfl) rfl ?_)|refine a0b (a0r rfl rfl) rfl ?_|refine a0u ?_|refine a1a rfl rfl rfl rfl rfl (by repeat constructor) (by repeat constructor) ?_|refine a0b (a0y rfl (by with_reducible rfl)) rfl ?_)|(first|refine a1f ?_|(refine a1h ?_;first|refine a0c (a0a ?_)|refine a0c ?_|refine a0a ?_|(refine a0x ?_;first|refine a0g rfl (by with_reducible rfl) ?_|refine a0h rfl (by with_reducible rfl) ?_|(refine a0s rfl (fun hc => ?_) (fun hc => ?_) <;> (try (exfalso;omega)))|(refine a2d rfl (fun hc => ?_) (fun hc => ?_) <;> (try (exact absurd hc (by decide)))))|refine a0p ?_|refine a0n ?_|refine a0l ?_|refine a1n ?_)|refine a0v ?_|refine a1t ?_|refine a2m ?_|refine a1l ?_|refine a1y ?_|refine a1c ?_|refine a1m ?_|refine a3j rfl ?_))
      all_goals first
        | (refine ret1 (by first | exact .inr rfl | exact .inl rfl) rfl rfl ?_
           exact ⟨rfl, rfl⟩)
        | (first|refine a1o (i + 1,Xa,Xb) (.of (.same (by repeat constructor))) ?_ ?_|refine a1o (i + 1,Xa,Xb) (.of (a2b [_] rfl (by repeat constructor) rfl (by repeat constructor) rfl)) ?_ ?_|refine a1o (i + 1,Xa,Xb) (.of (a2b [_,_] rfl (by repeat constructor) rfl (by repeat constructor) rfl)) ?_ ?_|refine a1o (i + 1,Xa,Xb) (.of (a2b [_,_,_] rfl (by repeat constructor) rfl (by repeat constructor) rfl)) ?_ ?_
           · exact ⟨hlt, hXa, hXb, hal⟩
           · dsimp only; omega)
  · have hu0 := hal.user (k := 0) (by decide) (by decide)
    have hu1 := hal.user (k := 1) (by decide) (by decide)
    repeat' (first|(first|refine a1d rfl rfl rfl (by first|exact ln8|exact ln9|exact ln10) (by repeat constructor) rfl ?_|(refine a1g ?_;first|refine a0b (a1s rfl rfl rfl (by omega)) rfl ?_|refine a0b (a1r rfl rfl rfl (by omega)) rfl ?_)|(refine a0d ?_;refine a0q [2,0,1,3] rfl rfl (a4b (w0 := w0) (base := base) (at' := 0) hXa) ?_ ?_ rfl rfl ?_;(focus ((repeat constructor);done));(focus ((repeat constructor);done));rintro _ _ ⟨rfl,rfl⟩;refine ⟨_,_,by repeat constructor,by repeat constructor,?_⟩)|(refine a0d ?_;refine a0q [2,0,1,3] rfl rfl (a4b (w0 := w0) (base := base) (at' := 1) hXa) ?_ ?_ rfl rfl ?_;(focus ((repeat constructor);done));(focus ((repeat constructor);done));rintro _ _ ⟨rfl,rfl⟩;refine ⟨_,_,by repeat constructor,by repeat constructor,?_⟩)|(refine a0d ?_;refine a0q [6,4,5,7] rfl rfl (a4b (w0 := w0) (base := base) (at' := 0) hXb) ?_ ?_ rfl rfl ?_;(focus ((repeat constructor);done));(focus ((repeat constructor);done));rintro _ _ ⟨rfl,rfl⟩;refine ⟨_,_,by repeat constructor,by repeat constructor,?_⟩)|(refine a0d ?_;refine a0q [6,4,5,7] rfl rfl (a4b (w0 := w0) (base := base) (at' := 1) hXb) ?_ ?_ rfl rfl ?_;(focus ((repeat constructor);done));(focus ((repeat constructor);done));rintro _ _ ⟨rfl,rfl⟩;refine ⟨_,_,by repeat constructor,by repeat constructor,?_⟩)|(refine a0d ?_;refine a0o rfl rfl rfl rfl hW ?_;rintro _ rfl))|(refine a2i ?_;first|refine a0b (a0k rfl) rfl ?_|(refine k_g ?_;first|refine a1j rfl rfl (by with_reducible rfl) ?_|refine a1x rfl rfl (by with_reducible rfl) rfl ?_|refine a1w rfl rfl (by with_reducible rfl) rfl ?_|(refine a2c rfl rfl (fun hc => ?_) (fun hc => ?_) <;> (try (exfalso;omega))))|refine a0b (a0f rfl rfl) rfl ?_|(refine a0z ?_;first|refine a0b (a0w rfl rfl) rfl ?_|refine a0b (a0m rfl rfl rfl) rfl ?_)|(refine a1g ?_;first|refine a0b (a1k rfl rfl rfl) rfl ?_|refine a0b (a1q rfl rfl (by (first|exact w64 (by omega) (by omega)|rfl))) rfl ?_)|(refine a1i ?_;first|refine a0b (a0j rfl (by with_reducible rfl) rfl) rfl ?_|refine a0b (a0i rfl (by with_reducible rfl) rfl) rfl ?_)|refine a0b (a0e rfl) rfl ?_|(refine a0d ?_;first|refine a0b (a2f rfl) rfl ?_)|refine a0b (a0r rfl rfl) rfl ?_|refine a0u ?_|refine a1a rfl rfl rfl rfl rfl (by repeat constructor) (by repeat constructor) ?_|refine a0b (a0y rfl (by with_reducible rfl)) rfl ?_)|(first|refine a1f ?_|(refine a1h ?_;first|refine a0c (a0a ?_)|refine a0c ?_|refine a0a ?_|(refine a0x ?_;first|refine a0g rfl (by with_reducible rfl) ?_|refine a0h rfl (by with_reducible rfl) ?_|(refine a0s rfl (fun hc => ?_) (fun hc => ?_) <;> (try (exfalso;omega)))|(refine a2d rfl (fun hc => ?_) (fun hc => ?_) <;> (try (exact absurd hc (by decide)))))|refine a0p ?_|refine a0n ?_|refine a0l ?_|refine a1n ?_)|refine a0v ?_|refine a1t ?_|refine a2m ?_|refine a1l ?_|refine a1y ?_|refine a1c ?_|refine a1m ?_|refine a3j rfl ?_))
    all_goals
      refine ret1 (by first | exact .inr rfl | exact .inl rfl) rfl rfl ?_
      exact ⟨rfl, rfl⟩
end
end Go.Proofs.YtkljmljkiodnpaaGreatDoor.L

namespace Go.Proofs.YtkljmljkiodnpaaGreatDoor.L
open Go Go.RowKit Go.Proofs Go.ChangeShapes Go.WideShapes Go.ChangeAt
attribute [local irreducible] AL QL AWp Thn InB RetQ ACalls LoopQ
theorem b6k {xs : List AV} (h : OKL [.str, .str] xs) : ∃ p : List UInt8 × List UInt8, xs = prAV p := by
  cases h with
  | cons h1 h2 => cases h2 with
    | cons h2 h3 => cases h3; cases h1 with
      | str a _ => cases h2 with
        | str b _ => exact ⟨(a, b), rfl⟩
theorem b3x : ∀ {rows : List (List AV)}, OKR [.str, .str] rows → ∃ fs : Fs, rows = fs.map prAV := by
  intro rows
  induction rows with
  | nil => intro _; exact ⟨[], rfl⟩
  | cons r rows ih =>
    intro h
    cases h with
    | cons h1 h2 =>
      obtain ⟨p, rfl⟩ := b6k h1
      obtain ⟨fs, rfl⟩ := ih h2
      exact ⟨p :: fs, rfl⟩
theorem b2f (fs : Fs) : fs.length ≤ rowsB (fs.map prAV) ∧ ∀ p ∈ fs, p.1.length ≤ rowsB (fs.map prAV) ∧ p.2.length ≤ rowsB (fs.map prAV) := by
  induction fs with
  | nil => exact ⟨Nat.zero_le _, fun p h => by cases h⟩
  | cons q fs ih =>
    rw [List.map_cons, rowsB, List.length_cons]
    have e : cellsB (prAV q) = (q.1.length + 1) + ((q.2.length + 1) + 0) := rfl
    rw [e]
    refine ⟨by omega, fun p hp => ?_⟩
    rcases List.mem_cons.1 hp with rfl | hp
    · omega
    · have := ih.2 p hp; omega
theorem b8i : ∀ {rows : List (List AV)}, OKR [.int .i64, .int .i64, .int .i64, .str, .int .i64, .sl [.str, .str], .str, .bool] rows → ∃ l : List Op18, rows = l.map opC := by
  intro rows
  induction rows with
  | nil => intro _; exact ⟨[], rfl⟩
  | cons r rows ih =>
    intro h
    cases h with
    | cons h1 h2 =>
      obtain ⟨l, rfl⟩ := ih h2
      cases h1 with | cons a1 h1 => cases h1 with | cons a2 h1 => cases h1 with | cons a3 h1 => cases h1 with | cons a4 h1 => cases h1 with | cons a5 h1 => cases h1 with | cons a6 h1 => cases h1 with | cons a7 h1 => cases h1 with | cons a8 h1 =>
        cases h1
        cases a1 with | int _ kd _ => cases a2 with | int _ at' _ => cases a3 with | int _ us _ => cases a4 with | str tx _ => cases a5 with | int _ st _ => cases a6 with | sl _ fr _ _ hr => cases a7 with | str b _ => cases a8 with | bool c =>
          obtain ⟨fs, rfl⟩ := b3x hr
          exact ⟨⟨kd, at', us, tx, ⟨st, fs, b, c⟩⟩ :: l, rfl⟩
theorem b5t (o : Op18) : cellsB (opC o) = 1 + (1 + (1 + ((o.tx.length + 1) + (1 + ((rowsB (o.r.fs.map prAV) + 1) + ((o.r.body.length + 1) + (1 + 0))))))) := rfl
theorem c0w {o : Op18} (h : cellsB (opC o) ≤ 2097152) : OpFit o := by
  rw [b5t] at h
  obtain ⟨h1, h2⟩ := b2f o.r.fs
  exact ⟨by omega, ⟨by omega, fun p hp => by have := h2 p hp; omega, by omega⟩, by omega⟩
theorem c3j : ∀ {l : List Op18}, rowsB (l.map opC) ≤ 2097152 → l.length ≤ rowsB (l.map opC) ∧ ∀ o ∈ l, OpFit o := by
  intro l
  induction l with
  | nil => intro _; exact ⟨Nat.zero_le _, fun r h => by cases h⟩
  | cons q l ih =>
    intro h
    rw [List.map_cons, rowsB] at h
    obtain ⟨i1, i2⟩ := ih (by omega)
    refine ⟨?_, fun r hr => ?_⟩
    · rw [List.map_cons, rowsB, List.length_cons, b5t]
      omega
    · rcases List.mem_cons.1 hr with rfl | hr
      · exact c0w (by omega)
      · exact i2 r hr
end Go.Proofs.YtkljmljkiodnpaaGreatDoor.L
