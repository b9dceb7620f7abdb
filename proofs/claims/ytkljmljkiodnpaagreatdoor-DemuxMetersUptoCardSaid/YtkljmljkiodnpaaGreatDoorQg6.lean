/- Part 6 of the texts behind the theorem of this claim: Layer 18 (demux): a connection waits; a login; The logic, part 35: an entry goes out of a map of the call's own that is never ranged over; Layer 18 (demux): connections as they lie in memory; Layer 18 (demux): the methods that only look; Shut, Bind; Layer 18 (demux): Counts, Shut, New; Layer 18 (dem -/
import Derived.Test.YtkljmljkiodnpaaGreatDoorQg5
import Derived.Test.YtkljmljkiodnpaaGreatDoorQg2
set_option linter.unusedVariables false
set_option linter.unusedSimpArgs false
set_option maxRecDepth 100000
namespace Go.Proofs.YtkljmljkiodnpaaGreatDoor.L
open Go Go.RowKit Go.Proofs
attribute [local irreducible] AL QL AWp Thn InB RetQ ACalls LoopQ HL HO HW HQ NoG JmpQ MidQ HF

section
variable {w0 : World} {base : Nat}
set_option maxHeartbeats 4000000 in
theorem c4b {m : Nat → Option (List AV)} {bc bp : Nat} {pa : AV} {c : Cn} {h : Hd} {b : List UInt8} {u : Int} {a : At} (hm : m bc = some (cnC bp pa c)) :
    ACalls (EE w0 base) 53 [.ad bc 0, .agg (rqCs h b), .int .i64 u, .agg (atC a)] [.hp m] fun rv os => rv = .agg (atC a) ∧ ∃ ex, os = .hp (upd m bc (cnC bp pa (handsC c (closesS h) u a).1)) :: ex := by
  obtain ⟨s, st, user, closed, lost, waits, asks, ends, ans⟩ := c
  obtain ⟨ak, ao, acl, au, atk, an, aw, rq⟩ := a
  obtain ⟨CL, hCL⟩ : ∃ CL, CL = closesS h := ⟨_, rfl⟩
  unfold handsC
  rw [← hCL]
  dsimp only
  rw [← a5v (m := m) (b := bc) (cs := [.ad bp 0, .int .i64 user, .bool closed, .bool lost, .bool true, .int .i64 u, .bool ends, pa]), ← a5v (m := m) (b := bc) (cs := [.ad bp 0, .int .i64 user, .bool closed, .bool lost, .bool true, .int .i64 asks, .bool ends, pa]) (ds := [.ad bp 0, .int .i64 user, .bool closed, .bool lost, .bool true, .int .i64 u, .bool ends, pa])]
  show ACalls (EE w0 base) 53 [.ad bc 0, .agg [.str h.m, .str h.t, .int .i64 h.v, .rs (h.fs.map prAV), .str (tgtP h.t), .rs ((tgtQ h.t).map prAV), .str b, .bool (closesS h)], .int .i64 u, .agg (atC ⟨ak, ao, acl, au, atk, an, aw, rq⟩)] [.hp m] _
  rw [← hCL]
  match rq with
  | none =>
    refine a1s Tryz.func53 rfl rfl rfl (.cons (.cons (.cons (.cons .nil)))) ?_
    repeat' (first|(first|refine a3b (id := 1) [(8,[0]),(11,[0]),(14,[0])] [⟨0,true,[],bl 15 62⟩,⟨1,true,[0],bl 15 509⟩,⟨2,true,[0],bl 15 4091⟩,⟨3,true,[0],bl 15 503⟩,⟨4,true,[0],bl 15 4047⟩,⟨5,true,[0],bl 15 4063⟩,⟨6,true,[],bl 15 63⟩,⟨7,true,[],bl 15 127⟩,⟨8,false,[],[]⟩,⟨9,true,[],bl 15 511⟩,⟨10,true,[],bl 15 1023⟩,⟨11,false,[],[]⟩,⟨12,true,[],bl 15 4095⟩,⟨13,true,[],bl 15 8191⟩,⟨14,false,[],[]⟩] (by kernel_rfl) (by kernel_rfl) rfl (by kernel_rfl) ?_|refine a2c (a1k (n := 0) rfl rfl) rfl ?_|refine a4e (id := 0) rfl rfl rfl rfl rfl rfl (by repeat constructor) hm (by repeat constructor) ?_|refine a4e (id := 0) rfl rfl rfl rfl rfl rfl (by repeat constructor) a2r (by repeat constructor) ?_)|(refine a2k ?_;first|refine a0b (a0l rfl) rfl ?_|refine a0b (a0f rfl rfl) rfl ?_|(refine a1g ?_;first|refine a0b (a0w rfl rfl) rfl ?_|refine a0b (a0m rfl rfl rfl) rfl ?_)|refine a0u ?_|refine a2g rfl rfl rfl (by first|exact ln1|exact ln2|exact ln3) (by repeat constructor) rfl ?_|refine a0z rfl rfl rfl (by first|exact ln1|exact ln2|exact ln3) (by repeat constructor) rfl ?_|refine a1c rfl rfl rfl rfl rfl (by repeat constructor) (by repeat constructor) ?_)|(first|refine a1n ?_|(refine a1o ?_;first|refine a0c (a0a ?_)|refine a0c ?_|refine a0a ?_|refine a0o ?_))|(first|(refine a7n ?_;first|refine a7p rfl ?_|refine a2c (a0l rfl) rfl ?_|refine a2c (a0f rfl rfl) rfl ?_|refine a2c (a0w rfl rfl) rfl ?_|refine a2c (a0m rfl rfl rfl) rfl ?_)|refine a4o rfl ?_|(refine a7o ?_;first|refine a7q ?_)|refine a3r ?_|refine a3j ?_))
    refine retc0 (by first | exact .inr rfl | exact .inl rfl) rfl rfl rfl rfl ?_
    exact ⟨rfl, _, rfl⟩
  | some (h', b') =>
    refine a1s Tryz.func53 rfl rfl rfl (.cons (.cons (.cons (.cons .nil)))) ?_
    repeat' (first|(first|refine a3b (id := 1) [(8,[0]),(11,[0]),(14,[0])] [⟨0,true,[],bl 15 62⟩,⟨1,true,[0],bl 15 509⟩,⟨2,true,[0],bl 15 4091⟩,⟨3,true,[0],bl 15 503⟩,⟨4,true,[0],bl 15 4047⟩,⟨5,true,[0],bl 15 4063⟩,⟨6,true,[],bl 15 63⟩,⟨7,true,[],bl 15 127⟩,⟨8,false,[],[]⟩,⟨9,true,[],bl 15 511⟩,⟨10,true,[],bl 15 1023⟩,⟨11,false,[],[]⟩,⟨12,true,[],bl 15 4095⟩,⟨13,true,[],bl 15 8191⟩,⟨14,false,[],[]⟩] (by kernel_rfl) (by kernel_rfl) rfl (by kernel_rfl) ?_|refine a2c (a1k (n := 0) rfl rfl) rfl ?_|refine a4e (id := 0) rfl rfl rfl rfl rfl rfl (by repeat constructor) hm (by repeat constructor) ?_|refine a4e (id := 0) rfl rfl rfl rfl rfl rfl (by repeat constructor) a2r (by repeat constructor) ?_)|(refine a2k ?_;first|refine a0b (a0l rfl) rfl ?_|refine a0b (a0f rfl rfl) rfl ?_|(refine a1g ?_;first|refine a0b (a0w rfl rfl) rfl ?_|refine a0b (a0m rfl rfl rfl) rfl ?_)|refine a0u ?_|refine a2g rfl rfl rfl (by first|exact ln1|exact ln2|exact ln3) (by repeat constructor) rfl ?_|refine a0z rfl rfl rfl (by first|exact ln1|exact ln2|exact ln3) (by repeat constructor) rfl ?_|refine a1c rfl rfl rfl rfl rfl (by repeat constructor) (by repeat constructor) ?_)|(first|refine a1n ?_|(refine a1o ?_;first|refine a0c (a0a ?_)|refine a0c ?_|refine a0a ?_|refine a0o ?_))|(first|(refine a7n ?_;first|refine a7p rfl ?_|refine a2c (a0l rfl) rfl ?_|refine a2c (a0f rfl rfl) rfl ?_|refine a2c (a0w rfl rfl) rfl ?_|refine a2c (a0m rfl rfl rfl) rfl ?_)|refine a4o rfl ?_|(refine a7o ?_;first|refine a7q ?_)|refine a3r ?_|refine a3j ?_))
    refine retc0 (by first | exact .inr rfl | exact .inl rfl) rfl rfl rfl rfl ?_
    exact ⟨rfl, _, rfl⟩
theorem a5s {m : Nat → Option (List AV)} {bc bp : Nat} {pa : AV} {c : Cn} {h : Hd} {b : List UInt8} {u : Int} {a : At} (hm : m bc = some (cnC bp pa c)) :
    ACalls (EE w0 base) 53 [.ad bc 0, .agg (rqCs h b), .int .i64 u, .agg (atC a)] [.hp m] fun rv os => rv = .agg (atC (handsC c (closesS h) u a).2) ∧ os = [.hp (upd m bc (cnC bp pa (handsC c (closesS h) u a).1))] := by
  refine a3u (c4b hm) ?_
  rintro rv os ⟨rfl, ex, rfl⟩
  exact ⟨[_], ex, rfl, ⟨rfl, rfl⟩, c3q _ _, by repeat constructor, Nat.le_refl _⟩
theorem b8a {b : List UInt8} : (formQ b).length ≤ 32 := by
  unfold formQ
  split
  · rename_i h
    rw [formOk, Bool.and_eq_true, decide_eq_true_eq] at h
    unfold formP
    rw [List.length_map]
    exact h.2
  · exact Nat.zero_le _
set_option maxHeartbeats 8000000 in
theorem c4a {m : Nat → Option (List AV)} {bc bp : Nat} {pa : AV} {c : Cn} {h : Hd} {b : List UInt8} (hG : Tabs w0 base) (hb : b.length ≤ 65536) (hm : m bc = some (cnC bp pa c)) :
    ACalls (EE w0 base) 51 [.ad bc 0, .agg (rqCs h b)] [.hp m] fun rv os => rv = .agg (atC (loginC c h b).2) ∧ ∃ ex, os = .hp (upd m bc (cnC bp pa (loginC c h b).1)) :: ex := by
  have hF := c5l (w0 := w0) (base := base) hb hG.g
  have hl := b8a (b := b)
  have hU := c5k (w0 := w0) (base := base) (l := formQ b) (nm := userS) (by omega)
  have hW := c5k (w0 := w0) (base := base) (l := formQ b) (nm := wordS) (by omega)
  unfold getV at hU hW
  have hPl4 := a4p (w0 := w0) (base := base) (st := 400) (b := []) (cl := closesS h)
  have hPl3 := a4p (w0 := w0) (base := base) (st := 403) (b := []) (cl := closesS h)
  have hE4 := a4l (w0 := w0) (base := base) (c := c) hG (a4k 400 (closesS h)) hm
  have hE3 := a4l (w0 := w0) (base := base) (c := c) hG (a4k 403 (closesS h)) hm
  have hH := a5s (w0 := w0) (base := base) (c := c) (h := h) (b := b) (u := -1) (a := { at0 with kind := 2, name := (getP (formQ b) userS).getD [], word := (getP (formQ b) wordS).getD [] }) hm
  obtain ⟨s, st, user, closed, lost, waits, asks, ends, ans⟩ := c
  have hm2 : m bc = some [.ad bp 0, .int .i64 user, .bool closed, .bool lost, .bool waits, .int .i64 asks, .bool ends, pa] := hm
  refine a1s Tryz.func51 rfl rfl rfl (.cons (.cons .nil)) ?_
  by_cases hok : formOk b = true
  · have hF0 : PCalls (EE w0 base) 87 [.str b] fun rv => ∃ k, rv = .tup [.rs ((formQ b).map prAV), .int .i64 0, .int .i64 k] := a2w hF fun rv os h => ⟨by
      obtain ⟨e, k, h1, h2⟩ := h.1
      rw [h2.2 hok] at h1
      exact ⟨k, h1⟩, h.2⟩
    unfold loginC
    cases h1 : getP (formQ b) userS with
    | none =>
      rw [h1] at hU
      simp only [Option.getD_none, Option.isSome_none] at hU
      dsimp only
      repeat' (first|(first|(refine a0d ?_;refine a0q rfl rfl rfl rfl hF0 ?_;rintro _ ⟨k,rfl⟩)|(refine a0d ?_;refine a0q rfl rfl rfl rfl hU ?_;rintro _ rfl)|(refine a0d ?_;refine a0q rfl rfl rfl rfl hW ?_;rintro _ rfl)|(refine a0d ?_;refine a0q rfl rfl rfl rfl hPl4 ?_;rintro _ rfl)|(refine a0d ?_;refine a0v [0] rfl rfl hE4 ?_ ?_ rfl rfl ?_;(focus ((repeat constructor);done));(focus ((repeat constructor);done));rintro _ _ ⟨rfl,rfl⟩;refine ⟨_,_,by repeat constructor,by repeat constructor,?_⟩)|(refine a1a ?_;first|refine a0b (a1l rfl rfl rfl (by omega)) rfl ?_|refine a0b (a1m rfl rfl rfl (by omega)) rfl ?_))|(refine a2k ?_;first|refine a0b (a0l rfl) rfl ?_|(refine k_g ?_;first|refine a1j rfl rfl (by with_reducible rfl) ?_|refine a1t rfl rfl (by with_reducible rfl) rfl ?_)|refine a0b (a0f rfl rfl) rfl ?_|(refine a1g ?_;first|refine a0b (a0w rfl rfl) rfl ?_|refine a0b (a0m rfl rfl rfl) rfl ?_)|(refine a1i ?_;first|refine a0b (a0j rfl (by with_reducible rfl) rfl) rfl ?_|refine a0b (a0i rfl (by with_reducible rfl) rfl) rfl ?_)|refine a0b (a0e rfl) rfl ?_|refine a0b (a0s rfl rfl) rfl ?_|refine a0u ?_|refine a2g rfl rfl rfl (by first|exact ln1|exact ln2) (by repeat constructor) rfl ?_|refine a0z rfl rfl rfl (by first|exact ln1|exact ln2) (by repeat constructor) rfl ?_|refine a1c rfl rfl rfl rfl rfl (by repeat constructor) (by repeat constructor) ?_|refine a0b (a1x rfl rfl rfl (by repeat constructor)) rfl ?_|refine a0b (a0y rfl (by with_reducible rfl)) rfl ?_|refine a0b (a1r rfl (by with_reducible rfl)) rfl ?_)|(first|refine a1n ?_|(refine a1o ?_;first|refine a0c (a0a ?_)|refine a0c ?_|refine a0a ?_|(refine a0x ?_;first|refine a0g rfl (by with_reducible rfl) ?_|refine a0h rfl (by with_reducible rfl) ?_)|refine a0n ?_|refine a0o ?_|refine a0k ?_)|refine a0t ?_|refine a1v ?_|refine a1b ?_))
      all_goals
        refine retc0 (by first | exact .inr rfl | exact .inl rfl) rfl rfl rfl rfl ?_
        exact ⟨rfl, _, rfl⟩
    | some q1 =>
      rw [h1] at hU hH
      simp only [Option.getD_some, Option.isSome_some] at hU
      cases h2 : getP (formQ b) wordS with
      | none =>
        rw [h2] at hW
        simp only [Option.getD_none, Option.isSome_none] at hW
        dsimp only
        repeat' (first|(first|(refine a0d ?_;refine a0q rfl rfl rfl rfl hF0 ?_;rintro _ ⟨k,rfl⟩)|(refine a0d ?_;refine a0q rfl rfl rfl rfl hU ?_;rintro _ rfl)|(refine a0d ?_;refine a0q rfl rfl rfl rfl hW ?_;rintro _ rfl)|(refine a0d ?_;refine a0q rfl rfl rfl rfl hPl4 ?_;rintro _ rfl)|(refine a0d ?_;refine a0v [0] rfl rfl hE4 ?_ ?_ rfl rfl ?_;(focus ((repeat constructor);done));(focus ((repeat constructor);done));rintro _ _ ⟨rfl,rfl⟩;refine ⟨_,_,by repeat constructor,by repeat constructor,?_⟩)|(refine a1a ?_;first|refine a0b (a1l rfl rfl rfl (by omega)) rfl ?_|refine a0b (a1m rfl rfl rfl (by omega)) rfl ?_))|(refine a2k ?_;first|refine a0b (a0l rfl) rfl ?_|(refine k_g ?_;first|refine a1j rfl rfl (by with_reducible rfl) ?_|refine a1t rfl rfl (by with_reducible rfl) rfl ?_)|refine a0b (a0f rfl rfl) rfl ?_|(refine a1g ?_;first|refine a0b (a0w rfl rfl) rfl ?_|refine a0b (a0m rfl rfl rfl) rfl ?_)|(refine a1i ?_;first|refine a0b (a0j rfl (by with_reducible rfl) rfl) rfl ?_|refine a0b (a0i rfl (by with_reducible rfl) rfl) rfl ?_)|refine a0b (a0e rfl) rfl ?_|refine a0b (a0s rfl rfl) rfl ?_|refine a0u ?_|refine a2g rfl rfl rfl (by first|exact ln1|exact ln2) (by repeat constructor) rfl ?_|refine a0z rfl rfl rfl (by first|exact ln1|exact ln2) (by repeat constructor) rfl ?_|refine a1c rfl rfl rfl rfl rfl (by repeat constructor) (by repeat constructor) ?_|refine a0b (a1x rfl rfl rfl (by repeat constructor)) rfl ?_|refine a0b (a0y rfl (by with_reducible rfl)) rfl ?_|refine a0b (a1r rfl (by with_reducible rfl)) rfl ?_)|(first|refine a1n ?_|(refine a1o ?_;first|refine a0c (a0a ?_)|refine a0c ?_|refine a0a ?_|(refine a0x ?_;first|refine a0g rfl (by with_reducible rfl) ?_|refine a0h rfl (by with_reducible rfl) ?_)|refine a0n ?_|refine a0o ?_|refine a0k ?_)|refine a0t ?_|refine a1v ?_|refine a1b ?_))
        all_goals
          refine retc0 (by first | exact .inr rfl | exact .inl rfl) rfl rfl rfl rfl ?_
          exact ⟨rfl, _, rfl⟩
      | some q2 =>
        rw [h2] at hW hH
        simp only [Option.getD_some, Option.isSome_some] at hW
        dsimp only [Option.getD_some] at hH
        dsimp only
        rw [if_pos hok]
        by_cases hu : user = -1
        · rw [if_pos hu]
          repeat' (first|(first|(refine a0d ?_;refine a0q rfl rfl rfl rfl hF0 ?_;rintro _ ⟨k,rfl⟩)|(refine a0d ?_;refine a0q rfl rfl rfl rfl hU ?_;rintro _ rfl)|(refine a0d ?_;refine a0q rfl rfl rfl rfl hW ?_;rintro _ rfl)|(refine a4j (.le 60 (.agg (atC ({ at0 with kind := 2,name := q1,word := q2 } : At))) rfl (.agg (by repeat (first|exact .nil|refine .cons .nil ?_|refine .cons (.refl _) ?_)))) ?_;(refine a0d ?_;refine a0v [0] rfl rfl hH ?_ ?_ rfl rfl ?_;(focus ((repeat constructor);done));(focus ((repeat constructor);done));rintro _ _ ⟨rfl,rfl⟩;refine ⟨_,_,by repeat constructor,by repeat constructor,?_⟩))|refine a0b (a1k (n := 0) rfl rfl) rfl ?_|(refine a1g ?_;refine a0b (a2i (id := 0) rfl rfl hm2 rfl) rfl ?_)|(refine a1a ?_;first|refine a0b (a1l rfl rfl rfl (by omega)) rfl ?_|refine a0b (a1m rfl rfl rfl (by omega)) rfl ?_))|(refine a2k ?_;first|refine a0b (a0l rfl) rfl ?_|(refine k_g ?_;first|refine a1j rfl rfl (by with_reducible rfl) ?_|refine a1t rfl rfl (by with_reducible rfl) rfl ?_)|refine a0b (a0f rfl rfl) rfl ?_|(refine a1g ?_;first|refine a0b (a0w rfl rfl) rfl ?_|refine a0b (a0m rfl rfl rfl) rfl ?_)|(refine a1i ?_;first|refine a0b (a0j rfl (by with_reducible rfl) rfl) rfl ?_|refine a0b (a0i rfl (by with_reducible rfl) rfl) rfl ?_)|refine a0b (a0e rfl) rfl ?_|refine a0b (a0s rfl rfl) rfl ?_|refine a0u ?_|refine a2g rfl rfl rfl (by first|exact ln1|exact ln2) (by repeat constructor) rfl ?_|refine a0z rfl rfl rfl (by first|exact ln1|exact ln2) (by repeat constructor) rfl ?_|refine a1c rfl rfl rfl rfl rfl (by repeat constructor) (by repeat constructor) ?_|refine a0b (a1x rfl rfl rfl (by repeat constructor)) rfl ?_|refine a0b (a0y rfl (by with_reducible rfl)) rfl ?_|refine a0b (a1r rfl (by with_reducible rfl)) rfl ?_)|(first|refine a1n ?_|(refine a1o ?_;first|refine a0c (a0a ?_)|refine a0c ?_|refine a0a ?_|(refine a0x ?_;first|refine a0g rfl (by with_reducible rfl) ?_|refine a0h rfl (by with_reducible rfl) ?_)|refine a0n ?_|refine a0o ?_|refine a0k ?_)|refine a0t ?_|refine a1v ?_|refine a1b ?_))
          all_goals
            refine retc0 (by first | exact .inr rfl | exact .inl rfl) rfl rfl rfl rfl ?_
            exact ⟨rfl, _, rfl⟩
        · rw [if_neg hu]
          repeat' (first|(first|(refine a0d ?_;refine a0q rfl rfl rfl rfl hF0 ?_;rintro _ ⟨k,rfl⟩)|(refine a0d ?_;refine a0q rfl rfl rfl rfl hU ?_;rintro _ rfl)|(refine a0d ?_;refine a0q rfl rfl rfl rfl hW ?_;rintro _ rfl)|(refine a0d ?_;refine a0q rfl rfl rfl rfl hPl3 ?_;rintro _ rfl)|(refine a0d ?_;refine a0v [0] rfl rfl hE3 ?_ ?_ rfl rfl ?_;(focus ((repeat constructor);done));(focus ((repeat constructor);done));rintro _ _ ⟨rfl,rfl⟩;refine ⟨_,_,by repeat constructor,by repeat constructor,?_⟩)|refine a0b (a1k (n := 0) rfl rfl) rfl ?_|(refine a1g ?_;refine a0b (a2i (id := 0) rfl rfl hm2 rfl) rfl ?_)|(refine a1a ?_;first|refine a0b (a1l rfl rfl rfl (by omega)) rfl ?_|refine a0b (a1m rfl rfl rfl (by omega)) rfl ?_))|(refine a2k ?_;first|refine a0b (a0l rfl) rfl ?_|(refine k_g ?_;first|refine a1j rfl rfl (by with_reducible rfl) ?_|refine a1t rfl rfl (by with_reducible rfl) rfl ?_)|refine a0b (a0f rfl rfl) rfl ?_|(refine a1g ?_;first|refine a0b (a0w rfl rfl) rfl ?_|refine a0b (a0m rfl rfl rfl) rfl ?_)|(refine a1i ?_;first|refine a0b (a0j rfl (by with_reducible rfl) rfl) rfl ?_|refine a0b (a0i rfl (by with_reducible rfl) rfl) rfl ?_)|refine a0b (a0e rfl) rfl ?_|refine a0b (a0s rfl rfl) rfl ?_|refine a0u ?_|refine a2g rfl rfl rfl (by first|exact ln1|exact ln2) (by repeat constructor) rfl ?_|refine a0z rfl rfl rfl (by first|exact ln1|exact ln2) (by repeat constructor) rfl ?_|refine a1c rfl rfl rfl rfl rfl (by repeat constructor) (by repeat constructor) ?_|refine a0b (a1x rfl rfl rfl (by repeat constructor)) rfl ?_|refine a0b (a0y rfl (by with_reducible rfl)) rfl ?_|refine a0b (a1r rfl (by with_reducible rfl)) rfl ?_)|(first|refine a1n ?_|(refine a1o ?_;first|refine a0c (a0a ?_)|refine a0c ?_|refine a0a ?_|(refine a0x ?_;first|refine a0g rfl (by with_reducible rfl) ?_|refine a0h rfl (by with_reducible rfl) ?_)|refine a0n ?_|refine a0o ?_|refine a0k ?_)|refine a0t ?_|refine a1v ?_|refine a1b ?_))
          all_goals
            refine retc0 (by first | exact .inr rfl | exact .inl rfl) rfl rfl rfl rfl ?_
            exact ⟨rfl, _, rfl⟩
  · have hq : formQ b = [] := if_neg hok
    have hF0 : PCalls (EE w0 base) 87 [.str b] fun rv => ∃ e k, rv = .tup [.rs ((formQ b).map prAV), .int .i64 e, .int .i64 k] ∧ e ≠ 0 := a2w hF fun rv os h => ⟨by
      obtain ⟨e, k, h1, h2⟩ := h.1
      exact ⟨e, k, h1, fun he => hok (h2.1 he)⟩, h.2⟩
    have hL : loginC ⟨s, st, user, closed, lost, waits, asks, ends, ans⟩ h b = emitsC ⟨s, st, user, closed, lost, waits, asks, ends, ans⟩ (plR 400 (closesS h)) := by
      unfold loginC
      rw [hq]
      rfl
    rw [hL]
    repeat' (first|(first|(refine a0d ?_;refine a0q rfl rfl rfl rfl hF0 ?_;rintro _ ⟨e,k,rfl,he⟩)|(refine a0d ?_;refine a0q rfl rfl rfl rfl hU ?_;rintro _ rfl)|(refine a0d ?_;refine a0q rfl rfl rfl rfl hW ?_;rintro _ rfl)|(refine a0d ?_;refine a0q rfl rfl rfl rfl hPl4 ?_;rintro _ rfl)|(refine a0d ?_;refine a0v [0] rfl rfl hE4 ?_ ?_ rfl rfl ?_;(focus ((repeat constructor);done));(focus ((repeat constructor);done));rintro _ _ ⟨rfl,rfl⟩;refine ⟨_,_,by repeat constructor,by repeat constructor,?_⟩)|(refine a1a ?_;first|refine a0b (a1l rfl rfl rfl he) rfl ?_|refine a0b (a1m rfl rfl rfl (by omega)) rfl ?_))|(refine a2k ?_;first|refine a0b (a0l rfl) rfl ?_|(refine k_g ?_;first|refine a1j rfl rfl (by with_reducible rfl) ?_|refine a1t rfl rfl (by with_reducible rfl) rfl ?_)|refine a0b (a0f rfl rfl) rfl ?_|(refine a1g ?_;first|refine a0b (a0w rfl rfl) rfl ?_|refine a0b (a0m rfl rfl rfl) rfl ?_)|(refine a1i ?_;first|refine a0b (a0j rfl (by with_reducible rfl) rfl) rfl ?_|refine a0b (a0i rfl (by with_reducible rfl) rfl) rfl ?_)|refine a0b (a0e rfl) rfl ?_|refine a0b (a0s rfl rfl) rfl ?_|refine a0u ?_|refine a2g rfl rfl rfl (by first|exact ln1|exact ln2) (by repeat constructor) rfl ?_|refine a0z rfl rfl rfl (by first|exact ln1|exact ln2) (by repeat constructor) rfl ?_|refine a1c rfl rfl rfl rfl rfl (by repeat constructor) (by repeat constructor) ?_|refine a0b (a1x rfl rfl rfl (by repeat constructor)) rfl ?_|refine a0b (a0y rfl (by with_reducible rfl)) rfl ?_|refine a0b (a1r rfl (by with_reducible rfl)) rfl ?_)|(first|refine a1n ?_|(refine a1o ?_;first|refine a0c (a0a ?_)|refine a0c ?_|refine a0a ?_|(refine a0x ?_;first|refine a0g rfl (by with_reducible rfl) ?_|refine a0h rfl (by with_reducible rfl) ?_)|refine a0n ?_|refine a0o ?_|refine a0k ?_)|refine a0t ?_|refine a1v ?_|refine a1b ?_))
    all_goals
      refine retc0 (by first | exact .inr rfl | exact .inl rfl) rfl rfl rfl rfl ?_
      exact ⟨rfl, _, rfl⟩
theorem c6u {m : Nat → Option (List AV)} {bc bp : Nat} {pa : AV} {c : Cn} {h : Hd} {b : List UInt8} (hG : Tabs w0 base) (hb : b.length ≤ 65536) (hm : m bc = some (cnC bp pa c)) :
    ACalls (EE w0 base) 51 [.ad bc 0, .agg (rqCs h b)] [.hp m] fun rv os => rv = .agg (atC (loginC c h b).2) ∧ os = [.hp (upd m bc (cnC bp pa (loginC c h b).1))] := by
  refine a3u (c4a hG hb hm) ?_
  rintro rv os ⟨rfl, ex, rfl⟩
  exact ⟨[_], ex, rfl, ⟨rfl, rfl⟩, c3q _ _, by repeat constructor, Nat.le_refl _⟩
end
end Go.Proofs.YtkljmljkiodnpaaGreatDoor.L

namespace Go.Proofs.YtkljmljkiodnpaaGreatDoor.L
open Go Go.RowKit

def mdel (x : AV) : List (AV × AV) → List (AV × AV)
  | [] => []
  | p :: r => if keq x p.1 = true then r else p :: mdel x r
section
variable {E : Env} {N : Nat} {ops : Array Oper} {Q : Exit → St → Prop} {rest : List Oper} {sl : Slots} {H H' : List AO}
theorem Wkn.mapf {id : Nat} {es : List (AV × AV)} (hU : Upd id H (.map es) (.map es true) H') : Wkn E N ⟨sl, H⟩ ⟨sl, H'⟩ := fun I ν a w hs => by
  obtain ⟨hid, hset⟩ := hU.eq
  subst hset
  have hh := hs.hr
  cases hh.obj id _ hid with
  | map _ _ b' en ck hv hb' hhp hr hbn =>
    have := hh.set (o' := .map es true) (ν' := ν) (w' := w) hid (fun e => by cases e) (Nu.le.refl ν) rfl (fun _ _ => rfl) hh.below (Nat.le_refl _) (fun _ _ _ => rfl) (ImmLe.refl _ _) (.map es true b' en ck hv hb' hhp hr (fun h => by cases h)) (fun b'' h => .inl (by simpa only [OB, OB1, hv] using h))
    exact ⟨I, ν, ⟨this.1, hs.sl, hs.df, hs.nt⟩, this.2⟩
end
end Go.Proofs.YtkljmljkiodnpaaGreatDoor.L

namespace Go.Proofs.YtkljmljkiodnpaaGreatDoor.L
open Go Go.RowKit Go.Proofs
attribute [local irreducible] AL QL AWp Thn InB RetQ ACalls LoopQ HL HO HW HQ NoG JmpQ MidQ HF

structure En where
  at' : Int
  bc : Nat
  bp : Nat
  ba : Nat
  c : Cn
def paO (o : Option Rp) (ba : Nat) : AV := match o with
  | none => .nilp
  | some _ => .ad ba 0
abbrev paE (e : En) : AV := paO e.c.ans e.ba
def adsO (bc bp ba : Nat) (o : Option Rp) : List Nat := match o with
  | none => [bc, bp]
  | some _ => [bc, bp, ba]
abbrev adsE (e : En) : List Nat := adsO e.bc e.bp e.ba e.c.ans
structure EnOk (m : Nat → Option (List AV)) (e : En) : Prop where
  c : m e.bc = some (cnC e.bp (paE e) e.c)
  p : m e.bp = some [.bool true, .str e.c.s, .int .i64 e.c.st]
  a : ∀ r, e.c.ans = some r → m e.ba = some (rpC r)
  nd : (adsE e).Nodup
structure RepE (m : Nat → Option (List AV)) (l : List En) : Prop where
  ok : ∀ (i : Nat) e, l[i]? = some e → EnOk m e
  apart : ∀ (i j : Nat) e e', l[i]? = some e → l[j]? = some e' → i ≠ j → ∀ x ∈ adsE e, x ∉ adsE e'
theorem c0h {m : Nat → Option (List AV)} {e : En} (h : EnOk m e) : ∀ x ∈ adsE e, ∃ cs, m x = some cs := by
  intro x hx
  unfold adsE adsO at hx
  cases ha : e.c.ans with
  | none =>
    rw [ha] at hx
    simp only [List.mem_cons, List.not_mem_nil, or_false] at hx
    rcases hx with rfl | rfl
    · exact ⟨_, h.c⟩
    · exact ⟨_, h.p⟩
  | some r =>
    rw [ha] at hx
    simp only [List.mem_cons, List.not_mem_nil, or_false] at hx
    rcases hx with rfl | rfl | rfl
    · exact ⟨_, h.c⟩
    · exact ⟨_, h.p⟩
    · exact ⟨_, h.a r ha⟩
theorem b0a (e : En) : e.bc ∈ adsE e := by unfold adsE adsO; split <;> simp
theorem b3y (e : En) : e.bp ∈ adsE e := by unfold adsE adsO; split <;> simp
theorem c4u {e : En} {r : Rp} (h : e.c.ans = some r) : e.ba ∈ adsE e := by unfold adsE adsO; rw [h]; simp
theorem EnOk.same {m m' : Nat → Option (List AV)} {e : En} (h : EnOk m e) (hs : ∀ x ∈ adsE e, m' x = m x) : EnOk m' e :=
  ⟨(hs _ (b0a e)).trans h.c, (hs _ (b3y e)).trans h.p, fun r hr => (hs _ (c4u hr)).trans (h.a r hr), h.nd⟩
theorem RepE.set {m m' : Nat → Option (List AV)} {l : List En} {i : Nat} {e e' : En} (h : RepE m l) (hi : l[i]? = some e) (hm : ∀ x, x ∉ adsE e → x ∉ adsE e' → m' x = m x) (ho : EnOk m' e') (hf : ∀ x ∈ adsE e', x ∈ adsE e ∨ m x = none) : RepE m' (l.set i e') := by
  have hlt := (List.getElem?_eq_some_iff.1 hi).1
  have hold : ∀ (j : Nat) q, (l.set i e')[j]? = some q → (j ≠ i ∧ l[j]? = some q) ∨ (j = i ∧ q = e') := by
    intro j q hq
    by_cases e : j = i
    · subst e
      rw [List.getElem?_set_self hlt] at hq
      exact .inr ⟨rfl, by simpa using hq.symm⟩
    · rw [List.getElem?_set_ne (Ne.symm e)] at hq
      exact .inl ⟨e, hq⟩
  have hdis : ∀ (j : Nat) q, j ≠ i → l[j]? = some q → ∀ x ∈ adsE q, x ∉ adsE e' := fun j q hj hq x hx hx' => by
    rcases hf x hx' with h1 | h1
    · exact h.apart j i q e hq hi hj x hx h1
    · obtain ⟨cs, h2⟩ := c0h (h.ok j q hq) x hx
      rw [h1] at h2
      cases h2
  refine ⟨fun j q hq => ?_, fun j k q q' hq hq' hjk x hx => ?_⟩
  · rcases hold j q hq with ⟨h1, h2⟩ | ⟨rfl, rfl⟩
    · exact (h.ok j q h2).same fun x hx => hm x (h.apart j i q e h2 hi h1 x hx) (hdis j q h1 h2 x hx)
    · exact ho
  · rcases hold j q hq with ⟨h1, h2⟩ | ⟨rfl, rfl⟩ <;> rcases hold k q' hq' with ⟨h3, h4⟩ | ⟨rfl, rfl⟩
    · exact h.apart j k q q' h2 h4 hjk x hx
    · exact hdis j q h1 h2 x hx
    · intro hx'
      exact hdis k q' h3 h4 x hx' hx
    · exact absurd rfl hjk
theorem RepE.push {m m' : Nat → Option (List AV)} {l : List En} {e' : En} (h : RepE m l) (hm : ∀ x, x ∉ adsE e' → m' x = m x) (ho : EnOk m' e') (hf : ∀ x ∈ adsE e', m x = none) : RepE m' (l ++ [e']) := by
  have hold : ∀ (j : Nat) q, (l ++ [e'])[j]? = some q → (j < l.length ∧ l[j]? = some q) ∨ (j = l.length ∧ q = e') := by
    intro j q hq
    rcases Nat.lt_or_ge j l.length with hj | hj
    · rw [List.getElem?_append_left hj] at hq; exact .inl ⟨hj, hq⟩
    · have h1 := (List.getElem?_eq_some_iff.1 hq).1
      rw [List.length_append, List.length_singleton] at h1
      have h2 : j = l.length := by omega
      subst h2
      rw [List.getElem?_append_right (Nat.le_refl _), Nat.sub_self] at hq
      exact .inr ⟨rfl, by simpa using hq.symm⟩
  have hdis : ∀ (j : Nat) q, l[j]? = some q → ∀ x ∈ adsE q, x ∉ adsE e' := fun j q hq x hx hx' => by
    obtain ⟨cs, h2⟩ := c0h (h.ok j q hq) x hx
    rw [hf x hx'] at h2
    cases h2
  refine ⟨fun j q hq => ?_, fun j k q q' hq hq' hjk x hx => ?_⟩
  · rcases hold j q hq with ⟨h1, h2⟩ | ⟨rfl, rfl⟩
    · exact (h.ok j q h2).same fun x hx => hm x (hdis j q h2 x hx)
    · exact ho
  · rcases hold j q hq with ⟨h1, h2⟩ | ⟨rfl, rfl⟩ <;> rcases hold k q' hq' with ⟨h3, h4⟩ | ⟨rfl, rfl⟩
    · exact h.apart j k q q' h2 h4 hjk x hx
    · exact hdis j q h2 x hx
    · intro hx'
      exact hdis k q' h4 x hx' hx
    · exact absurd rfl hjk
structure Dem where
  users : Int
  conns : Int
  asks : Int
  l : List En
  ss : List (List UInt8 × Int)
  m : Nat → Option (List AV)
def lcE (l : List En) : List (Int × Cn) := l.map fun e => (e.at', e.c)
def Dem.ds (X : Dem) : DS := ⟨X.users, X.conns, X.asks, lcE X.l, X.ss⟩
abbrev enK (e : En) : AV × AV := (.int .i64 e.at', .ad e.bc 0)
abbrev ssK (p : List UInt8 × Int) : AV × AV := (.str p.1, .int .i64 p.2)
abbrev dmO (X : Dem) : List AO := [.box [.int .i64 X.users, .int .i64 X.conns, .int .i64 X.asks, .mp 1, .mp 2], .map (X.l.map enK), .map (X.ss.map ssK) true, .hp X.m]
structure CnOk (c : Cn) : Prop where
  s : c.s.length ≤ 65536
  a : ∀ r, c.ans = some r → RpFit r
structure DemOk (X : Dem) : Prop where
  users : 1 ≤ X.users ∧ X.users ≤ 16
  conns : 1 ≤ X.conns ∧ X.conns ≤ 64
  asks : 1 ≤ X.asks ∧ X.asks ≤ 64
  rep : RepE X.m X.l
  keys : (X.l.map (·.at')).Nodup
  okat : ∀ e ∈ X.l, inAt e.at'
  cn : ∀ e ∈ X.l, CnOk e.c
  ss : ∀ p ∈ X.ss, p.1 ≠ [] ∧ 0 ≤ p.2 ∧ p.2 < X.users
theorem a9j : ∀ (n : Nat) (l : List Int), l.Nodup → (∀ x ∈ l, 0 ≤ x ∧ x < n) → l.length ≤ n := by
  intro n
  induction n with
  | zero =>
    intro l h1 h2
    cases l with
    | nil => exact Nat.le_refl _
    | cons a l => have := h2 a List.mem_cons_self; omega
  | succ n ih =>
    intro l h1 h2
    have h3 := ih (l.filter fun x => decide (x ≠ (n : Int))) (h1.filter _) (fun x hx => by
      rw [List.mem_filter, decide_eq_true_eq] at hx
      have := h2 x hx.1
      omega)
    have h4 : l.length ≤ (l.filter fun x => decide (x ≠ (n : Int))).length + 1 := by
      clear ih h2 h3
      induction l with
      | nil => exact Nat.zero_le _
      | cons a l ih =>
        rw [List.nodup_cons] at h1
        rw [List.filter_cons]
        by_cases ha : a = (n : Int)
        · subst ha
          rw [if_neg (by simp)]
          have : l.filter (fun x => decide (x ≠ (n : Int))) = l := List.filter_eq_self.2 fun x hx => decide_eq_true fun e => h1.1 (e ▸ hx)
          rw [this, List.length_cons]
          exact Nat.le_refl _
        · rw [if_pos (decide_eq_true ha), List.length_cons, List.length_cons]
          have := ih h1.2
          omega
    omega
theorem DemOk.len {X : Dem} (h : DemOk X) : X.l.length ≤ 64 := by
  have := a9j 64 (X.l.map (·.at')) h.keys (fun x hx => by
    obtain ⟨e, he, rfl⟩ := List.mem_map.1 hx
    exact h.okat e he)
  rwa [List.length_map] at this
def eix (at' : Int) : List En → Nat → Option Nat
  | [], _ => none
  | e :: r, k => if at' = e.at' then some k else eix at' r (k + 1)
theorem a7l (at' : Int) : ∀ (l : List En), (mget (.int .i64 at') (l.map enK) = none ∧ lget at' (lcE l) = none ∧ ∀ e ∈ l, e.at' ≠ at') ∨ ∃ i e, l[i]? = some e ∧ e.at' = at' ∧ mget (.int .i64 at') (l.map enK) = some (.ad e.bc 0) ∧ lget at' (lcE l) = some e.c ∧ ∀ c', lset at' c' (lcE l) = lcE (l.set i { e with c := c' }) := by
  intro l
  induction l with
  | nil => exact .inl ⟨rfl, rfl, fun e h => by cases h⟩
  | cons e l ih =>
    have e1 : mget (.int .i64 at') ((e :: l).map enK) = if decide (at' = e.at') = true then some (.ad e.bc 0) else mget (.int .i64 at') (l.map enK) := rfl
    have e2 : lget at' (lcE (e :: l)) = if at' = e.at' then some e.c else lget at' (lcE l) := rfl
    have e3 : ∀ c', lset at' c' (lcE (e :: l)) = if at' = e.at' then (e.at', c') :: lcE l else (e.at', e.c) :: lset at' c' (lcE l) := fun _ => rfl
    by_cases h : at' = e.at'
    · right
      refine ⟨0, e, rfl, h.symm, by rw [e1, if_pos (decide_eq_true h)], by rw [e2, if_pos h], fun c' => ?_⟩
      rw [e3, if_pos h]
      rfl
    · rw [e1, if_neg (by simpa using h), e2, if_neg h]
      rcases ih with ⟨h1, h2, h3⟩ | ⟨i, q, h1, h2, h3, h4, h5⟩
      · left
        refine ⟨h1, h2, fun x hx => ?_⟩
        rcases List.mem_cons.1 hx with rfl | hx
        · exact fun k => h k.symm
        · exact h3 x hx
      · right
        refine ⟨i + 1, q, by simpa using h1, h2, h3, h4, fun c' => ?_⟩
        rw [e3, if_neg h, h5]
        rfl
theorem a4h (l : List En) : ∀ p ∈ l.map enK, OKk (.one (.int .i64)) p.1 := by
  intro p hp
  obtain ⟨e, _, rfl⟩ := List.mem_map.1 hp
  exact .int
theorem a4w (l : List (List UInt8 × Int)) : ∀ p ∈ l.map ssK, OKk (.one .str) p.1 := by
  intro p hp
  obtain ⟨e, _, rfl⟩ := List.mem_map.1 hp
  exact .str
theorem c0g (t : List UInt8) : ∀ (l : List (List UInt8 × Int)), mget (.str t) (l.map ssK) = (sget t l).map (fun u => .int .i64 u) := by
  intro l
  induction l with
  | nil => rfl
  | cons p l ih =>
    have e1 : mget (.str t) ((p :: l).map ssK) = if decide (t = p.1) = true then some (.int .i64 p.2) else mget (.str t) (l.map ssK) := rfl
    rw [e1, sget]
    by_cases h : t = p.1
    · rw [if_pos (decide_eq_true h), if_pos h]; rfl
    · rw [if_neg (by simpa using h), if_neg h, ih]
theorem c5v (t : List UInt8) (u : Int) : ∀ (l : List (List UInt8 × Int)), mset (.str t) (.int .i64 u) (l.map ssK) = (sset t u l).map ssK := by
  intro l
  induction l with
  | nil => rfl
  | cons p l ih =>
    have e1 : mset (.str t) (.int .i64 u) ((p :: l).map ssK) = if decide (t = p.1) = true then (.str p.1, .int .i64 u) :: l.map ssK else (.str p.1, .int .i64 p.2) :: mset (.str t) (.int .i64 u) (l.map ssK) := rfl
    rw [e1, sset]
    by_cases h : t = p.1
    · rw [if_pos (decide_eq_true h), if_pos h]; rfl
    · rw [if_neg (by simpa using h), if_neg h, ih]; rfl
theorem b1i {t : List UInt8} {u : Int} : ∀ {l : List (List UInt8 × Int)}, sget t l = some u → (t, u) ∈ l := by
  intro l
  induction l with
  | nil => intro h; cases h
  | cons p l ih =>
    intro h
    rw [sget] at h
    split at h
    · rename_i e
      injection h with h
      subst h; subst e
      exact List.mem_cons_self
    · exact List.mem_cons_of_mem _ (ih h)
theorem b6e {t : List UInt8} {u : Int} : ∀ {l : List (List UInt8 × Int)} {p}, p ∈ sset t u l → p ∈ l ∨ p = (t, u) := by
  intro l
  induction l with
  | nil => intro p h; rw [sset] at h; exact .inr (List.mem_singleton.1 h)
  | cons q l ih =>
    intro p h
    rw [sset] at h
    split at h
    · rename_i e
      rcases List.mem_cons.1 h with rfl | h
      · exact .inr (by rw [e])
      · exact .inl (List.mem_cons_of_mem _ h)
    · rcases List.mem_cons.1 h with rfl | h
      · exact .inl List.mem_cons_self
      · rcases ih h with h | h
        · exact .inl (List.mem_cons_of_mem _ h)
        · exact .inr h
end Go.Proofs.YtkljmljkiodnpaaGreatDoor.L

namespace Go.Proofs.YtkljmljkiodnpaaGreatDoor.L
open Go Go.RowKit Go.Proofs
attribute [local irreducible] AL QL AWp Thn InB RetQ ACalls LoopQ HL HO HW HQ NoG JmpQ MidQ HF

theorem c6f {l : List En} {i : Nat} {e : En} (hi : l[i]? = some e) {e' : En} (h1 : e'.at' = e.at') (h2 : e'.bc = e.bc) : (l.set i e').map enK = l.map enK := by
  rw [List.map_set]
  apply List.ext_getElem?
  intro j
  by_cases hj : j = i
  · subst hj
    have hlt := (List.getElem?_eq_some_iff.1 hi).1
    rw [List.getElem?_set_self (by simpa using hlt), List.getElem?_map, hi]
    simp only [enK, Option.map_some, h1, h2]
  · rw [List.getElem?_set_ne (Ne.symm hj)]
theorem a7u {X : Dem} {i : Nat} {e : En} (hi : X.l[i]? = some e) {e' : En} (h1 : e'.at' = e.at') (h2 : e'.bc = e.bc) (m' : Nat → Option (List AV)) : dmO { X with l := X.l.set i e', m := m' } = [.box [.int .i64 X.users, .int .i64 X.conns, .int .i64 X.asks, .mp 1, .mp 2], .map (X.l.map enK), .map (X.ss.map ssK) true, .hp m'] := by
  unfold dmO
  dsimp only
  rw [c6f hi h1 h2]
theorem DemOk.set {X : Dem} {i : Nat} {e e' : En} {m' : Nat → Option (List AV)} (h : DemOk X) (hi : X.l[i]? = some e) (h1 : e'.at' = e.at') (hr : RepE m' (X.l.set i e')) (hc : CnOk e'.c) : DemOk { X with l := X.l.set i e', m := m' } := by
  refine ⟨h.users, h.conns, h.asks, hr, ?_, fun q hq => ?_, fun q hq => ?_, h.ss⟩
  · have : (X.l.set i e').map (·.at') = X.l.map (·.at') := by
      rw [List.map_set]
      apply List.ext_getElem?
      intro j
      by_cases hj : j = i
      · subst hj
        have hlt := (List.getElem?_eq_some_iff.1 hi).1
        rw [List.getElem?_set_self (by simpa using hlt), List.getElem?_map, hi, h1]
        rfl
      · rw [List.getElem?_set_ne (Ne.symm hj)]
    show ((X.l.set i e').map (·.at')).Nodup
    rw [this]
    exact h.keys
  · rcases List.mem_or_eq_of_mem_set hq with hq | rfl
    · exact h.okat q hq
    · rw [h1]; exact h.okat e (List.mem_of_getElem? hi)
  · rcases List.mem_or_eq_of_mem_set hq with hq | rfl
    · exact h.cn q hq
    · exact hc
theorem RepE.flags {m : Nat → Option (List AV)} {l : List En} {i : Nat} {e : En} (h : RepE m l) (hi : l[i]? = some e) {c' : Cn} (h1 : c'.s = e.c.s) (h2 : c'.st = e.c.st) (h3 : c'.ans = e.c.ans) : RepE (upd m e.bc (cnC e.bp (paE e) c')) (l.set i { e with c := c' }) := by
  have ho := h.ok i e hi
  have hnd := ho.nd
  have hads : adsE { e with c := c' } = adsE e := by unfold adsE; rw [h3]
  have hbp : e.bp ≠ e.bc := fun k => by
    unfold adsE adsO at hnd
    split at hnd <;> simp only [List.nodup_cons, List.mem_cons] at hnd <;> exact hnd.1 (.inl k.symm)
  refine h.set hi (fun x hx _ => a2d fun k => hx (k ▸ b0a e)) ⟨?_, ?_, fun r hr => ?_, by rw [hads]; exact hnd⟩ (fun x hx => .inl (hads ▸ hx))
  · show upd _ _ _ e.bc = some (cnC e.bp (paO c'.ans e.ba) c')
    rw [a2r, h3]
  · show upd _ _ _ e.bp = _
    rw [a2d hbp, ho.p, h1, h2]
  · show upd _ _ _ e.ba = _
    rw [h3] at hr
    have hba : e.ba ≠ e.bc := fun k => by
      unfold adsE adsO at hnd
      rw [hr] at hnd
      simp only [List.nodup_cons, List.mem_cons] at hnd
      exact hnd.1 (.inr (.inl k.symm))
    rw [a2d hba]
    exact ho.a r hr
def DmR (f : DS × Int) (rv : AV) (os : List AO) : Prop := rv = .int .i64 f.2 ∧ ∃ X', DemOk X' ∧ os = dmO X' ∧ X'.ds = f.1
section
variable {w0 : World} {base : Nat}
theorem a7f {X : Dem} (hX : DemOk X) : ACalls (EE w0 base) 29 [.op 0 0] (dmO X) fun rv os => rv = .bool true ∧ os = dmO X := by
  have hu := hX.users
  refine a1s Tryz.func29 rfl rfl rfl (.cons .nil) ?_
  repeat' (first|(first|(refine a1a ?_;first|refine a0b (a5x rfl rfl rfl) rfl ?_|refine a0b (a1l rfl rfl rfl (by omega)) rfl ?_)|refine a0b (a1k (n := 0) rfl rfl) rfl ?_)|(refine a2k ?_;first|refine a0b (a0l rfl) rfl ?_|(refine k_g ?_;first|refine a1j rfl rfl (by with_reducible rfl) ?_)|refine a0b (a0f rfl rfl) rfl ?_|(refine a1g ?_;first|refine a0b (a0w rfl rfl) rfl ?_)|(refine a1i ?_;first|refine a0b (a0j rfl (by with_reducible rfl) rfl) rfl ?_)|refine a0b (a0e rfl) rfl ?_|refine a0u ?_)|(first|refine a1n ?_|(refine a1o ?_;first|refine a0c (a0a ?_)|refine a0c ?_|refine a0a ?_|refine a0o ?_)))
  refine ret1 (by first | exact .inr rfl | exact .inl rfl) rfl rfl ?_
  exact ⟨rfl, rfl⟩
theorem c8b {X : Dem} {at' : Int} (hX : DemOk X) : ACalls (EE w0 base) 26 [.op 0 0, .int .i64 at'] (dmO X) fun rv os => rv = .bool (decide (inAt at')) ∧ os = dmO X := by
  have hg := a7f (w0 := w0) (base := base) hX
  refine a1s Tryz.func26 rfl rfl rfl (.cons (.cons .nil)) ?_
  by_cases h : inAt at'
  · obtain ⟨h1, h2⟩ := h
    repeat' (first|(first|(refine a0d ?_;refine a0v [0,1,2,3] rfl rfl hg ?_ ?_ rfl rfl ?_;(focus ((repeat constructor);done));(focus ((repeat constructor);done));rintro _ _ ⟨rfl,rfl⟩;refine ⟨_,_,by repeat constructor,by repeat constructor,?_⟩)|(refine a1a ?_;first|refine a0b (a1l rfl rfl rfl (by omega)) rfl ?_|refine a0b (a1m rfl rfl rfl (by omega)) rfl ?_))|(refine a2k ?_;first|refine a0b (a0l rfl) rfl ?_|(refine k_g ?_;first|refine a1j rfl rfl (by with_reducible rfl) ?_|refine a1w rfl rfl (by with_reducible rfl) rfl ?_)|(refine a1i ?_;first|refine a0b (a0j rfl (by with_reducible rfl) rfl) rfl ?_|refine a0b (a0i rfl (by with_reducible rfl) rfl) rfl ?_)|refine a0b (a0e rfl) rfl ?_|refine a0u ?_)|(first|refine a1n ?_|(refine a1o ?_;first|refine a0c (a0a ?_)|refine a0c ?_|refine a0a ?_|refine a0o ?_)))
    refine ret1 (by first | exact .inr rfl | exact .inl rfl) rfl rfl ?_
    exact ⟨by rw [decide_eq_true (show inAt at' from ⟨h1, h2⟩)], rfl⟩
  · have h' : at' < 0 ∨ (0 ≤ at' ∧ 64 ≤ at') := by
      unfold inAt at h
      omega
    rcases h' with h' | ⟨h1, h2⟩
    all_goals
      repeat' (first|(first|(refine a0d ?_;refine a0v [0,1,2,3] rfl rfl hg ?_ ?_ rfl rfl ?_;(focus ((repeat constructor);done));(focus ((repeat constructor);done));rintro _ _ ⟨rfl,rfl⟩;refine ⟨_,_,by repeat constructor,by repeat constructor,?_⟩)|(refine a1a ?_;first|refine a0b (a1l rfl rfl rfl (by omega)) rfl ?_|refine a0b (a1m rfl rfl rfl (by omega)) rfl ?_))|(refine a2k ?_;first|refine a0b (a0l rfl) rfl ?_|(refine k_g ?_;first|refine a1j rfl rfl (by with_reducible rfl) ?_|refine a1w rfl rfl (by with_reducible rfl) rfl ?_)|(refine a1i ?_;first|refine a0b (a0j rfl (by with_reducible rfl) rfl) rfl ?_|refine a0b (a0i rfl (by with_reducible rfl) rfl) rfl ?_)|refine a0b (a0e rfl) rfl ?_|refine a0u ?_)|(first|refine a1n ?_|(refine a1o ?_;first|refine a0c (a0a ?_)|refine a0c ?_|refine a0a ?_|refine a0o ?_)))
      refine ret1 (by first | exact .inr rfl | exact .inl rfl) rfl rfl ?_
      exact ⟨by rw [decide_eq_false h], rfl⟩
theorem c7z {X : Dem} {at' : Int} (hX : DemOk X) : ACalls (EE w0 base) 24 [.op 0 0, .int .i64 at'] (dmO X) fun rv os => rv = .bool (openD X.ds at') ∧ os = dmO X := by
  have hg := a7f (w0 := w0) (base := base) hX
  refine a1s Tryz.func24 rfl rfl rfl (.cons (.cons .nil)) ?_
  rcases a7l at' X.l with ⟨h1, h2, h3⟩ | ⟨i, e, h1, h2, h3, h4, h5⟩
  · have hR : openD X.ds at' = false := by
      show (match lget at' (lcE X.l) with | none => false | some c => !c.closed) = false
      rw [h2]
    repeat' (first|(first|(refine a0d ?_;refine a0v [0,1,2,3] rfl rfl hg ?_ ?_ rfl rfl ?_;(focus ((repeat constructor);done));(focus ((repeat constructor);done));rintro _ _ ⟨rfl,rfl⟩;refine ⟨_,_,by repeat constructor,by repeat constructor,?_⟩)|refine a0b (a1k (n := 0) rfl rfl) rfl ?_|refine a0b (a5p rfl rfl rfl .int (a4h _) h1 rfl) rfl ?_|(refine a1a ?_;first|refine a0b (a4v rfl rfl) rfl ?_))|(refine a2k ?_;first|refine a0b (a0l rfl) rfl ?_|(refine k_g ?_;first|refine a1j rfl rfl (by with_reducible rfl) ?_|refine a1w rfl rfl (by with_reducible rfl) rfl ?_)|refine a0b (a0f rfl rfl) rfl ?_|(refine a1g ?_;first|refine a0b (a0w rfl rfl) rfl ?_)|(refine a1i ?_;first|refine a0b (a0j rfl (by with_reducible rfl) rfl) rfl ?_|refine a0b (a0i rfl (by with_reducible rfl) rfl) rfl ?_)|refine a0b (a0e rfl) rfl ?_|refine a0u ?_|refine a0b (a2z rfl rfl) rfl ?_)|(first|refine a1n ?_|(refine a1o ?_;first|refine a0c (a0a ?_)|refine a0c ?_|refine a0a ?_|refine a0o ?_)))
    refine ret1 (by first | exact .inr rfl | exact .inl rfl) rfl rfl ?_
    exact ⟨by rw [hR], rfl⟩
  · have hm := (hX.rep.ok i e h1).c
    have hR : openD X.ds at' = !e.c.closed := by
      show (match lget at' (lcE X.l) with | none => false | some c => !c.closed) = _
      rw [h4]
    repeat' (first|(first|(refine a0d ?_;refine a0v [0,1,2,3] rfl rfl hg ?_ ?_ rfl rfl ?_;(focus ((repeat constructor);done));(focus ((repeat constructor);done));rintro _ _ ⟨rfl,rfl⟩;refine ⟨_,_,by repeat constructor,by repeat constructor,?_⟩)|refine a0b (a1k (n := 0) rfl rfl) rfl ?_|refine a0b (a3a rfl rfl rfl .int (a4h _) h3) rfl ?_|(refine a1g ?_;refine a0b (a2i (id := 3) rfl rfl hm rfl) rfl ?_)|(refine a1a ?_;first|refine a0b (a5x rfl rfl rfl) rfl ?_)|refine a0b (a2z rfl rfl) rfl ?_)|(refine a2k ?_;first|refine a0b (a0l rfl) rfl ?_|(refine k_g ?_;first|refine a1j rfl rfl (by with_reducible rfl) ?_|refine a1w rfl rfl (by with_reducible rfl) rfl ?_)|refine a0b (a0f rfl rfl) rfl ?_|(refine a1g ?_;first|refine a0b (a0w rfl rfl) rfl ?_)|(refine a1i ?_;first|refine a0b (a0j rfl (by with_reducible rfl) rfl) rfl ?_|refine a0b (a0i rfl (by with_reducible rfl) rfl) rfl ?_)|refine a0b (a0e rfl) rfl ?_|refine a0u ?_|refine a0b (a2z rfl rfl) rfl ?_)|(first|refine a1n ?_|(refine a1o ?_;first|refine a0c (a0a ?_)|refine a0c ?_|refine a0a ?_|refine a0o ?_)))
    all_goals
      refine ret1 (by first | exact .inr rfl | exact .inl rfl) rfl rfl ?_
      exact ⟨by rw [hR], rfl⟩
theorem c1q {X : Dem} {at' : Int} (hX : DemOk X) : ACalls (EE w0 base) 12 [.op 0 0, .int .i64 at'] (dmO X) fun rv os => rv = .bool (waitsD X.ds at') ∧ os = dmO X := by
  have hg := c8b (w0 := w0) (base := base) (at' := at') hX
  refine a1s Tryz.func12 rfl rfl rfl (.cons (.cons .nil)) ?_
  by_cases hok : inAt at'
  · rw [decide_eq_true hok] at hg
    rcases a7l at' X.l with ⟨h1, h2, h3⟩ | ⟨i, e, h1, h2, h3, h4, h5⟩
    · have hR : waitsD X.ds at' = false := by
        show (if inAt at' then (match lget at' (lcE X.l) with | none => false | some c => c.waits) else false) = false
        rw [h2, if_pos hok]
      repeat' (first|(first|(refine a0d ?_;refine a0v [0,1,2,3] rfl rfl hg ?_ ?_ rfl rfl ?_;(focus ((repeat constructor);done));(focus ((repeat constructor);done));rintro _ _ ⟨rfl,rfl⟩;refine ⟨_,_,by repeat constructor,by repeat constructor,?_⟩)|refine a0b (a1k (n := 0) rfl rfl) rfl ?_|refine a0b (a5p rfl rfl rfl .int (a4h _) h1 rfl) rfl ?_|(refine a1a ?_;first|refine a0b (a4v rfl rfl) rfl ?_))|(refine a2k ?_;first|refine a0b (a0l rfl) rfl ?_|(refine k_g ?_;first|refine a1j rfl rfl (by with_reducible rfl) ?_|refine a1w rfl rfl (by with_reducible rfl) rfl ?_)|refine a0b (a0f rfl rfl) rfl ?_|(refine a1g ?_;first|refine a0b (a0w rfl rfl) rfl ?_)|(refine a1i ?_;first|refine a0b (a0j rfl (by with_reducible rfl) rfl) rfl ?_|refine a0b (a0i rfl (by with_reducible rfl) rfl) rfl ?_)|refine a0b (a0e rfl) rfl ?_|refine a0u ?_)|(first|refine a1n ?_|(refine a1o ?_;first|refine a0c (a0a ?_)|refine a0c ?_|refine a0a ?_|refine a0o ?_)))
      refine ret1 (by first | exact .inr rfl | exact .inl rfl) rfl rfl ?_
      exact ⟨by rw [hR], rfl⟩
    · have hm := (hX.rep.ok i e h1).c
      have hR : waitsD X.ds at' = e.c.waits := by
        show (if inAt at' then (match lget at' (lcE X.l) with | none => false | some c => c.waits) else false) = _
        rw [h4, if_pos hok]
      repeat' (first|(first|(refine a0d ?_;refine a0v [0,1,2,3] rfl rfl hg ?_ ?_ rfl rfl ?_;(focus ((repeat constructor);done));(focus ((repeat constructor);done));rintro _ _ ⟨rfl,rfl⟩;refine ⟨_,_,by repeat constructor,by repeat constructor,?_⟩)|refine a0b (a1k (n := 0) rfl rfl) rfl ?_|refine a0b (a3a rfl rfl rfl .int (a4h _) h3) rfl ?_|(refine a1g ?_;refine a0b (a2i (id := 3) rfl rfl hm rfl) rfl ?_)|(refine a1a ?_;first|refine a0b (a5x rfl rfl rfl) rfl ?_))|(refine a2k ?_;first|refine a0b (a0l rfl) rfl ?_|(refine k_g ?_;first|refine a1j rfl rfl (by with_reducible rfl) ?_|refine a1w rfl rfl (by with_reducible rfl) rfl ?_)|refine a0b (a0f rfl rfl) rfl ?_|(refine a1g ?_;first|refine a0b (a0w rfl rfl) rfl ?_)|(refine a1i ?_;first|refine a0b (a0j rfl (by with_reducible rfl) rfl) rfl ?_|refine a0b (a0i rfl (by with_reducible rfl) rfl) rfl ?_)|refine a0b (a0e rfl) rfl ?_|refine a0u ?_)|(first|refine a1n ?_|(refine a1o ?_;first|refine a0c (a0a ?_)|refine a0c ?_|refine a0a ?_|refine a0o ?_)))
      all_goals
        refine ret1 (by first | exact .inr rfl | exact .inl rfl) rfl rfl ?_
        exact ⟨by rw [hR], rfl⟩
  · rw [decide_eq_false hok] at hg
    have hR : waitsD X.ds at' = false := if_neg hok
    repeat' (first|(first|(refine a0d ?_;refine a0v [0,1,2,3] rfl rfl hg ?_ ?_ rfl rfl ?_;(focus ((repeat constructor);done));(focus ((repeat constructor);done));rintro _ _ ⟨rfl,rfl⟩;refine ⟨_,_,by repeat constructor,by repeat constructor,?_⟩))|(refine a2k ?_;first|refine a0b (a0l rfl) rfl ?_|(refine k_g ?_;first|refine a1j rfl rfl (by with_reducible rfl) ?_|refine a1w rfl rfl (by with_reducible rfl) rfl ?_)|refine a0b (a0f rfl rfl) rfl ?_|(refine a1g ?_;first|refine a0b (a0w rfl rfl) rfl ?_)|(refine a1i ?_;first|refine a0b (a0j rfl (by with_reducible rfl) rfl) rfl ?_|refine a0b (a0i rfl (by with_reducible rfl) rfl) rfl ?_)|refine a0b (a0e rfl) rfl ?_|refine a0u ?_)|(first|refine a1n ?_|(refine a1o ?_;first|refine a0c (a0a ?_)|refine a0c ?_|refine a0a ?_|refine a0o ?_)))
    refine ret1 (by first | exact .inr rfl | exact .inl rfl) rfl rfl ?_
    exact ⟨by rw [hR], rfl⟩
theorem c7y {X : Dem} {at' : Int} (hX : DemOk X) : ACalls (EE w0 base) 19 [.op 0 0, .int .i64 at'] (dmO X) fun rv os => rv = .int .i64 (userD X.ds at') ∧ os = dmO X := by
  have hg := c8b (w0 := w0) (base := base) (at' := at') hX
  refine a1s Tryz.func19 rfl rfl rfl (.cons (.cons .nil)) ?_
  by_cases hok : inAt at'
  · rw [decide_eq_true hok] at hg
    rcases a7l at' X.l with ⟨h1, h2, h3⟩ | ⟨i, e, h1, h2, h3, h4, h5⟩
    · have hR : userD X.ds at' = -1 := by
        show (if inAt at' then (match lget at' (lcE X.l) with | none => -1 | some c => c.user) else -1) = -1
        rw [h2, if_pos hok]
      repeat' (first|(first|(refine a0d ?_;refine a0v [0,1,2,3] rfl rfl hg ?_ ?_ rfl rfl ?_;(focus ((repeat constructor);done));(focus ((repeat constructor);done));rintro _ _ ⟨rfl,rfl⟩;refine ⟨_,_,by repeat constructor,by repeat constructor,?_⟩)|refine a0b (a1k (n := 0) rfl rfl) rfl ?_|refine a0b (a5p rfl rfl rfl .int (a4h _) h1 rfl) rfl ?_|(refine a1a ?_;first|refine a0b (a9f rfl rfl) rfl ?_))|(refine a2k ?_;first|refine a0b (a0l rfl) rfl ?_|(refine k_g ?_;first|refine a1j rfl rfl (by with_reducible rfl) ?_|refine a1t rfl rfl (by with_reducible rfl) rfl ?_)|refine a0b (a0f rfl rfl) rfl ?_|(refine a1g ?_;first|refine a0b (a0w rfl rfl) rfl ?_)|(refine a1i ?_;first|refine a0b (a0j rfl (by with_reducible rfl) rfl) rfl ?_|refine a0b (a0i rfl (by with_reducible rfl) rfl) rfl ?_)|refine a0b (a0e rfl) rfl ?_|refine a0u ?_|refine a0b (a0y rfl (by with_reducible rfl)) rfl ?_|refine a0b (a1r rfl (by with_reducible rfl)) rfl ?_)|(first|refine a1n ?_|(refine a1o ?_;first|refine a0c (a0a ?_)|refine a0c ?_|refine a0a ?_|(refine a0x ?_;first|refine a0g rfl (by with_reducible rfl) ?_|refine a0h rfl (by with_reducible rfl) ?_)|refine a0o ?_|refine a0k ?_)|refine a0t ?_))
      refine ret1 (by first | exact .inr rfl | exact .inl rfl) rfl rfl ?_
      exact ⟨by rw [hR], rfl⟩
    · have hm := (hX.rep.ok i e h1).c
      have hR : userD X.ds at' = e.c.user := by
        show (if inAt at' then (match lget at' (lcE X.l) with | none => -1 | some c => c.user) else -1) = _
        rw [h4, if_pos hok]
      repeat' (first|(first|(refine a0d ?_;refine a0v [0,1,2,3] rfl rfl hg ?_ ?_ rfl rfl ?_;(focus ((repeat constructor);done));(focus ((repeat constructor);done));rintro _ _ ⟨rfl,rfl⟩;refine ⟨_,_,by repeat constructor,by repeat constructor,?_⟩)|refine a0b (a1k (n := 0) rfl rfl) rfl ?_|refine a0b (a3a rfl rfl rfl .int (a4h _) h3) rfl ?_|(refine a1g ?_;refine a0b (a2i (id := 3) rfl rfl hm rfl) rfl ?_)|(refine a1a ?_;first|refine a0b (a2y rfl rfl rfl) rfl ?_))|(refine a2k ?_;first|refine a0b (a0l rfl) rfl ?_|(refine k_g ?_;first|refine a1j rfl rfl (by with_reducible rfl) ?_|refine a1t rfl rfl (by with_reducible rfl) rfl ?_)|refine a0b (a0f rfl rfl) rfl ?_|(refine a1g ?_;first|refine a0b (a0w rfl rfl) rfl ?_)|(refine a1i ?_;first|refine a0b (a0j rfl (by with_reducible rfl) rfl) rfl ?_|refine a0b (a0i rfl (by with_reducible rfl) rfl) rfl ?_)|refine a0b (a0e rfl) rfl ?_|refine a0u ?_|refine a0b (a0y rfl (by with_reducible rfl)) rfl ?_|refine a0b (a1r rfl (by with_reducible rfl)) rfl ?_)|(first|refine a1n ?_|(refine a1o ?_;first|refine a0c (a0a ?_)|refine a0c ?_|refine a0a ?_|(refine a0x ?_;first|refine a0g rfl (by with_reducible rfl) ?_|refine a0h rfl (by with_reducible rfl) ?_)|refine a0o ?_|refine a0k ?_)|refine a0t ?_))
      all_goals
        refine ret1 (by first | exact .inr rfl | exact .inl rfl) rfl rfl ?_
        exact ⟨by rw [hR], rfl⟩
  · rw [decide_eq_false hok] at hg
    have hR : userD X.ds at' = -1 := if_neg hok
    repeat' (first|(first|(refine a0d ?_;refine a0v [0,1,2,3] rfl rfl hg ?_ ?_ rfl rfl ?_;(focus ((repeat constructor);done));(focus ((repeat constructor);done));rintro _ _ ⟨rfl,rfl⟩;refine ⟨_,_,by repeat constructor,by repeat constructor,?_⟩))|(refine a2k ?_;first|refine a0b (a0l rfl) rfl ?_|(refine k_g ?_;first|refine a1j rfl rfl (by with_reducible rfl) ?_|refine a1t rfl rfl (by with_reducible rfl) rfl ?_)|refine a0b (a0f rfl rfl) rfl ?_|(refine a1g ?_;first|refine a0b (a0w rfl rfl) rfl ?_)|(refine a1i ?_;first|refine a0b (a0j rfl (by with_reducible rfl) rfl) rfl ?_|refine a0b (a0i rfl (by with_reducible rfl) rfl) rfl ?_)|refine a0b (a0e rfl) rfl ?_|refine a0u ?_|refine a0b (a0y rfl (by with_reducible rfl)) rfl ?_|refine a0b (a1r rfl (by with_reducible rfl)) rfl ?_)|(first|refine a1n ?_|(refine a1o ?_;first|refine a0c (a0a ?_)|refine a0c ?_|refine a0a ?_|(refine a0x ?_;first|refine a0g rfl (by with_reducible rfl) ?_|refine a0h rfl (by with_reducible rfl) ?_)|refine a0o ?_|refine a0k ?_)|refine a0t ?_))
    refine ret1 (by first | exact .inr rfl | exact .inl rfl) rfl rfl ?_
    exact ⟨by rw [hR], rfl⟩
theorem c4w {X : Dem} {t : List UInt8} {u : Int} (hX : DemOk X) : ACalls (EE w0 base) 15 [.op 0 0, .str t, .int .i64 u] (dmO X) (DmR (bindD X.ds t u)) := by
  have hg := a7f (w0 := w0) (base := base) hX
  refine a1s Tryz.func15 rfl rfl rfl (.cons (.cons (.cons .nil))) ?_
  by_cases h : 0 ≤ u ∧ u < X.users ∧ t ≠ []
  · obtain ⟨h1, h2, h3⟩ := h
    have hR : bindD X.ds t u = ({ X.ds with ss := sset t u X.ss }, 0) := if_pos ⟨h1, h2, h3⟩
    have hs := c5v t u X.ss
    repeat' (first|(first|(refine a0d ?_;refine a0v [0,1,2,3] rfl rfl hg ?_ ?_ rfl rfl ?_;(focus ((repeat constructor);done));(focus ((repeat constructor);done));rintro _ _ ⟨rfl,rfl⟩;refine ⟨_,_,by repeat constructor,by repeat constructor,?_⟩)|refine a0b (a1k (n := 0) rfl rfl) rfl ?_|(refine a1a ?_;first|refine a0b (a1l rfl rfl rfl (by omega)) rfl ?_|refine a0b (a1m rfl rfl rfl (by omega)) rfl ?_|refine a0b (a2l (n := []) h3 rfl rfl) rfl ?_)|refine a8j rfl rfl rfl (by repeat constructor) .str rfl (a4w _) hs ?_)|(refine a2k ?_;first|refine a0b (a0l rfl) rfl ?_|(refine k_g ?_;first|refine a1j rfl rfl (by with_reducible rfl) ?_|refine a1t rfl rfl (by with_reducible rfl) rfl ?_)|refine a0b (a0f rfl rfl) rfl ?_|(refine a1g ?_;first|refine a0b (a0w rfl rfl) rfl ?_)|(refine a1i ?_;first|refine a0b (a0j rfl (by with_reducible rfl) rfl) rfl ?_|refine a0b (a0i rfl (by with_reducible rfl) rfl) rfl ?_)|refine a0b (a0e rfl) rfl ?_|refine a0u ?_|refine a0b (a0y rfl (by with_reducible rfl)) rfl ?_)|(first|refine a1n ?_|(refine a1o ?_;first|refine a0c (a0a ?_)|refine a0c ?_|refine a0a ?_|(refine a0x ?_;first|refine a0g rfl (by with_reducible rfl) ?_|refine a0h rfl (by with_reducible rfl) ?_)|refine a0o ?_|refine a0k ?_)|refine a0t ?_))
    refine ret1 (by first | exact .inr rfl | exact .inl rfl) rfl rfl ?_
    rw [hR]
    refine ⟨rfl, { X with ss := sset t u X.ss }, ⟨hX.users, hX.conns, hX.asks, hX.rep, hX.keys, hX.okat, hX.cn, fun p hp => ?_⟩, rfl, rfl⟩
    rcases b6e hp with hp | rfl
    · exact hX.ss p hp
    · exact ⟨h3, h1, h2⟩
  · have hR : bindD X.ds t u = (X.ds, 1) := if_neg h
    have h' : u < 0 ∨ (0 ≤ u ∧ X.users ≤ u) ∨ (0 ≤ u ∧ u < X.users ∧ t = []) := by
      by_cases h1 : u < 0
      · exact .inl h1
      · by_cases h2 : X.users ≤ u
        · exact .inr (.inl ⟨by omega, h2⟩)
        · refine .inr (.inr ⟨by omega, by omega, Classical.byContradiction fun h3 => h ⟨by omega, by omega, h3⟩⟩)
    rcases h' with h1 | ⟨h1, h2⟩ | ⟨h1, h2, h3⟩
    all_goals
      repeat' (first|(first|(refine a0d ?_;refine a0v [0,1,2,3] rfl rfl hg ?_ ?_ rfl rfl ?_;(focus ((repeat constructor);done));(focus ((repeat constructor);done));rintro _ _ ⟨rfl,rfl⟩;refine ⟨_,_,by repeat constructor,by repeat constructor,?_⟩)|refine a0b (a1k (n := 0) rfl rfl) rfl ?_|(refine a1a ?_;first|refine a0b (a1l rfl rfl rfl (by omega)) rfl ?_|refine a0b (a1m rfl rfl rfl (by omega)) rfl ?_|refine a0b (a2h (n := []) h3 rfl rfl) rfl ?_))|(refine a2k ?_;first|refine a0b (a0l rfl) rfl ?_|(refine k_g ?_;first|refine a1j rfl rfl (by with_reducible rfl) ?_|refine a1t rfl rfl (by with_reducible rfl) rfl ?_)|refine a0b (a0f rfl rfl) rfl ?_|(refine a1g ?_;first|refine a0b (a0w rfl rfl) rfl ?_)|(refine a1i ?_;first|refine a0b (a0j rfl (by with_reducible rfl) rfl) rfl ?_|refine a0b (a0i rfl (by with_reducible rfl) rfl) rfl ?_)|refine a0b (a0e rfl) rfl ?_|refine a0u ?_|refine a0b (a0y rfl (by with_reducible rfl)) rfl ?_)|(first|refine a1n ?_|(refine a1o ?_;first|refine a0c (a0a ?_)|refine a0c ?_|refine a0a ?_|(refine a0x ?_;first|refine a0g rfl (by with_reducible rfl) ?_|refine a0h rfl (by with_reducible rfl) ?_)|refine a0o ?_|refine a0k ?_)|refine a0t ?_))
      refine ret1 (by first | exact .inr rfl | exact .inl rfl) rfl rfl ?_
      rw [hR]
      exact ⟨rfl, X, hX, rfl, rfl⟩
end
end Go.Proofs.YtkljmljkiodnpaaGreatDoor.L

namespace Go.Proofs.YtkljmljkiodnpaaGreatDoor.L
open Go Go.RowKit Go.Proofs
attribute [local irreducible] AL QL AWp Thn InB RetQ ACalls LoopQ HL HO HW HQ NoG JmpQ MidQ HF

theorem b1x {α : Type} [DecidableEq α] : ∀ {a b : List α}, a.Nodup → (∀ x ∈ a, x ∈ b) → a.length ≤ b.length := by
  intro a
  induction a with
  | nil => intro b _ _; exact Nat.zero_le _
  | cons x a ih =>
    intro b h1 h2
    rw [List.nodup_cons] at h1
    have hx := h2 x List.mem_cons_self
    have h3 := ih (b := b.erase x) h1.2 fun y hy => (List.mem_erase_of_ne (fun e => h1.1 (by rw [← e]; exact hy))).2 (h2 y (List.mem_cons_of_mem _ hy))
    have h4 := List.length_erase_of_mem hx
    have h5 := List.length_pos_of_mem hx
    rw [List.length_cons]
    omega
def cntS (P : Cn → Bool) (l : List En) (seen : List Nat) : Nat := (seen.filter fun i => (l[i]?).any fun e => P e.c).length
theorem b3w {P : Cn → Bool} {l : List En} {seen : List Nat} {i : Nat} {e : En} (h : l[i]? = some e) : cntS P l (seen ++ [i]) = cntS P l seen + (if P e.c = true then 1 else 0) := by
  unfold cntS
  rw [List.filter_append, List.length_append]
  congr 1
  rw [List.filter_cons, h, List.filter_nil]
  show (if (P e.c) = true then [i] else []).length = _
  split <;> rfl
theorem b8g (P : Cn → Bool) (l : List En) : ∀ n, n ≤ l.length → ((List.range n).filter fun i => (l[i]?).any fun e => P e.c).length = ((l.take n).filter fun e => P e.c).length := by
  intro n
  induction n with
  | zero => intro _; rfl
  | succ n ih =>
    intro h
    have hg : l[n]? = some l[n] := List.getElem?_eq_getElem (by omega)
    rw [List.range_succ, List.filter_append, List.length_append, ih (by omega), List.take_add_one, List.filter_append, List.length_append, hg]
    congr 1
    rw [List.filter_cons, hg, List.filter_nil]
    show (if (P l[n].c) = true then [n] else []).length = ((Option.toList (some l[n])).filter fun e => P e.c).length
    rw [Option.toList_some, List.filter_cons, List.filter_nil]
    split <;> rfl
theorem b7b {P : Cn → Bool} {l : List En} {seen : List Nat} (h1 : seen.Nodup) (h2 : ∀ i ∈ seen, i < l.length) (h3 : ∀ i, i < l.length → i ∈ seen) : cntS P l seen = (l.filter fun e => P e.c).length := by
  have e := b8g P l l.length (Nat.le_refl _)
  rw [List.take_length] at e
  rw [← e]
  unfold cntS
  refine Nat.le_antisymm (b1x (h1.filter _) fun x hx => ?_) (b1x (List.nodup_range.filter _) fun x hx => ?_)
  · rw [List.mem_filter] at hx ⊢
    exact ⟨List.mem_range.2 (h2 x hx.1), hx.2⟩
  · rw [List.mem_filter] at hx ⊢
    exact ⟨h3 x (List.mem_range.1 hx.1), hx.2⟩
theorem c1f {P : Cn → Bool} {l : List En} {seen : List Nat} (h1 : seen.Nodup) (h2 : ∀ i ∈ seen, i < l.length) : cntS P l seen ≤ l.length := by
  unfold cntS
  refine Nat.le_trans (List.length_filter_le _ _) ?_
  have := b1x h1 (fun x hx => List.mem_range.2 (h2 x hx))
  rwa [List.length_range] at this
def pC (u : Int) (c : Cn) : Bool := !c.closed && decide (c.user = u)
def pA (u : Int) (c : Cn) : Bool := c.waits && decide (c.asks = u)
theorem c7r (l : List En) (u : Int) : cntC (lcE l) u = (l.filter fun e => pC u e.c).length ∧ cntA (lcE l) u = (l.filter fun e => pA u e.c).length := by
  unfold cntC cntA lcE
  constructor
  · rw [List.filter_map, List.length_map]; rfl
  · rw [List.filter_map, List.length_map]; rfl
section
variable {w0 : World} {base : Nat}
abbrev cntAV (D : DS) (u : Int) : AV := .tup [.int .i64 ((countsD D u).1 : Int), .int .i64 ((countsD D u).2 : Int)]
set_option maxHeartbeats 8000000 in
theorem c1v {X : Dem} {u : Int} (hX : DemOk X) : ACalls (EE w0 base) 11 [.op 0 0, .int .i64 u] (dmO X) fun rv os => rv = cntAV X.ds u ∧ ∃ ex, os = dmO X ++ ex := by
  have hg := a7f (w0 := w0) (base := base) hX
  unfold cntAV
  refine a1s Tryz.func11 rfl rfl rfl (.cons (.cons .nil)) ?_
  by_cases hu : 0 ≤ u ∧ u < X.users
  · obtain ⟨hu1, hu2⟩ := hu
    have hR : countsD X.ds u = ((X.l.filter fun e => pC u e.c).length, (X.l.filter fun e => pA u e.c).length) := by
      have := c7r X.l u
      show (if 0 ≤ u ∧ u < X.users then (cntC (lcE X.l) u, cntA (lcE X.l) u) else (0, 0)) = _
      rw [if_pos ⟨hu1, hu2⟩, this.1, this.2]
    have hXl := hX.len
    rw [hR]
    dsimp only
    repeat' (first|(first|(refine a0d ?_;refine a0v [0,1,2,3] rfl rfl hg ?_ ?_ rfl rfl ?_;(focus ((repeat constructor);done));(focus ((repeat constructor);done));rintro _ _ ⟨rfl,rfl⟩;refine ⟨_,_,by repeat constructor,by repeat constructor,?_⟩)|refine a0b (a1k (n := 0) rfl rfl) rfl ?_|(refine a1a ?_;first|refine a0b (a1l rfl rfl rfl (by omega)) rfl ?_|refine a0b (a1m rfl rfl rfl (by omega)) rfl ?_)|refine c3w rfl rfl (by first|exact ln4) (by repeat constructor) rfl ?_)|(refine a2k ?_;first|refine a0b (a0l rfl) rfl ?_|(refine k_g ?_;first|refine a1j rfl rfl (by with_reducible rfl) ?_|refine a1w rfl rfl (by with_reducible rfl) rfl ?_|refine a1t rfl rfl (by with_reducible rfl) rfl ?_)|refine a0b (a0f rfl rfl) rfl ?_|(refine a1g ?_;first|refine a0b (a0w rfl rfl) rfl ?_)|(refine a1a ?_;first|refine a0b (a1p rfl rfl (by (first|exact w64 (by omega) (by omega)|rfl))) rfl ?_)|(refine a1i ?_;first|refine a0b (a0j rfl (by with_reducible rfl) rfl) rfl ?_|refine a0b (a0i rfl (by with_reducible rfl) rfl) rfl ?_)|refine a0b (a0e rfl) rfl ?_|refine a0b (a0s rfl rfl) rfl ?_|refine a0u ?_|refine a0b (a0y rfl (by with_reducible rfl)) rfl ?_|refine a0b (a1r rfl (by with_reducible rfl)) rfl ?_)|(first|refine a1n ?_|(refine a1o ?_;first|refine a0c (a0a ?_)|refine a0c ?_|refine a0a ?_|(refine a0x ?_;first|refine a0g rfl (by with_reducible rfl) ?_|refine a0h rfl (by with_reducible rfl) ?_)|refine a0n ?_|refine a0o ?_|refine a0k ?_|refine a1f ?_)|refine a0t ?_|refine a1q ?_|refine a1d ?_|refine a1v ?_|refine a1e ?_))
    refine a2o (fun seen : List Nat => ⟨[(1, .int .i64 u), (4, .int .i64 (cntS (pC u) X.l seen : Nat)), (5, .int .i64 (cntS (pA u) X.l seen : Nat)), (27, .op 4 0)], dmO X ++ [.iter 1 (X.l.map enK).length seen]⟩)
      (fun seen => seen.Nodup ∧ ∀ i ∈ seen, i < X.l.length) (fun seen => leftN (X.l.map enK).length seen) [] (.of (.same (by repeat constructor))) ⟨List.nodup_nil, fun i h => by cases h⟩ ?_
    rintro seen ⟨hs1, hs2⟩
    try dsimp only
    have hc1 := c1f (P := pC u) hs1 hs2
    have hc2 := c1f (P := pA u) hs1 hs2
    repeat' (first|((refine c6n rfl rfl rfl rfl (fun i => by repeat constructor) rfl (fun hdone => ?_) (fun i p hp hs => ?_)))|(refine a2k ?_;first|refine a0b (a0l rfl) rfl ?_|(refine k_g ?_;first|refine a1j rfl rfl (by with_reducible rfl) ?_|refine a1w rfl rfl (by with_reducible rfl) rfl ?_|refine a1t rfl rfl (by with_reducible rfl) rfl ?_)|refine a0b (a0f rfl rfl) rfl ?_|(refine a1g ?_;first|refine a0b (a0w rfl rfl) rfl ?_)|(refine a1a ?_;first|refine a0b (a1p rfl rfl (by (first|exact w64 (by omega) (by omega)|rfl))) rfl ?_)|(refine a1i ?_;first|refine a0b (a0j rfl (by with_reducible rfl) rfl) rfl ?_|refine a0b (a0i rfl (by with_reducible rfl) rfl) rfl ?_)|refine a0b (a0e rfl) rfl ?_|refine a0b (a0s rfl rfl) rfl ?_|refine a0u ?_|refine a0b (a0y rfl (by with_reducible rfl)) rfl ?_|refine a0b (a1r rfl (by with_reducible rfl)) rfl ?_)|(first|refine a1n ?_|(refine a1o ?_;first|refine a0c (a0a ?_)|refine a0c ?_|refine a0a ?_|(refine a0x ?_;first|refine a0g rfl (by with_reducible rfl) ?_|refine a0h rfl (by with_reducible rfl) ?_)|refine a0n ?_|refine a0o ?_|refine a0k ?_|refine a1f ?_)|refine a0t ?_|refine a1q ?_|refine a1d ?_|refine a1v ?_|refine a1e ?_))
    · refine ret2 (by first | exact .inr rfl | exact .inl rfl) rfl rfl rfl ?_
      have hall : ∀ i, i < X.l.length → i ∈ seen := fun i hi => by
        have := hdone i (by rw [List.length_map]; exact hi)
        simpa using this
      refine ⟨?_, _, rfl⟩
      rw [b7b hs1 hs2 hall, b7b hs1 hs2 hall]
    · rw [List.getElem?_map] at hp
      obtain ⟨e, he, rfl⟩ := Option.map_eq_some_iff.1 hp
      have hi : i < X.l.length := (List.getElem?_eq_some_iff.1 he).1
      have hp2 : (X.l.map enK)[i]? = some (enK e) := by rw [List.getElem?_map, he]; rfl
      have hm := (hX.rep.ok i e he).c
      have hn1 := b3w (P := pC u) (seen := seen) he
      have hn2 := b3w (P := pA u) (seen := seen) he
      have hns : i ∉ seen := fun h => by simp [h] at hs
      have hnd : (seen ++ [i]).Nodup := by
        rw [List.nodup_append]
        exact ⟨hs1, by simp, fun a ha b hb => by rw [List.mem_singleton.1 hb]; exact fun k => hns (k ▸ ha)⟩
      have hlt2 : ∀ k ∈ seen ++ [i], k < X.l.length := fun k hk => by
        rcases List.mem_append.1 hk with hk | hk
        · exact hs2 k hk
        · rw [List.mem_singleton.1 hk]; exact hi
      have hleft : leftN (X.l.map enK).length (seen ++ [i]) < leftN (X.l.map enK).length seen := c3c (by rw [List.length_map]; exact hi) hs
      obtain ⟨at', bc, bp, ba, s, st, user, closed, lost, waits, asks, ends, ans⟩ := e
      have hm2 : X.m bc = some [.ad bp 0, .int .i64 user, .bool closed, .bool lost, .bool waits, .int .i64 asks, .bool ends, paO ans ba] := hm
      have q1 : pC u ⟨s, st, user, closed, lost, waits, asks, ends, ans⟩ = (!closed && decide (user = u)) := rfl
      have q2 : pA u ⟨s, st, user, closed, lost, waits, asks, ends, ans⟩ = (waits && decide (asks = u)) := rfl
      dsimp only at hn1 hn2
      rw [q1] at hn1
      rw [q2] at hn2
      clear q1 q2 hm
      by_cases g1 : user = u
      all_goals
        by_cases g2 : asks = u
        all_goals
          cases closed
          all_goals
            cases waits
            all_goals
              first | rw [decide_eq_true g1] at hn1 | rw [decide_eq_false g1] at hn1
              first | rw [decide_eq_true g2] at hn2 | rw [decide_eq_false g2] at hn2
              first | rw [if_pos (by rfl)] at hn1 | rw [if_neg (by decide)] at hn1
              first | rw [if_pos (by rfl)] at hn2 | rw [if_neg (by decide)] at hn2
              repeat' (first|(first|refine a0b (c2x rfl rfl rfl rfl hp2) rfl ?_|refine a0b (a1k (n := 0) rfl rfl) rfl ?_|(refine a1g ?_;refine a0b (a2i (id := 3) rfl rfl hm2 rfl) rfl ?_)|(refine a1a ?_;first|refine a0b (a1l rfl rfl rfl (by omega)) rfl ?_|refine a0b (a1m rfl rfl rfl (by omega)) rfl ?_))|(refine a2k ?_;first|refine a0b (a0l rfl) rfl ?_|(refine k_g ?_;first|refine a1j rfl rfl (by with_reducible rfl) ?_|refine a1w rfl rfl (by with_reducible rfl) rfl ?_|refine a1t rfl rfl (by with_reducible rfl) rfl ?_)|refine a0b (a0f rfl rfl) rfl ?_|(refine a1g ?_;first|refine a0b (a0w rfl rfl) rfl ?_)|(refine a1a ?_;first|refine a0b (a1p rfl rfl (by (first|exact w64 (by omega) (by omega)|rfl))) rfl ?_)|(refine a1i ?_;first|refine a0b (a0j rfl (by with_reducible rfl) rfl) rfl ?_|refine a0b (a0i rfl (by with_reducible rfl) rfl) rfl ?_)|refine a0b (a0e rfl) rfl ?_|refine a0b (a0s rfl rfl) rfl ?_|refine a0u ?_|refine a0b (a0y rfl (by with_reducible rfl)) rfl ?_|refine a0b (a1r rfl (by with_reducible rfl)) rfl ?_)|(first|refine a1n ?_|(refine a1o ?_;first|refine a0c (a0a ?_)|refine a0c ?_|refine a0a ?_|(refine a0x ?_;first|refine a0g rfl (by with_reducible rfl) ?_|refine a0h rfl (by with_reducible rfl) ?_)|refine a0n ?_|refine a0o ?_|refine a0k ?_|refine a1f ?_)|refine a0t ?_|refine a1q ?_|refine a1d ?_|refine a1v ?_|refine a1e ?_))
              refine a1y (seen ++ [i]) ((Wkn.spell 4 (.int .i64 (cntS (pC u) X.l (seen ++ [i]) : Nat)) rfl (congrArg (AV.int .i64) (by omega))).trans ((Wkn.spell 5 (.int .i64 (cntS (pA u) X.l (seen ++ [i]) : Nat)) rfl (congrArg (AV.int .i64) (by omega))).trans (.of (.same (by repeat constructor))))) ⟨hnd, hlt2⟩ hleft
  · have hR : countsD X.ds u = (0, 0) := if_neg hu
    rw [hR]
    have h' : u < 0 ∨ (0 ≤ u ∧ X.users ≤ u) := by omega
    rcases h' with h1 | ⟨h1, h2⟩
    all_goals
      repeat' (first|(first|(refine a0d ?_;refine a0v [0,1,2,3] rfl rfl hg ?_ ?_ rfl rfl ?_;(focus ((repeat constructor);done));(focus ((repeat constructor);done));rintro _ _ ⟨rfl,rfl⟩;refine ⟨_,_,by repeat constructor,by repeat constructor,?_⟩)|refine a0b (a1k (n := 0) rfl rfl) rfl ?_|(refine a1a ?_;first|refine a0b (a1l rfl rfl rfl (by omega)) rfl ?_|refine a0b (a1m rfl rfl rfl (by omega)) rfl ?_))|(refine a2k ?_;first|refine a0b (a0l rfl) rfl ?_|(refine k_g ?_;first|refine a1j rfl rfl (by with_reducible rfl) ?_|refine a1w rfl rfl (by with_reducible rfl) rfl ?_|refine a1t rfl rfl (by with_reducible rfl) rfl ?_)|refine a0b (a0f rfl rfl) rfl ?_|(refine a1g ?_;first|refine a0b (a0w rfl rfl) rfl ?_)|(refine a1a ?_;first|refine a0b (a1p rfl rfl (by (first|exact w64 (by omega) (by omega)|rfl))) rfl ?_)|(refine a1i ?_;first|refine a0b (a0j rfl (by with_reducible rfl) rfl) rfl ?_|refine a0b (a0i rfl (by with_reducible rfl) rfl) rfl ?_)|refine a0b (a0e rfl) rfl ?_|refine a0b (a0s rfl rfl) rfl ?_|refine a0u ?_|refine a0b (a0y rfl (by with_reducible rfl)) rfl ?_|refine a0b (a1r rfl (by with_reducible rfl)) rfl ?_)|(first|refine a1n ?_|(refine a1o ?_;first|refine a0c (a0a ?_)|refine a0c ?_|refine a0a ?_|(refine a0x ?_;first|refine a0g rfl (by with_reducible rfl) ?_|refine a0h rfl (by with_reducible rfl) ?_)|refine a0n ?_|refine a0o ?_|refine a0k ?_|refine a1f ?_)|refine a0t ?_|refine a1q ?_|refine a1d ?_|refine a1v ?_|refine a1e ?_))
      refine ret2 (by first | exact .inr rfl | exact .inl rfl) rfl rfl rfl ?_
      exact ⟨rfl, [], rfl⟩
theorem a8t {X : Dem} {u : Int} (hX : DemOk X) : ACalls (EE w0 base) 11 [.op 0 0, .int .i64 u] (dmO X) fun rv os => rv = cntAV X.ds u ∧ os = dmO X := by
  refine a3u (c1v hX) ?_
  rintro rv os ⟨rfl, ex, rfl⟩
  exact ⟨dmO X, ex, rfl, ⟨rfl, rfl⟩, rfl, by repeat constructor, Nat.le_refl _⟩
end
end Go.Proofs.YtkljmljkiodnpaaGreatDoor.L

namespace Go.Proofs.YtkljmljkiodnpaaGreatDoor.L
open Go Go.RowKit Go.Proofs
attribute [local irreducible] AL QL AWp Thn InB RetQ ACalls LoopQ HL HO HW HQ NoG JmpQ MidQ HF

theorem b1g {m : Nat → Option (List AV)} {b x : Nat} {cs : List AV} (h : upd m b cs x = none) : x ≠ b ∧ m x = none := by
  by_cases e : x = b
  · subst e; rw [a2r] at h; cases h
  · rw [a2d e] at h; exact ⟨e, h⟩
theorem c3r {m : Nat → Option (List AV)} {e : En} (h : EnOk m e) : e.bp ≠ e.bc := fun k => by
  have hnd := h.nd
  unfold adsE adsO at hnd
  split at hnd <;> simp only [List.nodup_cons, List.mem_cons] at hnd <;> exact hnd.1 (.inl k.symm)
theorem c7u {m : Nat → Option (List AV)} {e : En} (h : EnOk m e) {r : Rp} (hr : e.c.ans = some r) : e.ba ≠ e.bc ∧ e.ba ≠ e.bp := by
  have hnd := h.nd
  unfold adsE adsO at hnd
  rw [hr] at hnd
  simp only [List.nodup_cons, List.mem_cons, List.not_mem_nil, or_false, not_or, List.mem_singleton] at hnd
  exact ⟨fun k => hnd.1.2 k.symm, fun k => hnd.2.1 k.symm⟩
theorem c5x (l : List En) (i : Nat) (e : En) : lcE (l.set i e) = (lcE l).set i (e.at', e.c) := by unfold lcE; rw [List.map_set]
theorem c2t (fs : Fs) : ∀ (i : Nat) row, (fs.map prAV)[i]? = some row → row.length = 2 := by
  intro i row h
  rw [List.getElem?_map] at h
  obtain ⟨p, _, rfl⟩ := Option.map_eq_some_iff.1 h
  rfl
theorem b4y (at' : Int) (b : Nat) : ∀ (l : List En), (∀ e ∈ l, e.at' ≠ at') → mset (.int .i64 at') (.ad b 0) (l.map enK) = l.map enK ++ [(.int .i64 at', .ad b 0)] := by
  intro l
  induction l with
  | nil => intro _; rfl
  | cons e l ih =>
    intro h
    have e1 : mset (.int .i64 at') (.ad b 0) ((e :: l).map enK) = if decide (at' = e.at') = true then (.int .i64 e.at', .ad b 0) :: l.map enK else enK e :: mset (.int .i64 at') (.ad b 0) (l.map enK) := rfl
    have h1 := h e List.mem_cons_self
    rw [e1, if_neg (by simpa using fun k => h1 k.symm), ih fun q hq => h q (List.mem_cons_of_mem _ hq)]
    rfl
section
variable {w0 : World} {base : Nat}
theorem c1u {m : Nat → Option (List AV)} {b : Nat} {s t : List UInt8} {st : Int} (hs : s.length ≤ 65536) (ht : t.length ≤ 140737488351232) (hm : m b = some [.bool true, .str s, .int .i64 st]) :
    ACalls (EE w0 base) 28 [.ad b 0, .str t] [.hp m] fun rv os => rv = .int .i64 (feedS s st t).1 ∧ os = [.hp (upd m b [.bool true, .str (feedS s st t).2, .int .i64 st])] := by
  refine a2w (b4i (E := EE w0 base) (c8c (w0 := w0) (base := base) hs ht) hm rfl ?_) ?_
  · rintro rv os ⟨rfl, rfl⟩
    exact ⟨_, rfl, rfl, rfl⟩
  · rintro rv os ⟨cells', ⟨rfl, h⟩, rfl⟩
    injection h with h _
    injection h with h _
    subst h
    exact ⟨rfl, rfl⟩
theorem c6j (s : List UInt8) (st : Int) : clB 0 (nextV s st).1 = true := by
  unfold nextV
  split
  · rfl
  · split <;> rfl
theorem c6s {m : Nat → Option (List AV)} {b : Nat} {s : List UInt8} {st : Int} (hG : Glob w0 base) (hs : s.length ≤ 65536) (hm : m b = some [.bool true, .str s, .int .i64 st]) :
    ACalls (EE w0 base) 32 [.ad b 0] [.hp m] fun rv os => rv = (nextV s st).1 ∧ os = [.hp (upd m b [.bool true, .str (nextV s st).2.1, .int .i64 (nextV s st).2.2])] := by
  refine a2w (b4i (E := EE w0 base) (c8a (w0 := w0) (base := base) hG (by omega)) hm rfl ?_) ?_
  · rintro rv os ⟨rfl, rfl⟩
    exact ⟨_, rfl, rfl, c6j s st⟩
  · rintro rv os ⟨cells', ⟨rfl, h⟩, rfl⟩
    injection h with h _
    injection h with h _
    subst h
    exact ⟨rfl, rfl⟩
set_option maxHeartbeats 4000000 in
theorem c1z {X : Dem} {at' : Int} {r : Rp} (hX : DemOk X) (hr : RpFit r) (hf : r.fs.length * 32 ≤ 140737488355328) : ACalls (EE w0 base) 16 [.op 0 0, .int .i64 at', .agg (rpC r)] (dmO X) fun rv os => ∃ os1 ex, os = os1 ++ ex ∧ DmR (answerD X.ds at' r) rv os1 := by
  have hg := c8b (w0 := w0) (base := base) (at' := at') hX
  have ho := c1q (w0 := w0) (base := base) (at' := at') hX
  refine a1s Tryz.func16 rfl rfl rfl (.cons (.cons (.cons .nil))) ?_
  by_cases hok : inAt at'
  · rw [decide_eq_true hok] at hg
    have hS : answerD X.ds at' r = (match lget at' (lcE X.l) with | none => (X.ds, 3) | some c => if c.waits then ({ X.ds with l := lset at' (ansC c r) (lcE X.l) }, 0) else (X.ds, 3)) := if_pos hok
    have hO : waitsD X.ds at' = (match lget at' (lcE X.l) with | none => false | some c => c.waits) := if_pos hok
    rcases a7l at' X.l with ⟨h1, h2, h3⟩ | ⟨i, e, h1, h2, h3, h4, h5⟩
    · rw [h2] at hS hO
      rw [hO] at ho
      repeat' (first|(first|(refine a0d ?_;refine a0v [0,1,2,3] rfl rfl hg ?_ ?_ rfl rfl ?_;(focus ((repeat constructor);done));(focus ((repeat constructor);done));rintro _ _ ⟨rfl,rfl⟩;refine ⟨_,_,by repeat constructor,by repeat constructor,?_⟩)|(refine a0d ?_;refine a0v [0,1,2,3] rfl rfl ho ?_ ?_ rfl rfl ?_;(focus ((repeat constructor);done));(focus ((repeat constructor);done));rintro _ _ ⟨rfl,rfl⟩;refine ⟨_,_,by repeat constructor,by repeat constructor,?_⟩))|(refine a2k ?_;first|refine a0b (a0l rfl) rfl ?_|refine a0b (a0f rfl rfl) rfl ?_|(refine a1g ?_;first|refine a0b (a0w rfl rfl) rfl ?_|refine a0b (a0m rfl rfl rfl) rfl ?_)|refine a0b (a0e rfl) rfl ?_|refine a0u ?_|refine a2g rfl rfl rfl (by first|exact ln4|exact ln5) (by repeat constructor) rfl ?_|refine a0z rfl rfl rfl (by first|exact ln4|exact ln5) (by repeat constructor) rfl ?_|refine a1c rfl rfl rfl rfl rfl (by repeat constructor) (by repeat constructor) ?_|refine a0b (a0y rfl (by with_reducible rfl)) rfl ?_|refine a0b (a1r rfl (by with_reducible rfl)) rfl ?_)|(first|refine a1n ?_|(refine a1o ?_;first|refine a0c (a0a ?_)|refine a0c ?_|refine a0a ?_|(refine a0x ?_;first|refine a0g rfl (by with_reducible rfl) ?_|refine a0h rfl (by with_reducible rfl) ?_)|refine a0o ?_|refine a0k ?_)|refine a0t ?_))
      refine ret1 (by first | exact .inr rfl | exact .inl rfl) rfl rfl ?_
      rw [hS]
      exact ⟨dmO X, _, rfl, rfl, X, hX, rfl, rfl⟩
    · rw [h4] at hS hO
      dsimp only at hS hO
      rw [hO] at ho
      have hen := hX.rep.ok i e h1
      have hm := hen.c
      have hcn := hX.cn e (List.mem_of_getElem? h1)
      cases hw : e.c.waits with
      | false =>
        rw [hw] at hS ho
        rw [if_neg (by decide)] at hS
        repeat' (first|(first|(refine a0d ?_;refine a0v [0,1,2,3] rfl rfl hg ?_ ?_ rfl rfl ?_;(focus ((repeat constructor);done));(focus ((repeat constructor);done));rintro _ _ ⟨rfl,rfl⟩;refine ⟨_,_,by repeat constructor,by repeat constructor,?_⟩)|(refine a0d ?_;refine a0v [0,1,2,3] rfl rfl ho ?_ ?_ rfl rfl ?_;(focus ((repeat constructor);done));(focus ((repeat constructor);done));rintro _ _ ⟨rfl,rfl⟩;refine ⟨_,_,by repeat constructor,by repeat constructor,?_⟩))|(refine a2k ?_;first|refine a0b (a0l rfl) rfl ?_|refine a0b (a0f rfl rfl) rfl ?_|(refine a1g ?_;first|refine a0b (a0w rfl rfl) rfl ?_|refine a0b (a0m rfl rfl rfl) rfl ?_)|refine a0b (a0e rfl) rfl ?_|refine a0u ?_|refine a2g rfl rfl rfl (by first|exact ln4|exact ln5) (by repeat constructor) rfl ?_|refine a0z rfl rfl rfl (by first|exact ln4|exact ln5) (by repeat constructor) rfl ?_|refine a1c rfl rfl rfl rfl rfl (by repeat constructor) (by repeat constructor) ?_|refine a0b (a0y rfl (by with_reducible rfl)) rfl ?_|refine a0b (a1r rfl (by with_reducible rfl)) rfl ?_)|(first|refine a1n ?_|(refine a1o ?_;first|refine a0c (a0a ?_)|refine a0c ?_|refine a0a ?_|(refine a0x ?_;first|refine a0g rfl (by with_reducible rfl) ?_|refine a0h rfl (by with_reducible rfl) ?_)|refine a0o ?_|refine a0k ?_)|refine a0t ?_))
        refine ret1 (by first | exact .inr rfl | exact .inl rfl) rfl rfl ?_
        rw [hS]
        exact ⟨dmO X, _, rfl, rfl, X, hX, rfl, rfl⟩
      | true =>
        rw [hw] at hS ho
        rw [if_pos rfl, h5] at hS
        obtain ⟨C, hC⟩ : ∃ C, C = ansC e.c r := ⟨_, rfl⟩
        rw [← hC] at hS
        unfold ansC at hC
        cases hcl : e.c.closed with
        | true =>
          rw [if_pos hcl] at hC
          have hm2 : X.m e.bc = some [.ad e.bp 0, .int .i64 e.c.user, .bool true, .bool e.c.lost, .bool e.c.waits, .int .i64 e.c.asks, .bool e.c.ends, paE e] := by rw [hm, ← hcl]
          repeat' (first|(first|(refine a0d ?_;refine a0v [0,1,2,3] rfl rfl hg ?_ ?_ rfl rfl ?_;(focus ((repeat constructor);done));(focus ((repeat constructor);done));rintro _ _ ⟨rfl,rfl⟩;refine ⟨_,_,by repeat constructor,by repeat constructor,?_⟩)|(refine a0d ?_;refine a0v [0,1,2,3] rfl rfl ho ?_ ?_ rfl rfl ?_;(focus ((repeat constructor);done));(focus ((repeat constructor);done));rintro _ _ ⟨rfl,rfl⟩;refine ⟨_,_,by repeat constructor,by repeat constructor,?_⟩)|refine a0b (a1k (n := 0) rfl rfl) rfl ?_|refine a0b (a3a rfl rfl rfl .int (a4h _) h3) rfl ?_|refine a3g (id := 3) rfl rfl rfl rfl rfl rfl rfl hm2 (by repeat constructor) (by repeat constructor) ?_|refine a3g (id := 3) rfl rfl rfl rfl rfl rfl rfl a2r (by repeat constructor) (by repeat constructor) ?_|(refine a1g ?_;refine a0b (a2i (id := 3) rfl rfl a2r rfl) rfl ?_))|(refine a2k ?_;first|refine a0b (a0l rfl) rfl ?_|refine a0b (a0f rfl rfl) rfl ?_|(refine a1g ?_;first|refine a0b (a0w rfl rfl) rfl ?_|refine a0b (a0m rfl rfl rfl) rfl ?_)|refine a0b (a0e rfl) rfl ?_|refine a0u ?_|refine a2g rfl rfl rfl (by first|exact ln4|exact ln5) (by repeat constructor) rfl ?_|refine a0z rfl rfl rfl (by first|exact ln4|exact ln5) (by repeat constructor) rfl ?_|refine a1c rfl rfl rfl rfl rfl (by repeat constructor) (by repeat constructor) ?_|refine a0b (a0y rfl (by with_reducible rfl)) rfl ?_|refine a0b (a1r rfl (by with_reducible rfl)) rfl ?_)|(first|refine a1n ?_|(refine a1o ?_;first|refine a0c (a0a ?_)|refine a0c ?_|refine a0a ?_|(refine a0x ?_;first|refine a0g rfl (by with_reducible rfl) ?_|refine a0h rfl (by with_reducible rfl) ?_)|refine a0o ?_|refine a0k ?_)|refine a0t ?_))
          refine ret1 (by first | exact .inr rfl | exact .inl rfl) rfl rfl ?_
          rw [hS]
          subst hC
          refine ⟨dmO { X with l := X.l.set i { e with c := { e.c with waits := false, asks := -1 } }, m := upd X.m e.bc (cnC e.bp (paE e) { e.c with waits := false, asks := -1 }) }, [.box (rpC r)], ?_, rfl, _, hX.set (e' := { e with c := { e.c with waits := false, asks := -1 } }) h1 rfl (hX.rep.flags (c' := { e.c with waits := false, asks := -1 }) h1 rfl rfl rfl) ⟨hcn.s, hcn.a⟩, rfl, rfl⟩
          rw [a7u (e' := { e with c := { e.c with waits := false, asks := -1 } }) h1 rfl rfl, a5v]
          have e1 : ∀ x, x = e.c.closed → cnC e.bp (paE e) { e.c with waits := false, asks := -1 } = [.ad e.bp 0, .int .i64 e.c.user, .bool x, .bool e.c.lost, .bool false, .int .i64 (-1), .bool e.c.ends, paE e] := fun x hx => by rw [hx]
          rw [e1 true hcl.symm]
          rfl
        | false =>
          rw [if_neg (by rw [hcl]; decide)] at hC
          have hm2 : X.m e.bc = some [.ad e.bp 0, .int .i64 e.c.user, .bool false, .bool e.c.lost, .bool e.c.waits, .int .i64 e.c.asks, .bool e.c.ends, paE e] := by rw [hm, ← hcl]
          repeat' (first|(first|(refine a4j (.boxFreeze (ib := 5) (k := 1) (id := 6) rfl rfl rfl rfl (by repeat constructor) rfl rfl) ?_;refine b5w 8 (id := 5) (j := 3) rfl (by repeat constructor) (fun _ => by repeat constructor) rfl (fun ba hba => ?_))|(refine a0d ?_;refine a0v [0,1,2,3] rfl rfl hg ?_ ?_ rfl rfl ?_;(focus ((repeat constructor);done));(focus ((repeat constructor);done));rintro _ _ ⟨rfl,rfl⟩;refine ⟨_,_,by repeat constructor,by repeat constructor,?_⟩)|(refine a0d ?_;refine a0v [0,1,2,3] rfl rfl ho ?_ ?_ rfl rfl ?_;(focus ((repeat constructor);done));(focus ((repeat constructor);done));rintro _ _ ⟨rfl,rfl⟩;refine ⟨_,_,by repeat constructor,by repeat constructor,?_⟩)|refine a0b (a1k (n := 0) rfl rfl) rfl ?_|refine a0b (a3a rfl rfl rfl .int (a4h _) h3) rfl ?_|refine a3g (id := 3) rfl rfl rfl rfl rfl rfl rfl hm2 (by repeat constructor) (by repeat constructor) ?_|refine a3g (id := 3) rfl rfl rfl rfl rfl rfl rfl a2r (by repeat constructor) (by repeat constructor) ?_|refine a3g (id := 3) rfl rfl rfl rfl rfl rfl rfl ((a2d (fun k => by rw [← k,a2r] at hba;cases hba)).trans a2r) (by repeat constructor) (by repeat constructor) ?_|(refine a1g ?_;refine a0b (a2i (id := 3) rfl rfl a2r rfl) rfl ?_)|(refine a0d ?_;refine b2k rfl rfl (c6w (c2t r.fs)) rfl (by repeat constructor) rfl (by decide) (by decide) (by rw [List.length_map];omega) rfl ?_))|(refine a2k ?_;first|refine a0b (a0l rfl) rfl ?_|refine a0b (a0f rfl rfl) rfl ?_|(refine a1g ?_;first|refine a0b (a0w rfl rfl) rfl ?_|refine a0b (a0m rfl rfl rfl) rfl ?_)|refine a0b (a0e rfl) rfl ?_|refine a0u ?_|refine a2g rfl rfl rfl (by first|exact ln4|exact ln5) (by repeat constructor) rfl ?_|refine a0z rfl rfl rfl (by first|exact ln4|exact ln5) (by repeat constructor) rfl ?_|refine a1c rfl rfl rfl rfl rfl (by repeat constructor) (by repeat constructor) ?_|refine a0b (a0y rfl (by with_reducible rfl)) rfl ?_|refine a0b (a1r rfl (by with_reducible rfl)) rfl ?_)|(first|refine a1n ?_|(refine a1o ?_;first|refine a0c (a0a ?_)|refine a0c ?_|refine a0a ?_|(refine a0x ?_;first|refine a0g rfl (by with_reducible rfl) ?_|refine a0h rfl (by with_reducible rfl) ?_)|refine a0o ?_|refine a0k ?_)|refine a0t ?_))
          refine ret1 (by first | exact .inr rfl | exact .inl rfl) rfl rfl ?_
          rw [hS]
          subst hC
          have hb1 := b1g hba
          have hb2 := (b1g hb1.2).2
          have hbp := c3r hen
          have hbpa : e.bp ≠ ba := fun k => by rw [← k, hen.p] at hb2; cases hb2
          refine ⟨dmO { X with l := X.l.set i { e with ba := ba,c := { e.c with waits := false,asks := -1,ans := some r } },m := upd (upd (upd (upd X.m e.bc [.ad e.bp 0,.int .i64 e.c.user,.bool false,.bool e.c.lost,.bool false,.int .i64 e.c.asks,.bool e.c.ends,paE e]) e.bc [.ad e.bp 0,.int .i64 e.c.user,.bool false,.bool e.c.lost,.bool false,.int .i64 (-1),.bool e.c.ends,paE e]) ba (rpC r)) e.bc [.ad e.bp 0,.int .i64 e.c.user,.bool false,.bool e.c.lost,.bool false,.int .i64 (-1),.bool e.c.ends,.ad ba 0] },[.box (rpC r),.gone,.row 90 2 0 (r.fs.map prAV).length (r.fs.map prAV)],?_,rfl,_,hX.set (e' := { e with ba := ba,c := { e.c with waits := false,asks := -1,ans := some r } }) h1 rfl (hX.rep.set h1 (fun x hx hx' => ?_) ⟨?_,?_,fun q hq => ?_,?_⟩ (fun x hx => ?_)) ⟨hcn.s,fun q hq => ?_⟩,rfl,by simp only [Dem.ds,c5x]⟩
          · rw [a7u (e' := { e with ba := ba, c := { e.c with waits := false, asks := -1, ans := some r } }) h1 rfl rfl]
            rfl
          · have x1 : x ≠ e.bc := fun k => hx (k ▸ b0a e)
            have x2 : x ≠ ba := fun k => hx' (by rw [k]; exact c4u (e := { e with ba := ba, c := { e.c with waits := false, asks := -1, ans := some r } }) (r := r) rfl)
            rw [a2d x1, a2d x2, a2d x1, a2d x1]
          · show upd _ _ _ e.bc = some (cnC e.bp (.ad ba 0) { e.c with waits := false, asks := -1, ans := some r })
            rw [a2r]
            show _ = (some [.ad e.bp 0, .int .i64 e.c.user, .bool e.c.closed, .bool e.c.lost, .bool false, .int .i64 (-1), .bool e.c.ends, .ad ba 0] : Option (List AV))
            rw [hcl]
          · show upd _ _ _ e.bp = _
            rw [a2d hbp, a2d hbpa, a2d hbp, a2d hbp, hen.p]
          · injection hq with hq
            subst hq
            show upd _ _ _ ba = _
            rw [a2d hb1.1, a2r]
          · show [e.bc, e.bp, ba].Nodup
            simp only [List.nodup_cons, List.mem_cons, List.not_mem_nil, or_false, not_or, List.nodup_nil, and_true, not_false_eq_true]
            exact ⟨⟨fun k => hbp k.symm, fun k => hb1.1 k.symm⟩, hbpa⟩
          · have hx2 : x ∈ [e.bc, e.bp, ba] := hx
            simp only [List.mem_cons, List.not_mem_nil, or_false] at hx2
            rcases hx2 with rfl | rfl | rfl
            · exact .inl (b0a e)
            · exact .inl (b3y e)
            · exact .inr hb2
          · injection hq with hq
            subst hq
            exact hr
  · rw [decide_eq_false hok] at hg
    have hS : answerD X.ds at' r = (X.ds, 1) := if_neg hok
    repeat' (first|(first|(refine a0d ?_;refine a0v [0,1,2,3] rfl rfl hg ?_ ?_ rfl rfl ?_;(focus ((repeat constructor);done));(focus ((repeat constructor);done));rintro _ _ ⟨rfl,rfl⟩;refine ⟨_,_,by repeat constructor,by repeat constructor,?_⟩))|(refine a2k ?_;first|refine a0b (a0l rfl) rfl ?_|refine a0b (a0f rfl rfl) rfl ?_|(refine a1g ?_;first|refine a0b (a0w rfl rfl) rfl ?_|refine a0b (a0m rfl rfl rfl) rfl ?_)|refine a0b (a0e rfl) rfl ?_|refine a0u ?_|refine a2g rfl rfl rfl (by first|exact ln4|exact ln5) (by repeat constructor) rfl ?_|refine a0z rfl rfl rfl (by first|exact ln4|exact ln5) (by repeat constructor) rfl ?_|refine a1c rfl rfl rfl rfl rfl (by repeat constructor) (by repeat constructor) ?_|refine a0b (a0y rfl (by with_reducible rfl)) rfl ?_|refine a0b (a1r rfl (by with_reducible rfl)) rfl ?_)|(first|refine a1n ?_|(refine a1o ?_;first|refine a0c (a0a ?_)|refine a0c ?_|refine a0a ?_|(refine a0x ?_;first|refine a0g rfl (by with_reducible rfl) ?_|refine a0h rfl (by with_reducible rfl) ?_)|refine a0o ?_|refine a0k ?_)|refine a0t ?_))
    refine ret1 (by first | exact .inr rfl | exact .inl rfl) rfl rfl ?_
    rw [hS]
    exact ⟨dmO X, _, rfl, rfl, X, hX, rfl, rfl⟩
theorem b7c (X : Dem) : ClOs (dmO X).length (dmO X) := by repeat constructor
theorem b7e {X : Dem} {at' : Int} {r : Rp} (hX : DemOk X) (hr : RpFit r) (hf : r.fs.length * 32 ≤ 140737488355328) : ACalls (EE w0 base) 16 [.op 0 0, .int .i64 at', .agg (rpC r)] (dmO X) (DmR (answerD X.ds at' r)) := by
  refine a3u (c1z hX hr hf) ?_
  rintro rv os ⟨os1, ex, rfl, rfl, X', h1, rfl, h2⟩
  exact ⟨dmO X', ex, rfl, ⟨rfl, X', h1, rfl, h2⟩, rfl, b7c X', Nat.le_refl _⟩
end
end Go.Proofs.YtkljmljkiodnpaaGreatDoor.L

namespace Go.Proofs.YtkljmljkiodnpaaGreatDoor.L
open Go Go.RowKit Go.Proofs
attribute [local irreducible] AL QL AWp Thn InB RetQ ACalls LoopQ HL HO HW HQ NoG JmpQ MidQ HF

theorem b6s {at' : Int} {c' : Cn} : ∀ {l : List (Int × Cn)}, lget at' l = none → lset at' c' l = l ++ [(at', c')] := by
  intro l
  induction l with
  | nil => intro _; rfl
  | cons p l ih =>
    intro h
    rw [lget] at h
    split at h
    · cases h
    · rename_i hn
      rw [lset, if_neg hn, ih h]
      rfl
theorem b6d {c : Cn} (h : CnOk c) {t : List UInt8} (ht : t.length ≤ 65536) : CnOk (takeC c t) := by
  refine ⟨?_, h.a⟩
  have := h.s
  unfold takeC feedS
  dsimp only
  split
  · exact this
  · split
    · exact this
    · dsimp only; rw [List.length_append]; omega
theorem c7s : CnOk cn0 := ⟨Nat.zero_le _, fun r h => by cases h⟩
theorem DemOk.push {X : Dem} {e' : En} {m' : Nat → Option (List AV)} (h : DemOk X) (h1 : ∀ e ∈ X.l, e.at' ≠ e'.at') (h2 : inAt e'.at') (hr : RepE m' (X.l ++ [e'])) (hc : CnOk e'.c) : DemOk { X with l := X.l ++ [e'], m := m' } := by
  refine ⟨h.users, h.conns, h.asks, hr, ?_, fun q hq => ?_, fun q hq => ?_, h.ss⟩
  · show ((X.l ++ [e']).map (·.at')).Nodup
    rw [List.map_append, List.nodup_append]
    refine ⟨h.keys, by simp, fun a ha b hb => ?_⟩
    obtain ⟨q, hq, rfl⟩ := List.mem_map.1 ha
    rw [List.map_cons, List.map_nil, List.mem_singleton] at hb
    rw [hb]
    exact h1 q hq
  · rcases List.mem_append.1 hq with hq | hq
    · exact h.okat q hq
    · rw [List.mem_singleton.1 hq]; exact h2
  · rcases List.mem_append.1 hq with hq | hq
    · exact h.cn q hq
    · rw [List.mem_singleton.1 hq]; exact hc
section
variable {w0 : World} {base : Nat}
set_option maxHeartbeats 4000000 in
theorem c1y {X : Dem} {at' : Int} {t : List UInt8} (hX : DemOk X) (ht0 : t.length ≤ 140737488351232) : ACalls (EE w0 base) 10 [.op 0 0, .int .i64 at', .str t] (dmO X) fun rv os => ∃ os1 ex, os = os1 ++ ex ∧ DmR (arriveD X.ds at' t) rv os1 := by
  have hg := c8b (w0 := w0) (base := base) (at' := at') hX
  refine a1s Tryz.func10 rfl rfl rfl (.cons (.cons (.cons .nil))) ?_
  by_cases hok : inAt at'
  · rw [decide_eq_true hok] at hg
    by_cases htl : t.length ≤ 65536
    · have hS : arriveD X.ds at' t = (if ((lget at' (lcE X.l)).getD cn0).closed then (X.ds, 80) else ({ X.ds with l := lset at' (takeC ((lget at' (lcE X.l)).getD cn0) t) (lcE X.l) }, 0)) := if_pos ⟨hok, htl⟩
      rcases a7l at' X.l with ⟨h1, h2, h3⟩ | ⟨i, e, h1, h2, h3, h4, h5⟩
      · rw [h2, Option.getD_none, if_neg (show ¬ cn0.closed = true by decide), b6s h2] at hS
        have hN := c8t (w0 := w0) (base := base)
        have hfd : feedS [] 0 t = (0, t) := by
          unfold feedS
          rw [if_neg (by decide), if_neg (by simp only [List.length_nil]; omega)]
          rfl
        repeat' (first|(first|refine b5w 25 (id := 4) (j := 3) rfl (by repeat constructor) (fun _ => by repeat constructor) rfl (fun bp hbp => ?_)|refine b5w 27 (id := 5) (j := 3) rfl (by repeat constructor) (fun _ => by repeat constructor) rfl (fun bc hbc => ?_)|(refine a0d ?_;refine a0v [0,1,2,3] rfl rfl hg ?_ ?_ rfl rfl ?_;(focus ((repeat constructor);done));(focus ((repeat constructor);done));rintro _ _ ⟨rfl,rfl⟩;refine ⟨_,_,by repeat constructor,by repeat constructor,?_⟩)|(refine a0d ?_;refine a0v [] rfl rfl hN ?_ ?_ rfl rfl ?_;(focus ((repeat constructor);done));(focus ((repeat constructor);done));rintro _ _ ⟨rfl,rfl⟩;refine ⟨_,_,by repeat constructor,by repeat constructor,?_⟩)|refine a0b (a1k (n := 0) rfl rfl) rfl ?_|refine a0b (a5p rfl rfl rfl .int (a4h _) h1 rfl) rfl ?_|(refine a1a ?_;first|refine a0b (a9f rfl rfl) rfl ?_|refine a0b (a1l rfl rfl rfl (by omega)) rfl ?_|refine a0b (a1m rfl rfl rfl (by omega)) rfl ?_)|refine a8j rfl rfl rfl (by repeat constructor) .int rfl (a4h _) (b4y _ _ _ h3) ?_|(refine a1g ?_;refine a0b (a2i (id := 3) rfl rfl a2r rfl) rfl ?_))|(refine a2k ?_;first|refine a0b (a0l rfl) rfl ?_|(refine k_g ?_;first|refine a1j rfl rfl (by with_reducible rfl) ?_|refine a1t rfl rfl (by with_reducible rfl) rfl ?_)|refine a0b (a0f rfl rfl) rfl ?_|(refine a1g ?_;first|refine a0b (a0w rfl rfl) rfl ?_)|(refine a1i ?_;first|refine a0b (a0j rfl (by with_reducible rfl) rfl) rfl ?_|refine a0b (a0i rfl (by with_reducible rfl) rfl) rfl ?_)|refine a0b (a0e rfl) rfl ?_|(refine a0d ?_;first|refine a0b (a0p rfl) rfl ?_)|refine a0u ?_|refine a2g rfl rfl rfl (by first|exact ln5) (by repeat constructor) rfl ?_|refine a0b (a1x rfl rfl rfl (by repeat constructor)) rfl ?_|refine a0b (a0y rfl (by with_reducible rfl)) rfl ?_|refine a0b (a1r rfl (by with_reducible rfl)) rfl ?_)|(first|refine a1n ?_|(refine a1o ?_;first|refine a0c (a0a ?_)|refine a0c ?_|refine a0a ?_|(refine a0x ?_;first|refine a0g rfl (by with_reducible rfl) ?_|refine a0h rfl (by with_reducible rfl) ?_)|refine a0o ?_|refine a0k ?_)|refine a0t ?_))
        have hb1 := b1g hbc
        have hF := c1u (w0 := w0) (base := base) (m := upd (upd X.m bp [.bool true, .str [], .int .i64 0]) bc [.ad bp 0, .int .i64 (-1), .bool false, .bool false, .bool false, .int .i64 (-1), .bool false, .nilp]) (b := bp) (s := []) (t := t) (st := 0) (Nat.zero_le _) ht0 ((a2d (fun k => hb1.1 k.symm)).trans a2r)
        rw [hfd] at hF
        have hmm : upd (upd (upd X.m bp [.bool true, .str [], .int .i64 0]) bc [.ad bp 0, .int .i64 (-1), .bool false, .bool false, .bool false, .int .i64 (-1), .bool false, .nilp]) bp [.bool true, .str t, .int .i64 0] bc = some [.ad bp 0, .int .i64 (-1), .bool false, .bool false, .bool false, .int .i64 (-1), .bool false, .nilp] := (a2d hb1.1).trans a2r
        repeat' (first|(first|(refine a0d ?_;refine a0v [3] rfl rfl hF ?_ ?_ rfl rfl ?_;(focus ((repeat constructor);done));(focus ((repeat constructor);done));rintro _ _ ⟨rfl,rfl⟩;refine ⟨_,_,by repeat constructor,by repeat constructor,?_⟩)|refine a0b (a1k (n := 0) rfl rfl) rfl ?_|(refine a1a ?_;first|refine a0b (a1l rfl rfl rfl (by omega)) rfl ?_|refine a0b (a1m rfl rfl rfl (by omega)) rfl ?_)|(refine a1g ?_;refine a0b (a2i (id := 3) rfl rfl a2r rfl) rfl ?_)|(refine a1g ?_;refine a0b (a2i (id := 3) rfl rfl hmm rfl) rfl ?_)|refine a3g (id := 3) rfl rfl rfl rfl rfl rfl rfl hmm (by repeat constructor) (by repeat constructor) ?_)|(refine a2k ?_;first|refine a0b (a0l rfl) rfl ?_|(refine k_g ?_;first|refine a1j rfl rfl (by with_reducible rfl) ?_|refine a1t rfl rfl (by with_reducible rfl) rfl ?_)|refine a0b (a0f rfl rfl) rfl ?_|(refine a1g ?_;first|refine a0b (a0w rfl rfl) rfl ?_)|(refine a1i ?_;first|refine a0b (a0j rfl (by with_reducible rfl) rfl) rfl ?_|refine a0b (a0i rfl (by with_reducible rfl) rfl) rfl ?_)|refine a0b (a0e rfl) rfl ?_|(refine a0d ?_;first|refine a0b (a0p rfl) rfl ?_)|refine a0u ?_|refine a2g rfl rfl rfl (by first|exact ln5) (by repeat constructor) rfl ?_|refine a0b (a1x rfl rfl rfl (by repeat constructor)) rfl ?_|refine a0b (a0y rfl (by with_reducible rfl)) rfl ?_|refine a0b (a1r rfl (by with_reducible rfl)) rfl ?_)|(first|refine a1n ?_|(refine a1o ?_;first|refine a0c (a0a ?_)|refine a0c ?_|refine a0a ?_|(refine a0x ?_;first|refine a0g rfl (by with_reducible rfl) ?_|refine a0h rfl (by with_reducible rfl) ?_)|refine a0o ?_|refine a0k ?_)|refine a0t ?_))
        refine ret1 (by first | exact .inr rfl | exact .inl rfl) rfl rfl ?_
        rw [hS]
        have hne : bp ≠ bc := fun k => hb1.1 k.symm
        have htc : takeC cn0 t = ⟨t, 0, -1, false, false, false, -1, false, none⟩ := by
          unfold takeC
          rw [show feedS cn0.s cn0.st t = (0, t) from hfd]
          rfl
        refine ⟨dmO { X with l := X.l ++ [⟨at',bc,bp,0,takeC cn0 t⟩],m := upd (upd (upd (upd X.m bp [.bool true,.str [],.int .i64 0]) bc [.ad bp 0,.int .i64 (-1),.bool false,.bool false,.bool false,.int .i64 (-1),.bool false,.nilp]) bp [.bool true,.str t,.int .i64 0]) bc [.ad bp 0,.int .i64 (-1),.bool false,.bool false,.bool false,.int .i64 (-1),.bool false,.nilp] },[.gone,.gone],?_,rfl,_,hX.push (e' := ⟨at',bc,bp,0,takeC cn0 t⟩) h3 hok (hX.rep.push (fun x hx => ?_) ⟨?_,?_,fun q hq => ?_,?_⟩ (fun x hx => ?_)) (b6d c7s htl),rfl,?_⟩
        · unfold dmO
          dsimp only
          rw [List.map_append]
          rfl
        · rw [htc] at hx
          have hx2 : x ∉ [bc, bp] := hx
          simp only [List.mem_cons, List.not_mem_nil, or_false, not_or] at hx2
          rw [a2d hx2.1, a2d hx2.2, a2d hx2.1, a2d hx2.2]
        · show upd _ _ _ bc = some (cnC bp (paO (takeC cn0 t).ans 0) (takeC cn0 t))
          rw [a2r, htc]
          rfl
        · show upd _ _ _ bp = some [.bool true, .str (takeC cn0 t).s, .int .i64 (takeC cn0 t).st]
          rw [a2d hne, a2r, htc]
        · rw [htc] at hq
          cases hq
        · rw [htc]
          show [bc, bp].Nodup
          simp only [List.nodup_cons, List.mem_cons, List.not_mem_nil, or_false, List.nodup_nil, and_true, not_false_eq_true]
          exact hb1.1
        · rw [htc] at hx
          have hx2 : x ∈ [bc, bp] := hx
          simp only [List.mem_cons, List.not_mem_nil, or_false] at hx2
          rcases hx2 with rfl | rfl
          · exact hb1.2
          · exact hbp
        · show DS.mk _ _ _ (lcE (X.l ++ [_])) _ = _
          unfold lcE
          rw [List.map_append]
          rfl
      · have hen := hX.rep.ok i e h1
        have hm := hen.c
        have hcn := hX.cn e (List.mem_of_getElem? h1)
        rw [h4, Option.getD_some, h5] at hS
        cases hcl : e.c.closed with
        | true =>
          rw [if_pos hcl] at hS
          have hm2 : X.m e.bc = some [.ad e.bp 0, .int .i64 e.c.user, .bool true, .bool e.c.lost, .bool e.c.waits, .int .i64 e.c.asks, .bool e.c.ends, paE e] := by rw [hm, ← hcl]
          repeat' (first|(first|(refine a0d ?_;refine a0v [0,1,2,3] rfl rfl hg ?_ ?_ rfl rfl ?_;(focus ((repeat constructor);done));(focus ((repeat constructor);done));rintro _ _ ⟨rfl,rfl⟩;refine ⟨_,_,by repeat constructor,by repeat constructor,?_⟩)|refine a0b (a1k (n := 0) rfl rfl) rfl ?_|refine a0b (a3a rfl rfl rfl .int (a4h _) h3) rfl ?_|(refine a1a ?_;first|refine a0b (a2y rfl rfl rfl) rfl ?_|refine a0b (a1l rfl rfl rfl (by omega)) rfl ?_|refine a0b (a1m rfl rfl rfl (by omega)) rfl ?_)|(refine a1g ?_;refine a0b (a2i (id := 3) rfl rfl hm2 rfl) rfl ?_))|(refine a2k ?_;first|refine a0b (a0l rfl) rfl ?_|(refine k_g ?_;first|refine a1j rfl rfl (by with_reducible rfl) ?_|refine a1t rfl rfl (by with_reducible rfl) rfl ?_)|refine a0b (a0f rfl rfl) rfl ?_|(refine a1g ?_;first|refine a0b (a0w rfl rfl) rfl ?_)|(refine a1i ?_;first|refine a0b (a0j rfl (by with_reducible rfl) rfl) rfl ?_|refine a0b (a0i rfl (by with_reducible rfl) rfl) rfl ?_)|refine a0b (a0e rfl) rfl ?_|(refine a0d ?_;first|refine a0b (a0p rfl) rfl ?_)|refine a0u ?_|refine a2g rfl rfl rfl (by first|exact ln5) (by repeat constructor) rfl ?_|refine a0b (a1x rfl rfl rfl (by repeat constructor)) rfl ?_|refine a0b (a0y rfl (by with_reducible rfl)) rfl ?_|refine a0b (a1r rfl (by with_reducible rfl)) rfl ?_)|(first|refine a1n ?_|(refine a1o ?_;first|refine a0c (a0a ?_)|refine a0c ?_|refine a0a ?_|(refine a0x ?_;first|refine a0g rfl (by with_reducible rfl) ?_|refine a0h rfl (by with_reducible rfl) ?_)|refine a0o ?_|refine a0k ?_)|refine a0t ?_))
          refine ret1 (by first | exact .inr rfl | exact .inl rfl) rfl rfl ?_
          rw [hS]
          exact ⟨dmO X, [], rfl, rfl, X, hX, rfl, rfl⟩
        | false =>
          rw [if_neg (by rw [hcl]; decide)] at hS
          have hbp := c3r hen
          have hm2 : X.m e.bc = some [.ad e.bp 0, .int .i64 e.c.user, .bool false, .bool e.c.lost, .bool e.c.waits, .int .i64 e.c.asks, .bool e.c.ends, paE e] := by rw [hm, ← hcl]
          have hF := c1u (w0 := w0) (base := base) (t := t) hcn.s ht0 hen.p
          obtain ⟨f1, f2, hfd⟩ : ∃ f1 f2, feedS e.c.s e.c.st t = (f1, f2) := ⟨_, _, rfl⟩
          rw [hfd] at hF
          dsimp only at hF
          have hmm : upd X.m e.bp [.bool true, .str f2, .int .i64 e.c.st] e.bc = some [.ad e.bp 0, .int .i64 e.c.user, .bool false, .bool e.c.lost, .bool e.c.waits, .int .i64 e.c.asks, .bool e.c.ends, paE e] := (a2d (fun k => hbp k.symm)).trans hm2
          have htc : takeC e.c t = { e.c with s := f2, lost := decide (f1 = 2) || e.c.lost } := by unfold takeC; rw [hfd]
          obtain ⟨L, hL⟩ : ∃ L, L = (decide (f1 = 2) || e.c.lost) := ⟨_, rfl⟩
          rw [← hL] at htc
          have fin : ∃ os1 ex,[AO.box [.int .i64 X.users,.int .i64 X.conns,.int .i64 X.asks,.mp 1,.mp 2],.map (X.l.map enK),.map (X.ss.map ssK) true,.hp (upd (upd X.m e.bp [.bool true,.str f2,.int .i64 e.c.st]) e.bc [.ad e.bp 0,.int .i64 e.c.user,.bool false,.bool L,.bool e.c.waits,.int .i64 e.c.asks,.bool e.c.ends,paE e])] = os1 ++ ex ∧ DmR (arriveD X.ds at' t) (.int .i64 0) os1 := by
            rw [hS]
            refine ⟨dmO { X with l := X.l.set i { e with c := takeC e.c t },m := upd (upd X.m e.bp [.bool true,.str f2,.int .i64 e.c.st]) e.bc [.ad e.bp 0,.int .i64 e.c.user,.bool false,.bool L,.bool e.c.waits,.int .i64 e.c.asks,.bool e.c.ends,paE e] },[],?_,rfl,_,hX.set (e' := { e with c := takeC e.c t }) h1 rfl (hX.rep.set h1 (fun x hx hx' => ?_) ⟨?_,?_,fun q hq => ?_,?_⟩ (fun x hx => ?_)) (b6d hcn htl),rfl,rfl⟩
            · rw [a7u (e' := { e with c := takeC e.c t }) h1 rfl rfl]
              rfl
            · rw [a2d (show x ≠ e.bc from fun k => hx (k ▸ b0a e)), a2d (show x ≠ e.bp from fun k => hx (k ▸ b3y e))]
            · show upd _ _ _ e.bc = some (cnC e.bp (paO (takeC e.c t).ans e.ba) (takeC e.c t))
              rw [a2r, htc]
              show _ = (some [.ad e.bp 0, .int .i64 e.c.user, .bool e.c.closed, .bool L, .bool e.c.waits, .int .i64 e.c.asks, .bool e.c.ends, paE e] : Option (List AV))
              rw [hcl]
            · show upd _ _ _ e.bp = some [.bool true, .str (takeC e.c t).s, .int .i64 (takeC e.c t).st]
              rw [a2d hbp, a2r, htc]
            · have hq2 : e.c.ans = some q := by rw [htc] at hq; exact hq
              have := c7u hen hq2
              show upd _ _ _ e.ba = _
              rw [a2d this.1, a2d this.2, hen.a q hq2]
            · rw [htc]; exact hen.nd
            · rw [htc] at hx; exact .inl hx
          by_cases hf2 : f1 = 2
          · have hLt : L = true := by rw [hL, decide_eq_true hf2]; rfl
            rw [hLt] at fin
            repeat' (first|(first|(refine a0d ?_;refine a0v [0,1,2,3] rfl rfl hg ?_ ?_ rfl rfl ?_;(focus ((repeat constructor);done));(focus ((repeat constructor);done));rintro _ _ ⟨rfl,rfl⟩;refine ⟨_,_,by repeat constructor,by repeat constructor,?_⟩)|(refine a0d ?_;refine a0v [3] rfl rfl hF ?_ ?_ rfl rfl ?_;(focus ((repeat constructor);done));(focus ((repeat constructor);done));rintro _ _ ⟨rfl,rfl⟩;refine ⟨_,_,by repeat constructor,by repeat constructor,?_⟩)|refine a0b (a1k (n := 0) rfl rfl) rfl ?_|refine a0b (a3a rfl rfl rfl .int (a4h _) h3) rfl ?_|(refine a1a ?_;first|refine a0b (a2y rfl rfl rfl) rfl ?_|refine a0b (a1l rfl rfl rfl (by omega)) rfl ?_|refine a0b (a1m rfl rfl rfl (by omega)) rfl ?_)|(refine a1g ?_;refine a0b (a2i (id := 3) rfl rfl hm2 rfl) rfl ?_)|(refine a1g ?_;refine a0b (a2i (id := 3) rfl rfl hmm rfl) rfl ?_)|refine a3g (id := 3) rfl rfl rfl rfl rfl rfl rfl hmm (by repeat constructor) (by repeat constructor) ?_)|(refine a2k ?_;first|refine a0b (a0l rfl) rfl ?_|(refine k_g ?_;first|refine a1j rfl rfl (by with_reducible rfl) ?_|refine a1t rfl rfl (by with_reducible rfl) rfl ?_)|refine a0b (a0f rfl rfl) rfl ?_|(refine a1g ?_;first|refine a0b (a0w rfl rfl) rfl ?_)|(refine a1i ?_;first|refine a0b (a0j rfl (by with_reducible rfl) rfl) rfl ?_|refine a0b (a0i rfl (by with_reducible rfl) rfl) rfl ?_)|refine a0b (a0e rfl) rfl ?_|(refine a0d ?_;first|refine a0b (a0p rfl) rfl ?_)|refine a0u ?_|refine a2g rfl rfl rfl (by first|exact ln5) (by repeat constructor) rfl ?_|refine a0b (a1x rfl rfl rfl (by repeat constructor)) rfl ?_|refine a0b (a0y rfl (by with_reducible rfl)) rfl ?_|refine a0b (a1r rfl (by with_reducible rfl)) rfl ?_)|(first|refine a1n ?_|(refine a1o ?_;first|refine a0c (a0a ?_)|refine a0c ?_|refine a0a ?_|(refine a0x ?_;first|refine a0g rfl (by with_reducible rfl) ?_|refine a0h rfl (by with_reducible rfl) ?_)|refine a0o ?_|refine a0k ?_)|refine a0t ?_))
            refine ret1 (by first | exact .inr rfl | exact .inl rfl) rfl rfl ?_
            exact fin
          · have hLf : L = e.c.lost := by rw [hL, decide_eq_false hf2]; rfl
            rw [hLf] at fin
            repeat' (first|(first|(refine a0d ?_;refine a0v [0,1,2,3] rfl rfl hg ?_ ?_ rfl rfl ?_;(focus ((repeat constructor);done));(focus ((repeat constructor);done));rintro _ _ ⟨rfl,rfl⟩;refine ⟨_,_,by repeat constructor,by repeat constructor,?_⟩)|(refine a0d ?_;refine a0v [3] rfl rfl hF ?_ ?_ rfl rfl ?_;(focus ((repeat constructor);done));(focus ((repeat constructor);done));rintro _ _ ⟨rfl,rfl⟩;refine ⟨_,_,by repeat constructor,by repeat constructor,?_⟩)|refine a0b (a1k (n := 0) rfl rfl) rfl ?_|refine a0b (a3a rfl rfl rfl .int (a4h _) h3) rfl ?_|(refine a1a ?_;first|refine a0b (a2y rfl rfl rfl) rfl ?_|refine a0b (a1l rfl rfl rfl (by omega)) rfl ?_|refine a0b (a1m rfl rfl rfl (by omega)) rfl ?_)|(refine a1g ?_;refine a0b (a2i (id := 3) rfl rfl hm2 rfl) rfl ?_)|(refine a1g ?_;refine a0b (a2i (id := 3) rfl rfl hmm rfl) rfl ?_)|refine a3g (id := 3) rfl rfl rfl rfl rfl rfl rfl hmm (by repeat constructor) (by repeat constructor) ?_)|(refine a2k ?_;first|refine a0b (a0l rfl) rfl ?_|(refine k_g ?_;first|refine a1j rfl rfl (by with_reducible rfl) ?_|refine a1t rfl rfl (by with_reducible rfl) rfl ?_)|refine a0b (a0f rfl rfl) rfl ?_|(refine a1g ?_;first|refine a0b (a0w rfl rfl) rfl ?_)|(refine a1i ?_;first|refine a0b (a0j rfl (by with_reducible rfl) rfl) rfl ?_|refine a0b (a0i rfl (by with_reducible rfl) rfl) rfl ?_)|refine a0b (a0e rfl) rfl ?_|(refine a0d ?_;first|refine a0b (a0p rfl) rfl ?_)|refine a0u ?_|refine a2g rfl rfl rfl (by first|exact ln5) (by repeat constructor) rfl ?_|refine a0b (a1x rfl rfl rfl (by repeat constructor)) rfl ?_|refine a0b (a0y rfl (by with_reducible rfl)) rfl ?_|refine a0b (a1r rfl (by with_reducible rfl)) rfl ?_)|(first|refine a1n ?_|(refine a1o ?_;first|refine a0c (a0a ?_)|refine a0c ?_|refine a0a ?_|(refine a0x ?_;first|refine a0g rfl (by with_reducible rfl) ?_|refine a0h rfl (by with_reducible rfl) ?_)|refine a0o ?_|refine a0k ?_)|refine a0t ?_))
            refine ret1 (by first | exact .inr rfl | exact .inl rfl) rfl rfl ?_
            exact fin
    · have hS : arriveD X.ds at' t = (X.ds, 1) := if_neg fun k => htl k.2
      repeat' (first|(first|(refine a0d ?_;refine a0v [0,1,2,3] rfl rfl hg ?_ ?_ rfl rfl ?_;(focus ((repeat constructor);done));(focus ((repeat constructor);done));rintro _ _ ⟨rfl,rfl⟩;refine ⟨_,_,by repeat constructor,by repeat constructor,?_⟩)|(refine a1a ?_;first|refine a0b (a1l rfl rfl rfl (by omega)) rfl ?_|refine a0b (a1m rfl rfl rfl (by omega)) rfl ?_))|(refine a2k ?_;first|refine a0b (a0l rfl) rfl ?_|(refine k_g ?_;first|refine a1j rfl rfl (by with_reducible rfl) ?_|refine a1t rfl rfl (by with_reducible rfl) rfl ?_)|refine a0b (a0f rfl rfl) rfl ?_|(refine a1g ?_;first|refine a0b (a0w rfl rfl) rfl ?_)|(refine a1i ?_;first|refine a0b (a0j rfl (by with_reducible rfl) rfl) rfl ?_|refine a0b (a0i rfl (by with_reducible rfl) rfl) rfl ?_)|refine a0b (a0e rfl) rfl ?_|(refine a0d ?_;first|refine a0b (a0p rfl) rfl ?_)|refine a0u ?_|refine a2g rfl rfl rfl (by first|exact ln5) (by repeat constructor) rfl ?_|refine a0b (a1x rfl rfl rfl (by repeat constructor)) rfl ?_|refine a0b (a0y rfl (by with_reducible rfl)) rfl ?_|refine a0b (a1r rfl (by with_reducible rfl)) rfl ?_)|(first|refine a1n ?_|(refine a1o ?_;first|refine a0c (a0a ?_)|refine a0c ?_|refine a0a ?_|(refine a0x ?_;first|refine a0g rfl (by with_reducible rfl) ?_|refine a0h rfl (by with_reducible rfl) ?_)|refine a0o ?_|refine a0k ?_)|refine a0t ?_))
      refine ret1 (by first | exact .inr rfl | exact .inl rfl) rfl rfl ?_
      rw [hS]
      exact ⟨dmO X, _, rfl, rfl, X, hX, rfl, rfl⟩
  · rw [decide_eq_false hok] at hg
    have hS : arriveD X.ds at' t = (X.ds, 1) := if_neg fun k => hok k.1
    repeat' (first|(first|(refine a0d ?_;refine a0v [0,1,2,3] rfl rfl hg ?_ ?_ rfl rfl ?_;(focus ((repeat constructor);done));(focus ((repeat constructor);done));rintro _ _ ⟨rfl,rfl⟩;refine ⟨_,_,by repeat constructor,by repeat constructor,?_⟩))|(refine a2k ?_;first|refine a0b (a0l rfl) rfl ?_|(refine k_g ?_;first|refine a1j rfl rfl (by with_reducible rfl) ?_|refine a1t rfl rfl (by with_reducible rfl) rfl ?_)|refine a0b (a0f rfl rfl) rfl ?_|(refine a1g ?_;first|refine a0b (a0w rfl rfl) rfl ?_)|(refine a1i ?_;first|refine a0b (a0j rfl (by with_reducible rfl) rfl) rfl ?_|refine a0b (a0i rfl (by with_reducible rfl) rfl) rfl ?_)|refine a0b (a0e rfl) rfl ?_|(refine a0d ?_;first|refine a0b (a0p rfl) rfl ?_)|refine a0u ?_|refine a2g rfl rfl rfl (by first|exact ln5) (by repeat constructor) rfl ?_|refine a0b (a1x rfl rfl rfl (by repeat constructor)) rfl ?_|refine a0b (a0y rfl (by with_reducible rfl)) rfl ?_|refine a0b (a1r rfl (by with_reducible rfl)) rfl ?_)|(first|refine a1n ?_|(refine a1o ?_;first|refine a0c (a0a ?_)|refine a0c ?_|refine a0a ?_|(refine a0x ?_;first|refine a0g rfl (by with_reducible rfl) ?_|refine a0h rfl (by with_reducible rfl) ?_)|refine a0o ?_|refine a0k ?_)|refine a0t ?_))
    refine ret1 (by first | exact .inr rfl | exact .inl rfl) rfl rfl ?_
    rw [hS]
    exact ⟨dmO X, _, rfl, rfl, X, hX, rfl, rfl⟩
set_option maxHeartbeats 4000000 in
set_option maxHeartbeats 4000000 in
theorem b7d {X : Dem} {at' : Int} {t : List UInt8} (hX : DemOk X) (ht0 : t.length ≤ 140737488351232) : ACalls (EE w0 base) 10 [.op 0 0, .int .i64 at', .str t] (dmO X) (DmR (arriveD X.ds at' t)) := by
  refine a3u (c1y hX ht0) ?_
  rintro rv os ⟨os1, ex, rfl, rfl, X', h1, rfl, h2⟩
  exact ⟨dmO X', ex, rfl, ⟨rfl, X', h1, rfl, h2⟩, rfl, b7c X', Nat.le_refl _⟩
theorem c1t {u c a : Int} : ACalls (EE w0 base) 8 [.int .i64 u, .int .i64 c, .int .i64 a] [] fun rv os => if (1 ≤ u ∧ u ≤ 16) ∧ (1 ≤ c ∧ c ≤ 64) ∧ 1 ≤ a ∧ a ≤ 64 then rv = .tup [.op 2 0, .int .i64 0] ∧ os = [.map [], .map [] true, .box [.int .i64 u, .int .i64 c, .int .i64 a, .mp 0, .mp 1]] else rv = .tup [.nilp, .int .i64 1] ∧ os = [] := by
  refine a1s Tryz.func8 rfl rfl rfl (.cons (.cons (.cons .nil))) ?_
  by_cases h : (1 ≤ u ∧ u ≤ 16) ∧ (1 ≤ c ∧ c ≤ 64) ∧ 1 ≤ a ∧ a ≤ 64
  · obtain ⟨⟨h1, h2⟩, ⟨h3, h4⟩, h5, h6⟩ := h
    repeat' (first|((refine a1a ?_;first|refine a0b (a1l rfl rfl rfl (by omega)) rfl ?_|refine a0b (a1m rfl rfl rfl (by omega)) rfl ?_))|(refine a2k ?_;first|refine a0b (a0l rfl) rfl ?_|(refine k_g ?_;first|refine a1j rfl rfl (by with_reducible rfl) ?_|refine a1t rfl rfl (by with_reducible rfl) rfl ?_)|(refine a1i ?_;first|refine a0b (a0j rfl (by with_reducible rfl) rfl) rfl ?_|refine a0b (a0i rfl (by with_reducible rfl) rfl) rfl ?_)|refine a0b (a0e rfl) rfl ?_|refine a0u ?_|refine a2g rfl rfl rfl (by first|exact ln0|exact ln1|exact ln2) (by repeat constructor) rfl ?_|refine a0b (a1x rfl rfl rfl (by repeat constructor)) rfl ?_|refine a7y (by first|exact ln0|exact ln1|exact ln2) (by repeat constructor) rfl ?_)|(first|refine a1n ?_|(refine a1o ?_;first|refine a0c (a0a ?_)|refine a0c ?_|refine a0a ?_|(refine a0x ?_;first|refine a0g rfl (by with_reducible rfl) ?_|refine a0h rfl (by with_reducible rfl) ?_)|refine a0o ?_|refine a0k ?_)|refine a0t ?_))
    refine a2m (.mapf (id := 1) (by repeat constructor)) ?_
    refine ret2 (by first | exact .inr rfl | exact .inl rfl) rfl rfl rfl ?_
    rw [if_pos ⟨⟨h1, h2⟩, ⟨h3, h4⟩, h5, h6⟩]
    exact ⟨rfl, rfl⟩
  · have h' : u < 1 ∨ (1 ≤ u ∧ 16 < u) ∨ (1 ≤ u ∧ u ≤ 16 ∧ c < 1) ∨ (1 ≤ u ∧ u ≤ 16 ∧ 1 ≤ c ∧ 64 < c) ∨ (1 ≤ u ∧ u ≤ 16 ∧ 1 ≤ c ∧ c ≤ 64 ∧ a < 1) ∨ (1 ≤ u ∧ u ≤ 16 ∧ 1 ≤ c ∧ c ≤ 64 ∧ 1 ≤ a ∧ 64 < a) := by omega
    rcases h' with h' | h' | h' | h' | h' | h'
    all_goals
      repeat' (first|((refine a1a ?_;first|refine a0b (a1l rfl rfl rfl (by omega)) rfl ?_|refine a0b (a1m rfl rfl rfl (by omega)) rfl ?_))|(refine a2k ?_;first|refine a0b (a0l rfl) rfl ?_|(refine k_g ?_;first|refine a1j rfl rfl (by with_reducible rfl) ?_|refine a1t rfl rfl (by with_reducible rfl) rfl ?_)|(refine a1i ?_;first|refine a0b (a0j rfl (by with_reducible rfl) rfl) rfl ?_|refine a0b (a0i rfl (by with_reducible rfl) rfl) rfl ?_)|refine a0b (a0e rfl) rfl ?_|refine a0u ?_|refine a2g rfl rfl rfl (by first|exact ln0|exact ln1|exact ln2) (by repeat constructor) rfl ?_|refine a0b (a1x rfl rfl rfl (by repeat constructor)) rfl ?_|refine a7y (by first|exact ln0|exact ln1|exact ln2) (by repeat constructor) rfl ?_)|(first|refine a1n ?_|(refine a1o ?_;first|refine a0c (a0a ?_)|refine a0c ?_|refine a0a ?_|(refine a0x ?_;first|refine a0g rfl (by with_reducible rfl) ?_|refine a0h rfl (by with_reducible rfl) ?_)|refine a0o ?_|refine a0k ?_)|refine a0t ?_))
      refine ret2 (by first | exact .inr rfl | exact .inl rfl) rfl rfl rfl ?_
      rw [if_neg h]
      exact ⟨rfl, rfl⟩
end
end Go.Proofs.YtkljmljkiodnpaaGreatDoor.L

namespace Go.Proofs.YtkljmljkiodnpaaGreatDoor.L
open Go Go.RowKit Go.Proofs
attribute [local irreducible] AL QL AWp Thn InB RetQ ACalls LoopQ HL HO HW HQ NoG JmpQ MidQ HF

def ReqR (X : Dem) (e : En) (x : Cn × At) (rv : AV) (os : List AO) : Prop := rv = .agg (atC x.2) ∧ ∃ m' ex, m' = upd X.m e.bc (cnC e.bp (paE e) x.1) ∧ os = [AO.box [.int .i64 X.users, .int .i64 X.conns, .int .i64 X.asks, .mp 1, .mp 2], .map (X.l.map enK), .map (X.ss.map ssK) true, .hp m'] ++ ex
section
variable {w0 : World} {base : Nat}
set_option maxHeartbeats 32000000 in
theorem c3y {X : Dem} {i : Nat} {e : En} {h : Hd} {b : List UInt8} (hG : Tabs w0 base) (hX : DemOk X) (hi : X.l[i]? = some e) (hg : GoodH h) (hb : b.length ≤ 65536) :
    ACalls (EE w0 base) 33 [.op 0 0, .ad e.bc 0, .agg (rqCs h b)] (dmO X) (ReqR X e (requestC X.ds e.c h b)) := by
  have hm := (hX.rep.ok i e hi).c
  have hm2 : X.m e.bc = some [.ad e.bp 0, .int .i64 e.c.user, .bool e.c.closed, .bool e.c.lost, .bool e.c.waits, .int .i64 e.c.asks, .bool e.c.ends, paE e] := hm
  obtain ⟨CL, hCL⟩ : ∃ CL, CL = closesS h := ⟨_, rfl⟩
  have hLo := c6u (w0 := w0) (base := base) (h := h) hG hb hm
  have hT := b9a (w0 := w0) (base := base) (b := b) hG.g hg
  have hPl1 := a4p (w0 := w0) (base := base) (st := 401) (b := []) (cl := closesS h)
  have hPl3 := a4p (w0 := w0) (base := base) (st := 403) (b := []) (cl := closesS h)
  have hPl5 := a4p (w0 := w0) (base := base) (st := 503) (b := []) (cl := closesS h)
  have hPlT := a4p (w0 := w0) (base := base) (st := 503) (b := []) (cl := true)
  have hE1 := a4l (w0 := w0) (base := base) hG (a4k 401 (closesS h)) hm
  have hE3 := a4l (w0 := w0) (base := base) hG (a4k 403 (closesS h)) hm
  have hET := a4l (w0 := w0) (base := base) hG (a4k 503 true) hm
  have hE5 := a4l (w0 := w0) (base := base) hG (a4k 503 (closesS h)) hm
  have hXo : X.ds.ss = X.ss ∧ X.ds.l = lcE X.l ∧ X.ds.conns = X.conns ∧ X.ds.asks = X.asks := ⟨rfl, rfl, rfl, rfl⟩
  have hR : requestC X.ds e.c h b = (if h.m = postS ∧ tgtP h.t = loginS then loginC e.c h b
    else match sget (tokenS h) X.ss with
      | none => emitsC e.c (plR 401 (closesS h))
      | some u => if e.c.user ≠ -1 ∧ e.c.user ≠ u then emitsC e.c (plR 403 (closesS h))
        else if e.c.user = -1 ∧ X.conns ≤ cntC (lcE X.l) u then emitsC e.c (plR 503 true)
        else if h.m = postS ∧ tgtP h.t = logoutS then handsC { e.c with user := u } (closesS h) (-1) { at0 with kind := 3, token := tokenS h, user := u }
        else if X.asks ≤ cntA (lcE X.l) u then emitsC { e.c with user := u } (plR 503 (closesS h))
        else handsC { e.c with user := u } (closesS h) u { at0 with kind := 4, user := u, rq := some (h, b) }) := rfl
  refine a1s Tryz.func33 rfl rfl rfl (.cons (.cons (.cons .nil))) ?_
  by_cases hP : h.m = postS
  · by_cases hL : tgtP h.t = loginS
    · rw [if_pos ⟨hP, hL⟩] at hR
      obtain ⟨⟨c1, a1⟩, hc1⟩ : ∃ p, p = loginC e.c h b := ⟨_, rfl⟩
      rw [← hc1] at hLo hR
      rw [hR]
      clear hR hc1
      obtain ⟨ak, ao, acl, au, atk, an, aw, rq⟩ := a1
      rcases rq with _ | ⟨h', b'⟩
      all_goals
        repeat' (first|(first|refine a0b (a1k (n := 0) rfl rfl) rfl ?_|(refine a1g ?_;refine a0b (a2i (id := 3) rfl rfl hm2 rfl) rfl ?_)|(refine a1a ?_;first|refine a0b (a1l rfl rfl rfl (by omega)) rfl ?_|refine a0b (a1m rfl rfl rfl (by omega)) rfl ?_|refine a0b (a2h (n := postS) hP rfl rfl) rfl ?_|refine a0b (a2l (n := postS) hP rfl rfl) rfl ?_|refine a0b (a2h (n := loginS) hL rfl rfl) rfl ?_|refine a0b (a2l (n := loginS) hL rfl rfl) rfl ?_|refine a0b (a2h (n := logoutS) hO rfl rfl) rfl ?_|refine a0b (a2l (n := logoutS) hO rfl rfl) rfl ?_)|(refine a0d ?_;refine a0v [3] rfl rfl hLo ?_ ?_ rfl rfl ?_;(focus ((repeat constructor);done));(focus ((repeat constructor);done));rintro _ _ ⟨rfl,rfl⟩;refine ⟨_,_,by repeat constructor,by repeat constructor,?_⟩))|(refine a2k ?_;first|refine a0b (a0l rfl) rfl ?_|(refine k_g ?_;first|refine a1j rfl rfl (by with_reducible rfl) ?_|refine a1w rfl rfl (by with_reducible rfl) rfl ?_)|refine a0b (a0f rfl rfl) rfl ?_|(refine a1g ?_;first|refine a0b (a0w rfl rfl) rfl ?_|refine a0b (a0m rfl rfl rfl) rfl ?_)|(refine a1i ?_;first|refine a0b (a0j rfl (by with_reducible rfl) rfl) rfl ?_|refine a0b (a0i rfl (by with_reducible rfl) rfl) rfl ?_)|refine a0b (a0e rfl) rfl ?_|refine a0b (a0s rfl rfl) rfl ?_|refine a0u ?_|refine a2g rfl rfl rfl (by first|exact ln4|exact ln5) (by repeat constructor) rfl ?_|refine a0z rfl rfl rfl (by first|exact ln4|exact ln5) (by repeat constructor) rfl ?_|refine a1c rfl rfl rfl rfl rfl (by repeat constructor) (by repeat constructor) ?_|refine a0b (a1x rfl rfl rfl (by repeat constructor)) rfl ?_|refine a0b (a0y rfl (by with_reducible rfl)) rfl ?_|refine a0b (a1r rfl (by with_reducible rfl)) rfl ?_)|(first|refine a1n ?_|(refine a1o ?_;first|refine a0c (a0a ?_)|refine a0c ?_|refine a0a ?_|(refine a0x ?_;first|refine a0g rfl (by with_reducible rfl) ?_|refine a0h rfl (by with_reducible rfl) ?_)|refine a0o ?_|refine a0k ?_)|refine a0t ?_))
        refine retc0 (by first | exact .inr rfl | exact .inl rfl) rfl rfl rfl rfl ?_
        exact ⟨rfl, _, _, rfl, rfl⟩
    rw [if_neg (fun k => hL k.2)] at hR
    have hs := c0g (tokenS h) X.ss
    cases hq : sget (tokenS h) X.ss with
    | none =>
      rw [hq] at hs hR
      dsimp only [Option.map_none] at hs hR
      repeat' (first|(first|refine a0b (a1k (n := 0) rfl rfl) rfl ?_|(refine a1g ?_;refine a0b (a2i (id := 3) rfl rfl hm2 rfl) rfl ?_)|(refine a1a ?_;first|refine a0b (a1l rfl rfl rfl (by omega)) rfl ?_|refine a0b (a1m rfl rfl rfl (by omega)) rfl ?_|refine a0b (a2h (n := postS) hP rfl rfl) rfl ?_|refine a0b (a2l (n := postS) hP rfl rfl) rfl ?_|refine a0b (a2h (n := loginS) hL rfl rfl) rfl ?_|refine a0b (a2l (n := loginS) hL rfl rfl) rfl ?_|refine a0b (a2h (n := logoutS) hO rfl rfl) rfl ?_|refine a0b (a2l (n := logoutS) hO rfl rfl) rfl ?_)|(refine a0d ?_;refine a0q rfl rfl rfl rfl hT ?_;rintro _ rfl)|refine a0b (b0v rfl rfl rfl .str (a4w _) hs rfl) rfl ?_|(refine a0d ?_;refine a0q rfl rfl rfl rfl hPl1 ?_;rintro _ rfl)|(refine a0d ?_;refine a0v [3] rfl rfl hE1 ?_ ?_ rfl rfl ?_;(focus ((repeat constructor);done));(focus ((repeat constructor);done));rintro _ _ ⟨rfl,rfl⟩;refine ⟨_,_,by repeat constructor,by repeat constructor,?_⟩))|(refine a2k ?_;first|refine a0b (a0l rfl) rfl ?_|(refine k_g ?_;first|refine a1j rfl rfl (by with_reducible rfl) ?_|refine a1w rfl rfl (by with_reducible rfl) rfl ?_)|refine a0b (a0f rfl rfl) rfl ?_|(refine a1g ?_;first|refine a0b (a0w rfl rfl) rfl ?_|refine a0b (a0m rfl rfl rfl) rfl ?_)|(refine a1i ?_;first|refine a0b (a0j rfl (by with_reducible rfl) rfl) rfl ?_|refine a0b (a0i rfl (by with_reducible rfl) rfl) rfl ?_)|refine a0b (a0e rfl) rfl ?_|refine a0b (a0s rfl rfl) rfl ?_|refine a0u ?_|refine a2g rfl rfl rfl (by first|exact ln4|exact ln5) (by repeat constructor) rfl ?_|refine a0z rfl rfl rfl (by first|exact ln4|exact ln5) (by repeat constructor) rfl ?_|refine a1c rfl rfl rfl rfl rfl (by repeat constructor) (by repeat constructor) ?_|refine a0b (a1x rfl rfl rfl (by repeat constructor)) rfl ?_|refine a0b (a0y rfl (by with_reducible rfl)) rfl ?_|refine a0b (a1r rfl (by with_reducible rfl)) rfl ?_)|(first|refine a1n ?_|(refine a1o ?_;first|refine a0c (a0a ?_)|refine a0c ?_|refine a0a ?_|(refine a0x ?_;first|refine a0g rfl (by with_reducible rfl) ?_|refine a0h rfl (by with_reducible rfl) ?_)|refine a0o ?_|refine a0k ?_)|refine a0t ?_))
      refine retc0 (by first | exact .inr rfl | exact .inl rfl) rfl rfl rfl rfl ?_
      rw [hR]
      exact ⟨rfl, _, _, rfl, rfl⟩
    | some u =>
      rw [hq] at hs hR
      dsimp only [Option.map_some] at hs hR
      have hu := hX.ss _ (b1i hq)
      dsimp only at hu
      have hC := a8t (w0 := w0) (base := base) (u := u) hX
      unfold cntAV at hC
      rw [show countsD X.ds u = (cntC (lcE X.l) u, cntA (lcE X.l) u) from if_pos ⟨hu.2.1, hu.2.2⟩] at hC
      dsimp only at hC
      obtain ⟨nc, hnc⟩ : ∃ nc, cntC (lcE X.l) u = nc := ⟨_, rfl⟩
      obtain ⟨na, hna⟩ : ∃ na, cntA (lcE X.l) u = na := ⟨_, rfl⟩
      rw [hnc, hna] at hC hR
      by_cases h3 : e.c.user ≠ -1 ∧ e.c.user ≠ u
      · rw [if_pos h3] at hR
        obtain ⟨h3a, h3b⟩ := h3
        repeat' (first|(first|refine a0b (a1k (n := 0) rfl rfl) rfl ?_|(refine a1g ?_;refine a0b (a2i (id := 3) rfl rfl hm2 rfl) rfl ?_)|(refine a1a ?_;first|refine a0b (a1l rfl rfl rfl (by omega)) rfl ?_|refine a0b (a1m rfl rfl rfl (by omega)) rfl ?_|refine a0b (a2h (n := postS) hP rfl rfl) rfl ?_|refine a0b (a2l (n := postS) hP rfl rfl) rfl ?_|refine a0b (a2h (n := loginS) hL rfl rfl) rfl ?_|refine a0b (a2l (n := loginS) hL rfl rfl) rfl ?_|refine a0b (a2h (n := logoutS) hO rfl rfl) rfl ?_|refine a0b (a2l (n := logoutS) hO rfl rfl) rfl ?_)|(refine a0d ?_;refine a0q rfl rfl rfl rfl hT ?_;rintro _ rfl)|refine a0b (a3f rfl rfl rfl .str (a4w _) hs) rfl ?_|(refine a0d ?_;refine a0q rfl rfl rfl rfl hPl3 ?_;rintro _ rfl)|(refine a0d ?_;refine a0v [3] rfl rfl hE3 ?_ ?_ rfl rfl ?_;(focus ((repeat constructor);done));(focus ((repeat constructor);done));rintro _ _ ⟨rfl,rfl⟩;refine ⟨_,_,by repeat constructor,by repeat constructor,?_⟩))|(refine a2k ?_;first|refine a0b (a0l rfl) rfl ?_|(refine k_g ?_;first|refine a1j rfl rfl (by with_reducible rfl) ?_|refine a1w rfl rfl (by with_reducible rfl) rfl ?_)|refine a0b (a0f rfl rfl) rfl ?_|(refine a1g ?_;first|refine a0b (a0w rfl rfl) rfl ?_|refine a0b (a0m rfl rfl rfl) rfl ?_)|(refine a1i ?_;first|refine a0b (a0j rfl (by with_reducible rfl) rfl) rfl ?_|refine a0b (a0i rfl (by with_reducible rfl) rfl) rfl ?_)|refine a0b (a0e rfl) rfl ?_|refine a0b (a0s rfl rfl) rfl ?_|refine a0u ?_|refine a2g rfl rfl rfl (by first|exact ln4|exact ln5) (by repeat constructor) rfl ?_|refine a0z rfl rfl rfl (by first|exact ln4|exact ln5) (by repeat constructor) rfl ?_|refine a1c rfl rfl rfl rfl rfl (by repeat constructor) (by repeat constructor) ?_|refine a0b (a1x rfl rfl rfl (by repeat constructor)) rfl ?_|refine a0b (a0y rfl (by with_reducible rfl)) rfl ?_|refine a0b (a1r rfl (by with_reducible rfl)) rfl ?_)|(first|refine a1n ?_|(refine a1o ?_;first|refine a0c (a0a ?_)|refine a0c ?_|refine a0a ?_|(refine a0x ?_;first|refine a0g rfl (by with_reducible rfl) ?_|refine a0h rfl (by with_reducible rfl) ?_)|refine a0o ?_|refine a0k ?_)|refine a0t ?_))
        refine retc0 (by first | exact .inr rfl | exact .inl rfl) rfl rfl rfl rfl ?_
        rw [hR]
        exact ⟨rfl, _, _, rfl, rfl⟩
      rw [if_neg h3] at hR
      by_cases hu1 : e.c.user = -1
      · by_cases h5 : X.conns ≤ nc
        · rw [if_pos ⟨hu1, h5⟩] at hR
          repeat' (first|(first|refine a0b (a1k (n := 0) rfl rfl) rfl ?_|(refine a1g ?_;refine a0b (a2i (id := 3) rfl rfl hm2 rfl) rfl ?_)|(refine a1a ?_;first|refine a0b (a1l rfl rfl rfl (by omega)) rfl ?_|refine a0b (a1m rfl rfl rfl (by omega)) rfl ?_|refine a0b (a2h (n := postS) hP rfl rfl) rfl ?_|refine a0b (a2l (n := postS) hP rfl rfl) rfl ?_|refine a0b (a2h (n := loginS) hL rfl rfl) rfl ?_|refine a0b (a2l (n := loginS) hL rfl rfl) rfl ?_|refine a0b (a2h (n := logoutS) hO rfl rfl) rfl ?_|refine a0b (a2l (n := logoutS) hO rfl rfl) rfl ?_)|(refine a0d ?_;refine a0q rfl rfl rfl rfl hT ?_;rintro _ rfl)|refine a0b (a3f rfl rfl rfl .str (a4w _) hs) rfl ?_|(refine a0d ?_;refine a0v [0,1,2,3] rfl rfl hC ?_ ?_ rfl rfl ?_;(focus ((repeat constructor);done));(focus ((repeat constructor);done));rintro _ _ ⟨rfl,rfl⟩;refine ⟨_,_,by repeat constructor,by repeat constructor,?_⟩)|(refine a0d ?_;refine a0q rfl rfl rfl rfl hPlT ?_;rintro _ rfl)|(refine a0d ?_;refine a0v [3] rfl rfl hET ?_ ?_ rfl rfl ?_;(focus ((repeat constructor);done));(focus ((repeat constructor);done));rintro _ _ ⟨rfl,rfl⟩;refine ⟨_,_,by repeat constructor,by repeat constructor,?_⟩))|(refine a2k ?_;first|refine a0b (a0l rfl) rfl ?_|(refine k_g ?_;first|refine a1j rfl rfl (by with_reducible rfl) ?_|refine a1w rfl rfl (by with_reducible rfl) rfl ?_)|refine a0b (a0f rfl rfl) rfl ?_|(refine a1g ?_;first|refine a0b (a0w rfl rfl) rfl ?_|refine a0b (a0m rfl rfl rfl) rfl ?_)|(refine a1i ?_;first|refine a0b (a0j rfl (by with_reducible rfl) rfl) rfl ?_|refine a0b (a0i rfl (by with_reducible rfl) rfl) rfl ?_)|refine a0b (a0e rfl) rfl ?_|refine a0b (a0s rfl rfl) rfl ?_|refine a0u ?_|refine a2g rfl rfl rfl (by first|exact ln4|exact ln5) (by repeat constructor) rfl ?_|refine a0z rfl rfl rfl (by first|exact ln4|exact ln5) (by repeat constructor) rfl ?_|refine a1c rfl rfl rfl rfl rfl (by repeat constructor) (by repeat constructor) ?_|refine a0b (a1x rfl rfl rfl (by repeat constructor)) rfl ?_|refine a0b (a0y rfl (by with_reducible rfl)) rfl ?_|refine a0b (a1r rfl (by with_reducible rfl)) rfl ?_)|(first|refine a1n ?_|(refine a1o ?_;first|refine a0c (a0a ?_)|refine a0c ?_|refine a0a ?_|(refine a0x ?_;first|refine a0g rfl (by with_reducible rfl) ?_|refine a0h rfl (by with_reducible rfl) ?_)|refine a0o ?_|refine a0k ?_)|refine a0t ?_))
          refine retc0 (by first | exact .inr rfl | exact .inl rfl) rfl rfl rfl rfl ?_
          rw [hR]
          exact ⟨rfl, _, _, rfl, rfl⟩
        rw [if_neg (fun k => h5 k.2)] at hR
        have hm3 : upd X.m e.bc [.ad e.bp 0, .int .i64 u, .bool e.c.closed, .bool e.c.lost, .bool e.c.waits, .int .i64 e.c.asks, .bool e.c.ends, paE e] e.bc = some (cnC e.bp (paE e) { e.c with user := u }) := a2r
        have hH3 := a5s (w0 := w0) (base := base) (h := h) (b := b) (u := -1) (a := { at0 with kind := 3, token := tokenS h, user := u }) hm3
        have hH4 := a5s (w0 := w0) (base := base) (h := h) (b := b) (u := u) (a := { at0 with kind := 4, user := u, rq := some (h, b) }) hm3
        have hE6 := a4l (w0 := w0) (base := base) hG (a4k 503 (closesS h)) hm3
        by_cases hO : tgtP h.t = logoutS
        · rw [if_pos ⟨hP, hO⟩] at hR
          repeat' (first|(first|refine a0b (a1k (n := 0) rfl rfl) rfl ?_|(refine a1g ?_;refine a0b (a2i (id := 3) rfl rfl hm2 rfl) rfl ?_)|(refine a1a ?_;first|refine a0b (a1l rfl rfl rfl (by omega)) rfl ?_|refine a0b (a1m rfl rfl rfl (by omega)) rfl ?_|refine a0b (a2h (n := postS) hP rfl rfl) rfl ?_|refine a0b (a2l (n := postS) hP rfl rfl) rfl ?_|refine a0b (a2h (n := loginS) hL rfl rfl) rfl ?_|refine a0b (a2l (n := loginS) hL rfl rfl) rfl ?_|refine a0b (a2h (n := logoutS) hO rfl rfl) rfl ?_|refine a0b (a2l (n := logoutS) hO rfl rfl) rfl ?_)|(refine a0d ?_;refine a0q rfl rfl rfl rfl hT ?_;rintro _ rfl)|refine a0b (a3f rfl rfl rfl .str (a4w _) hs) rfl ?_|(refine a0d ?_;refine a0v [0,1,2,3] rfl rfl hC ?_ ?_ rfl rfl ?_;(focus ((repeat constructor);done));(focus ((repeat constructor);done));rintro _ _ ⟨rfl,rfl⟩;refine ⟨_,_,by repeat constructor,by repeat constructor,?_⟩)|refine a3g (id := 3) rfl rfl rfl rfl rfl rfl rfl hm2 (by repeat constructor) (by repeat constructor) ?_|(refine a4j (.le 96 (.agg (atC ({ at0 with kind := 3,token := tokenS h,user := u } : At))) rfl (.agg (by repeat (first|exact .nil|refine .cons .nil ?_|refine .cons (.refl _) ?_)))) ?_;(refine a0d ?_;refine a0v [3] rfl rfl hH3 ?_ ?_ rfl rfl ?_;(focus ((repeat constructor);done));(focus ((repeat constructor);done));rintro _ _ ⟨rfl,rfl⟩;refine ⟨_,_,by repeat constructor,by repeat constructor,?_⟩)))|(refine a2k ?_;first|refine a0b (a0l rfl) rfl ?_|(refine k_g ?_;first|refine a1j rfl rfl (by with_reducible rfl) ?_|refine a1w rfl rfl (by with_reducible rfl) rfl ?_)|refine a0b (a0f rfl rfl) rfl ?_|(refine a1g ?_;first|refine a0b (a0w rfl rfl) rfl ?_|refine a0b (a0m rfl rfl rfl) rfl ?_)|(refine a1i ?_;first|refine a0b (a0j rfl (by with_reducible rfl) rfl) rfl ?_|refine a0b (a0i rfl (by with_reducible rfl) rfl) rfl ?_)|refine a0b (a0e rfl) rfl ?_|refine a0b (a0s rfl rfl) rfl ?_|refine a0u ?_|refine a2g rfl rfl rfl (by first|exact ln4|exact ln5) (by repeat constructor) rfl ?_|refine a0z rfl rfl rfl (by first|exact ln4|exact ln5) (by repeat constructor) rfl ?_|refine a1c rfl rfl rfl rfl rfl (by repeat constructor) (by repeat constructor) ?_|refine a0b (a1x rfl rfl rfl (by repeat constructor)) rfl ?_|refine a0b (a0y rfl (by with_reducible rfl)) rfl ?_|refine a0b (a1r rfl (by with_reducible rfl)) rfl ?_)|(first|refine a1n ?_|(refine a1o ?_;first|refine a0c (a0a ?_)|refine a0c ?_|refine a0a ?_|(refine a0x ?_;first|refine a0g rfl (by with_reducible rfl) ?_|refine a0h rfl (by with_reducible rfl) ?_)|refine a0o ?_|refine a0k ?_)|refine a0t ?_))
          refine retc0 (by first | exact .inr rfl | exact .inl rfl) rfl rfl rfl rfl ?_
          rw [hR]
          exact ⟨rfl, _, _, a5v, rfl⟩
        rw [if_neg (fun k => hO k.2)] at hR
        by_cases h6 : X.asks ≤ na
        · rw [if_pos h6] at hR
          repeat' (first|(first|refine a0b (a1k (n := 0) rfl rfl) rfl ?_|(refine a1g ?_;refine a0b (a2i (id := 3) rfl rfl hm2 rfl) rfl ?_)|(refine a1a ?_;first|refine a0b (a1l rfl rfl rfl (by omega)) rfl ?_|refine a0b (a1m rfl rfl rfl (by omega)) rfl ?_|refine a0b (a2h (n := postS) hP rfl rfl) rfl ?_|refine a0b (a2l (n := postS) hP rfl rfl) rfl ?_|refine a0b (a2h (n := loginS) hL rfl rfl) rfl ?_|refine a0b (a2l (n := loginS) hL rfl rfl) rfl ?_|refine a0b (a2h (n := logoutS) hO rfl rfl) rfl ?_|refine a0b (a2l (n := logoutS) hO rfl rfl) rfl ?_)|(refine a0d ?_;refine a0q rfl rfl rfl rfl hT ?_;rintro _ rfl)|refine a0b (a3f rfl rfl rfl .str (a4w _) hs) rfl ?_|(refine a0d ?_;refine a0v [0,1,2,3] rfl rfl hC ?_ ?_ rfl rfl ?_;(focus ((repeat constructor);done));(focus ((repeat constructor);done));rintro _ _ ⟨rfl,rfl⟩;refine ⟨_,_,by repeat constructor,by repeat constructor,?_⟩)|refine a3g (id := 3) rfl rfl rfl rfl rfl rfl rfl hm2 (by repeat constructor) (by repeat constructor) ?_|(refine a0d ?_;refine a0q rfl rfl rfl rfl hPl5 ?_;rintro _ rfl)|(refine a0d ?_;refine a0v [3] rfl rfl hE6 ?_ ?_ rfl rfl ?_;(focus ((repeat constructor);done));(focus ((repeat constructor);done));rintro _ _ ⟨rfl,rfl⟩;refine ⟨_,_,by repeat constructor,by repeat constructor,?_⟩))|(refine a2k ?_;first|refine a0b (a0l rfl) rfl ?_|(refine k_g ?_;first|refine a1j rfl rfl (by with_reducible rfl) ?_|refine a1w rfl rfl (by with_reducible rfl) rfl ?_)|refine a0b (a0f rfl rfl) rfl ?_|(refine a1g ?_;first|refine a0b (a0w rfl rfl) rfl ?_|refine a0b (a0m rfl rfl rfl) rfl ?_)|(refine a1i ?_;first|refine a0b (a0j rfl (by with_reducible rfl) rfl) rfl ?_|refine a0b (a0i rfl (by with_reducible rfl) rfl) rfl ?_)|refine a0b (a0e rfl) rfl ?_|refine a0b (a0s rfl rfl) rfl ?_|refine a0u ?_|refine a2g rfl rfl rfl (by first|exact ln4|exact ln5) (by repeat constructor) rfl ?_|refine a0z rfl rfl rfl (by first|exact ln4|exact ln5) (by repeat constructor) rfl ?_|refine a1c rfl rfl rfl rfl rfl (by repeat constructor) (by repeat constructor) ?_|refine a0b (a1x rfl rfl rfl (by repeat constructor)) rfl ?_|refine a0b (a0y rfl (by with_reducible rfl)) rfl ?_|refine a0b (a1r rfl (by with_reducible rfl)) rfl ?_)|(first|refine a1n ?_|(refine a1o ?_;first|refine a0c (a0a ?_)|refine a0c ?_|refine a0a ?_|(refine a0x ?_;first|refine a0g rfl (by with_reducible rfl) ?_|refine a0h rfl (by with_reducible rfl) ?_)|refine a0o ?_|refine a0k ?_)|refine a0t ?_))
          refine retc0 (by first | exact .inr rfl | exact .inl rfl) rfl rfl rfl rfl ?_
          rw [hR]
          exact ⟨rfl, _, _, a5v, rfl⟩
        · rw [if_neg h6] at hR
          repeat' (first|(first|refine a0b (a1k (n := 0) rfl rfl) rfl ?_|(refine a1g ?_;refine a0b (a2i (id := 3) rfl rfl hm2 rfl) rfl ?_)|(refine a1a ?_;first|refine a0b (a1l rfl rfl rfl (by omega)) rfl ?_|refine a0b (a1m rfl rfl rfl (by omega)) rfl ?_|refine a0b (a2h (n := postS) hP rfl rfl) rfl ?_|refine a0b (a2l (n := postS) hP rfl rfl) rfl ?_|refine a0b (a2h (n := loginS) hL rfl rfl) rfl ?_|refine a0b (a2l (n := loginS) hL rfl rfl) rfl ?_|refine a0b (a2h (n := logoutS) hO rfl rfl) rfl ?_|refine a0b (a2l (n := logoutS) hO rfl rfl) rfl ?_)|(refine a0d ?_;refine a0q rfl rfl rfl rfl hT ?_;rintro _ rfl)|refine a0b (a3f rfl rfl rfl .str (a4w _) hs) rfl ?_|(refine a0d ?_;refine a0v [0,1,2,3] rfl rfl hC ?_ ?_ rfl rfl ?_;(focus ((repeat constructor);done));(focus ((repeat constructor);done));rintro _ _ ⟨rfl,rfl⟩;refine ⟨_,_,by repeat constructor,by repeat constructor,?_⟩)|refine a3g (id := 3) rfl rfl rfl rfl rfl rfl rfl hm2 (by repeat constructor) (by repeat constructor) ?_|(refine a0d ?_;refine a0v [3] rfl rfl hH4 ?_ ?_ rfl rfl ?_;(focus ((repeat constructor);done));(focus ((repeat constructor);done));rintro _ _ ⟨rfl,rfl⟩;refine ⟨_,_,by repeat constructor,by repeat constructor,?_⟩))|(refine a2k ?_;first|refine a0b (a0l rfl) rfl ?_|(refine k_g ?_;first|refine a1j rfl rfl (by with_reducible rfl) ?_|refine a1w rfl rfl (by with_reducible rfl) rfl ?_)|refine a0b (a0f rfl rfl) rfl ?_|(refine a1g ?_;first|refine a0b (a0w rfl rfl) rfl ?_|refine a0b (a0m rfl rfl rfl) rfl ?_)|(refine a1i ?_;first|refine a0b (a0j rfl (by with_reducible rfl) rfl) rfl ?_|refine a0b (a0i rfl (by with_reducible rfl) rfl) rfl ?_)|refine a0b (a0e rfl) rfl ?_|refine a0b (a0s rfl rfl) rfl ?_|refine a0u ?_|refine a2g rfl rfl rfl (by first|exact ln4|exact ln5) (by repeat constructor) rfl ?_|refine a0z rfl rfl rfl (by first|exact ln4|exact ln5) (by repeat constructor) rfl ?_|refine a1c rfl rfl rfl rfl rfl (by repeat constructor) (by repeat constructor) ?_|refine a0b (a1x rfl rfl rfl (by repeat constructor)) rfl ?_|refine a0b (a0y rfl (by with_reducible rfl)) rfl ?_|refine a0b (a1r rfl (by with_reducible rfl)) rfl ?_)|(first|refine a1n ?_|(refine a1o ?_;first|refine a0c (a0a ?_)|refine a0c ?_|refine a0a ?_|(refine a0x ?_;first|refine a0g rfl (by with_reducible rfl) ?_|refine a0h rfl (by with_reducible rfl) ?_)|refine a0o ?_|refine a0k ?_)|refine a0t ?_))
          refine retc0 (by first | exact .inr rfl | exact .inl rfl) rfl rfl rfl rfl ?_
          rw [hR]
          exact ⟨rfl, _, _, a5v, rfl⟩
      · have hu2 : e.c.user = u := Classical.byContradiction fun k => h3 ⟨hu1, k⟩
        rw [if_neg (fun k => hu1 k.1)] at hR
        have hcu : { e.c with user := u } = e.c := by rw [← hu2]
        rw [hcu] at hR
        have hH3 := a5s (w0 := w0) (base := base) (h := h) (b := b) (u := -1) (a := { at0 with kind := 3, token := tokenS h, user := u }) hm
        have hH4 := a5s (w0 := w0) (base := base) (h := h) (b := b) (u := u) (a := { at0 with kind := 4, user := u, rq := some (h, b) }) hm
        have hE6 := a4l (w0 := w0) (base := base) hG (a4k 503 (closesS h)) hm
        by_cases hO : tgtP h.t = logoutS
        · rw [if_pos ⟨hP, hO⟩] at hR
          repeat' (first|(first|refine a0b (a1k (n := 0) rfl rfl) rfl ?_|(refine a1g ?_;refine a0b (a2i (id := 3) rfl rfl hm2 rfl) rfl ?_)|(refine a1a ?_;first|refine a0b (a1l rfl rfl rfl (by omega)) rfl ?_|refine a0b (a1m rfl rfl rfl (by omega)) rfl ?_|refine a0b (a2h (n := postS) hP rfl rfl) rfl ?_|refine a0b (a2l (n := postS) hP rfl rfl) rfl ?_|refine a0b (a2h (n := loginS) hL rfl rfl) rfl ?_|refine a0b (a2l (n := loginS) hL rfl rfl) rfl ?_|refine a0b (a2h (n := logoutS) hO rfl rfl) rfl ?_|refine a0b (a2l (n := logoutS) hO rfl rfl) rfl ?_)|(refine a0d ?_;refine a0q rfl rfl rfl rfl hT ?_;rintro _ rfl)|refine a0b (a3f rfl rfl rfl .str (a4w _) hs) rfl ?_|(refine a0d ?_;refine a0v [0,1,2,3] rfl rfl hC ?_ ?_ rfl rfl ?_;(focus ((repeat constructor);done));(focus ((repeat constructor);done));rintro _ _ ⟨rfl,rfl⟩;refine ⟨_,_,by repeat constructor,by repeat constructor,?_⟩)|(refine a4j (.le 96 (.agg (atC ({ at0 with kind := 3,token := tokenS h,user := u } : At))) rfl (.agg (by repeat (first|exact .nil|refine .cons .nil ?_|refine .cons (.refl _) ?_)))) ?_;(refine a0d ?_;refine a0v [3] rfl rfl hH3 ?_ ?_ rfl rfl ?_;(focus ((repeat constructor);done));(focus ((repeat constructor);done));rintro _ _ ⟨rfl,rfl⟩;refine ⟨_,_,by repeat constructor,by repeat constructor,?_⟩)))|(refine a2k ?_;first|refine a0b (a0l rfl) rfl ?_|(refine k_g ?_;first|refine a1j rfl rfl (by with_reducible rfl) ?_|refine a1w rfl rfl (by with_reducible rfl) rfl ?_)|refine a0b (a0f rfl rfl) rfl ?_|(refine a1g ?_;first|refine a0b (a0w rfl rfl) rfl ?_|refine a0b (a0m rfl rfl rfl) rfl ?_)|(refine a1i ?_;first|refine a0b (a0j rfl (by with_reducible rfl) rfl) rfl ?_|refine a0b (a0i rfl (by with_reducible rfl) rfl) rfl ?_)|refine a0b (a0e rfl) rfl ?_|refine a0b (a0s rfl rfl) rfl ?_|refine a0u ?_|refine a2g rfl rfl rfl (by first|exact ln4|exact ln5) (by repeat constructor) rfl ?_|refine a0z rfl rfl rfl (by first|exact ln4|exact ln5) (by repeat constructor) rfl ?_|refine a1c rfl rfl rfl rfl rfl (by repeat constructor) (by repeat constructor) ?_|refine a0b (a1x rfl rfl rfl (by repeat constructor)) rfl ?_|refine a0b (a0y rfl (by with_reducible rfl)) rfl ?_|refine a0b (a1r rfl (by with_reducible rfl)) rfl ?_)|(first|refine a1n ?_|(refine a1o ?_;first|refine a0c (a0a ?_)|refine a0c ?_|refine a0a ?_|(refine a0x ?_;first|refine a0g rfl (by with_reducible rfl) ?_|refine a0h rfl (by with_reducible rfl) ?_)|refine a0o ?_|refine a0k ?_)|refine a0t ?_))
          refine retc0 (by first | exact .inr rfl | exact .inl rfl) rfl rfl rfl rfl ?_
          rw [hR]
          exact ⟨rfl, _, _, rfl, rfl⟩
        rw [if_neg (fun k => hO k.2)] at hR
        by_cases h6 : X.asks ≤ na
        · rw [if_pos h6] at hR
          repeat' (first|(first|refine a0b (a1k (n := 0) rfl rfl) rfl ?_|(refine a1g ?_;refine a0b (a2i (id := 3) rfl rfl hm2 rfl) rfl ?_)|(refine a1a ?_;first|refine a0b (a1l rfl rfl rfl (by omega)) rfl ?_|refine a0b (a1m rfl rfl rfl (by omega)) rfl ?_|refine a0b (a2h (n := postS) hP rfl rfl) rfl ?_|refine a0b (a2l (n := postS) hP rfl rfl) rfl ?_|refine a0b (a2h (n := loginS) hL rfl rfl) rfl ?_|refine a0b (a2l (n := loginS) hL rfl rfl) rfl ?_|refine a0b (a2h (n := logoutS) hO rfl rfl) rfl ?_|refine a0b (a2l (n := logoutS) hO rfl rfl) rfl ?_)|(refine a0d ?_;refine a0q rfl rfl rfl rfl hT ?_;rintro _ rfl)|refine a0b (a3f rfl rfl rfl .str (a4w _) hs) rfl ?_|(refine a0d ?_;refine a0v [0,1,2,3] rfl rfl hC ?_ ?_ rfl rfl ?_;(focus ((repeat constructor);done));(focus ((repeat constructor);done));rintro _ _ ⟨rfl,rfl⟩;refine ⟨_,_,by repeat constructor,by repeat constructor,?_⟩)|(refine a0d ?_;refine a0q rfl rfl rfl rfl hPl5 ?_;rintro _ rfl)|(refine a0d ?_;refine a0v [3] rfl rfl hE6 ?_ ?_ rfl rfl ?_;(focus ((repeat constructor);done));(focus ((repeat constructor);done));rintro _ _ ⟨rfl,rfl⟩;refine ⟨_,_,by repeat constructor,by repeat constructor,?_⟩))|(refine a2k ?_;first|refine a0b (a0l rfl) rfl ?_|(refine k_g ?_;first|refine a1j rfl rfl (by with_reducible rfl) ?_|refine a1w rfl rfl (by with_reducible rfl) rfl ?_)|refine a0b (a0f rfl rfl) rfl ?_|(refine a1g ?_;first|refine a0b (a0w rfl rfl) rfl ?_|refine a0b (a0m rfl rfl rfl) rfl ?_)|(refine a1i ?_;first|refine a0b (a0j rfl (by with_reducible rfl) rfl) rfl ?_|refine a0b (a0i rfl (by with_reducible rfl) rfl) rfl ?_)|refine a0b (a0e rfl) rfl ?_|refine a0b (a0s rfl rfl) rfl ?_|refine a0u ?_|refine a2g rfl rfl rfl (by first|exact ln4|exact ln5) (by repeat constructor) rfl ?_|refine a0z rfl rfl rfl (by first|exact ln4|exact ln5) (by repeat constructor) rfl ?_|refine a1c rfl rfl rfl rfl rfl (by repeat constructor) (by repeat constructor) ?_|refine a0b (a1x rfl rfl rfl (by repeat constructor)) rfl ?_|refine a0b (a0y rfl (by with_reducible rfl)) rfl ?_|refine a0b (a1r rfl (by with_reducible rfl)) rfl ?_)|(first|refine a1n ?_|(refine a1o ?_;first|refine a0c (a0a ?_)|refine a0c ?_|refine a0a ?_|(refine a0x ?_;first|refine a0g rfl (by with_reducible rfl) ?_|refine a0h rfl (by with_reducible rfl) ?_)|refine a0o ?_|refine a0k ?_)|refine a0t ?_))
          refine retc0 (by first | exact .inr rfl | exact .inl rfl) rfl rfl rfl rfl ?_
          rw [hR]
          exact ⟨rfl, _, _, rfl, rfl⟩
        · rw [if_neg h6] at hR
          repeat' (first|(first|refine a0b (a1k (n := 0) rfl rfl) rfl ?_|(refine a1g ?_;refine a0b (a2i (id := 3) rfl rfl hm2 rfl) rfl ?_)|(refine a1a ?_;first|refine a0b (a1l rfl rfl rfl (by omega)) rfl ?_|refine a0b (a1m rfl rfl rfl (by omega)) rfl ?_|refine a0b (a2h (n := postS) hP rfl rfl) rfl ?_|refine a0b (a2l (n := postS) hP rfl rfl) rfl ?_|refine a0b (a2h (n := loginS) hL rfl rfl) rfl ?_|refine a0b (a2l (n := loginS) hL rfl rfl) rfl ?_|refine a0b (a2h (n := logoutS) hO rfl rfl) rfl ?_|refine a0b (a2l (n := logoutS) hO rfl rfl) rfl ?_)|(refine a0d ?_;refine a0q rfl rfl rfl rfl hT ?_;rintro _ rfl)|refine a0b (a3f rfl rfl rfl .str (a4w _) hs) rfl ?_|(refine a0d ?_;refine a0v [0,1,2,3] rfl rfl hC ?_ ?_ rfl rfl ?_;(focus ((repeat constructor);done));(focus ((repeat constructor);done));rintro _ _ ⟨rfl,rfl⟩;refine ⟨_,_,by repeat constructor,by repeat constructor,?_⟩)|(refine a0d ?_;refine a0v [3] rfl rfl hH4 ?_ ?_ rfl rfl ?_;(focus ((repeat constructor);done));(focus ((repeat constructor);done));rintro _ _ ⟨rfl,rfl⟩;refine ⟨_,_,by repeat constructor,by repeat constructor,?_⟩))|(refine a2k ?_;first|refine a0b (a0l rfl) rfl ?_|(refine k_g ?_;first|refine a1j rfl rfl (by with_reducible rfl) ?_|refine a1w rfl rfl (by with_reducible rfl) rfl ?_)|refine a0b (a0f rfl rfl) rfl ?_|(refine a1g ?_;first|refine a0b (a0w rfl rfl) rfl ?_|refine a0b (a0m rfl rfl rfl) rfl ?_)|(refine a1i ?_;first|refine a0b (a0j rfl (by with_reducible rfl) rfl) rfl ?_|refine a0b (a0i rfl (by with_reducible rfl) rfl) rfl ?_)|refine a0b (a0e rfl) rfl ?_|refine a0b (a0s rfl rfl) rfl ?_|refine a0u ?_|refine a2g rfl rfl rfl (by first|exact ln4|exact ln5) (by repeat constructor) rfl ?_|refine a0z rfl rfl rfl (by first|exact ln4|exact ln5) (by repeat constructor) rfl ?_|refine a1c rfl rfl rfl rfl rfl (by repeat constructor) (by repeat constructor) ?_|refine a0b (a1x rfl rfl rfl (by repeat constructor)) rfl ?_|refine a0b (a0y rfl (by with_reducible rfl)) rfl ?_|refine a0b (a1r rfl (by with_reducible rfl)) rfl ?_)|(first|refine a1n ?_|(refine a1o ?_;first|refine a0c (a0a ?_)|refine a0c ?_|refine a0a ?_|(refine a0x ?_;first|refine a0g rfl (by with_reducible rfl) ?_|refine a0h rfl (by with_reducible rfl) ?_)|refine a0o ?_|refine a0k ?_)|refine a0t ?_))
          refine retc0 (by first | exact .inr rfl | exact .inl rfl) rfl rfl rfl rfl ?_
          rw [hR]
          exact ⟨rfl, _, _, rfl, rfl⟩
  · rw [if_neg (fun k => hP k.1)] at hR
    have hs := c0g (tokenS h) X.ss
    cases hq : sget (tokenS h) X.ss with
    | none =>
      rw [hq] at hs hR
      dsimp only [Option.map_none] at hs hR
      repeat' (first|(first|refine a0b (a1k (n := 0) rfl rfl) rfl ?_|(refine a1g ?_;refine a0b (a2i (id := 3) rfl rfl hm2 rfl) rfl ?_)|(refine a1a ?_;first|refine a0b (a1l rfl rfl rfl (by omega)) rfl ?_|refine a0b (a1m rfl rfl rfl (by omega)) rfl ?_|refine a0b (a2h (n := postS) hP rfl rfl) rfl ?_|refine a0b (a2l (n := postS) hP rfl rfl) rfl ?_|refine a0b (a2h (n := loginS) hL rfl rfl) rfl ?_|refine a0b (a2l (n := loginS) hL rfl rfl) rfl ?_|refine a0b (a2h (n := logoutS) hO rfl rfl) rfl ?_|refine a0b (a2l (n := logoutS) hO rfl rfl) rfl ?_)|(refine a0d ?_;refine a0q rfl rfl rfl rfl hT ?_;rintro _ rfl)|refine a0b (b0v rfl rfl rfl .str (a4w _) hs rfl) rfl ?_|(refine a0d ?_;refine a0q rfl rfl rfl rfl hPl1 ?_;rintro _ rfl)|(refine a0d ?_;refine a0v [3] rfl rfl hE1 ?_ ?_ rfl rfl ?_;(focus ((repeat constructor);done));(focus ((repeat constructor);done));rintro _ _ ⟨rfl,rfl⟩;refine ⟨_,_,by repeat constructor,by repeat constructor,?_⟩))|(refine a2k ?_;first|refine a0b (a0l rfl) rfl ?_|(refine k_g ?_;first|refine a1j rfl rfl (by with_reducible rfl) ?_|refine a1w rfl rfl (by with_reducible rfl) rfl ?_)|refine a0b (a0f rfl rfl) rfl ?_|(refine a1g ?_;first|refine a0b (a0w rfl rfl) rfl ?_|refine a0b (a0m rfl rfl rfl) rfl ?_)|(refine a1i ?_;first|refine a0b (a0j rfl (by with_reducible rfl) rfl) rfl ?_|refine a0b (a0i rfl (by with_reducible rfl) rfl) rfl ?_)|refine a0b (a0e rfl) rfl ?_|refine a0b (a0s rfl rfl) rfl ?_|refine a0u ?_|refine a2g rfl rfl rfl (by first|exact ln4|exact ln5) (by repeat constructor) rfl ?_|refine a0z rfl rfl rfl (by first|exact ln4|exact ln5) (by repeat constructor) rfl ?_|refine a1c rfl rfl rfl rfl rfl (by repeat constructor) (by repeat constructor) ?_|refine a0b (a1x rfl rfl rfl (by repeat constructor)) rfl ?_|refine a0b (a0y rfl (by with_reducible rfl)) rfl ?_|refine a0b (a1r rfl (by with_reducible rfl)) rfl ?_)|(first|refine a1n ?_|(refine a1o ?_;first|refine a0c (a0a ?_)|refine a0c ?_|refine a0a ?_|(refine a0x ?_;first|refine a0g rfl (by with_reducible rfl) ?_|refine a0h rfl (by with_reducible rfl) ?_)|refine a0o ?_|refine a0k ?_)|refine a0t ?_))
      refine retc0 (by first | exact .inr rfl | exact .inl rfl) rfl rfl rfl rfl ?_
      rw [hR]
      exact ⟨rfl, _, _, rfl, rfl⟩
    | some u =>
      rw [hq] at hs hR
      dsimp only [Option.map_some] at hs hR
      have hu := hX.ss _ (b1i hq)
      dsimp only at hu
      have hC := a8t (w0 := w0) (base := base) (u := u) hX
      unfold cntAV at hC
      rw [show countsD X.ds u = (cntC (lcE X.l) u, cntA (lcE X.l) u) from if_pos ⟨hu.2.1, hu.2.2⟩] at hC
      dsimp only at hC
      obtain ⟨nc, hnc⟩ : ∃ nc, cntC (lcE X.l) u = nc := ⟨_, rfl⟩
      obtain ⟨na, hna⟩ : ∃ na, cntA (lcE X.l) u = na := ⟨_, rfl⟩
      rw [hnc, hna] at hC hR
      by_cases h3 : e.c.user ≠ -1 ∧ e.c.user ≠ u
      · rw [if_pos h3] at hR
        obtain ⟨h3a, h3b⟩ := h3
        repeat' (first|(first|refine a0b (a1k (n := 0) rfl rfl) rfl ?_|(refine a1g ?_;refine a0b (a2i (id := 3) rfl rfl hm2 rfl) rfl ?_)|(refine a1a ?_;first|refine a0b (a1l rfl rfl rfl (by omega)) rfl ?_|refine a0b (a1m rfl rfl rfl (by omega)) rfl ?_|refine a0b (a2h (n := postS) hP rfl rfl) rfl ?_|refine a0b (a2l (n := postS) hP rfl rfl) rfl ?_|refine a0b (a2h (n := loginS) hL rfl rfl) rfl ?_|refine a0b (a2l (n := loginS) hL rfl rfl) rfl ?_|refine a0b (a2h (n := logoutS) hO rfl rfl) rfl ?_|refine a0b (a2l (n := logoutS) hO rfl rfl) rfl ?_)|(refine a0d ?_;refine a0q rfl rfl rfl rfl hT ?_;rintro _ rfl)|refine a0b (a3f rfl rfl rfl .str (a4w _) hs) rfl ?_|(refine a0d ?_;refine a0q rfl rfl rfl rfl hPl3 ?_;rintro _ rfl)|(refine a0d ?_;refine a0v [3] rfl rfl hE3 ?_ ?_ rfl rfl ?_;(focus ((repeat constructor);done));(focus ((repeat constructor);done));rintro _ _ ⟨rfl,rfl⟩;refine ⟨_,_,by repeat constructor,by repeat constructor,?_⟩))|(refine a2k ?_;first|refine a0b (a0l rfl) rfl ?_|(refine k_g ?_;first|refine a1j rfl rfl (by with_reducible rfl) ?_|refine a1w rfl rfl (by with_reducible rfl) rfl ?_)|refine a0b (a0f rfl rfl) rfl ?_|(refine a1g ?_;first|refine a0b (a0w rfl rfl) rfl ?_|refine a0b (a0m rfl rfl rfl) rfl ?_)|(refine a1i ?_;first|refine a0b (a0j rfl (by with_reducible rfl) rfl) rfl ?_|refine a0b (a0i rfl (by with_reducible rfl) rfl) rfl ?_)|refine a0b (a0e rfl) rfl ?_|refine a0b (a0s rfl rfl) rfl ?_|refine a0u ?_|refine a2g rfl rfl rfl (by first|exact ln4|exact ln5) (by repeat constructor) rfl ?_|refine a0z rfl rfl rfl (by first|exact ln4|exact ln5) (by repeat constructor) rfl ?_|refine a1c rfl rfl rfl rfl rfl (by repeat constructor) (by repeat constructor) ?_|refine a0b (a1x rfl rfl rfl (by repeat constructor)) rfl ?_|refine a0b (a0y rfl (by with_reducible rfl)) rfl ?_|refine a0b (a1r rfl (by with_reducible rfl)) rfl ?_)|(first|refine a1n ?_|(refine a1o ?_;first|refine a0c (a0a ?_)|refine a0c ?_|refine a0a ?_|(refine a0x ?_;first|refine a0g rfl (by with_reducible rfl) ?_|refine a0h rfl (by with_reducible rfl) ?_)|refine a0o ?_|refine a0k ?_)|refine a0t ?_))
        refine retc0 (by first | exact .inr rfl | exact .inl rfl) rfl rfl rfl rfl ?_
        rw [hR]
        exact ⟨rfl, _, _, rfl, rfl⟩
      rw [if_neg h3] at hR
      by_cases hu1 : e.c.user = -1
      · by_cases h5 : X.conns ≤ nc
        · rw [if_pos ⟨hu1, h5⟩] at hR
          repeat' (first|(first|refine a0b (a1k (n := 0) rfl rfl) rfl ?_|(refine a1g ?_;refine a0b (a2i (id := 3) rfl rfl hm2 rfl) rfl ?_)|(refine a1a ?_;first|refine a0b (a1l rfl rfl rfl (by omega)) rfl ?_|refine a0b (a1m rfl rfl rfl (by omega)) rfl ?_|refine a0b (a2h (n := postS) hP rfl rfl) rfl ?_|refine a0b (a2l (n := postS) hP rfl rfl) rfl ?_|refine a0b (a2h (n := loginS) hL rfl rfl) rfl ?_|refine a0b (a2l (n := loginS) hL rfl rfl) rfl ?_|refine a0b (a2h (n := logoutS) hO rfl rfl) rfl ?_|refine a0b (a2l (n := logoutS) hO rfl rfl) rfl ?_)|(refine a0d ?_;refine a0q rfl rfl rfl rfl hT ?_;rintro _ rfl)|refine a0b (a3f rfl rfl rfl .str (a4w _) hs) rfl ?_|(refine a0d ?_;refine a0v [0,1,2,3] rfl rfl hC ?_ ?_ rfl rfl ?_;(focus ((repeat constructor);done));(focus ((repeat constructor);done));rintro _ _ ⟨rfl,rfl⟩;refine ⟨_,_,by repeat constructor,by repeat constructor,?_⟩)|(refine a0d ?_;refine a0q rfl rfl rfl rfl hPlT ?_;rintro _ rfl)|(refine a0d ?_;refine a0v [3] rfl rfl hET ?_ ?_ rfl rfl ?_;(focus ((repeat constructor);done));(focus ((repeat constructor);done));rintro _ _ ⟨rfl,rfl⟩;refine ⟨_,_,by repeat constructor,by repeat constructor,?_⟩))|(refine a2k ?_;first|refine a0b (a0l rfl) rfl ?_|(refine k_g ?_;first|refine a1j rfl rfl (by with_reducible rfl) ?_|refine a1w rfl rfl (by with_reducible rfl) rfl ?_)|refine a0b (a0f rfl rfl) rfl ?_|(refine a1g ?_;first|refine a0b (a0w rfl rfl) rfl ?_|refine a0b (a0m rfl rfl rfl) rfl ?_)|(refine a1i ?_;first|refine a0b (a0j rfl (by with_reducible rfl) rfl) rfl ?_|refine a0b (a0i rfl (by with_reducible rfl) rfl) rfl ?_)|refine a0b (a0e rfl) rfl ?_|refine a0b (a0s rfl rfl) rfl ?_|refine a0u ?_|refine a2g rfl rfl rfl (by first|exact ln4|exact ln5) (by repeat constructor) rfl ?_|refine a0z rfl rfl rfl (by first|exact ln4|exact ln5) (by repeat constructor) rfl ?_|refine a1c rfl rfl rfl rfl rfl (by repeat constructor) (by repeat constructor) ?_|refine a0b (a1x rfl rfl rfl (by repeat constructor)) rfl ?_|refine a0b (a0y rfl (by with_reducible rfl)) rfl ?_|refine a0b (a1r rfl (by with_reducible rfl)) rfl ?_)|(first|refine a1n ?_|(refine a1o ?_;first|refine a0c (a0a ?_)|refine a0c ?_|refine a0a ?_|(refine a0x ?_;first|refine a0g rfl (by with_reducible rfl) ?_|refine a0h rfl (by with_reducible rfl) ?_)|refine a0o ?_|refine a0k ?_)|refine a0t ?_))
          refine retc0 (by first | exact .inr rfl | exact .inl rfl) rfl rfl rfl rfl ?_
          rw [hR]
          exact ⟨rfl, _, _, rfl, rfl⟩
        rw [if_neg (fun k => h5 k.2)] at hR
        have hm3 : upd X.m e.bc [.ad e.bp 0, .int .i64 u, .bool e.c.closed, .bool e.c.lost, .bool e.c.waits, .int .i64 e.c.asks, .bool e.c.ends, paE e] e.bc = some (cnC e.bp (paE e) { e.c with user := u }) := a2r
        have hH3 := a5s (w0 := w0) (base := base) (h := h) (b := b) (u := -1) (a := { at0 with kind := 3, token := tokenS h, user := u }) hm3
        have hH4 := a5s (w0 := w0) (base := base) (h := h) (b := b) (u := u) (a := { at0 with kind := 4, user := u, rq := some (h, b) }) hm3
        have hE6 := a4l (w0 := w0) (base := base) hG (a4k 503 (closesS h)) hm3
        rw [if_neg (fun k => hP k.1)] at hR
        by_cases h6 : X.asks ≤ na
        · rw [if_pos h6] at hR
          repeat' (first|(first|refine a0b (a1k (n := 0) rfl rfl) rfl ?_|(refine a1g ?_;refine a0b (a2i (id := 3) rfl rfl hm2 rfl) rfl ?_)|(refine a1a ?_;first|refine a0b (a1l rfl rfl rfl (by omega)) rfl ?_|refine a0b (a1m rfl rfl rfl (by omega)) rfl ?_|refine a0b (a2h (n := postS) hP rfl rfl) rfl ?_|refine a0b (a2l (n := postS) hP rfl rfl) rfl ?_|refine a0b (a2h (n := loginS) hL rfl rfl) rfl ?_|refine a0b (a2l (n := loginS) hL rfl rfl) rfl ?_|refine a0b (a2h (n := logoutS) hO rfl rfl) rfl ?_|refine a0b (a2l (n := logoutS) hO rfl rfl) rfl ?_)|(refine a0d ?_;refine a0q rfl rfl rfl rfl hT ?_;rintro _ rfl)|refine a0b (a3f rfl rfl rfl .str (a4w _) hs) rfl ?_|(refine a0d ?_;refine a0v [0,1,2,3] rfl rfl hC ?_ ?_ rfl rfl ?_;(focus ((repeat constructor);done));(focus ((repeat constructor);done));rintro _ _ ⟨rfl,rfl⟩;refine ⟨_,_,by repeat constructor,by repeat constructor,?_⟩)|refine a3g (id := 3) rfl rfl rfl rfl rfl rfl rfl hm2 (by repeat constructor) (by repeat constructor) ?_|(refine a0d ?_;refine a0q rfl rfl rfl rfl hPl5 ?_;rintro _ rfl)|(refine a0d ?_;refine a0v [3] rfl rfl hE6 ?_ ?_ rfl rfl ?_;(focus ((repeat constructor);done));(focus ((repeat constructor);done));rintro _ _ ⟨rfl,rfl⟩;refine ⟨_,_,by repeat constructor,by repeat constructor,?_⟩))|(refine a2k ?_;first|refine a0b (a0l rfl) rfl ?_|(refine k_g ?_;first|refine a1j rfl rfl (by with_reducible rfl) ?_|refine a1w rfl rfl (by with_reducible rfl) rfl ?_)|refine a0b (a0f rfl rfl) rfl ?_|(refine a1g ?_;first|refine a0b (a0w rfl rfl) rfl ?_|refine a0b (a0m rfl rfl rfl) rfl ?_)|(refine a1i ?_;first|refine a0b (a0j rfl (by with_reducible rfl) rfl) rfl ?_|refine a0b (a0i rfl (by with_reducible rfl) rfl) rfl ?_)|refine a0b (a0e rfl) rfl ?_|refine a0b (a0s rfl rfl) rfl ?_|refine a0u ?_|refine a2g rfl rfl rfl (by first|exact ln4|exact ln5) (by repeat constructor) rfl ?_|refine a0z rfl rfl rfl (by first|exact ln4|exact ln5) (by repeat constructor) rfl ?_|refine a1c rfl rfl rfl rfl rfl (by repeat constructor) (by repeat constructor) ?_|refine a0b (a1x rfl rfl rfl (by repeat constructor)) rfl ?_|refine a0b (a0y rfl (by with_reducible rfl)) rfl ?_|refine a0b (a1r rfl (by with_reducible rfl)) rfl ?_)|(first|refine a1n ?_|(refine a1o ?_;first|refine a0c (a0a ?_)|refine a0c ?_|refine a0a ?_|(refine a0x ?_;first|refine a0g rfl (by with_reducible rfl) ?_|refine a0h rfl (by with_reducible rfl) ?_)|refine a0o ?_|refine a0k ?_)|refine a0t ?_))
          refine retc0 (by first | exact .inr rfl | exact .inl rfl) rfl rfl rfl rfl ?_
          rw [hR]
          exact ⟨rfl, _, _, a5v, rfl⟩
        · rw [if_neg h6] at hR
          repeat' (first|(first|refine a0b (a1k (n := 0) rfl rfl) rfl ?_|(refine a1g ?_;refine a0b (a2i (id := 3) rfl rfl hm2 rfl) rfl ?_)|(refine a1a ?_;first|refine a0b (a1l rfl rfl rfl (by omega)) rfl ?_|refine a0b (a1m rfl rfl rfl (by omega)) rfl ?_|refine a0b (a2h (n := postS) hP rfl rfl) rfl ?_|refine a0b (a2l (n := postS) hP rfl rfl) rfl ?_|refine a0b (a2h (n := loginS) hL rfl rfl) rfl ?_|refine a0b (a2l (n := loginS) hL rfl rfl) rfl ?_|refine a0b (a2h (n := logoutS) hO rfl rfl) rfl ?_|refine a0b (a2l (n := logoutS) hO rfl rfl) rfl ?_)|(refine a0d ?_;refine a0q rfl rfl rfl rfl hT ?_;rintro _ rfl)|refine a0b (a3f rfl rfl rfl .str (a4w _) hs) rfl ?_|(refine a0d ?_;refine a0v [0,1,2,3] rfl rfl hC ?_ ?_ rfl rfl ?_;(focus ((repeat constructor);done));(focus ((repeat constructor);done));rintro _ _ ⟨rfl,rfl⟩;refine ⟨_,_,by repeat constructor,by repeat constructor,?_⟩)|refine a3g (id := 3) rfl rfl rfl rfl rfl rfl rfl hm2 (by repeat constructor) (by repeat constructor) ?_|(refine a0d ?_;refine a0v [3] rfl rfl hH4 ?_ ?_ rfl rfl ?_;(focus ((repeat constructor);done));(focus ((repeat constructor);done));rintro _ _ ⟨rfl,rfl⟩;refine ⟨_,_,by repeat constructor,by repeat constructor,?_⟩))|(refine a2k ?_;first|refine a0b (a0l rfl) rfl ?_|(refine k_g ?_;first|refine a1j rfl rfl (by with_reducible rfl) ?_|refine a1w rfl rfl (by with_reducible rfl) rfl ?_)|refine a0b (a0f rfl rfl) rfl ?_|(refine a1g ?_;first|refine a0b (a0w rfl rfl) rfl ?_|refine a0b (a0m rfl rfl rfl) rfl ?_)|(refine a1i ?_;first|refine a0b (a0j rfl (by with_reducible rfl) rfl) rfl ?_|refine a0b (a0i rfl (by with_reducible rfl) rfl) rfl ?_)|refine a0b (a0e rfl) rfl ?_|refine a0b (a0s rfl rfl) rfl ?_|refine a0u ?_|refine a2g rfl rfl rfl (by first|exact ln4|exact ln5) (by repeat constructor) rfl ?_|refine a0z rfl rfl rfl (by first|exact ln4|exact ln5) (by repeat constructor) rfl ?_|refine a1c rfl rfl rfl rfl rfl (by repeat constructor) (by repeat constructor) ?_|refine a0b (a1x rfl rfl rfl (by repeat constructor)) rfl ?_|refine a0b (a0y rfl (by with_reducible rfl)) rfl ?_|refine a0b (a1r rfl (by with_reducible rfl)) rfl ?_)|(first|refine a1n ?_|(refine a1o ?_;first|refine a0c (a0a ?_)|refine a0c ?_|refine a0a ?_|(refine a0x ?_;first|refine a0g rfl (by with_reducible rfl) ?_|refine a0h rfl (by with_reducible rfl) ?_)|refine a0o ?_|refine a0k ?_)|refine a0t ?_))
          refine retc0 (by first | exact .inr rfl | exact .inl rfl) rfl rfl rfl rfl ?_
          rw [hR]
          exact ⟨rfl, _, _, a5v, rfl⟩
      · have hu2 : e.c.user = u := Classical.byContradiction fun k => h3 ⟨hu1, k⟩
        rw [if_neg (fun k => hu1 k.1)] at hR
        have hcu : { e.c with user := u } = e.c := by rw [← hu2]
        rw [hcu] at hR
        have hH3 := a5s (w0 := w0) (base := base) (h := h) (b := b) (u := -1) (a := { at0 with kind := 3, token := tokenS h, user := u }) hm
        have hH4 := a5s (w0 := w0) (base := base) (h := h) (b := b) (u := u) (a := { at0 with kind := 4, user := u, rq := some (h, b) }) hm
        have hE6 := a4l (w0 := w0) (base := base) hG (a4k 503 (closesS h)) hm
        rw [if_neg (fun k => hP k.1)] at hR
        by_cases h6 : X.asks ≤ na
        · rw [if_pos h6] at hR
          repeat' (first|(first|refine a0b (a1k (n := 0) rfl rfl) rfl ?_|(refine a1g ?_;refine a0b (a2i (id := 3) rfl rfl hm2 rfl) rfl ?_)|(refine a1a ?_;first|refine a0b (a1l rfl rfl rfl (by omega)) rfl ?_|refine a0b (a1m rfl rfl rfl (by omega)) rfl ?_|refine a0b (a2h (n := postS) hP rfl rfl) rfl ?_|refine a0b (a2l (n := postS) hP rfl rfl) rfl ?_|refine a0b (a2h (n := loginS) hL rfl rfl) rfl ?_|refine a0b (a2l (n := loginS) hL rfl rfl) rfl ?_|refine a0b (a2h (n := logoutS) hO rfl rfl) rfl ?_|refine a0b (a2l (n := logoutS) hO rfl rfl) rfl ?_)|(refine a0d ?_;refine a0q rfl rfl rfl rfl hT ?_;rintro _ rfl)|refine a0b (a3f rfl rfl rfl .str (a4w _) hs) rfl ?_|(refine a0d ?_;refine a0v [0,1,2,3] rfl rfl hC ?_ ?_ rfl rfl ?_;(focus ((repeat constructor);done));(focus ((repeat constructor);done));rintro _ _ ⟨rfl,rfl⟩;refine ⟨_,_,by repeat constructor,by repeat constructor,?_⟩)|(refine a0d ?_;refine a0q rfl rfl rfl rfl hPl5 ?_;rintro _ rfl)|(refine a0d ?_;refine a0v [3] rfl rfl hE6 ?_ ?_ rfl rfl ?_;(focus ((repeat constructor);done));(focus ((repeat constructor);done));rintro _ _ ⟨rfl,rfl⟩;refine ⟨_,_,by repeat constructor,by repeat constructor,?_⟩))|(refine a2k ?_;first|refine a0b (a0l rfl) rfl ?_|(refine k_g ?_;first|refine a1j rfl rfl (by with_reducible rfl) ?_|refine a1w rfl rfl (by with_reducible rfl) rfl ?_)|refine a0b (a0f rfl rfl) rfl ?_|(refine a1g ?_;first|refine a0b (a0w rfl rfl) rfl ?_|refine a0b (a0m rfl rfl rfl) rfl ?_)|(refine a1i ?_;first|refine a0b (a0j rfl (by with_reducible rfl) rfl) rfl ?_|refine a0b (a0i rfl (by with_reducible rfl) rfl) rfl ?_)|refine a0b (a0e rfl) rfl ?_|refine a0b (a0s rfl rfl) rfl ?_|refine a0u ?_|refine a2g rfl rfl rfl (by first|exact ln4|exact ln5) (by repeat constructor) rfl ?_|refine a0z rfl rfl rfl (by first|exact ln4|exact ln5) (by repeat constructor) rfl ?_|refine a1c rfl rfl rfl rfl rfl (by repeat constructor) (by repeat constructor) ?_|refine a0b (a1x rfl rfl rfl (by repeat constructor)) rfl ?_|refine a0b (a0y rfl (by with_reducible rfl)) rfl ?_|refine a0b (a1r rfl (by with_reducible rfl)) rfl ?_)|(first|refine a1n ?_|(refine a1o ?_;first|refine a0c (a0a ?_)|refine a0c ?_|refine a0a ?_|(refine a0x ?_;first|refine a0g rfl (by with_reducible rfl) ?_|refine a0h rfl (by with_reducible rfl) ?_)|refine a0o ?_|refine a0k ?_)|refine a0t ?_))
          refine retc0 (by first | exact .inr rfl | exact .inl rfl) rfl rfl rfl rfl ?_
          rw [hR]
          exact ⟨rfl, _, _, rfl, rfl⟩
        · rw [if_neg h6] at hR
          repeat' (first|(first|refine a0b (a1k (n := 0) rfl rfl) rfl ?_|(refine a1g ?_;refine a0b (a2i (id := 3) rfl rfl hm2 rfl) rfl ?_)|(refine a1a ?_;first|refine a0b (a1l rfl rfl rfl (by omega)) rfl ?_|refine a0b (a1m rfl rfl rfl (by omega)) rfl ?_|refine a0b (a2h (n := postS) hP rfl rfl) rfl ?_|refine a0b (a2l (n := postS) hP rfl rfl) rfl ?_|refine a0b (a2h (n := loginS) hL rfl rfl) rfl ?_|refine a0b (a2l (n := loginS) hL rfl rfl) rfl ?_|refine a0b (a2h (n := logoutS) hO rfl rfl) rfl ?_|refine a0b (a2l (n := logoutS) hO rfl rfl) rfl ?_)|(refine a0d ?_;refine a0q rfl rfl rfl rfl hT ?_;rintro _ rfl)|refine a0b (a3f rfl rfl rfl .str (a4w _) hs) rfl ?_|(refine a0d ?_;refine a0v [0,1,2,3] rfl rfl hC ?_ ?_ rfl rfl ?_;(focus ((repeat constructor);done));(focus ((repeat constructor);done));rintro _ _ ⟨rfl,rfl⟩;refine ⟨_,_,by repeat constructor,by repeat constructor,?_⟩)|(refine a0d ?_;refine a0v [3] rfl rfl hH4 ?_ ?_ rfl rfl ?_;(focus ((repeat constructor);done));(focus ((repeat constructor);done));rintro _ _ ⟨rfl,rfl⟩;refine ⟨_,_,by repeat constructor,by repeat constructor,?_⟩))|(refine a2k ?_;first|refine a0b (a0l rfl) rfl ?_|(refine k_g ?_;first|refine a1j rfl rfl (by with_reducible rfl) ?_|refine a1w rfl rfl (by with_reducible rfl) rfl ?_)|refine a0b (a0f rfl rfl) rfl ?_|(refine a1g ?_;first|refine a0b (a0w rfl rfl) rfl ?_|refine a0b (a0m rfl rfl rfl) rfl ?_)|(refine a1i ?_;first|refine a0b (a0j rfl (by with_reducible rfl) rfl) rfl ?_|refine a0b (a0i rfl (by with_reducible rfl) rfl) rfl ?_)|refine a0b (a0e rfl) rfl ?_|refine a0b (a0s rfl rfl) rfl ?_|refine a0u ?_|refine a2g rfl rfl rfl (by first|exact ln4|exact ln5) (by repeat constructor) rfl ?_|refine a0z rfl rfl rfl (by first|exact ln4|exact ln5) (by repeat constructor) rfl ?_|refine a1c rfl rfl rfl rfl rfl (by repeat constructor) (by repeat constructor) ?_|refine a0b (a1x rfl rfl rfl (by repeat constructor)) rfl ?_|refine a0b (a0y rfl (by with_reducible rfl)) rfl ?_|refine a0b (a1r rfl (by with_reducible rfl)) rfl ?_)|(first|refine a1n ?_|(refine a1o ?_;first|refine a0c (a0a ?_)|refine a0c ?_|refine a0a ?_|(refine a0x ?_;first|refine a0g rfl (by with_reducible rfl) ?_|refine a0h rfl (by with_reducible rfl) ?_)|refine a0o ?_|refine a0k ?_)|refine a0t ?_))
          refine retc0 (by first | exact .inr rfl | exact .inl rfl) rfl rfl rfl rfl ?_
          rw [hR]
          exact ⟨rfl, _, _, rfl, rfl⟩
theorem c6q {X : Dem} {i : Nat} {e : En} {h : Hd} {b : List UInt8} (hG : Tabs w0 base) (hX : DemOk X) (hi : X.l[i]? = some e) (hg : GoodH h) (hb : b.length ≤ 65536) :
    ACalls (EE w0 base) 33 [.op 0 0, .ad e.bc 0, .agg (rqCs h b)] (dmO X) fun rv os => rv = .agg (atC (requestC X.ds e.c h b).2) ∧ os = dmO { X with m := upd X.m e.bc (cnC e.bp (paE e) (requestC X.ds e.c h b).1) } := by
  refine a3u (c3y hG hX hi hg hb) ?_
  rintro rv os ⟨rfl, m', ex, rfl, rfl⟩
  exact ⟨_, ex, rfl, ⟨rfl, rfl⟩, c3q _ _, b7c { X with m := upd X.m e.bc (cnC e.bp (paE e) (requestC X.ds e.c h b).1) }, Nat.le_refl _⟩
end
end Go.Proofs.YtkljmljkiodnpaaGreatDoor.L

namespace Go.Proofs.YtkljmljkiodnpaaGreatDoor.L
open Go Go.RowKit Go.Proofs
attribute [local irreducible] AL QL AWp Thn InB RetQ ACalls LoopQ HL HO HW HQ NoG JmpQ MidQ HF

theorem b8j {s : List UInt8} {at' : Nat} {h : Hd} {b : List UInt8} {k : Nat} (ha : at' ≤ s.length) (e : bodyAt s at' h = .got b k) : b.length ≤ 16384 := by
  unfold bodyAt at e
  have hR := a9x h
  split at e
  · cases e
  split at e
  · split at e
    · cases e
    · injection e with e1 e2
      subst e1
      rw [List.length_drop, List.length_take]
      omega
  split at e
  · have := a5q s (s.length + 1) [] at' ha
    unfold chunksS at e
    rw [e] at this
    exact this.2.2
  · injection e with e1 e2
    subst e1
    exact Nat.zero_le _
theorem b7u {s : List UInt8} {h : Hd} {b : List UInt8} {k : Nat} (e : nextL s = .got h b k) : b.length ≤ 16384 := by
  unfold nextL at e
  rcases b2b s with hx | ⟨i, hx, hi4⟩
  · rw [hx, if_pos (by decide)] at e
    split at e <;> cases e
  · rw [hx, if_neg (by omega), Int.toNat_natCast] at e
    split at e
    · cases e
    · have hz : ∀ b' k', bodyAt s (i + 4) (headParse (s.take (i + 4))).1 = .got b' k' → b'.length ≤ 16384 := fun b' k' => b8j hi4
      revert e hz
      generalize bodyAt s (i + 4) (headParse (s.take (i + 4))).1 = z
      intro e hz
      cases z with
      | more => cases e
      | bad st => cases e
      | got b' k' =>
        injection e with e1 e2 e3
        subst e2
        exact hz _ _ rfl
theorem b1r (D : DS) (c : Cn) (h : Hd) (b : List UInt8) : (requestC D c h b).1.s = c.s ∧ (requestC D c h b).1.st = c.st ∧ (requestC D c h b).1.ans = c.ans := by
  unfold requestC loginC emitsC handsC
  repeat' (first | (refine ⟨rfl, rfl, rfl⟩) | split)
theorem b1s {D D' : DS} (h1 : D'.ss = D.ss) (h2 : D'.conns = D.conns) (h3 : D'.asks = D.asks) (h4 : ∀ u, cntC D'.l u = cntC D.l u) (h5 : ∀ u, cntA D'.l u = cntA D.l u) (c : Cn) (h : Hd) (b : List UInt8) : requestC D' c h b = requestC D c h b := by
  unfold requestC
  simp only [h1, h2, h3, h4, h5]
theorem c6h {e : En} {c' : Cn} (h1 : c'.closed = e.c.closed) (h2 : c'.user = e.c.user) (h3 : c'.waits = e.c.waits) (h4 : c'.asks = e.c.asks) (u : Int) : ∀ {l : List En} {i : Nat}, l[i]? = some e → cntC (lcE (l.set i { e with c := c' })) u = cntC (lcE l) u ∧ cntA (lcE (l.set i { e with c := c' })) u = cntA (lcE l) u := by
  intro l
  induction l with
  | nil => intro i hi; cases hi
  | cons p l ih =>
    intro i hi
    cases i with
    | zero =>
      have hp : p = e := by simpa using hi
      subst hp
      constructor
      · unfold cntC lcE
        simp only [List.set_cons_zero, List.map_cons, List.filter_cons, h1, h2]
        cases (!p.c.closed && decide (p.c.user = u)) <;> rfl
      · unfold cntA lcE
        simp only [List.set_cons_zero, List.map_cons, List.filter_cons, h3, h4]
        cases (p.c.waits && decide (p.c.asks = u)) <;> rfl
    | succ i =>
      have hi' : l[i]? = some e := by simpa using hi
      obtain ⟨a1, a2⟩ := ih hi'
      constructor
      · unfold cntC lcE at a1 ⊢
        simp only [List.set_cons_succ, List.map_cons, List.filter_cons]
        cases (!p.c.closed && decide (p.c.user = u))
        · exact a1
        · exact congrArg (· + 1) a1
      · unfold cntA lcE at a2 ⊢
        simp only [List.set_cons_succ, List.map_cons, List.filter_cons]
        cases (p.c.waits && decide (p.c.asks = u))
        · exact a2
        · exact congrArg (· + 1) a2
theorem RepE.two {m m' : Nat → Option (List AV)} {l : List En} {i : Nat} {e : En} {c' : Cn} (h : RepE m l) (hi : l[i]? = some e) (h1 : c'.ans = none) (cm : m' e.bc = some (cnC e.bp .nilp c')) (pm : m' e.bp = some [.bool true, .str c'.s, .int .i64 c'.st]) (ho : ∀ x, x ≠ e.bc → x ≠ e.bp → m' x = m x) : RepE m' (l.set i { e with c := c' }) := by
  have hen := h.ok i e hi
  have hads : adsE { e with c := c' } = [e.bc, e.bp] := by
    show adsO e.bc e.bp e.ba c'.ans = _
    rw [h1]
    rfl
  refine h.set hi (fun x hx _ => ho x (fun k => hx (k ▸ b0a e)) (fun k => hx (k ▸ b3y e))) ⟨?_, pm, fun r hr => ?_, ?_⟩ (fun x hx => ?_)
  · show m' e.bc = some (cnC e.bp (paO c'.ans e.ba) c')
    rw [h1]
    exact cm
  · have hr2 : c'.ans = some r := hr
    rw [h1] at hr2
    cases hr2
  · rw [hads]
    simp only [List.nodup_cons, List.mem_cons, List.not_mem_nil, or_false, List.nodup_nil, and_true, not_false_eq_true]
    exact fun k => c3r hen k.symm
  · rw [hads] at hx
    simp only [List.mem_cons, List.not_mem_nil, or_false] at hx
    rcases hx with rfl | rfl
    · exact .inl (b0a e)
    · exact .inl (b3y e)
theorem a7h {D : DS} {c : Cn} (ha : c.ans = none) : pickC D c = (if c.waits then (c, at0) else if c.lost then emitsC c (plR 413 true)
    else if c.st ≠ 0 then emitsC c (plR c.st true) else match nextL c.s with
      | .more => (c, at0)
      | .bad st => emitsC { c with s := [], st := st } (plR st true)
      | .got h b k => requestC D { c with s := c.s.drop k } h b) := by
  obtain ⟨s, st, user, closed, lost, waits, asks, ends, ans⟩ := c
  have ha' : ans = none := ha
  subst ha'
  rfl
def PkR (X : Dem) (at' : Int) (rv : AV) (os : List AO) : Prop := rv = .tup [.agg (atC (pickD X.ds at').2.1), .int .i64 (pickD X.ds at').2.2] ∧ ∃ X', DemOk X' ∧ os = dmO X' ∧ X'.ds = (pickD X.ds at').1
theorem a9d {X : Dem} {at' : Int} {i : Nat} {e : En} {c' : Cn} {a : At} {m' : Nat → Option (List AV)} {rv : AV} {os : List AO} (hX : DemOk X) (hok : inAt at') (hi : X.l[i]? = some e) (h4 : lget at' (lcE X.l) = some e.c) (h5 : ∀ c',lset at' c' (lcE X.l) = lcE (X.l.set i { e with c := c' })) (hcl : e.c.closed = false) (hp : pickC X.ds e.c = (c',a)) (hr : RepE m' (X.l.set i { e with c := c' })) (hc : CnOk c') (h1 : rv = .tup [.agg (atC a),.int .i64 0]) (h2 : os = [.box [.int .i64 X.users,.int .i64 X.conns,.int .i64 X.asks,.mp 1,.mp 2],.map (X.l.map enK),.map (X.ss.map ssK) true,.hp m']) : PkR X at' rv os := by
  have h4' : lget at' X.ds.l = some e.c := h4
  have hS : pickD X.ds at' = ({ X.ds with l := lset at' c' (lcE X.l) }, a, 0) := by
    unfold pickD
    rw [if_pos hok, h4']
    dsimp only
    rw [hcl, if_neg (by decide), hp]
    rfl
  unfold PkR
  rw [hS, h1, h2]
  refine ⟨rfl, { X with l := X.l.set i { e with c := c' }, m := m' }, hX.set (e' := { e with c := c' }) hi rfl hr hc, ?_, ?_⟩
  · rw [a7u (e' := { e with c := c' }) hi rfl rfl]
  · rw [h5]
    rfl
theorem c6i (n : Nat) (a : At) (e : Int) : clB n (.tup [.agg (atC a), .int .i64 e]) = true := by
  obtain ⟨ak, ao, acl, au, atk, an, aw, rq⟩ := a
  match rq with
  | none => rfl
  | some (h, b) => rfl
section
variable {w0 : World} {base : Nat}
set_option maxHeartbeats 16000000 in
theorem c6r {X : Dem} {at' : Int} (hG : Tabs w0 base) (hX : DemOk X) : ACalls (EE w0 base) 13 [.op 0 0, .int .i64 at'] (dmO X) fun rv os => ∃ os1 ex, os = os1 ++ ex ∧ PkR X at' rv os1 := by
  have hg := c8b (w0 := w0) (base := base) (at' := at') hX
  have ho := c7z (w0 := w0) (base := base) (at' := at') hX
  refine a1s Tryz.func13 rfl rfl rfl (.cons (.cons .nil)) ?_
  by_cases hok : inAt at'
  · rw [decide_eq_true hok] at hg
    have hO : openD X.ds at' = (match lget at' (lcE X.l) with | none => false | some c => !c.closed) := rfl
    rcases a7l at' X.l with ⟨h1, h2, h3⟩ | ⟨i, e, h1, h2, h3, h4, h5⟩
    · rw [h2] at hO
      dsimp only at hO
      rw [hO] at ho
      have hS : pickD X.ds at' = (X.ds, at0, 0) := by
        unfold pickD
        rw [if_pos hok, show lget at' X.ds.l = none from h2]
      repeat' (first|(first|(refine a0d ?_;refine a0v [0,1,2,3] rfl rfl hg ?_ ?_ rfl rfl ?_;(focus ((repeat constructor);done));(focus ((repeat constructor);done));rintro _ _ ⟨rfl,rfl⟩;refine ⟨_,_,by repeat constructor,by repeat constructor,?_⟩)|(refine a0d ?_;refine a0v [0,1,2,3] rfl rfl ho ?_ ?_ rfl rfl ?_;(focus ((repeat constructor);done));(focus ((repeat constructor);done));rintro _ _ ⟨rfl,rfl⟩;refine ⟨_,_,by repeat constructor,by repeat constructor,?_⟩))|(refine a2k ?_;first|refine a0b (a0l rfl) rfl ?_|(refine k_g ?_;first|refine a1j rfl rfl (by with_reducible rfl) ?_|refine a1t rfl rfl (by with_reducible rfl) rfl ?_)|refine a0b (a0f rfl rfl) rfl ?_|(refine a1g ?_;first|refine a0b (a0w rfl rfl) rfl ?_|refine a0b (a0m rfl rfl rfl) rfl ?_)|(refine a1i ?_;first|refine a0b (a0j rfl (by with_reducible rfl) rfl) rfl ?_|refine a0b (a0i rfl (by with_reducible rfl) rfl) rfl ?_)|refine a0b (a0e rfl) rfl ?_|refine a0b (a0s rfl rfl) rfl ?_|refine a0u ?_|refine a0z rfl rfl rfl (by first|exact ln4|exact ln5) (by repeat constructor) rfl ?_|refine a1c rfl rfl rfl rfl rfl (by repeat constructor) (by repeat constructor) ?_|refine a0b (a1x rfl rfl rfl (by repeat constructor)) rfl ?_|refine a0b (a0y rfl (by with_reducible rfl)) rfl ?_|refine a0b (a1r rfl (by with_reducible rfl)) rfl ?_|refine a0b (a2z rfl rfl) rfl ?_)|(first|refine a1n ?_|(refine a1o ?_;first|refine a0c (a0a ?_)|refine a0c ?_|refine a0a ?_|(refine a0x ?_;first|refine a0g rfl (by with_reducible rfl) ?_|refine a0h rfl (by with_reducible rfl) ?_|(refine a2p rfl (fun hc => ?_) (fun hc => ?_) <;> (try (exact absurd hc (by decide)))))|refine a0n ?_|refine a0o ?_|refine a0k ?_)|refine a0t ?_|refine a1v ?_|refine a1b ?_))
      refine a2m (.boxLe (id := 4) (atC at0) rfl (by repeat (first | exact .nil | refine .cons .nil ?_ | refine .cons (.refl _) ?_)) rfl) ?_
      refine retc1 (by first | exact .inr rfl | exact .inl rfl) rfl rfl rfl rfl rfl ?_
      exact ⟨dmO X, _, rfl, by unfold PkR; rw [hS]; exact ⟨rfl, X, hX, rfl, rfl⟩⟩
    · rw [h4] at hO
      dsimp only at hO
      rw [hO] at ho
      have hen := hX.rep.ok i e h1
      have hm := hen.c
      have hcn := hX.cn e (List.mem_of_getElem? h1)
      have hlt := (List.getElem?_eq_some_iff.1 h1).1
      have hbp := c3r hen
      cases hcl : e.c.closed with
      | true =>
        rw [hcl] at ho
        have hS : pickD X.ds at' = (X.ds, at0, 0) := by
          unfold pickD
          rw [if_pos hok, show lget at' X.ds.l = some e.c from h4]
          dsimp only
          rw [if_pos hcl]
        repeat' (first|(first|(refine a0d ?_;refine a0v [0,1,2,3] rfl rfl hg ?_ ?_ rfl rfl ?_;(focus ((repeat constructor);done));(focus ((repeat constructor);done));rintro _ _ ⟨rfl,rfl⟩;refine ⟨_,_,by repeat constructor,by repeat constructor,?_⟩)|(refine a0d ?_;refine a0v [0,1,2,3] rfl rfl ho ?_ ?_ rfl rfl ?_;(focus ((repeat constructor);done));(focus ((repeat constructor);done));rintro _ _ ⟨rfl,rfl⟩;refine ⟨_,_,by repeat constructor,by repeat constructor,?_⟩))|(refine a2k ?_;first|refine a0b (a0l rfl) rfl ?_|(refine k_g ?_;first|refine a1j rfl rfl (by with_reducible rfl) ?_|refine a1t rfl rfl (by with_reducible rfl) rfl ?_)|refine a0b (a0f rfl rfl) rfl ?_|(refine a1g ?_;first|refine a0b (a0w rfl rfl) rfl ?_|refine a0b (a0m rfl rfl rfl) rfl ?_)|(refine a1i ?_;first|refine a0b (a0j rfl (by with_reducible rfl) rfl) rfl ?_|refine a0b (a0i rfl (by with_reducible rfl) rfl) rfl ?_)|refine a0b (a0e rfl) rfl ?_|refine a0b (a0s rfl rfl) rfl ?_|refine a0u ?_|refine a0z rfl rfl rfl (by first|exact ln4|exact ln5) (by repeat constructor) rfl ?_|refine a1c rfl rfl rfl rfl rfl (by repeat constructor) (by repeat constructor) ?_|refine a0b (a1x rfl rfl rfl (by repeat constructor)) rfl ?_|refine a0b (a0y rfl (by with_reducible rfl)) rfl ?_|refine a0b (a1r rfl (by with_reducible rfl)) rfl ?_|refine a0b (a2z rfl rfl) rfl ?_)|(first|refine a1n ?_|(refine a1o ?_;first|refine a0c (a0a ?_)|refine a0c ?_|refine a0a ?_|(refine a0x ?_;first|refine a0g rfl (by with_reducible rfl) ?_|refine a0h rfl (by with_reducible rfl) ?_|(refine a2p rfl (fun hc => ?_) (fun hc => ?_) <;> (try (exact absurd hc (by decide)))))|refine a0n ?_|refine a0o ?_|refine a0k ?_)|refine a0t ?_|refine a1v ?_|refine a1b ?_))
        refine a2m (.boxLe (id := 4) (atC at0) rfl (by repeat (first | exact .nil | refine .cons .nil ?_ | refine .cons (.refl _) ?_)) rfl) ?_
        refine retc1 (by first | exact .inr rfl | exact .inl rfl) rfl rfl rfl rfl rfl ?_
        exact ⟨dmO X, _, rfl, by unfold PkR; rw [hS]; exact ⟨rfl, X, hX, rfl, rfl⟩⟩
      | false =>
        rw [hcl] at ho
        cases ha : e.c.ans with
        | some r =>
          have hpa : paE e = .ad e.ba 0 := by
            show paO e.c.ans e.ba = _
            rw [ha]
            rfl
          have hm2 : X.m e.bc = some [.ad e.bp 0, .int .i64 e.c.user, .bool e.c.closed, .bool e.c.lost, .bool e.c.waits, .int .i64 e.c.asks, .bool e.c.ends, .ad e.ba 0] := by rw [hm, hpa]
          have hra := hen.a r ha
          have hfit := hcn.a r ha
          have hba := c7u hen ha
          obtain ⟨rst, rfs, rbody, rcl⟩ := r
          have hra2 : X.m e.ba = some [.int .i64 rst, .rs (rfs.map prAV), .str rbody, .bool rcl] := hra
          have hmU : upd X.m e.bc [.ad e.bp 0, .int .i64 e.c.user, .bool e.c.closed, .bool e.c.lost, .bool e.c.waits, .int .i64 e.c.asks, .bool e.c.ends, .nilp] e.bc = some (cnC e.bp .nilp { e.c with ans := none }) := a2r
          have hmU2 : upd X.m e.bc [.ad e.bp 0, .int .i64 e.c.user, .bool e.c.closed, .bool e.c.lost, .bool e.c.waits, .int .i64 e.c.asks, .bool e.c.ends, .nilp] e.bc = some [.ad e.bp 0, .int .i64 e.c.user, .bool e.c.closed, .bool e.c.lost, .bool e.c.waits, .int .i64 e.c.asks, .bool e.c.ends, .nilp] := a2r
          have hE := a4l (w0 := w0) (base := base) (r := ⟨rst, rfs, rbody, rcl || e.c.ends⟩) hG ⟨hfit.fs, hfit.each, hfit.body⟩ hmU
          have hP : pickC X.ds e.c = ((emitsC { e.c with ans := none } ⟨rst, rfs, rbody, rcl || e.c.ends⟩).1, (emitsC { e.c with ans := none } ⟨rst, rfs, rbody, rcl || e.c.ends⟩).2) := by
            unfold pickC
            rw [ha]
          have hfin : RepE (upd (upd X.m e.bc [.ad e.bp 0,.int .i64 e.c.user,.bool e.c.closed,.bool e.c.lost,.bool e.c.waits,.int .i64 e.c.asks,.bool e.c.ends,.nilp]) e.bc (cnC e.bp .nilp (emitsC { e.c with ans := none } ⟨rst,rfs,rbody,rcl || e.c.ends⟩).1)) (X.l.set i { e with c := (emitsC { e.c with ans := none } ⟨rst,rfs,rbody,rcl || e.c.ends⟩).1 }) := hX.rep.two h1 rfl a2r (by rw [a2d hbp,a2d hbp];exact hen.p) (fun x hx _ => by rw [a2d hx,a2d hx])
          have hok2 : CnOk (emitsC { e.c with ans := none } ⟨rst, rfs, rbody, rcl || e.c.ends⟩).1 := ⟨hcn.s, fun q hq => by cases hq⟩
          cases rcl
          all_goals
            repeat' (first|(first|(refine a0d ?_;refine a0v [0,1,2,3] rfl rfl hg ?_ ?_ rfl rfl ?_;(focus ((repeat constructor);done));(focus ((repeat constructor);done));rintro _ _ ⟨rfl,rfl⟩;refine ⟨_,_,by repeat constructor,by repeat constructor,?_⟩)|(refine a0d ?_;refine a0v [0,1,2,3] rfl rfl ho ?_ ?_ rfl rfl ?_;(focus ((repeat constructor);done));(focus ((repeat constructor);done));rintro _ _ ⟨rfl,rfl⟩;refine ⟨_,_,by repeat constructor,by repeat constructor,?_⟩)|refine a0b (a1k (n := 0) rfl rfl) rfl ?_|refine a0b (a3a rfl rfl rfl .int (a4h _) h3) rfl ?_|(refine a1a ?_;first|refine a0b (a5x rfl rfl rfl) rfl ?_)|(refine a1g ?_;refine a0b (a2i (id := 3) rfl rfl hm2 rfl) rfl ?_)|(refine a1g ?_;refine a0b (a2i (id := 3) rfl rfl hmU2 rfl) rfl ?_)|(refine a1g ?_;refine a0b (b0k (id := 3) rfl rfl hra2 rfl rfl) rfl ?_)|refine a3g (id := 3) rfl rfl rfl rfl rfl rfl rfl hm2 (by repeat constructor) (by repeat constructor) ?_|(refine a0d ?_;refine a0v [3] rfl rfl hE ?_ ?_ rfl rfl ?_;(focus ((repeat constructor);done));(focus ((repeat constructor);done));rintro _ _ ⟨rfl,rfl⟩;refine ⟨_,_,by repeat constructor,by repeat constructor,?_⟩))|(refine a2k ?_;first|refine a0b (a0l rfl) rfl ?_|(refine k_g ?_;first|refine a1j rfl rfl (by with_reducible rfl) ?_|refine a1t rfl rfl (by with_reducible rfl) rfl ?_)|refine a0b (a0f rfl rfl) rfl ?_|(refine a1g ?_;first|refine a0b (a0w rfl rfl) rfl ?_|refine a0b (a0m rfl rfl rfl) rfl ?_)|(refine a1i ?_;first|refine a0b (a0j rfl (by with_reducible rfl) rfl) rfl ?_|refine a0b (a0i rfl (by with_reducible rfl) rfl) rfl ?_)|refine a0b (a0e rfl) rfl ?_|refine a0b (a0s rfl rfl) rfl ?_|refine a0u ?_|refine a0z rfl rfl rfl (by first|exact ln4|exact ln5) (by repeat constructor) rfl ?_|refine a1c rfl rfl rfl rfl rfl (by repeat constructor) (by repeat constructor) ?_|refine a0b (a1x rfl rfl rfl (by repeat constructor)) rfl ?_|refine a0b (a0y rfl (by with_reducible rfl)) rfl ?_|refine a0b (a1r rfl (by with_reducible rfl)) rfl ?_|refine a0b (a2z rfl rfl) rfl ?_)|(first|refine a1n ?_|(refine a1o ?_;first|refine a0c (a0a ?_)|refine a0c ?_|refine a0a ?_|(refine a0x ?_;first|refine a0g rfl (by with_reducible rfl) ?_|refine a0h rfl (by with_reducible rfl) ?_|(refine a2p rfl (fun hc => ?_) (fun hc => ?_) <;> (try (exact absurd hc (by decide)))))|refine a0n ?_|refine a0o ?_|refine a0k ?_)|refine a0t ?_|refine a1v ?_|refine a1b ?_))
            refine retc1 (by first | exact .inr rfl | exact .inl rfl) rfl rfl rfl rfl rfl ?_
            exact ⟨[_, _, _, _], _, rfl, a9d hX hok h1 h4 h5 hcl hP hfin hok2 rfl rfl⟩
        | none =>
          have hpa : paE e = .nilp := by
            show paO e.c.ans e.ba = _
            rw [ha]
            rfl
          rw [hpa] at hm
          have hm2 : X.m e.bc = some [.ad e.bp 0, .int .i64 e.c.user, .bool e.c.closed, .bool e.c.lost, .bool e.c.waits, .int .i64 e.c.asks, .bool e.c.ends, .nilp] := hm
          have hP := a7h (D := X.ds) ha
          cases hw : e.c.waits with
          | true =>
            rw [if_pos hw] at hP
            have hm3 : X.m e.bc = some [.ad e.bp 0, .int .i64 e.c.user, .bool e.c.closed, .bool e.c.lost, .bool true, .int .i64 e.c.asks, .bool e.c.ends, .nilp] := by rw [hm2, hw]
            repeat' (first|(first|(refine a0d ?_;refine a0v [0,1,2,3] rfl rfl hg ?_ ?_ rfl rfl ?_;(focus ((repeat constructor);done));(focus ((repeat constructor);done));rintro _ _ ⟨rfl,rfl⟩;refine ⟨_,_,by repeat constructor,by repeat constructor,?_⟩)|(refine a0d ?_;refine a0v [0,1,2,3] rfl rfl ho ?_ ?_ rfl rfl ?_;(focus ((repeat constructor);done));(focus ((repeat constructor);done));rintro _ _ ⟨rfl,rfl⟩;refine ⟨_,_,by repeat constructor,by repeat constructor,?_⟩)|refine a0b (a1k (n := 0) rfl rfl) rfl ?_|refine a0b (a3a rfl rfl rfl .int (a4h _) h3) rfl ?_|(refine a1a ?_;first|refine a0b (a4v rfl rfl) rfl ?_)|(refine a1g ?_;refine a0b (a2i (id := 3) rfl rfl hm3 rfl) rfl ?_))|(refine a2k ?_;first|refine a0b (a0l rfl) rfl ?_|(refine k_g ?_;first|refine a1j rfl rfl (by with_reducible rfl) ?_|refine a1t rfl rfl (by with_reducible rfl) rfl ?_)|refine a0b (a0f rfl rfl) rfl ?_|(refine a1g ?_;first|refine a0b (a0w rfl rfl) rfl ?_|refine a0b (a0m rfl rfl rfl) rfl ?_)|(refine a1i ?_;first|refine a0b (a0j rfl (by with_reducible rfl) rfl) rfl ?_|refine a0b (a0i rfl (by with_reducible rfl) rfl) rfl ?_)|refine a0b (a0e rfl) rfl ?_|refine a0b (a0s rfl rfl) rfl ?_|refine a0u ?_|refine a0z rfl rfl rfl (by first|exact ln4|exact ln5) (by repeat constructor) rfl ?_|refine a1c rfl rfl rfl rfl rfl (by repeat constructor) (by repeat constructor) ?_|refine a0b (a1x rfl rfl rfl (by repeat constructor)) rfl ?_|refine a0b (a0y rfl (by with_reducible rfl)) rfl ?_|refine a0b (a1r rfl (by with_reducible rfl)) rfl ?_|refine a0b (a2z rfl rfl) rfl ?_)|(first|refine a1n ?_|(refine a1o ?_;first|refine a0c (a0a ?_)|refine a0c ?_|refine a0a ?_|(refine a0x ?_;first|refine a0g rfl (by with_reducible rfl) ?_|refine a0h rfl (by with_reducible rfl) ?_|(refine a2p rfl (fun hc => ?_) (fun hc => ?_) <;> (try (exact absurd hc (by decide)))))|refine a0n ?_|refine a0o ?_|refine a0k ?_)|refine a0t ?_|refine a1v ?_|refine a1b ?_))
            refine a2m (.boxLe (id := 4) (atC at0) rfl (by repeat (first | exact .nil | refine .cons .nil ?_ | refine .cons (.refl _) ?_)) rfl) ?_
            refine retc1 (by first | exact .inr rfl | exact .inl rfl) rfl rfl rfl rfl rfl ?_
            exact ⟨[_, _, _, _], _, rfl, a9d hX hok h1 h4 h5 hcl hP (hX.rep.two h1 ha hm hen.p (fun _ _ _ => rfl)) hcn rfl rfl⟩
          | false =>
            rw [if_neg (by rw [hw]; decide)] at hP
            cases hlo : e.c.lost with
            | true =>
              rw [if_pos hlo] at hP
              have hm3 : X.m e.bc = some [.ad e.bp 0, .int .i64 e.c.user, .bool e.c.closed, .bool true, .bool false, .int .i64 e.c.asks, .bool e.c.ends, .nilp] := by rw [hm2, hw, hlo]
              have hPl := a4p (w0 := w0) (base := base) (st := 413) (b := []) (cl := true)
              have hE := a4l (w0 := w0) (base := base) (c := e.c) hG (a4k 413 true) hm
              repeat' (first|(first|(refine a0d ?_;refine a0v [0,1,2,3] rfl rfl hg ?_ ?_ rfl rfl ?_;(focus ((repeat constructor);done));(focus ((repeat constructor);done));rintro _ _ ⟨rfl,rfl⟩;refine ⟨_,_,by repeat constructor,by repeat constructor,?_⟩)|(refine a0d ?_;refine a0v [0,1,2,3] rfl rfl ho ?_ ?_ rfl rfl ?_;(focus ((repeat constructor);done));(focus ((repeat constructor);done));rintro _ _ ⟨rfl,rfl⟩;refine ⟨_,_,by repeat constructor,by repeat constructor,?_⟩)|refine a0b (a1k (n := 0) rfl rfl) rfl ?_|refine a0b (a3a rfl rfl rfl .int (a4h _) h3) rfl ?_|(refine a1a ?_;first|refine a0b (a4v rfl rfl) rfl ?_)|(refine a1g ?_;refine a0b (a2i (id := 3) rfl rfl hm3 rfl) rfl ?_)|(refine a0d ?_;refine a0q rfl rfl rfl rfl hPl ?_;rintro _ rfl)|(refine a0d ?_;refine a0v [3] rfl rfl hE ?_ ?_ rfl rfl ?_;(focus ((repeat constructor);done));(focus ((repeat constructor);done));rintro _ _ ⟨rfl,rfl⟩;refine ⟨_,_,by repeat constructor,by repeat constructor,?_⟩))|(refine a2k ?_;first|refine a0b (a0l rfl) rfl ?_|(refine k_g ?_;first|refine a1j rfl rfl (by with_reducible rfl) ?_|refine a1t rfl rfl (by with_reducible rfl) rfl ?_)|refine a0b (a0f rfl rfl) rfl ?_|(refine a1g ?_;first|refine a0b (a0w rfl rfl) rfl ?_|refine a0b (a0m rfl rfl rfl) rfl ?_)|(refine a1i ?_;first|refine a0b (a0j rfl (by with_reducible rfl) rfl) rfl ?_|refine a0b (a0i rfl (by with_reducible rfl) rfl) rfl ?_)|refine a0b (a0e rfl) rfl ?_|refine a0b (a0s rfl rfl) rfl ?_|refine a0u ?_|refine a0z rfl rfl rfl (by first|exact ln4|exact ln5) (by repeat constructor) rfl ?_|refine a1c rfl rfl rfl rfl rfl (by repeat constructor) (by repeat constructor) ?_|refine a0b (a1x rfl rfl rfl (by repeat constructor)) rfl ?_|refine a0b (a0y rfl (by with_reducible rfl)) rfl ?_|refine a0b (a1r rfl (by with_reducible rfl)) rfl ?_|refine a0b (a2z rfl rfl) rfl ?_)|(first|refine a1n ?_|(refine a1o ?_;first|refine a0c (a0a ?_)|refine a0c ?_|refine a0a ?_|(refine a0x ?_;first|refine a0g rfl (by with_reducible rfl) ?_|refine a0h rfl (by with_reducible rfl) ?_|(refine a2p rfl (fun hc => ?_) (fun hc => ?_) <;> (try (exact absurd hc (by decide)))))|refine a0n ?_|refine a0o ?_|refine a0k ?_)|refine a0t ?_|refine a1v ?_|refine a1b ?_))
              refine retc1 (by first | exact .inr rfl | exact .inl rfl) rfl rfl rfl rfl rfl ?_
              exact ⟨[_, _, _, _], _, rfl, a9d hX hok h1 h4 h5 hcl hP (hX.rep.two h1 ha a2r (by rw [a2d hbp]; exact hen.p) (fun x hx _ => a2d hx)) ⟨hcn.s, hcn.a⟩ rfl rfl⟩
            | false =>
              rw [if_neg (by rw [hlo]; decide)] at hP
              have hm3 : X.m e.bc = some [.ad e.bp 0, .int .i64 e.c.user, .bool e.c.closed, .bool false, .bool false, .int .i64 e.c.asks, .bool e.c.ends, .nilp] := by rw [hm2, hw, hlo]
              have hN := c6s (w0 := w0) (base := base) hG.g hcn.s hen.p
              by_cases hst : e.c.st = 0
              · rw [if_neg (fun k => k hst)] at hP
                have hfa := a9k e.c.s
                have hbody := fun h b k => b7u (s := e.c.s) (h := h) (b := b) (k := k)
                have hV : nextV e.c.s e.c.st = (match nextL e.c.s with | .more => (.tup [req0, .bool false, .int .i64 0], e.c.s, 0) | .bad st => (.tup [req0, .bool false, .int .i64 st], [], st) | .got h b k => (.tup [reqAV h b, .bool true, .int .i64 0], e.c.s.drop k, 0)) := if_neg (fun k => k hst)
                cases hn : nextL e.c.s with
                | more =>
                  rw [hn] at hV hP
                  dsimp only at hV hP
                  rw [hV] at hN
                  dsimp only at hN
                  repeat' (first|(first|(refine a0d ?_;refine a0v [0,1,2,3] rfl rfl hg ?_ ?_ rfl rfl ?_;(focus ((repeat constructor);done));(focus ((repeat constructor);done));rintro _ _ ⟨rfl,rfl⟩;refine ⟨_,_,by repeat constructor,by repeat constructor,?_⟩)|(refine a0d ?_;refine a0v [0,1,2,3] rfl rfl ho ?_ ?_ rfl rfl ?_;(focus ((repeat constructor);done));(focus ((repeat constructor);done));rintro _ _ ⟨rfl,rfl⟩;refine ⟨_,_,by repeat constructor,by repeat constructor,?_⟩)|refine a0b (a1k (n := 0) rfl rfl) rfl ?_|refine a0b (a3a rfl rfl rfl .int (a4h _) h3) rfl ?_|(refine a1a ?_;first|refine a0b (a4v rfl rfl) rfl ?_|refine a0b (a1m rfl rfl rfl (by omega)) rfl ?_)|(refine a1g ?_;refine a0b (a2i (id := 3) rfl rfl hm3 rfl) rfl ?_)|(refine a0d ?_;refine a0v [3] rfl rfl hN ?_ ?_ rfl rfl ?_;(focus ((repeat constructor);done));(focus ((repeat constructor);done));rintro _ _ ⟨rfl,rfl⟩;refine ⟨_,_,by repeat constructor,by repeat constructor,?_⟩))|(refine a2k ?_;first|refine a0b (a0l rfl) rfl ?_|(refine k_g ?_;first|refine a1j rfl rfl (by with_reducible rfl) ?_|refine a1t rfl rfl (by with_reducible rfl) rfl ?_)|refine a0b (a0f rfl rfl) rfl ?_|(refine a1g ?_;first|refine a0b (a0w rfl rfl) rfl ?_|refine a0b (a0m rfl rfl rfl) rfl ?_)|(refine a1i ?_;first|refine a0b (a0j rfl (by with_reducible rfl) rfl) rfl ?_|refine a0b (a0i rfl (by with_reducible rfl) rfl) rfl ?_)|refine a0b (a0e rfl) rfl ?_|refine a0b (a0s rfl rfl) rfl ?_|refine a0u ?_|refine a0z rfl rfl rfl (by first|exact ln4|exact ln5) (by repeat constructor) rfl ?_|refine a1c rfl rfl rfl rfl rfl (by repeat constructor) (by repeat constructor) ?_|refine a0b (a1x rfl rfl rfl (by repeat constructor)) rfl ?_|refine a0b (a0y rfl (by with_reducible rfl)) rfl ?_|refine a0b (a1r rfl (by with_reducible rfl)) rfl ?_|refine a0b (a2z rfl rfl) rfl ?_)|(first|refine a1n ?_|(refine a1o ?_;first|refine a0c (a0a ?_)|refine a0c ?_|refine a0a ?_|(refine a0x ?_;first|refine a0g rfl (by with_reducible rfl) ?_|refine a0h rfl (by with_reducible rfl) ?_|(refine a2p rfl (fun hc => ?_) (fun hc => ?_) <;> (try (exact absurd hc (by decide)))))|refine a0n ?_|refine a0o ?_|refine a0k ?_)|refine a0t ?_|refine a1v ?_|refine a1b ?_))
                  refine a2m (.boxLe (id := 4) (atC at0) rfl (by repeat (first | exact .nil | refine .cons .nil ?_ | refine .cons (.refl _) ?_)) rfl) ?_
                  refine retc1 (by first | exact .inr rfl | exact .inl rfl) rfl rfl rfl rfl rfl ?_
                  exact ⟨[_, _, _, _], _, rfl, a9d hX hok h1 h4 h5 hcl hP (hX.rep.two h1 ha ((a2d (fun k => hbp k.symm)).trans hm) (by rw [a2r, hst]) (fun x _ hx => a2d hx)) hcn rfl rfl⟩
                | bad st =>
                  rw [hn] at hV hP hfa
                  dsimp only at hV hP
                  rw [hV] at hN
                  dsimp only at hN
                  have hst2 : st ≠ 0 := by
                    rcases hfa with k | k | k | k <;> omega
                  have hmN : upd X.m e.bp [.bool true, .str [], .int .i64 st] e.bc = some (cnC e.bp .nilp { e.c with s := [], st := st }) := (a2d (fun k => hbp k.symm)).trans hm
                  have hPl := a4p (w0 := w0) (base := base) (st := st) (b := []) (cl := true)
                  have hE := a4l (w0 := w0) (base := base) hG (a4k st true) hmN
                  repeat' (first|(first|(refine a0d ?_;refine a0v [0,1,2,3] rfl rfl hg ?_ ?_ rfl rfl ?_;(focus ((repeat constructor);done));(focus ((repeat constructor);done));rintro _ _ ⟨rfl,rfl⟩;refine ⟨_,_,by repeat constructor,by repeat constructor,?_⟩)|(refine a0d ?_;refine a0v [0,1,2,3] rfl rfl ho ?_ ?_ rfl rfl ?_;(focus ((repeat constructor);done));(focus ((repeat constructor);done));rintro _ _ ⟨rfl,rfl⟩;refine ⟨_,_,by repeat constructor,by repeat constructor,?_⟩)|refine a0b (a1k (n := 0) rfl rfl) rfl ?_|refine a0b (a3a rfl rfl rfl .int (a4h _) h3) rfl ?_|(refine a1a ?_;first|refine a0b (a4v rfl rfl) rfl ?_|refine a0b (a1l rfl rfl rfl (by omega)) rfl ?_)|(refine a1g ?_;refine a0b (a2i (id := 3) rfl rfl hm3 rfl) rfl ?_)|(refine a0d ?_;refine a0v [3] rfl rfl hN ?_ ?_ rfl rfl ?_;(focus ((repeat constructor);done));(focus ((repeat constructor);done));rintro _ _ ⟨rfl,rfl⟩;refine ⟨_,_,by repeat constructor,by repeat constructor,?_⟩)|(refine a0d ?_;refine a0q rfl rfl rfl rfl hPl ?_;rintro _ rfl)|(refine a0d ?_;refine a0v [3] rfl rfl hE ?_ ?_ rfl rfl ?_;(focus ((repeat constructor);done));(focus ((repeat constructor);done));rintro _ _ ⟨rfl,rfl⟩;refine ⟨_,_,by repeat constructor,by repeat constructor,?_⟩))|(refine a2k ?_;first|refine a0b (a0l rfl) rfl ?_|(refine k_g ?_;first|refine a1j rfl rfl (by with_reducible rfl) ?_|refine a1t rfl rfl (by with_reducible rfl) rfl ?_)|refine a0b (a0f rfl rfl) rfl ?_|(refine a1g ?_;first|refine a0b (a0w rfl rfl) rfl ?_|refine a0b (a0m rfl rfl rfl) rfl ?_)|(refine a1i ?_;first|refine a0b (a0j rfl (by with_reducible rfl) rfl) rfl ?_|refine a0b (a0i rfl (by with_reducible rfl) rfl) rfl ?_)|refine a0b (a0e rfl) rfl ?_|refine a0b (a0s rfl rfl) rfl ?_|refine a0u ?_|refine a0z rfl rfl rfl (by first|exact ln4|exact ln5) (by repeat constructor) rfl ?_|refine a1c rfl rfl rfl rfl rfl (by repeat constructor) (by repeat constructor) ?_|refine a0b (a1x rfl rfl rfl (by repeat constructor)) rfl ?_|refine a0b (a0y rfl (by with_reducible rfl)) rfl ?_|refine a0b (a1r rfl (by with_reducible rfl)) rfl ?_|refine a0b (a2z rfl rfl) rfl ?_)|(first|refine a1n ?_|(refine a1o ?_;first|refine a0c (a0a ?_)|refine a0c ?_|refine a0a ?_|(refine a0x ?_;first|refine a0g rfl (by with_reducible rfl) ?_|refine a0h rfl (by with_reducible rfl) ?_|(refine a2p rfl (fun hc => ?_) (fun hc => ?_) <;> (try (exact absurd hc (by decide)))))|refine a0n ?_|refine a0o ?_|refine a0k ?_)|refine a0t ?_|refine a1v ?_|refine a1b ?_))
                  refine retc1 (by first | exact .inr rfl | exact .inl rfl) rfl rfl rfl rfl rfl ?_
                  exact ⟨[_, _, _, _], _, rfl, a9d hX hok h1 h4 h5 hcl hP (hX.rep.two h1 ha a2r (by rw [a2d hbp, a2r]) (fun x hx hx' => by rw [a2d hx, a2d hx'])) ⟨Nat.zero_le _, hcn.a⟩ rfl rfl⟩
                | got h b k =>
                  rw [hn] at hV hP hfa
                  dsimp only at hV hP
                  rw [hV] at hN
                  dsimp only at hN
                  have hb := hbody h b k hn
                  have hmN : upd X.m e.bp [.bool true, .str (e.c.s.drop k), .int .i64 0] e.bc = some (cnC e.bp .nilp { e.c with s := e.c.s.drop k }) := (a2d (fun k => hbp k.symm)).trans hm
                  have hX' := hX.set (e' := { e with c := { e.c with s := e.c.s.drop k } }) (m' := upd X.m e.bp [.bool true,.str (e.c.s.drop k),.int .i64 0]) h1 rfl (hX.rep.two h1 ha hmN (by rw [a2r];show _ = some [AV.bool true,AV.str (e.c.s.drop k),AV.int .i64 e.c.st];rw [hst]) (fun x _ hx => a2d hx)) ⟨by show (e.c.s.drop k).length ≤ 65536;rw [List.length_drop];have := hcn.s;omega,hcn.a⟩
                  have hRq : ACalls (EE w0 base) 33 [.op 0 0,.ad e.bc 0,.agg (rqCs h b)] [.box [.int .i64 X.users,.int .i64 X.conns,.int .i64 X.asks,.mp 1,.mp 2],.map (X.l.map enK),.map (X.ss.map ssK) true,.hp (upd X.m e.bp [.bool true,.str (e.c.s.drop k),.int .i64 0])] fun rv os => rv = .agg (atC (requestC X.ds { e.c with s := e.c.s.drop k } h b).2) ∧ os = [.box [.int .i64 X.users,.int .i64 X.conns,.int .i64 X.asks,.mp 1,.mp 2],.map (X.l.map enK),.map (X.ss.map ssK) true,.hp (upd (upd X.m e.bp [.bool true,.str (e.c.s.drop k),.int .i64 0]) e.bc (cnC e.bp .nilp (requestC X.ds { e.c with s := e.c.s.drop k } h b).1))] := by
                    have h0 := c6q (w0 := w0) (base := base) (i := i) (e := { e with c := { e.c with s := e.c.s.drop k } }) (h := h) (b := b) hG hX' (List.getElem?_set_self hlt) hfa.1 (by omega)
                    rw [a7u (e' := { e with c := { e.c with s := e.c.s.drop k } }) h1 rfl rfl] at h0
                    refine a2w h0 ?_
                    have hcs := fun u => c6h (e := e) (c' := { e.c with s := e.c.s.drop k }) rfl rfl rfl rfl u h1
                    have e1 : requestC (Dem.ds { X with l := X.l.set i { e with c := { e.c with s := e.c.s.drop k } },m := upd X.m e.bp [.bool true,.str (e.c.s.drop k),.int .i64 0] }) { e.c with s := e.c.s.drop k } h b = requestC X.ds { e.c with s := e.c.s.drop k } h b := b1s (D := X.ds) (D' := Dem.ds { X with l := X.l.set i { e with c := { e.c with s := e.c.s.drop k } },m := upd X.m e.bp [.bool true,.str (e.c.s.drop k),.int .i64 0] }) rfl rfl rfl (fun u => (hcs u).1) (fun u => (hcs u).2) _ _ _
                    rintro rv os ⟨rfl, rfl⟩
                    refine ⟨congrArg (fun z => AV.agg (atC z.2)) e1, ?_⟩
                    refine (a7u (e' := { e with c := { e.c with s := e.c.s.drop k } }) h1 rfl rfl _).trans ?_
                    show _ = _
                    rw [← e1, ← hpa]
                  have hsm := b1r X.ds { e.c with s := e.c.s.drop k } h b
                  obtain ⟨⟨c1, a1⟩, hc1⟩ : ∃ p, p = requestC X.ds { e.c with s := e.c.s.drop k } h b := ⟨_, rfl⟩
                  rw [← hc1] at hRq hP hsm
                  obtain ⟨ak, ao, acl, au, atk, an, aw, rq⟩ := a1
                  rcases rq with _ | ⟨h', b'⟩
                  all_goals
                    repeat' (first|(first|(refine a0d ?_;refine a0v [0,1,2,3] rfl rfl hg ?_ ?_ rfl rfl ?_;(focus ((repeat constructor);done));(focus ((repeat constructor);done));rintro _ _ ⟨rfl,rfl⟩;refine ⟨_,_,by repeat constructor,by repeat constructor,?_⟩)|(refine a0d ?_;refine a0v [0,1,2,3] rfl rfl ho ?_ ?_ rfl rfl ?_;(focus ((repeat constructor);done));(focus ((repeat constructor);done));rintro _ _ ⟨rfl,rfl⟩;refine ⟨_,_,by repeat constructor,by repeat constructor,?_⟩)|refine a0b (a1k (n := 0) rfl rfl) rfl ?_|refine a0b (a3a rfl rfl rfl .int (a4h _) h3) rfl ?_|(refine a1a ?_;first|refine a0b (a4v rfl rfl) rfl ?_|refine a0b (a1m rfl rfl rfl (by omega)) rfl ?_)|(refine a1g ?_;refine a0b (a2i (id := 3) rfl rfl hm3 rfl) rfl ?_)|(refine a0d ?_;refine a0v [3] rfl rfl hN ?_ ?_ rfl rfl ?_;(focus ((repeat constructor);done));(focus ((repeat constructor);done));rintro _ _ ⟨rfl,rfl⟩;refine ⟨_,_,by repeat constructor,by repeat constructor,?_⟩)|(refine a0d ?_;refine a0v [0,1,2,3] rfl rfl hRq ?_ ?_ rfl rfl ?_;(focus ((repeat constructor);done));(focus ((repeat constructor);done));rintro _ _ ⟨rfl,rfl⟩;refine ⟨_,_,by repeat constructor,by repeat constructor,?_⟩))|(refine a2k ?_;first|refine a0b (a0l rfl) rfl ?_|(refine k_g ?_;first|refine a1j rfl rfl (by with_reducible rfl) ?_|refine a1t rfl rfl (by with_reducible rfl) rfl ?_)|refine a0b (a0f rfl rfl) rfl ?_|(refine a1g ?_;first|refine a0b (a0w rfl rfl) rfl ?_|refine a0b (a0m rfl rfl rfl) rfl ?_)|(refine a1i ?_;first|refine a0b (a0j rfl (by with_reducible rfl) rfl) rfl ?_|refine a0b (a0i rfl (by with_reducible rfl) rfl) rfl ?_)|refine a0b (a0e rfl) rfl ?_|refine a0b (a0s rfl rfl) rfl ?_|refine a0u ?_|refine a0z rfl rfl rfl (by first|exact ln4|exact ln5) (by repeat constructor) rfl ?_|refine a1c rfl rfl rfl rfl rfl (by repeat constructor) (by repeat constructor) ?_|refine a0b (a1x rfl rfl rfl (by repeat constructor)) rfl ?_|refine a0b (a0y rfl (by with_reducible rfl)) rfl ?_|refine a0b (a1r rfl (by with_reducible rfl)) rfl ?_|refine a0b (a2z rfl rfl) rfl ?_)|(first|refine a1n ?_|(refine a1o ?_;first|refine a0c (a0a ?_)|refine a0c ?_|refine a0a ?_|(refine a0x ?_;first|refine a0g rfl (by with_reducible rfl) ?_|refine a0h rfl (by with_reducible rfl) ?_|(refine a2p rfl (fun hc => ?_) (fun hc => ?_) <;> (try (exact absurd hc (by decide)))))|refine a0n ?_|refine a0o ?_|refine a0k ?_)|refine a0t ?_|refine a1v ?_|refine a1b ?_))
                    refine retc1 (by first | exact .inr rfl | exact .inl rfl) rfl rfl rfl rfl rfl ?_
                    exact ⟨[_,_,_,_],_,rfl,a9d hX hok h1 h4 h5 hcl hP (hX.rep.two h1 (hsm.2.2.trans ha) a2r (by rw [a2d hbp,a2r,hsm.1,hsm.2.1];show _ = some [AV.bool true,AV.str (e.c.s.drop k),AV.int .i64 e.c.st];rw [hst]) (fun x hx hx' => by rw [a2d hx,a2d hx'])) ⟨by rw [hsm.1];show (e.c.s.drop k).length ≤ 65536;rw [List.length_drop];have := hcn.s;omega,fun q hq => by rw [hsm.2.2] at hq;exact hcn.a q hq⟩ rfl rfl⟩
              · rw [if_pos hst] at hP
                have hV : nextV e.c.s e.c.st = (.tup [req0, .bool false, .int .i64 e.c.st], e.c.s, e.c.st) := if_pos hst
                rw [hV] at hN
                dsimp only at hN
                have hmN : upd X.m e.bp [.bool true, .str e.c.s, .int .i64 e.c.st] e.bc = some (cnC e.bp .nilp e.c) := (a2d (fun k => hbp k.symm)).trans hm
                have hPl := a4p (w0 := w0) (base := base) (st := e.c.st) (b := []) (cl := true)
                have hE := a4l (w0 := w0) (base := base) hG (a4k e.c.st true) hmN
                repeat' (first|(first|(refine a0d ?_;refine a0v [0,1,2,3] rfl rfl hg ?_ ?_ rfl rfl ?_;(focus ((repeat constructor);done));(focus ((repeat constructor);done));rintro _ _ ⟨rfl,rfl⟩;refine ⟨_,_,by repeat constructor,by repeat constructor,?_⟩)|(refine a0d ?_;refine a0v [0,1,2,3] rfl rfl ho ?_ ?_ rfl rfl ?_;(focus ((repeat constructor);done));(focus ((repeat constructor);done));rintro _ _ ⟨rfl,rfl⟩;refine ⟨_,_,by repeat constructor,by repeat constructor,?_⟩)|refine a0b (a1k (n := 0) rfl rfl) rfl ?_|refine a0b (a3a rfl rfl rfl .int (a4h _) h3) rfl ?_|(refine a1a ?_;first|refine a0b (a4v rfl rfl) rfl ?_|refine a0b (a1l rfl rfl rfl (by omega)) rfl ?_)|(refine a1g ?_;refine a0b (a2i (id := 3) rfl rfl hm3 rfl) rfl ?_)|(refine a0d ?_;refine a0v [3] rfl rfl hN ?_ ?_ rfl rfl ?_;(focus ((repeat constructor);done));(focus ((repeat constructor);done));rintro _ _ ⟨rfl,rfl⟩;refine ⟨_,_,by repeat constructor,by repeat constructor,?_⟩)|(refine a0d ?_;refine a0q rfl rfl rfl rfl hPl ?_;rintro _ rfl)|(refine a0d ?_;refine a0v [3] rfl rfl hE ?_ ?_ rfl rfl ?_;(focus ((repeat constructor);done));(focus ((repeat constructor);done));rintro _ _ ⟨rfl,rfl⟩;refine ⟨_,_,by repeat constructor,by repeat constructor,?_⟩))|(refine a2k ?_;first|refine a0b (a0l rfl) rfl ?_|(refine k_g ?_;first|refine a1j rfl rfl (by with_reducible rfl) ?_|refine a1t rfl rfl (by with_reducible rfl) rfl ?_)|refine a0b (a0f rfl rfl) rfl ?_|(refine a1g ?_;first|refine a0b (a0w rfl rfl) rfl ?_|refine a0b (a0m rfl rfl rfl) rfl ?_)|(refine a1i ?_;first|refine a0b (a0j rfl (by with_reducible rfl) rfl) rfl ?_|refine a0b (a0i rfl (by with_reducible rfl) rfl) rfl ?_)|refine a0b (a0e rfl) rfl ?_|refine a0b (a0s rfl rfl) rfl ?_|refine a0u ?_|refine a0z rfl rfl rfl (by first|exact ln4|exact ln5) (by repeat constructor) rfl ?_|refine a1c rfl rfl rfl rfl rfl (by repeat constructor) (by repeat constructor) ?_|refine a0b (a1x rfl rfl rfl (by repeat constructor)) rfl ?_|refine a0b (a0y rfl (by with_reducible rfl)) rfl ?_|refine a0b (a1r rfl (by with_reducible rfl)) rfl ?_|refine a0b (a2z rfl rfl) rfl ?_)|(first|refine a1n ?_|(refine a1o ?_;first|refine a0c (a0a ?_)|refine a0c ?_|refine a0a ?_|(refine a0x ?_;first|refine a0g rfl (by with_reducible rfl) ?_|refine a0h rfl (by with_reducible rfl) ?_|(refine a2p rfl (fun hc => ?_) (fun hc => ?_) <;> (try (exact absurd hc (by decide)))))|refine a0n ?_|refine a0o ?_|refine a0k ?_)|refine a0t ?_|refine a1v ?_|refine a1b ?_))
                refine retc1 (by first | exact .inr rfl | exact .inl rfl) rfl rfl rfl rfl rfl ?_
                exact ⟨[_, _, _, _], _, rfl, a9d hX hok h1 h4 h5 hcl hP (hX.rep.two h1 ha a2r (by rw [a2d hbp, a2r]) (fun x hx hx' => by rw [a2d hx, a2d hx'])) ⟨hcn.s, hcn.a⟩ rfl rfl⟩
  · rw [decide_eq_false hok] at hg
    have hS : pickD X.ds at' = (X.ds, at0, 1) := if_neg hok
    repeat' (first|(first|(refine a0d ?_;refine a0v [0,1,2,3] rfl rfl hg ?_ ?_ rfl rfl ?_;(focus ((repeat constructor);done));(focus ((repeat constructor);done));rintro _ _ ⟨rfl,rfl⟩;refine ⟨_,_,by repeat constructor,by repeat constructor,?_⟩))|(refine a2k ?_;first|refine a0b (a0l rfl) rfl ?_|(refine k_g ?_;first|refine a1j rfl rfl (by with_reducible rfl) ?_|refine a1t rfl rfl (by with_reducible rfl) rfl ?_)|refine a0b (a0f rfl rfl) rfl ?_|(refine a1g ?_;first|refine a0b (a0w rfl rfl) rfl ?_|refine a0b (a0m rfl rfl rfl) rfl ?_)|(refine a1i ?_;first|refine a0b (a0j rfl (by with_reducible rfl) rfl) rfl ?_|refine a0b (a0i rfl (by with_reducible rfl) rfl) rfl ?_)|refine a0b (a0e rfl) rfl ?_|refine a0b (a0s rfl rfl) rfl ?_|refine a0u ?_|refine a0z rfl rfl rfl (by first|exact ln4|exact ln5) (by repeat constructor) rfl ?_|refine a1c rfl rfl rfl rfl rfl (by repeat constructor) (by repeat constructor) ?_|refine a0b (a1x rfl rfl rfl (by repeat constructor)) rfl ?_|refine a0b (a0y rfl (by with_reducible rfl)) rfl ?_|refine a0b (a1r rfl (by with_reducible rfl)) rfl ?_|refine a0b (a2z rfl rfl) rfl ?_)|(first|refine a1n ?_|(refine a1o ?_;first|refine a0c (a0a ?_)|refine a0c ?_|refine a0a ?_|(refine a0x ?_;first|refine a0g rfl (by with_reducible rfl) ?_|refine a0h rfl (by with_reducible rfl) ?_|(refine a2p rfl (fun hc => ?_) (fun hc => ?_) <;> (try (exact absurd hc (by decide)))))|refine a0n ?_|refine a0o ?_|refine a0k ?_)|refine a0t ?_|refine a1v ?_|refine a1b ?_))
    refine a2m (.boxLe (id := 4) (atC at0) rfl (by repeat (first | exact .nil | refine .cons .nil ?_ | refine .cons (.refl _) ?_)) rfl) ?_
    refine retc1 (by first | exact .inr rfl | exact .inl rfl) rfl rfl rfl rfl rfl ?_
    exact ⟨dmO X, _, rfl, by unfold PkR; rw [hS]; exact ⟨rfl, X, hX, rfl, rfl⟩⟩
theorem c1r {X : Dem} {at' : Int} (hG : Tabs w0 base) (hX : DemOk X) : ACalls (EE w0 base) 13 [.op 0 0, .int .i64 at'] (dmO X) (PkR X at') := by
  refine a3u (c6r hG hX) ?_
  rintro rv os ⟨os1, ex, rfl, rfl, X', h1, rfl, h2⟩
  exact ⟨dmO X', ex, rfl, ⟨rfl, X', h1, rfl, h2⟩, c6i _ _ _, b7c X', Nat.le_refl _⟩
end
end Go.Proofs.YtkljmljkiodnpaaGreatDoor.L

namespace Go.Proofs.YtkljmljkiodnpaaGreatDoor.L
open Go Go.RowKit Go.Proofs
attribute [local irreducible] AL QL AWp Thn InB RetQ ACalls LoopQ HL HO HW HQ NoG JmpQ MidQ HF

abbrev zDem : AV := .rp [.int .i64 0, .int .i64 0, .int .i64 0, .nilmp, .nilmp]
section
variable {w0 : World} {base : Nat}
def AtB (a : At) : Prop := ∀ h b, a.rq = some (h, b) → RqB (rqOf h b)
end
end Go.Proofs.YtkljmljkiodnpaaGreatDoor.L
