/- Part 7 of the texts behind the theorem of this claim: Layer 18 (demux): what must come; the law DemuxNobody; What every row of layer 18 needs; Layer 18 (demux): connections of one user beside those of others, plain; Layer 18 (demux): the law DemuxAlone; What rows of layer 18 hand in: scripts; Layer 18 (demux): how many connections and requests a user h -/
import Derived.Test.YtkljmljkiodnpaaGreatDoorQg6
import Derived.Test.YtkljmljkiodnpaaGreatDoorQg5
import Derived.WalkKit
import Derived.ProofKit
import Derived.OpenShut
import Derived.SizedLaws
import Derived.HandedShaped
import Derived.Shelf.Vars
import Derived.LaidMore
import Derived.LaidSub
import Derived.Lay
import Derived.Stop.Joined
import Derived.Stop.LaidErr
import Derived.Deep.DeepHandedRow
import Derived.Lib.LaidTab
import Derived.Lib.ItoaLen
import Derived.Test.YtkljmljkiodnpaaGreatDoorQg4
import Derived.Lib.Space
import Derived.Test.YtkljmljkiodnpaaGreatDoorQg2
set_option linter.unusedVariables false
set_option linter.unusedSimpArgs false
set_option maxRecDepth 100000
namespace Go.Proofs.YtkljmljkiodnpaaGreatDoor.L
open Go Go.RowKit Go.Proofs
attribute [local irreducible] AL QL AWp Thn InB RetQ ACalls LoopQ HL HO HW HQ NoG JmpQ MidQ HF

abbrev getL : List UInt8 := [71, 69, 84, 32, 47, 32, 72, 84, 84, 80, 47, 49, 46, 49, 13, 10, 72, 111, 115, 116, 58, 32, 97, 13, 10, 67, 111, 111, 107, 105, 101, 58, 32, 115, 105, 100, 61, 116, 13, 10, 13, 10, 71, 69, 84, 32, 47, 32, 72, 84, 84, 80, 47, 49, 46, 49, 13, 10, 72, 111, 115, 116, 58, 32, 97, 13, 10, 67, 111, 111, 107, 105, 101, 58, 32, 115, 105, 100, 61, 116, 13, 10, 13, 10]
def d18 : DS := ⟨2, 1, 1, [], []⟩
def rp18 : Rp := ⟨200, [], [104, 105], false⟩
theorem b4s {α : Type} {p : α × Int} {b : Int} (h : p.2 = b) : p = (p.1, b) := by subst h; rfl
theorem c4d {α β : Type} {p : α × β × Int} {b : Int} (h : p.2.2 = b) : p = (p.1, p.2.1, b) := by subst h; rfl
def aw1 : DS := (bindD d18 [116] 1).1
def aw2 : DS := (arriveD aw1 0 getL).1
def aw3 : DS := (pickD aw2 0).1
def aw4 : DS := (answerD aw3 0 rp18).1
def aw5 : DS := (pickD aw4 0).1
theorem awf1 : (bindD d18 [116] 1).2 = 0 := by decide +kernel
theorem awf2 : (arriveD aw1 0 getL).2 = 0 := by decide +kernel
theorem awf3 : (pickD aw2 0).2.2 = 0 := by decide +kernel
theorem awf4 : (answerD aw3 0 rp18).2 = 0 := by decide +kernel
theorem awf5 : (pickD aw4 0).2.2 = 0 := by decide +kernel
theorem awf6 : userD aw5 0 = 1 := by decide +kernel
theorem awf7 : (pickD aw2 0).2.1.kind = 4 ∧ (pickD aw2 0).2.1.user = 1 ∧ (pickD aw2 0).2.1.rq.isSome = true := by decide +kernel
theorem awf8 : (pickD aw4 0).2.1.kind = 1 ∧ (pickD aw4 0).2.1.rq.isSome = false ∧ 20 < (pickD aw4 0).2.1.out.length := by decide +kernel
theorem aw18 : ∃ (D1 D2 D3 D4 D5 : DS) (a b : At), bindD d18 [116] 1 = (D1, 0) ∧ arriveD D1 0 getL = (D2, 0) ∧ pickD D2 0 = (D3, a, 0) ∧ answerD D3 0 rp18 = (D4, 0) ∧ pickD D4 0 = (D5, b, 0) ∧ userD D5 0 = 1 ∧ (a.kind = 4 ∧ a.user = 1 ∧ a.rq.isSome = true) ∧ b.kind = 1 ∧ b.rq.isSome = false ∧ 20 < b.out.length :=
  ⟨aw1, aw2, aw3, aw4, aw5, (pickD aw2 0).2.1, (pickD aw4 0).2.1, b4s awf1, b4s awf2, c4d awf3, b4s awf4, c4d awf5, awf6, awf7, awf8⟩
abbrev X18 : Dem := ⟨2, 1, 1, [], [], fun _ => none⟩
theorem c8e : DemOk X18 := ⟨by decide, by decide, by decide, ⟨(fun i e h => by cases h), (fun i j e e' h => by cases h)⟩, List.nodup_nil, (fun e h => by cases h), (fun e h => by cases h), (fun p h => by cases h)⟩
theorem c2m : RpFit rp18 := ⟨by decide, (fun p h => by cases h), by decide⟩
section
variable {w0 : World} {base : Nat}
set_option maxHeartbeats 8000000 in
theorem b9h (hG : Tabs w0 base) : PCalls (EE w0 base) 9 [] fun rv => rv = .bool true := by
  obtain ⟨D1, D2, D3, D4, D5, a, b, f1, f2, f3, f4, f5, f6, ⟨f7, f8, f9⟩, f10, f11, f12⟩ := aw18
  have hN : ACalls (EE w0 base) 8 [.int .i64 2, .int .i64 1, .int .i64 1] [] fun rv os => rv = .tup [.op 2 0, .int .i64 0] ∧ os = [.map [], .map [] true, .box [.int .i64 2, .int .i64 1, .int .i64 1, .mp 0, .mp 1]] := a2w (c1t (w0 := w0) (base := base) (u := 2) (c := 1) (a := 1)) fun rv os h => by rwa [if_pos (by decide)] at h
  have hB : ACalls (EE w0 base) 15 [.op 0 0, .str [116], .int .i64 1] [.box [.int .i64 2, .int .i64 1, .int .i64 1, .mp 1, .mp 2], .map [], .map [] true, .hp fun _ => none] fun rv os => rv = .int .i64 0 ∧ ∃ X', DemOk X' ∧ os = dmO X' ∧ X'.ds = D1 := by
    refine a2w (c4w (w0 := w0) (base := base) (X := X18) (t := [116]) (u := 1) c8e) ?_
    intro rv os h
    have h0 : DmR (bindD d18 [116] 1) rv os := h
    rw [f1] at h0
    exact h0
  have hA : ∀ X, DemOk X → X.ds = D1 → ACalls (EE w0 base) 10 [.op 0 0, .int .i64 0, .str getL] (dmO X) fun rv os => rv = .int .i64 0 ∧ ∃ X', DemOk X' ∧ os = dmO X' ∧ X'.ds = D2 := by
    intro X hX hd
    have h0 := b7d (w0 := w0) (base := base) (at' := 0) (t := getL) hX (by decide)
    rw [hd, f2] at h0
    exact h0
  have hP1 : ∀ X, DemOk X → X.ds = D2 → ACalls (EE w0 base) 13 [.op 0 0, .int .i64 0] (dmO X) fun rv os => rv = .tup [.agg (atC a), .int .i64 0] ∧ ∃ X', DemOk X' ∧ os = dmO X' ∧ X'.ds = D3 := by
    intro X hX hd
    have h0 := c1r (w0 := w0) (base := base) (at' := 0) hG hX
    unfold PkR at h0
    rw [hd, f3] at h0
    exact h0
  have hW : ∀ X, DemOk X → X.ds = D3 → ACalls (EE w0 base) 16 [.op 0 0, .int .i64 0, .agg (rpC rp18)] (dmO X) fun rv os => rv = .int .i64 0 ∧ ∃ X', DemOk X' ∧ os = dmO X' ∧ X'.ds = D4 := by
    intro X hX hd
    have h0 := b7e (w0 := w0) (base := base) (at' := 0) (r := rp18) hX c2m (by decide)
    rw [hd, f4] at h0
    exact h0
  have hP2 : ∀ X, DemOk X → X.ds = D4 → ACalls (EE w0 base) 13 [.op 0 0, .int .i64 0] (dmO X) fun rv os => rv = .tup [.agg (atC b), .int .i64 0] ∧ ∃ X', DemOk X' ∧ os = dmO X' ∧ X'.ds = D5 := by
    intro X hX hd
    have h0 := c1r (w0 := w0) (base := base) (at' := 0) hG hX
    unfold PkR at h0
    rw [hd, f5] at h0
    exact h0
  have hU : ∀ X, DemOk X → X.ds = D5 → ACalls (EE w0 base) 19 [.op 0 0, .int .i64 0] (dmO X) fun rv os => rv = .int .i64 1 ∧ os = dmO X := by
    intro X hX hd
    have h0 := c7y (w0 := w0) (base := base) (at' := 0) hX
    rw [hd, f6] at h0
    exact h0
  obtain ⟨ak, ao, acl, au, atk, an, aw, rq⟩ := a
  obtain ⟨bk, bo, bcl, bu, btk, bn, bw, rq'⟩ := b
  dsimp only at f7 f8 f9 f10 f11 f12
  subst f7 f8 f10
  cases rq with
  | none => cases f9
  | some q =>
    obtain ⟨h, bd⟩ := q
    cases rq' with
    | some q' => cases f11
    | none =>
      refine a1s Tryz.func9 rfl rfl rfl .nil ?_
      repeat' (first|(first|(refine a0d ?_;refine a0v [] rfl rfl hN ?_ ?_ rfl rfl ?_;(focus ((repeat constructor);done));(focus ((repeat constructor);done));rintro _ _ ⟨rfl,rfl⟩;refine ⟨_,_,by repeat constructor,by repeat constructor,?_⟩;refine a4j (.hp0 (by repeat constructor)) ?_)|(refine a0d ?_;refine a0v [2,0,1,3] rfl rfl hB ?_ ?_ rfl rfl ?_;(focus ((repeat constructor);done));(focus ((repeat constructor);done));rintro _ _ ⟨rfl,X1,hX1,rfl,hd1⟩;refine ⟨_,_,by repeat constructor,by repeat constructor,?_⟩)|(refine a0d ?_;refine a0v [2,0,1,3] rfl rfl (hA X1 hX1 hd1) ?_ ?_ rfl rfl ?_;(focus ((repeat constructor);done));(focus ((repeat constructor);done));rintro _ _ ⟨rfl,X2,hX2,rfl,hd2⟩;refine ⟨_,_,by repeat constructor,by repeat constructor,?_⟩)|(refine a0d ?_;refine a0v [2,0,1,3] rfl rfl (hP1 X2 hX2 hd2) ?_ ?_ rfl rfl ?_;(focus ((repeat constructor);done));(focus ((repeat constructor);done));rintro _ _ ⟨rfl,X3,hX3,rfl,hd3⟩;refine ⟨_,_,by repeat constructor,by repeat constructor,?_⟩)|(refine a0d ?_;refine a4j (.le 30 (.agg (rpC rp18)) rfl (.agg (by repeat (first|exact .nil|refine .cons .nil ?_|refine .cons (.refl _) ?_)))) ?_;refine a0v [2,0,1,3] rfl rfl (hW X3 hX3 hd3) ?_ ?_ rfl rfl ?_;(focus ((repeat constructor);done));(focus ((repeat constructor);done));rintro _ _ ⟨rfl,X4,hX4,rfl,hd4⟩;refine ⟨_,_,by repeat constructor,by repeat constructor,?_⟩)|(refine a0d ?_;refine a0v [2,0,1,3] rfl rfl (hP2 X4 hX4 hd4) ?_ ?_ rfl rfl ?_;(focus ((repeat constructor);done));(focus ((repeat constructor);done));rintro _ _ ⟨rfl,X5,hX5,rfl,hd5⟩;refine ⟨_,_,by repeat constructor,by repeat constructor,?_⟩)|(refine a0d ?_;refine a0v [2,0,1,3] rfl rfl (hU X5 hX5 hd5) ?_ ?_ rfl rfl ?_;(focus ((repeat constructor);done));(focus ((repeat constructor);done));rintro _ _ ⟨rfl,rfl⟩;refine ⟨_,_,by repeat constructor,by repeat constructor,?_⟩)|(refine a1a ?_;first|refine a0b (a1l rfl rfl rfl (by omega)) rfl ?_|refine a0b (a1m rfl rfl rfl (by omega)) rfl ?_|refine a0b (a2y rfl rfl rfl) rfl ?_))|(refine a2k ?_;first|refine a0b (a0l rfl) rfl ?_|(refine k_g ?_;first|refine a1j rfl rfl (by with_reducible rfl) ?_|refine a1w rfl rfl (by with_reducible rfl) rfl ?_|(refine a1z rfl rfl (fun hc => ?_) (fun hc => ?_) <;> (try (exfalso;omega))))|refine a0b (a0f rfl rfl) rfl ?_|(refine a1g ?_;first|refine a0b (a0w rfl rfl) rfl ?_)|(refine a1a ?_;first|refine a0b (a1h rfl rfl rfl) rfl ?_)|(refine a1i ?_;first|refine a0b (a0j rfl (by with_reducible rfl) rfl) rfl ?_|refine a0b (a0i rfl (by with_reducible rfl) rfl) rfl ?_)|refine a0b (a0e rfl) rfl ?_|(refine a0d ?_;first|refine a0b (a0p rfl) rfl ?_)|refine a0b (a0s rfl rfl) rfl ?_|refine a0u ?_|refine a0z rfl rfl rfl (by first|exact ln4|exact ln5) (by repeat constructor) rfl ?_|refine a1c rfl rfl rfl rfl rfl (by repeat constructor) (by repeat constructor) ?_|refine a0b (a1x rfl rfl rfl (by repeat constructor)) rfl ?_)|(first|refine a1n ?_|(refine a1o ?_;first|refine a0c (a0a ?_)|refine a0c ?_|refine a0a ?_|(refine a0x ?_;first|refine a0h rfl (by with_reducible rfl) ?_)|refine a0o ?_|refine a0k ?_)))
      all_goals first
        | (refine ret1 (by first | exact .inr rfl | exact .inl rfl) rfl rfl ?_
           exact ⟨rfl, rfl⟩)
        | (exfalso; first | exact absurd rfl hc | (dsimp only at hc; omega))
abbrev at0C : List AV := [.int .i64 0, .str [], .bool false, .int .i64 0, .str [], .str [], .str [], .str [], .str [], .int .i64 0, .rs [], .str [], .rs [], .str [], .bool false]
abbrev rpZ : Rp := ⟨0, [], [], false⟩
end
end Go.Proofs.YtkljmljkiodnpaaGreatDoor.L

namespace Go.Proofs.YtkljmljkiodnpaaGreatDoor.L
open Go Go.RowKit Go.Proofs Go.ChangeShapes Go.WideShapes Go.ChangeAt
attribute [local irreducible] AL QL AWp Thn InB RetQ ACalls LoopQ
theorem rowOwn : ownKnob Tryz.prog.godebug = none := by kernel_rfl
theorem rowLaid : laidOutB Tryz.prog = true := by kernel_rfl
theorem c6d {W : World} (h : W.ShapedOpen Tryz.prog) : Glob W W.heap.size := by
  obtain ⟨m, hm⟩ := cell_of_shapedOpen_int (P := Tryz.prog) (g := 0) (t := 3) (zero := #[.int .i64 0]) (k := .i64) h (of_decide_eq_true (by kernel_rfl)) (by kernel_rfl) (by kernel_rfl) (by kernel_rfl) (by kernel_rfl) (by kernel_rfl)
  refine ⟨?_, m, hm⟩
  by_cases h0 : 0 < W.heap.size
  · exact h0
  · exfalso
    have : W.heap[0]? = none := by rw [Array.getElem?_eq_none_iff]; omega
    simp [World.cell?, this] at hm
theorem gES : Tryz.prog.globalNamed "strconv.ErrSyntax" = some 1 := by kernel_rfl
theorem gER : Tryz.prog.globalNamed "strconv.ErrRange" = some 2 := by kernel_rfl
theorem gPow : Tryz.prog.globalNamed "internal/strconv.uint64pow10" = some 3 := by kernel_rfl
theorem gESType : (Tryz.prog.globals[1]?).map (·.type) = some 130 := by kernel_rfl
theorem gERType : (Tryz.prog.globals[2]?).map (·.type) = some 130 := by kernel_rfl
theorem starErr : "*" ++ "errors.errorString" = "*errors.errorString" := by decide
theorem rowErr (u : TypeId) (h : Tryz.prog.typeName? 3 u = some "*errors.errorString") : u = 223 :=
  typeName_ptr_named (nm := "errors.errorString") (by rw [starErr]; kernel_rfl) (by kernel_rfl) (by decide) u (by rw [starErr]; exact h)
abbrev powL : List (String × DataW Unit) := [("internal/strconv.uint64pow10", Lib.tabData .u64 Lib.pow10Tab)]
abbrev esL : List (String × DataW Unit) := [("strconv.ErrSyntax", .iface "*errors.errorString" (.ptr (.agg [.lit (.string [105, 110, 118, 97, 108, 105, 100, 32, 115, 121, 110, 116, 97, 120])])))]
abbrev erL : List (String × DataW Unit) := [("strconv.ErrRange", .iface "*errors.errorString" (.ptr (.agg [.lit (.string [118, 97, 108, 117, 101, 32, 111, 117, 116, 32, 111, 102, 32, 114, 97, 110, 103, 101])])))]
theorem c4z {W : World} {l : List (String × DataW Unit)} (h : W.ShapedOpen Tryz.prog) (hL : laidMet Tryz.prog l W) (h1 : l.filter (fun x => x.1 == "internal/strconv.uint64pow10") = powL) (h2 : l.filter (fun x => x.1 == "strconv.ErrSyntax") = esL) (h3 : l.filter (fun x => x.1 == "strconv.ErrRange") = erL) : Tabs W W.heap.size := by
  have f1 := hL.filter (fun x => x.1 == "internal/strconv.uint64pow10")
  have f2 := hL.filter (fun x => x.1 == "strconv.ErrSyntax")
  have f3 := hL.filter (fun x => x.1 == "strconv.ErrRange")
  rw [h1] at f1
  rw [h2] at f2
  rw [h3] at f3
  obtain ⟨a0, s0, hv0, -, -, -⟩ := laid_sentinel f2 gES gESType Tryz.underlying130 rowErr Tryz.underlying223 Tryz.underlying225 rfl rfl Tryz.underlying9 (by kernel_rfl) (by kernel_rfl)
  obtain ⟨a1, s1, hv1, -, -, -⟩ := laid_sentinel f3 gER gERType Tryz.underlying130 rowErr Tryz.underlying223 Tryz.underlying225 rfl rfl Tryz.underlying9 (by kernel_rfl) (by kernel_rfl)
  have c0 : W.cell? ⟨1, 0, none⟩ = some (.iface 223 (.pointer (some a0))) := by have h0 := World.var?_cell gES hv0 0; simpa using h0
  have c1 : W.cell? ⟨2, 0, none⟩ = some (.iface 223 (.pointer (some a1))) := by have h0 := World.var?_cell gER hv1 0; simpa using h0
  have hT : Lib.TabIs Tryz.prog W "internal/strconv.uint64pow10" .u64 Lib.pow10Tab := Lib.tabIs_of_head (g := (Tryz.prog.globalNamed "internal/strconv.uint64pow10").getD 0) (t := ((Tryz.prog.globals[(Tryz.prog.globalNamed "internal/strconv.uint64pow10").getD 0]?).map (·.type)).getD 0) (e := 207) (n := 20) (by kernel_rfl) (by kernel_rfl) (by kernel_rfl) (by kernel_rfl) (by kernel_rfl) (by kernel_rfl) f1
  have c2 := hT.cell gPow 0 (by decide)
  refine ⟨c6d h, ?_, ⟨_, _, c0⟩, ⟨_, _, c1⟩, hT⟩
  by_cases h0 : 4 ≤ W.heap.size
  · exact h0
  · exfalso
    have : W.heap[3]? = none := by rw [Array.getElem?_eq_none_iff]; omega
    simp [World.cell?, this] at c2
end Go.Proofs.YtkljmljkiodnpaaGreatDoor.L

namespace Go.Proofs.YtkljmljkiodnpaaGreatDoor.L
open Go Go.RowKit Go.Proofs

theorem a5l (j k : Int) (c : Cn) : ∀ (l : List (Int × Cn)), lget j (lset k c l) = if j = k then some c else lget j l := by
  intro l
  induction l with
  | nil =>
    rfl
  | cons p l ih =>
    rw [lset]
    by_cases h : k = p.1
    · rw [if_pos h, lget, lget]
      by_cases h2 : j = p.1
      · rw [if_pos h2, if_pos (h2.trans h.symm)]
      · rw [if_neg h2, if_neg (fun e => h2 (e.trans h)), if_neg h2]
    · rw [if_neg h, lget, lget, ih]
      by_cases h2 : j = p.1
      · rw [if_pos h2, if_pos h2, if_neg (fun e => h (e.symm.trans h2))]
      · rw [if_neg h2, if_neg h2]
theorem b1y {k : Int} {c : Cn} {p : Int × Cn} : ∀ {l : List (Int × Cn)}, p ∈ lset k c l → p ∈ l ∨ p = (k, c) := by
  intro l
  induction l with
  | nil => intro h; rw [lset] at h; exact .inr (List.mem_singleton.1 h)
  | cons q l ih =>
    intro h
    rw [lset] at h
    split at h
    · rename_i e
      rcases List.mem_cons.1 h with rfl | h
      · exact .inr (by rw [e])
      · exact .inl (List.mem_cons_of_mem _ h)
    · rcases List.mem_cons.1 h with rfl | h
      · exact .inl List.mem_cons_self
      · rcases ih h with h | h
        · exact .inl (List.mem_cons_of_mem _ h)
        · exact .inr h
theorem b2a {k : Int} {c : Cn} : ∀ {l : List (Int × Cn)}, lget k l = some c → (k, c) ∈ l := by
  intro l
  induction l with
  | nil => intro h; cases h
  | cons p l ih =>
    intro h
    rw [lget] at h
    split at h
    · rename_i e
      injection h with h
      rw [e, ← h]
      exact List.mem_cons_self
    · exact List.mem_cons_of_mem _ (ih h)
def ss2 : List (List UInt8 × Int) := [([116], 0), ([117], 1)]
structure Fix (D : DS) : Prop where
  users : D.users = 2
  conns : D.conns = 4
  asks : D.asks = 4
  ss : D.ss = ss2
  keys : ∀ p ∈ D.l, 0 ≤ p.1 ∧ p.1 < 4
  nd : (D.l.map (·.1)).Nodup
def D20 : DS := ⟨2, 4, 4, [], ss2⟩
theorem Fix.len {D : DS} (h : Fix D) : D.l.length ≤ 4 := by
  have := a9j 4 (D.l.map (·.1)) h.nd (fun x hx => by
    obtain ⟨p, hp, rfl⟩ := List.mem_map.1 hx
    exact h.keys p hp)
  rwa [List.length_map] at this
def One (A A' : DS) (k : Int) : Prop := A' = A ∨ ∃ c, A' = { A with l := lset k c A.l }
def Both (A A' B B' : DS) (k : Int) : Prop := (A' = A ∧ B' = B) ∨ ∃ c, A' = { A with l := lset k c A.l } ∧ B' = { B with l := lset k c B.l }
theorem c0i (k : Int) (c : Cn) : ∀ (l : List (Int × Cn)), (lset k c l).map (·.1) = l.map (·.1) ∨ (k ∉ l.map (·.1) ∧ (lset k c l).map (·.1) = l.map (·.1) ++ [k]) := by
  intro l
  induction l with
  | nil => exact .inr ⟨by simp, rfl⟩
  | cons p l ih =>
    rw [lset]
    by_cases h : k = p.1
    · rw [if_pos h]
      exact .inl rfl
    · rw [if_neg h]
      rcases ih with ih | ⟨i1, i2⟩
      · left
        rw [List.map_cons, List.map_cons, ih]
      · right
        refine ⟨?_, ?_⟩
        · rw [List.map_cons, List.mem_cons]
          rintro (e | e)
          · exact h e
          · exact i1 e
        · rw [List.map_cons, List.map_cons, i2]
          rfl
theorem Fix.lset {D : DS} {k : Int} {c : Cn} (h : Fix D) (hk : 0 ≤ k ∧ k < 4) : Fix { D with l := lset k c D.l } := by
  refine ⟨h.users, h.conns, h.asks, h.ss, fun p hp => ?_, ?_⟩
  · rcases b1y hp with hp | rfl
    · exact h.keys p hp
    · exact hk
  · show ((L.lset k c D.l).map (·.1)).Nodup
    rcases c0i k c D.l with e | ⟨e1, e2⟩
    · rw [e]; exact h.nd
    · rw [e2, List.nodup_append]
      refine ⟨h.nd, by simp, fun a ha b hb => ?_⟩
      rw [List.mem_singleton.1 hb]
      exact fun e => e1 (e ▸ ha)
theorem Fix.one {A A' : DS} {k : Int} (h : Fix A) (hk : 0 ≤ k ∧ k < 4) (ho : One A A' k) : Fix A' := by
  rcases ho with rfl | ⟨c, rfl⟩
  · exact h
  · exact h.lset hk
structure Alike (A B : DS) : Prop where
  a : Fix A
  b : Fix B
  zero : lget 0 A.l = lget 0 B.l
  one : lget 1 A.l = lget 1 B.l
theorem Alike.at {A B : DS} (h : Alike A B) {k : Int} (h0 : 0 ≤ k) (h1 : k ≤ 1) : lget k A.l = lget k B.l := by
  have : k = 0 ∨ k = 1 := by omega
  rcases this with rfl | rfl
  · exact h.zero
  · exact h.one
theorem Alike.left {A A' B : DS} {k : Int} (h : Alike A B) (h1 : 1 < k) (h3 : k ≤ 3) (ho : One A A' k) : Alike A' B := by
  refine ⟨h.a.one ⟨by omega, by omega⟩ ho, h.b, ?_, ?_⟩
  · rcases ho with rfl | ⟨c, rfl⟩
    · exact h.zero
    · show lget 0 (lset k c A.l) = _
      rw [a5l, if_neg (by omega)]
      exact h.zero
  · rcases ho with rfl | ⟨c, rfl⟩
    · exact h.one
    · show lget 1 (lset k c A.l) = _
      rw [a5l, if_neg (by omega)]
      exact h.one
theorem Alike.both {A A' B B' : DS} {k : Int} (h : Alike A B) (h0 : 0 ≤ k) (h1 : k ≤ 1) (ho : Both A A' B B' k) : Alike A' B' := by
  rcases ho with ⟨rfl, rfl⟩ | ⟨c, rfl, rfl⟩
  · exact h
  · refine ⟨h.a.lset ⟨h0, by omega⟩, h.b.lset ⟨h0, by omega⟩, ?_, ?_⟩
    · show lget 0 (lset k c A.l) = lget 0 (lset k c B.l)
      rw [a5l, a5l, h.zero]
    · show lget 1 (lset k c A.l) = lget 1 (lset k c B.l)
      rw [a5l, a5l, h.one]
theorem Alike.user {A B : DS} (h : Alike A B) {k : Int} (h0 : 0 ≤ k) (h1 : k ≤ 1) : userD A k = userD B k := by
  unfold userD
  rw [h.at h0 h1]
end Go.Proofs.YtkljmljkiodnpaaGreatDoor.L

namespace Go.Proofs.YtkljmljkiodnpaaGreatDoor.L
open Go Go.RowKit Go.Proofs
attribute [local irreducible] AL QL AWp Thn InB RetQ ACalls LoopQ HL HO HW HQ NoG JmpQ MidQ HF

structure Op18 where
  kd : Int
  at' : Int
  us : Int
  tx : List UInt8
  r : Rp
abbrev opC (o : Op18) : List AV := [.int .i64 o.kd, .int .i64 o.at', .int .i64 o.us, .str o.tx, .int .i64 o.r.st, .rs (o.r.fs.map prAV), .str o.r.body, .bool o.r.cl]
structure OpFit (o : Op18) : Prop where
  tx : o.tx.length ≤ 140737488351232
  r : RpFit o.r
  fs : o.r.fs.length * 32 ≤ 140737488355328
abbrev sidT : List UInt8 := [115, 105, 100, 61, 116]
abbrev sidU : List UInt8 := [115, 105, 100, 61, 117]
theorem ln8 {α : Type} {a b c d e f g h : α} : [a, b, c, d, e, f, g, h].length = 8 := rfl
theorem ln9 {α : Type} {a b c d e f g h i : α} : [a, b, c, d, e, f, g, h, i].length = 9 := rfl
theorem ln10 {α : Type} {a b c d e f g h i j : α} : [a, b, c, d, e, f, g, h, i, j].length = 10 := rfl
section
variable {w0 : World} {base : Nat}
end
end Go.Proofs.YtkljmljkiodnpaaGreatDoor.L

namespace Go.Proofs.YtkljmljkiodnpaaGreatDoor.L
open Go Go.RowKit Go.Proofs Go.ChangeShapes Go.WideShapes Go.ChangeAt
attribute [local irreducible] AL QL AWp Thn InB RetQ ACalls LoopQ
theorem b7t {xs : List AV} (h : OKL [.str, .str] xs) : ∃ p : List UInt8 × List UInt8, xs = prAV p := by
  cases h with
  | cons h1 h2 => cases h2 with
    | cons h2 h3 => cases h3; cases h1 with
      | str a _ => cases h2 with
        | str b _ => exact ⟨(a, b), rfl⟩
theorem b4x : ∀ {rows : List (List AV)}, OKR [.str, .str] rows → ∃ fs : Fs, rows = fs.map prAV := by
  intro rows
  induction rows with
  | nil => intro _; exact ⟨[], rfl⟩
  | cons r rows ih =>
    intro h
    cases h with
    | cons h1 h2 =>
      obtain ⟨p, rfl⟩ := b7t h1
      obtain ⟨fs, rfl⟩ := ih h2
      exact ⟨p :: fs, rfl⟩
theorem b2w (fs : Fs) : fs.length ≤ rowsB (fs.map prAV) ∧ ∀ p ∈ fs, p.1.length ≤ rowsB (fs.map prAV) ∧ p.2.length ≤ rowsB (fs.map prAV) := by
  induction fs with
  | nil => exact ⟨Nat.zero_le _, fun p h => by cases h⟩
  | cons q fs ih =>
    rw [List.map_cons, rowsB, List.length_cons]
    have e : cellsB (prAV q) = (q.1.length + 1) + ((q.2.length + 1) + 0) := rfl
    rw [e]
    refine ⟨by omega, fun p hp => ?_⟩
    rcases List.mem_cons.1 hp with rfl | hp
    · omega
    · have := ih.2 p hp; omega
theorem c0b : ∀ {rows : List (List AV)}, OKR [.int .i64, .int .i64, .int .i64, .str, .int .i64, .sl [.str, .str], .str, .bool] rows → ∃ l : List Op18, rows = l.map opC := by
  intro rows
  induction rows with
  | nil => intro _; exact ⟨[], rfl⟩
  | cons r rows ih =>
    intro h
    cases h with
    | cons h1 h2 =>
      obtain ⟨l, rfl⟩ := ih h2
      cases h1 with | cons a1 h1 => cases h1 with | cons a2 h1 => cases h1 with | cons a3 h1 => cases h1 with | cons a4 h1 => cases h1 with | cons a5 h1 => cases h1 with | cons a6 h1 => cases h1 with | cons a7 h1 => cases h1 with | cons a8 h1 =>
        cases h1
        cases a1 with | int _ kd _ => cases a2 with | int _ at' _ => cases a3 with | int _ us _ => cases a4 with | str tx _ => cases a5 with | int _ st _ => cases a6 with | sl _ fr _ _ hr => cases a7 with | str b _ => cases a8 with | bool c =>
          obtain ⟨fs, rfl⟩ := b4x hr
          exact ⟨⟨kd, at', us, tx, ⟨st, fs, b, c⟩⟩ :: l, rfl⟩
theorem b2e (o : Op18) : cellsB (opC o) = 1 + (1 + (1 + ((o.tx.length + 1) + (1 + ((rowsB (o.r.fs.map prAV) + 1) + ((o.r.body.length + 1) + (1 + 0))))))) := rfl
theorem b6q {o : Op18} (h : cellsB (opC o) ≤ 2097152) : OpFit o := by
  rw [b2e] at h
  obtain ⟨h1, h2⟩ := b2w o.r.fs
  exact ⟨by omega, ⟨by omega, fun p hp => by have := h2 p hp; omega, by omega⟩, by omega⟩
theorem c5t : ∀ {l : List Op18}, rowsB (l.map opC) ≤ 2097152 → l.length ≤ rowsB (l.map opC) ∧ ∀ o ∈ l, OpFit o := by
  intro l
  induction l with
  | nil => intro _; exact ⟨Nat.zero_le _, fun r h => by cases h⟩
  | cons q l ih =>
    intro h
    rw [List.map_cons, rowsB] at h
    obtain ⟨i1, i2⟩ := ih (by omega)
    refine ⟨?_, fun r hr => ?_⟩
    · rw [List.map_cons, rowsB, List.length_cons, b2e]
      omega
    · rcases List.mem_cons.1 hr with rfl | hr
      · exact b6q (by omega)
      · exact i2 r hr
end Go.Proofs.YtkljmljkiodnpaaGreatDoor.L

namespace Go.Proofs.YtkljmljkiodnpaaGreatDoor.L
open Go Go.RowKit Go.Proofs

structure CnM (c : Cn) : Prop where
  st : c.st = 0 ∨ c.st = 400 ∨ c.st = 413 ∨ c.st = 431 ∨ c.st = 505
  ans : ∀ r, c.ans = some r → c.waits = false ∧ r.st ≠ 503 ∧ ∀ cl, (emitT { r with cl := cl }).length ≤ 1073741824
theorem c1e (P : Int × Cn → Bool) (k : Int) (c' : Cn) (l : List (Int × Cn)) (h : lget k l = none) : ((lset k c' l).filter P).length = (l.filter P).length + (if P (k, c') = true then 1 else 0) := by
  rw [b6s h, List.filter_append, List.length_append, List.filter_cons]
  split <;> rfl
theorem c1d (P : Int × Cn → Bool) (k : Int) (c c' : Cn) : ∀ (l : List (Int × Cn)), lget k l = some c → ((lset k c' l).filter P).length + (if P (k, c) = true then 1 else 0) = (l.filter P).length + (if P (k, c') = true then 1 else 0) := by
  intro l
  induction l with
  | nil => intro h; cases h
  | cons p l ih =>
    intro h
    rw [lget] at h
    rw [lset]
    by_cases e : k = p.1
    · rw [if_pos e] at h
      injection h with h
      rw [if_pos e, List.filter_cons, List.filter_cons, ← e]
      have hp : p = (k, c) := by rw [e, ← h]
      rw [hp]
      split <;> split <;> simp only [List.length_cons] <;> omega
    · rw [if_neg e] at h
      have := ih h
      rw [if_neg e, List.filter_cons, List.filter_cons]
      split
      · rw [List.length_cons, List.length_cons]; omega
      · exact this
abbrev pCo (u : Int) : Int × Cn → Bool := fun e => !e.2.closed && decide (e.2.user = u)
abbrev pAs (u : Int) : Int × Cn → Bool := fun e => e.2.waits && decide (e.2.asks = u)
structure Met (D : DS) : Prop where
  ss : ∀ p ∈ D.ss, 0 ≤ p.2 ∧ p.2 < D.users
  cn : ∀ p ∈ D.l, CnM p.2
  c : ∀ u, 0 ≤ u → ((cntC D.l u : Nat) : Int) ≤ D.conns
  a : ∀ u, 0 ≤ u → ((cntA D.l u : Nat) : Int) ≤ D.asks
def Full (D : DS) : Prop := ∃ u, (0 ≤ u ∧ u < D.users) ∧ (D.conns ≤ ((cntC D.l u : Nat) : Int) ∨ D.asks ≤ ((cntA D.l u : Nat) : Int))
theorem Met.old {D : DS} {k : Int} {c c' : Cn} (h : Met D) (hk : lget k D.l = some c) (h1 : CnM c')
    (hC : ∀ u, 0 ≤ u → pCo u (k, c') = true → pCo u (k, c) = true ∨ ((cntC D.l u : Nat) : Int) < D.conns)
    (hA : ∀ u, 0 ≤ u → pAs u (k, c') = true → pAs u (k, c) = true ∨ ((cntA D.l u : Nat) : Int) < D.asks) : Met { D with l := lset k c' D.l } := by
  refine ⟨h.ss, fun p hp => ?_, fun u hu => ?_, fun u hu => ?_⟩
  · rcases b1y hp with hp | rfl
    · exact h.cn p hp
    · exact h1
  · have h2 := c1d (pCo u) k c c' D.l hk
    have h3 := h.c u hu
    have h4 := hC u hu
    show (((lset k c' D.l).filter (pCo u)).length : Int) ≤ D.conns
    have e : cntC D.l u = (D.l.filter (pCo u)).length := rfl
    rw [e] at h3 h4
    by_cases hp : pCo u (k, c') = true
    · rw [if_pos hp] at h2
      rcases h4 hp with h5 | h5
      · rw [if_pos h5] at h2; omega
      · split at h2 <;> omega
    · rw [if_neg hp] at h2
      split at h2 <;> omega
  · have h2 := c1d (pAs u) k c c' D.l hk
    have h3 := h.a u hu
    have h4 := hA u hu
    show (((lset k c' D.l).filter (pAs u)).length : Int) ≤ D.asks
    have e : cntA D.l u = (D.l.filter (pAs u)).length := rfl
    rw [e] at h3 h4
    by_cases hp : pAs u (k, c') = true
    · rw [if_pos hp] at h2
      rcases h4 hp with h5 | h5
      · rw [if_pos h5] at h2; omega
      · split at h2 <;> omega
    · rw [if_neg hp] at h2
      split at h2 <;> omega
theorem Met.fresh {D : DS} {k : Int} {c' : Cn} (h : Met D) (hk : lget k D.l = none) (h1 : CnM c') (hu : c'.user = -1) (hw : c'.waits = false) : Met { D with l := lset k c' D.l } := by
  refine ⟨h.ss, fun p hp => ?_, fun u h0 => ?_, fun u h0 => ?_⟩
  · rcases b1y hp with hp | rfl
    · exact h.cn p hp
    · exact h1
  · have h2 := c1e (pCo u) k c' D.l hk
    have h3 := h.c u h0
    show (((lset k c' D.l).filter (pCo u)).length : Int) ≤ D.conns
    have e : cntC D.l u = (D.l.filter (pCo u)).length := rfl
    have hp : ¬ pCo u (k, c') = true := by
      show ¬ (!c'.closed && decide (c'.user = u)) = true
      rw [hu, decide_eq_false (by omega), Bool.and_false]
      decide
    rw [if_neg hp] at h2
    rw [e] at h3
    omega
  · have h2 := c1e (pAs u) k c' D.l hk
    have h3 := h.a u h0
    show (((lset k c' D.l).filter (pAs u)).length : Int) ≤ D.asks
    have e : cntA D.l u = (D.l.filter (pAs u)).length := rfl
    have hp : ¬ pAs u (k, c') = true := by
      show ¬ (c'.waits && decide (c'.asks = u)) = true
      rw [hw]
      simp
    rw [if_neg hp] at h2
    rw [e] at h3
    omega
theorem Met.arrive {D : DS} (h : Met D) (k : Int) (t : List UInt8) : Met (arriveD D k t).1 := by
  unfold arriveD
  split
  · split
    · exact h
    · cases hq : lget k D.l with
      | none =>
        refine h.fresh hq ⟨.inl rfl, fun r hr => ?_⟩ rfl rfl
        cases hr
      | some c =>
        have hc := h.cn _ (b2a hq)
        exact h.old hq ⟨hc.st, hc.ans⟩ (fun u _ hp => .inl hp) (fun u _ hp => .inl hp)
  · exact h
theorem Met.bind {D : DS} (h : Met D) (t : List UInt8) (u : Int) : Met (bindD D t u).1 := by
  unfold bindD
  split
  · rename_i hu
    refine ⟨fun p hp => ?_, h.cn, h.c, h.a⟩
    rcases b6e hp with hp | rfl
    · exact h.ss p hp
    · exact ⟨hu.1, hu.2.1⟩
  · exact h
theorem Met.answer {D : DS} (h : Met D) (k : Int) {r : Rp} (hr : r.st ≠ 503) (hs : ∀ cl, (emitT { r with cl := cl }).length ≤ 1073741824) : Met (answerD D k r).1 := by
  unfold answerD
  split
  · cases hq : lget k D.l with
    | none => exact h
    | some c =>
      dsimp only
      split
      · rename_i hw
        have hc := h.cn _ (b2a hq)
        have h1 : CnM (ansC c r) ∧ (ansC c r).waits = false ∧ (ansC c r).closed = c.closed ∧ (ansC c r).user = c.user := by
          unfold ansC
          split
          · refine ⟨⟨hc.st, fun q hq2 => ?_⟩, rfl, rfl, rfl⟩
            have := hc.ans q hq2
            exact ⟨rfl, this.2⟩
          · refine ⟨⟨hc.st, fun q hq2 => ?_⟩, rfl, rfl, rfl⟩
            injection hq2 with hq2
            subst hq2
            exact ⟨rfl, hr, hs⟩
        obtain ⟨h1, h2, h3, h4⟩ := h1
        refine h.old hq h1 (fun u _ hp => .inl ?_) (fun u _ hp => ?_)
        · show (!c.closed && decide (c.user = u)) = true
          rw [← h3, ← h4]
          exact hp
        · exfalso
          have hp2 : ((ansC c r).waits && decide ((ansC c r).asks = u)) = true := hp
          rw [h2] at hp2
          cases hp2
      · exact h
  · exact h
structure PkM (D : DS) (c c' : Cn) (a : At) : Prop where
  cn : CnM c'
  cu : ∀ u, 0 ≤ u → c'.user = u → c.user = u ∨ ((cntC D.l u : Nat) : Int) < D.conns
  ca : ∀ u, 0 ≤ u → c'.waits = true → c'.asks = u → (c.waits = true ∧ c.asks = u) ∨ ((cntA D.l u : Nat) : Int) < D.asks
  e : a.kind = 1 → ∃ r, a.out = emitT r ∧ (r.st = 503 → Full D) ∧ (emitT r).length ≤ 1073741824
  w : c.waits = true → a.kind = 0
theorem a7a {D : DS} {c c0 : Cn} {r : Rp} (h0 : CnM c0) (hu : c0.user = c.user ∨ ((cntC D.l c0.user : Nat) : Int) < D.conns) (hw : c0.waits = c.waits ∧ c0.asks = c.asks) (hcw : c.waits = false) (hr : r.st = 503 → Full D) (hs : (emitT r).length ≤ 1073741824) : PkM D c (emitsC c0 r).1 (emitsC c0 r).2 := by
  refine ⟨⟨h0.st, h0.ans⟩, fun u _ hp => ?_, fun u _ h1 h2 => .inl ⟨?_, ?_⟩, fun _ => ⟨r, rfl, hr, hs⟩, fun h => ?_⟩
  · have hp2 : c0.user = u := hp
    rcases hu with hu | hu
    · exact .inl (hu ▸ hp2)
    · exact .inr (hp2 ▸ hu)
  · rw [← hw.1]; exact h1
  · rw [← hw.2]; exact h2
  · rw [hcw] at h; cases h
theorem a9o {D : DS} {c c0 : Cn} {cl : Bool} {q : Int} {a : At} (h0 : CnM c0) (hn : c0.ans = none) (hu : c0.user = c.user ∨ ((cntC D.l c0.user : Nat) : Int) < D.conns) (hcw : c.waits = false) (hk : a.kind ≠ 1) (hq : q = -1 ∨ ((cntA D.l q : Nat) : Int) < D.asks) : PkM D c (handsC c0 cl q a).1 (handsC c0 cl q a).2 := by
  refine ⟨⟨h0.st, fun r hr => ?_⟩, fun u _ hp => ?_, fun u h0' h1 h2 => .inr ?_, fun h => absurd h hk, fun h => ?_⟩
  · have hr2 : c0.ans = some r := hr
    rw [hn] at hr2
    cases hr2
  · have hp2 : c0.user = u := hp
    rcases hu with hu | hu
    · exact .inl (hu ▸ hp2)
    · exact .inr (hp2 ▸ hu)
  · have h3 : q = u := h2
    rcases hq with hq | hq
    · omega
    · exact h3 ▸ hq
  · rw [hcw] at h; cases h
theorem a9c {st : Int} (h : st = 400 ∨ st = 401 ∨ st = 403 ∨ st = 413 ∨ st = 431 ∨ st = 503 ∨ st = 505) (cl : Bool) : (emitT (plR st cl)).length ≤ 1073741824 := by
  rcases h with rfl | rfl | rfl | rfl | rfl | rfl | rfl <;> cases cl <;> decide +kernel
theorem a4i {D : DS} {c c0 : Cn} {st : Int} {cl : Bool} (hst : st = 400 ∨ st = 401 ∨ st = 403 ∨ st = 413 ∨ st = 431 ∨ st = 505) (h0 : CnM c0) (hu : c0.user = c.user ∨ ((cntC D.l c0.user : Nat) : Int) < D.conns) (hw : c0.waits = c.waits ∧ c0.asks = c.asks) (hcw : c.waits = false) : PkM D c (emitsC c0 (plR st cl)).1 (emitsC c0 (plR st cl)).2 :=
  a7a h0 hu hw hcw (fun e => by have e2 : st = 503 := e; omega) (a9c (by omega) _)
theorem b3b {D : DS} {c c2 : Cn} {h : Hd} {b : List UInt8} (hM : Met D) (h0 : CnM c2) (hn : c2.ans = none) (hu : c2.user = c.user) (hw : c2.waits = c.waits ∧ c2.asks = c.asks) (hcw : c.waits = false) : PkM D c (requestC D c2 h b).1 (requestC D c2 h b).2 := by
  unfold requestC
  split
  · unfold loginC
    split
    · split
      · split
        · exact a9o h0 hn (.inl hu) hcw (show (2 : Int) ≠ 1 by decide) (.inl rfl)
        · exact a4i (by decide) h0 (.inl hu) hw hcw
      · exact a4i (by decide) h0 (.inl hu) hw hcw
    · exact a4i (by decide) h0 (.inl hu) hw hcw
  · cases hq : sget (tokenS h) D.ss with
    | none => exact a4i (by decide) h0 (.inl hu) hw hcw
    | some u =>
      have hs := hM.ss _ (b1i hq)
      dsimp only at hs ⊢
      split
      · exact a4i (by decide) h0 (.inl hu) hw hcw
      · rename_i h2
        split
        · rename_i h3
          exact a7a h0 (.inl hu) hw hcw (fun _ => ⟨u, hs, .inl h3.2⟩) (a9c (by decide) _)
        · rename_i h3
          have hu2 : u = c.user ∨ ((cntC D.l u : Nat) : Int) < D.conns := by
            by_cases e : c2.user = -1
            · right
              have : ¬ D.conns ≤ ((cntC D.l u : Nat) : Int) := fun k => h3 ⟨e, k⟩
              omega
            · left
              have : c2.user = u := Classical.byContradiction fun k => h2 ⟨e, k⟩
              rw [← this, hu]
          have h0' : CnM { c2 with user := u } := ⟨h0.st, h0.ans⟩
          split
          · exact a9o h0' hn hu2 hcw (by show (3 : Int) ≠ 1; decide) (.inl rfl)
          · split
            · rename_i h6
              exact a7a h0' hu2 hw hcw (fun _ => ⟨u, hs, .inr h6⟩) (a9c (by decide) _)
            · rename_i h6
              exact a9o h0' hn hu2 hcw (by show (4 : Int) ≠ 1; decide) (.inr (by omega))
theorem b9s {D : DS} {c : Cn} (hM : Met D) (hc : CnM c) : PkM D c (pickC D c).1 (pickC D c).2 := by
  cases ha : c.ans with
  | some r =>
    have h1 := hc.ans r ha
    have hp : pickC D c = emitsC { c with ans := none } { r with cl := r.cl || c.ends } := by
      unfold pickC
      rw [ha]
    rw [hp]
    exact a7a ⟨hc.st, fun q hq => by cases hq⟩ (.inl rfl) ⟨rfl, rfl⟩ h1.1 (fun e => absurd e h1.2.1) (h1.2.2 _)
  | none =>
    rw [a7h ha]
    by_cases hw : c.waits = true
    · rw [if_pos hw]
      exact ⟨hc, fun u _ h => .inl h, fun u _ h1 h2 => .inl ⟨h1, h2⟩, fun h => absurd (show (0 : Int) = 1 from h) (by decide), fun _ => rfl⟩
    rw [if_neg hw]
    have hwf : c.waits = false := by simpa using hw
    by_cases h2 : c.lost = true
    · rw [if_pos h2]
      exact a4i (by decide) hc (.inl rfl) ⟨rfl, rfl⟩ hwf
    rw [if_neg h2]
    by_cases h3 : c.st ≠ 0
    · rw [if_pos h3]
      have hst := hc.st
      exact a4i (by omega) hc (.inl rfl) ⟨rfl, rfl⟩ hwf
    rw [if_neg h3]
    have hf := a9k c.s
    revert hf
    cases nextL c.s with
    | more =>
      intro hf
      exact ⟨hc, fun u _ h => .inl h, fun u _ h1 h2 => .inl ⟨h1, h2⟩, fun h => absurd (show (0 : Int) = 1 from h) (by decide), fun _ => rfl⟩
    | bad st =>
      intro hf
      have hf2 : st = 400 ∨ st = 413 ∨ st = 431 ∨ st = 505 := hf
      dsimp only
      exact a4i (by omega) ⟨.inr hf2, hc.ans⟩ (.inl rfl) ⟨rfl, rfl⟩ hwf
    | got h b k =>
      intro hf
      exact b3b hM ⟨hc.st, hc.ans⟩ ha rfl ⟨rfl, rfl⟩ hwf
theorem b9r {D : DS} (hM : Met D) (k : Int) : Met (pickD D k).1 ∧ (waitsD D k = true → (pickD D k).2.1.kind = 0) ∧ ((pickD D k).2.1.kind = 1 → ∃ r, (pickD D k).2.1.out = emitT r ∧ (r.st = 503 → Full D) ∧ (emitT r).length ≤ 1073741824) ∧ ((pickD D k).2.1.kind = 1 ∨ (pickD D k).2.1.kind ≠ 1) := by
  unfold pickD waitsD
  by_cases hi : inAt k
  · rw [if_pos hi, if_pos hi]
    cases hq : lget k D.l with
    | none => exact ⟨hM, fun _ => rfl, fun h => absurd (show (0 : Int) = 1 from h) (by decide), Classical.em _⟩
    | some c =>
      dsimp only
      by_cases hcl : c.closed = true
      · rw [if_pos hcl]
        exact ⟨hM, fun _ => rfl, fun h => absurd (show (0 : Int) = 1 from h) (by decide), Classical.em _⟩
      · rw [if_neg hcl]
        have hcf : c.closed = false := by simpa using hcl
        have hp := b9s hM (hM.cn _ (b2a hq))
        refine ⟨hM.old hq hp.cn (fun u h0 h1 => ?_) (fun u h0 h1 => ?_), hp.w, hp.e, Classical.em _⟩
        · have h2 : (!(pickC D c).1.closed && decide ((pickC D c).1.user = u)) = true := h1
          rw [Bool.and_eq_true, decide_eq_true_eq] at h2
          rcases hp.cu u h0 h2.2 with h3 | h3
          · left
            show (!c.closed && decide (c.user = u)) = true
            rw [hcf, h3]
            simp
          · exact .inr h3
        · have h2 : ((pickC D c).1.waits && decide ((pickC D c).1.asks = u)) = true := h1
          rw [Bool.and_eq_true, decide_eq_true_eq] at h2
          rcases hp.ca u h0 h2.1 h2.2 with ⟨h3, h4⟩ | h3
          · left
            show (c.waits && decide (c.asks = u)) = true
            rw [h3, h4]
            simp
          · exact .inr h3
  · rw [if_neg hi, if_neg hi]
    exact ⟨hM, (fun h => by cases h), fun h => absurd (show (0 : Int) = 1 from h) (by decide), Classical.em _⟩
theorem b8d (r : Rp) : ∃ r', parseP (emitT r) = some r' ∧ (r'.st = 503 → r.st = 503) := by
  unfold emitT
  split
  · rename_i h
    refine ⟨r, a6f.2 ⟨h, ?_⟩, id⟩
    unfold Lib.hasPrefix
    simp
  · refine ⟨plR 500 r.cl, a6f.2 ⟨may500 _, ?_⟩, fun e => absurd (show (500 : Int) = 503 from e) (by decide)⟩
    unfold Lib.hasPrefix
    simp
theorem b3a (D : DS) (c : Cn) (h : Hd) (b : List UInt8) : (requestC D c h b).2.kind = 1 ∨ (requestC D c h b).2.out = [] := by
  unfold requestC loginC emitsC handsC
  repeat' (first | exact .inl rfl | exact .inr rfl | split)
theorem b9q (D : DS) (k : Int) : (pickD D k).2.1.kind = 1 ∨ (pickD D k).2.1.out = [] := by
  have hC : ∀ c : Cn, (pickC D c).2.kind = 1 ∨ (pickC D c).2.out = [] := by
    intro c
    cases ha : c.ans with
    | some r =>
      unfold pickC
      rw [ha]
      exact .inl rfl
    | none =>
      rw [a7h ha]
      split
      · exact .inr rfl
      split
      · exact .inl rfl
      split
      · exact .inl rfl
      cases nextL c.s with
      | more => exact .inr rfl
      | bad st => exact .inl rfl
      | got h b k => exact b3a _ _ _ _
  unfold pickD
  split
  · split
    · exact .inr rfl
    · split
      · exact .inr rfl
      · exact hC _
  · exact .inr rfl
def SameL (D D' : DS) : Prop := D'.users = D.users ∧ D'.conns = D.conns ∧ D'.asks = D.asks
theorem b3g (D : DS) (k : Int) : SameL D (pickD D k).1 := by
  unfold pickD
  repeat' (first | exact ⟨rfl, rfl, rfl⟩ | split)
theorem b0c (D : DS) (k : Int) (t : List UInt8) : SameL D (arriveD D k t).1 := by
  unfold arriveD
  repeat' (first | exact ⟨rfl, rfl, rfl⟩ | split)
theorem b0e (D : DS) (k : Int) (r : Rp) : SameL D (answerD D k r).1 := by
  unfold answerD
  repeat' (first | exact ⟨rfl, rfl, rfl⟩ | split)
theorem b4c (D : DS) (t : List UInt8) (u : Int) : SameL D (bindD D t u).1 := by
  unfold bindD
  repeat' (first | exact ⟨rfl, rfl, rfl⟩ | split)
end Go.Proofs.YtkljmljkiodnpaaGreatDoor.L

namespace Go.Proofs.YtkljmljkiodnpaaGreatDoor.L
open Go Go.RowKit Go.Proofs
attribute [local irreducible] AL QL AWp Thn InB RetQ ACalls LoopQ HL HO HW HQ NoG JmpQ MidQ HF

def digR (s : List UInt8) : Int := if s.all digB = true ∧ 1 ≤ s.length ∧ s.length ≤ 8 then (fv 0 s : Int) else -1
theorem c8q : ∀ (l : List UInt8) (m : Nat), l.all digB = true → fv m l < (m + 1) * 10 ^ l.length := by
  intro l
  induction l with
  | nil => intro m _; rw [List.length_nil, Nat.pow_zero, Nat.mul_one]; exact Nat.lt_succ_self m
  | cons c l ih =>
    intro m h
    rw [List.all_cons, Bool.and_eq_true] at h
    have h1 := a5a.1 h.1
    rw [a7s]
    refine Nat.lt_of_lt_of_le (ih _ h.2) ?_
    rw [List.length_cons, Nat.pow_succ, Nat.mul_comm (10 ^ l.length) 10, ← Nat.mul_assoc]
    exact Nat.mul_le_mul_right _ (by omega)
theorem c4l {l : List UInt8} (h : l.all digB = true) (h8 : l.length ≤ 8) : fv 0 l < 100000000 := by
  have h1 := c8q l 0 h
  have h2 : 10 ^ l.length ≤ 10 ^ 8 := Nat.pow_le_pow_right (by decide) h8
  have e : (10 : Nat) ^ 8 = 100000000 := by decide
  omega
theorem b1a (s : List UInt8) : -1 ≤ digR s ∧ digR s < 100000000 := by
  unfold digR
  split
  · rename_i h
    have := c4l h.1 h.2.2
    omega
  · omega
theorem b3s {n : Nat} (h : n ≤ 1048576) : digR (Lib.itoa (n : Int)) = n := by
  have h2 : Lib.itoa (n : Int) = Lib.decDigits n := rfl
  obtain ⟨d, e, _⟩ := b7a n
  have hl : 1 ≤ (Lib.decDigits n).length := List.length_pos_iff.2 d.ne
  have hle : (Lib.decDigits n).length ≤ 8 := by
    rcases Nat.lt_or_ge 8 (Lib.decDigits n).length with h8 | h8
    · exfalso
      have hbig : ∀ (l : List UInt8) (m : Nat), l.all digB = true → m * 10 ^ l.length ≤ fv m l := by
        intro l
        induction l with
        | nil => intro m _; rw [List.length_nil, Nat.pow_zero, Nat.mul_one]; exact Nat.le_refl _
        | cons c l ih =>
          intro m hh
          rw [List.all_cons, Bool.and_eq_true] at hh
          rw [a7s]
          refine Nat.le_trans ?_ (ih _ hh.2)
          rw [List.length_cons, Nat.pow_succ, Nat.mul_comm (10 ^ l.length) 10, ← Nat.mul_assoc]
          exact Nat.mul_le_mul_right _ (by omega)
      match hq : Lib.decDigits n, d, e, h8 with
      | c :: r, d, e, h8 =>
        have hc := d.lead (by omega)
        have hd := d.dig
        rw [List.all_cons, Bool.and_eq_true] at hd
        have hdg := a5a.1 hd.1
        have hc1 : 1 ≤ c.toNat - 48 := by
          have : c.toNat ≠ 48 := fun k => hc (by rw [List.head?_cons]; exact congrArg some (UInt8.toNat_inj.1 k))
          omega
        rw [a7s, Nat.mul_zero, Nat.zero_add] at e
        have h3 := hbig r (c.toNat - 48) hd.2
        have h4 : 10 ^ 8 ≤ 10 ^ r.length := Nat.pow_le_pow_right (by decide) (by rw [List.length_cons] at h8; omega)
        have e8 : (10 : Nat) ^ 8 = 100000000 := by decide
        have h5 : 1 * 10 ^ r.length ≤ (c.toNat - 48) * 10 ^ r.length := Nat.mul_le_mul_right _ hc1
        omega
    · exact h8
  unfold digR
  rw [h2, if_pos ⟨d.dig, hl, hle⟩, e]
theorem c7l : ∀ c : UInt8, okN c = (pToken c && decide (lowB c = c)) := by
  refine a8c ?_
  decide +kernel
theorem c6m (s : List UInt8) : s.all okN = (s.all pToken && decide (smallS s = s)) := by
  induction s with
  | nil => rfl
  | cons c s ih =>
    rw [List.all_cons, List.all_cons, ih, c7l]
    unfold smallS
    rw [List.map_cons]
    by_cases h1 : lowB c = c
    · by_cases h2 : s.map lowB = s
      · rw [h1, h2]; simp
      · have : ¬ c :: s.map lowB = c :: s := fun k => h2 (by injection k)
        rw [h1]; simp [h2, this]
    · have : ¬ lowB c :: s.map lowB = c :: s := fun k => h1 (by injection k)
      simp [h1, this]
section
variable {w0 : World} {base : Nat}
set_option maxHeartbeats 4000000 in
theorem b6k {s : List UInt8} (hs : s.length ≤ 140737488351232) : PCalls (EE w0 base) 34 [.str s] fun rv => rv = .int .i64 (digR s) := by
  refine a1s Tryz.func34 rfl rfl rfl (.cons .nil) ?_
  repeat' (first|(refine a2k ?_;first|refine a0b (a0l rfl) rfl ?_|(refine k_g ?_;first|refine a1j rfl rfl (by with_reducible rfl) ?_|refine a1t rfl rfl (by with_reducible rfl) rfl ?_|(refine a1z rfl rfl (fun hc => ?_) (fun hc => ?_) <;> (try (exfalso;omega))))|(refine a1a ?_;first|refine a0b (a1h rfl rfl rfl) rfl ?_|refine a0b (a1p rfl rfl (by (first|exact w64 (by omega) (by omega)|exact w8 (by omega) (by omega)|rfl))) rfl ?_|refine a0b (a2s rfl rfl (by (first|exact w64 (by omega) (by omega)|exact w8 (by omega) (by omega)|rfl))) rfl ?_|refine a0b (a8f rfl rfl (by (first|exact w64 (by omega) (by omega)|exact w8 (by omega) (by omega)|rfl))) rfl ?_)|(refine a1i ?_;first|refine a0b (a0j rfl (by with_reducible rfl) rfl) rfl ?_|refine a0b (a0i rfl (by with_reducible rfl) rfl) rfl ?_)|refine a0b (a0e rfl) rfl ?_|(refine a0d ?_;first|refine a0b (a0p rfl) rfl ?_)|refine a0u ?_|refine a0b (a1u rfl rfl (by omega) (by omega)) rfl ?_)|(first|refine a1n ?_|(refine a1o ?_;first|refine a0c (a0a ?_)|refine a0c ?_|refine a0a ?_|(refine a0x ?_;first|refine a0g rfl (by with_reducible rfl) ?_|refine a0h rfl (by with_reducible rfl) ?_)|refine a0n ?_|refine a0o ?_|refine a0k ?_|refine a1f ?_)|refine a0t ?_|refine a1q ?_|refine a2b ?_|refine a1d ?_|refine a1v ?_|refine a1b ?_|refine a1e ?_))
  refine a2o (fun q : Nat × Int => ⟨[(0, .str s), (3, .int .i64 q.2), (4, .int .i64 q.1)], []⟩) (fun q => q.1 ≤ s.length ∧ (s.take q.1).all digB = true ∧ (q.1 ≤ 8 → q.2 = (fv 0 (s.take q.1) : Int))) (fun q => s.length - q.1) (0, 0) (.of (.same (by repeat constructor))) ⟨Nat.zero_le _, rfl, fun _ => rfl⟩ ?_
  rintro ⟨i, n⟩ ⟨hi, hd, hn⟩
  dsimp only at hi hd hn ⊢
  by_cases hlt : i < s.length
  · obtain ⟨c, hcc⟩ : ∃ c, s[i]? = some c := ⟨_, List.getElem?_eq_getElem hlt⟩
    have hb := a7x hcc
    have hc255 := c.toNat_lt
    cases hg : digB c with
    | false =>
      have hno : ¬ (48 ≤ c.toNat ∧ c.toNat ≤ 57) := fun k => by rw [a5a.2 k] at hg; cases hg
      have hR : digR s = -1 := by unfold digR; rw [if_neg (fun k => by have := a8s hcc hg; rw [this] at k; exact absurd k.1 (by decide))]
      repeat' (first|((refine a1a ?_;first|refine a0b (a1l rfl rfl rfl (by omega)) rfl ?_|refine a0b (a1m rfl rfl rfl (by omega)) rfl ?_))|(refine a2k ?_;first|refine a0b (a0l rfl) rfl ?_|(refine k_g ?_;first|refine a1j rfl rfl (by with_reducible rfl) ?_|refine a1t rfl rfl (by with_reducible rfl) rfl ?_|(refine a1z rfl rfl (fun hc => ?_) (fun hc => ?_) <;> (try (exfalso;omega))))|(refine a1a ?_;first|refine a0b (a1h rfl rfl rfl) rfl ?_|refine a0b (a1p rfl rfl (by (first|exact w64 (by omega) (by omega)|exact w8 (by omega) (by omega)|rfl))) rfl ?_|refine a0b (a2s rfl rfl (by (first|exact w64 (by omega) (by omega)|exact w8 (by omega) (by omega)|rfl))) rfl ?_|refine a0b (a8f rfl rfl (by (first|exact w64 (by omega) (by omega)|exact w8 (by omega) (by omega)|rfl))) rfl ?_)|(refine a1i ?_;first|refine a0b (a0j rfl (by with_reducible rfl) rfl) rfl ?_|refine a0b (a0i rfl (by with_reducible rfl) rfl) rfl ?_)|refine a0b (a0e rfl) rfl ?_|(refine a0d ?_;first|refine a0b (a0p rfl) rfl ?_)|refine a0u ?_|refine a0b (a1u rfl rfl (by omega) (by omega)) rfl ?_)|(first|refine a1n ?_|(refine a1o ?_;first|refine a0c (a0a ?_)|refine a0c ?_|refine a0a ?_|(refine a0x ?_;first|refine a0g rfl (by with_reducible rfl) ?_|refine a0h rfl (by with_reducible rfl) ?_)|refine a0n ?_|refine a0o ?_|refine a0k ?_|refine a1f ?_)|refine a0t ?_|refine a1q ?_|refine a2b ?_|refine a1d ?_|refine a1v ?_|refine a1b ?_|refine a1e ?_))
      all_goals
        refine ret1 (by first | exact .inr rfl | exact .inl rfl) rfl rfl ?_
        exact ⟨by rw [hR], rfl⟩
    | true =>
      have hyes := a5a.1 hg
      have hsn : s.take (i + 1) = s.take i ++ [c] := by rw [List.take_add_one, hcc]; rfl
      have hfv : fv 0 (s.take (i + 1)) = 10 * fv 0 (s.take i) + (c.toNat - 48) := by rw [hsn, c0u]
      by_cases h8 : i < 8
      · have hn := hn (by omega)
        have hlt8 := c4l hd (by simp only [List.length_take]; omega)
        subst hn
        repeat' (first|(first|(refine a1a ?_;first|refine a0b (a1l rfl rfl rfl (by omega)) rfl ?_|refine a0b (a1m rfl rfl rfl (by omega)) rfl ?_)|refine a0b (a5f rfl (by (first|exact w64 (by omega) (by omega)|exact w8 (by omega) (by omega)|rfl))) rfl ?_)|(refine a2k ?_;first|refine a0b (a0l rfl) rfl ?_|(refine k_g ?_;first|refine a1j rfl rfl (by with_reducible rfl) ?_|refine a1t rfl rfl (by with_reducible rfl) rfl ?_|(refine a1z rfl rfl (fun hc => ?_) (fun hc => ?_) <;> (try (exfalso;omega))))|(refine a1a ?_;first|refine a0b (a1h rfl rfl rfl) rfl ?_|refine a0b (a1p rfl rfl (by (first|exact w64 (by omega) (by omega)|exact w8 (by omega) (by omega)|rfl))) rfl ?_|refine a0b (a2s rfl rfl (by (first|exact w64 (by omega) (by omega)|exact w8 (by omega) (by omega)|rfl))) rfl ?_|refine a0b (a8f rfl rfl (by (first|exact w64 (by omega) (by omega)|exact w8 (by omega) (by omega)|rfl))) rfl ?_)|(refine a1i ?_;first|refine a0b (a0j rfl (by with_reducible rfl) rfl) rfl ?_|refine a0b (a0i rfl (by with_reducible rfl) rfl) rfl ?_)|refine a0b (a0e rfl) rfl ?_|(refine a0d ?_;first|refine a0b (a0p rfl) rfl ?_)|refine a0u ?_|refine a0b (a1u rfl rfl (by omega) (by omega)) rfl ?_)|(first|refine a1n ?_|(refine a1o ?_;first|refine a0c (a0a ?_)|refine a0c ?_|refine a0a ?_|(refine a0x ?_;first|refine a0g rfl (by with_reducible rfl) ?_|refine a0h rfl (by with_reducible rfl) ?_)|refine a0n ?_|refine a0o ?_|refine a0k ?_|refine a1f ?_)|refine a0t ?_|refine a1q ?_|refine a2b ?_|refine a1d ?_|refine a1v ?_|refine a1b ?_|refine a1e ?_))
        refine a1y (i + 1, _) (.of (.same (by repeat constructor))) ?_ ?_
        · exact ⟨by dsimp only; omega, by dsimp only; rw [a7d hd hcc, hg], fun _ => by dsimp only; rw [hfv]; omega⟩
        · dsimp only; omega
      · repeat' (first|(first|(refine a1a ?_;first|refine a0b (a1l rfl rfl rfl (by omega)) rfl ?_|refine a0b (a1m rfl rfl rfl (by omega)) rfl ?_)|refine a0b (a5f rfl (by (first|exact w64 (by omega) (by omega)|exact w8 (by omega) (by omega)|rfl))) rfl ?_)|(refine a2k ?_;first|refine a0b (a0l rfl) rfl ?_|(refine k_g ?_;first|refine a1j rfl rfl (by with_reducible rfl) ?_|refine a1t rfl rfl (by with_reducible rfl) rfl ?_|(refine a1z rfl rfl (fun hc => ?_) (fun hc => ?_) <;> (try (exfalso;omega))))|(refine a1a ?_;first|refine a0b (a1h rfl rfl rfl) rfl ?_|refine a0b (a1p rfl rfl (by (first|exact w64 (by omega) (by omega)|exact w8 (by omega) (by omega)|rfl))) rfl ?_|refine a0b (a2s rfl rfl (by (first|exact w64 (by omega) (by omega)|exact w8 (by omega) (by omega)|rfl))) rfl ?_|refine a0b (a8f rfl rfl (by (first|exact w64 (by omega) (by omega)|exact w8 (by omega) (by omega)|rfl))) rfl ?_)|(refine a1i ?_;first|refine a0b (a0j rfl (by with_reducible rfl) rfl) rfl ?_|refine a0b (a0i rfl (by with_reducible rfl) rfl) rfl ?_)|refine a0b (a0e rfl) rfl ?_|(refine a0d ?_;first|refine a0b (a0p rfl) rfl ?_)|refine a0u ?_|refine a0b (a1u rfl rfl (by omega) (by omega)) rfl ?_)|(first|refine a1n ?_|(refine a1o ?_;first|refine a0c (a0a ?_)|refine a0c ?_|refine a0a ?_|(refine a0x ?_;first|refine a0g rfl (by with_reducible rfl) ?_|refine a0h rfl (by with_reducible rfl) ?_)|refine a0n ?_|refine a0o ?_|refine a0k ?_|refine a1f ?_)|refine a0t ?_|refine a1q ?_|refine a2b ?_|refine a1d ?_|refine a1v ?_|refine a1b ?_|refine a1e ?_))
        refine a1y (i + 1, _) (.of (.same (by repeat constructor))) ?_ ?_
        · exact ⟨by dsimp only; omega, by dsimp only; rw [a7d hd hcc, hg], fun k => by dsimp only at k; omega⟩
        · dsimp only; omega
  · rw [List.take_of_length_le (by omega)] at hd hn
    by_cases hl : 1 ≤ s.length ∧ s.length ≤ 8
    · have hn := hn (by omega)
      have hR : digR s = (fv 0 s : Int) := by unfold digR; rw [if_pos ⟨hd, hl⟩]
      repeat' (first|((refine a1a ?_;first|refine a0b (a1l rfl rfl rfl (by omega)) rfl ?_|refine a0b (a1m rfl rfl rfl (by omega)) rfl ?_))|(refine a2k ?_;first|refine a0b (a0l rfl) rfl ?_|(refine k_g ?_;first|refine a1j rfl rfl (by with_reducible rfl) ?_|refine a1t rfl rfl (by with_reducible rfl) rfl ?_|(refine a1z rfl rfl (fun hc => ?_) (fun hc => ?_) <;> (try (exfalso;omega))))|(refine a1a ?_;first|refine a0b (a1h rfl rfl rfl) rfl ?_|refine a0b (a1p rfl rfl (by (first|exact w64 (by omega) (by omega)|exact w8 (by omega) (by omega)|rfl))) rfl ?_|refine a0b (a2s rfl rfl (by (first|exact w64 (by omega) (by omega)|exact w8 (by omega) (by omega)|rfl))) rfl ?_|refine a0b (a8f rfl rfl (by (first|exact w64 (by omega) (by omega)|exact w8 (by omega) (by omega)|rfl))) rfl ?_)|(refine a1i ?_;first|refine a0b (a0j rfl (by with_reducible rfl) rfl) rfl ?_|refine a0b (a0i rfl (by with_reducible rfl) rfl) rfl ?_)|refine a0b (a0e rfl) rfl ?_|(refine a0d ?_;first|refine a0b (a0p rfl) rfl ?_)|refine a0u ?_|refine a0b (a1u rfl rfl (by omega) (by omega)) rfl ?_)|(first|refine a1n ?_|(refine a1o ?_;first|refine a0c (a0a ?_)|refine a0c ?_|refine a0a ?_|(refine a0x ?_;first|refine a0g rfl (by with_reducible rfl) ?_|refine a0h rfl (by with_reducible rfl) ?_)|refine a0n ?_|refine a0o ?_|refine a0k ?_|refine a1f ?_)|refine a0t ?_|refine a1q ?_|refine a2b ?_|refine a1d ?_|refine a1v ?_|refine a1b ?_|refine a1e ?_))
      refine ret1 (by first | exact .inr rfl | exact .inl rfl) rfl rfl ?_
      exact ⟨by rw [hR, hn], rfl⟩
    · have hR : digR s = -1 := by unfold digR; rw [if_neg (fun k => hl k.2)]
      have hl2 : s.length < 1 ∨ 8 < s.length := by omega
      rcases hl2 with hl2 | hl2
      all_goals
        repeat' (first|((refine a1a ?_;first|refine a0b (a1l rfl rfl rfl (by omega)) rfl ?_|refine a0b (a1m rfl rfl rfl (by omega)) rfl ?_))|(refine a2k ?_;first|refine a0b (a0l rfl) rfl ?_|(refine k_g ?_;first|refine a1j rfl rfl (by with_reducible rfl) ?_|refine a1t rfl rfl (by with_reducible rfl) rfl ?_|(refine a1z rfl rfl (fun hc => ?_) (fun hc => ?_) <;> (try (exfalso;omega))))|(refine a1a ?_;first|refine a0b (a1h rfl rfl rfl) rfl ?_|refine a0b (a1p rfl rfl (by (first|exact w64 (by omega) (by omega)|exact w8 (by omega) (by omega)|rfl))) rfl ?_|refine a0b (a2s rfl rfl (by (first|exact w64 (by omega) (by omega)|exact w8 (by omega) (by omega)|rfl))) rfl ?_|refine a0b (a8f rfl rfl (by (first|exact w64 (by omega) (by omega)|exact w8 (by omega) (by omega)|rfl))) rfl ?_)|(refine a1i ?_;first|refine a0b (a0j rfl (by with_reducible rfl) rfl) rfl ?_|refine a0b (a0i rfl (by with_reducible rfl) rfl) rfl ?_)|refine a0b (a0e rfl) rfl ?_|(refine a0d ?_;first|refine a0b (a0p rfl) rfl ?_)|refine a0u ?_|refine a0b (a1u rfl rfl (by omega) (by omega)) rfl ?_)|(first|refine a1n ?_|(refine a1o ?_;first|refine a0c (a0a ?_)|refine a0c ?_|refine a0a ?_|(refine a0x ?_;first|refine a0g rfl (by with_reducible rfl) ?_|refine a0h rfl (by with_reducible rfl) ?_)|refine a0n ?_|refine a0o ?_|refine a0k ?_|refine a1f ?_)|refine a0t ?_|refine a1q ?_|refine a2b ?_|refine a1d ?_|refine a1v ?_|refine a1b ?_|refine a1e ?_))
        refine ret1 (by first | exact .inr rfl | exact .inl rfl) rfl rfl ?_
        exact ⟨by rw [hR], rfl⟩
set_option maxHeartbeats 4000000 in
theorem c2g {s : List UInt8} (hs : s.length ≤ 140737488351232) : PCalls (EE w0 base) 95 [.str s] fun rv => rv = .bool (valueY s) := by
  have hT : PCalls (EE w0 base) 106 [.str s] fun rv => rv = .str (bareI s) := c5c hs
  refine a1s Tryz.func95 rfl rfl rfl (.cons .nil) ?_
  repeat' (first|(refine a2k ?_;first|refine a0b (a0l rfl) rfl ?_|(refine k_g ?_;first|refine a1j rfl rfl (by with_reducible rfl) ?_|refine a1w rfl rfl (by with_reducible rfl) rfl ?_|refine a1t rfl rfl (by with_reducible rfl) rfl ?_)|(refine a1a ?_;first|refine a0b (a1p rfl rfl (by (first|exact w64 (by omega) (by omega)|rfl))) rfl ?_|refine a0b (a2t rfl rfl) rfl ?_)|(refine a1i ?_;first|refine a0b (a0j rfl (by with_reducible rfl) rfl) rfl ?_|refine a0b (a0i rfl (by with_reducible rfl) rfl) rfl ?_)|refine a0b (a0e rfl) rfl ?_|(refine a0d ?_;first|refine a0b (a0p rfl) rfl ?_)|refine a0u ?_|refine a0b (a1u rfl rfl (by omega) (by omega)) rfl ?_)|(first|refine a1n ?_|(refine a1o ?_;first|refine a0c (a0a ?_)|refine a0c ?_|refine a0a ?_|(refine a0x ?_;first|refine a0g rfl (by with_reducible rfl) ?_|refine a0h rfl (by with_reducible rfl) ?_)|refine a0n ?_|refine a0o ?_|refine a0k ?_|refine a1f ?_)|refine a0t ?_|refine a1q ?_|refine a2b ?_|refine a1d ?_|refine a1v ?_|refine a1b ?_|refine a1e ?_))
  refine a2o (fun k : Nat => ⟨[(0, .str s), (3, .int .i64 k)], []⟩) (fun k => k ≤ s.length ∧ (s.take k).all okV = true) (fun k => s.length - k) 0 (.of (.same (by repeat constructor))) ⟨Nat.zero_le _, rfl⟩ ?_
  rintro k ⟨hk, hok⟩
  try dsimp only
  by_cases hlt : k < s.length
  · obtain ⟨c, hcc⟩ : ∃ c, s[k]? = some c := ⟨_, List.getElem?_eq_getElem hlt⟩
    have hb := a7x hcc
    have hiff : okV c = true ↔ c.toNat = 9 ∨ (32 ≤ c.toNat ∧ c.toNat ≤ 126) := by
      unfold okV
      simp only [Bool.or_eq_true, Bool.and_eq_true, decide_eq_true_eq]
    cases ho : okV c with
    | false =>
      have hno : ¬ (c.toNat = 9 ∨ (32 ≤ c.toNat ∧ c.toNat ≤ 126)) := fun h => by rw [hiff.2 h] at ho; cases ho
      have h2 : c.toNat < 33 ∨ 33 ≤ c.toNat := by omega
      rcases h2 with h2 | h2
      all_goals
        repeat' (first|((refine a1a ?_;first|refine a0b (a1l rfl rfl rfl (by omega)) rfl ?_|refine a0b (a1m rfl rfl rfl (by omega)) rfl ?_))|(refine a2k ?_;first|refine a0b (a0l rfl) rfl ?_|(refine k_g ?_;first|refine a1j rfl rfl (by with_reducible rfl) ?_|refine a1w rfl rfl (by with_reducible rfl) rfl ?_|refine a1t rfl rfl (by with_reducible rfl) rfl ?_)|(refine a1a ?_;first|refine a0b (a1p rfl rfl (by (first|exact w64 (by omega) (by omega)|rfl))) rfl ?_|refine a0b (a2t rfl rfl) rfl ?_)|(refine a1i ?_;first|refine a0b (a0j rfl (by with_reducible rfl) rfl) rfl ?_|refine a0b (a0i rfl (by with_reducible rfl) rfl) rfl ?_)|refine a0b (a0e rfl) rfl ?_|(refine a0d ?_;first|refine a0b (a0p rfl) rfl ?_)|refine a0u ?_|refine a0b (a1u rfl rfl (by omega) (by omega)) rfl ?_)|(first|refine a1n ?_|(refine a1o ?_;first|refine a0c (a0a ?_)|refine a0c ?_|refine a0a ?_|(refine a0x ?_;first|refine a0g rfl (by with_reducible rfl) ?_|refine a0h rfl (by with_reducible rfl) ?_)|refine a0n ?_|refine a0o ?_|refine a0k ?_|refine a1f ?_)|refine a0t ?_|refine a1q ?_|refine a2b ?_|refine a1d ?_|refine a1v ?_|refine a1b ?_|refine a1e ?_))
      all_goals
        refine ret1 (by first | exact .inr rfl | exact .inl rfl) rfl rfl ?_
        exact ⟨by unfold valueY; rw [a8s hcc ho]; rfl, rfl⟩
    | true =>
      have hyes := hiff.1 ho
      have h2 : c.toNat = 9 ∨ c.toNat = 32 ∨ (33 ≤ c.toNat ∧ c.toNat ≤ 126) := by omega
      rcases h2 with h2 | h2 | h2
      all_goals
        repeat' (first|((refine a1a ?_;first|refine a0b (a1l rfl rfl rfl (by omega)) rfl ?_|refine a0b (a1m rfl rfl rfl (by omega)) rfl ?_))|(refine a2k ?_;first|refine a0b (a0l rfl) rfl ?_|(refine k_g ?_;first|refine a1j rfl rfl (by with_reducible rfl) ?_|refine a1w rfl rfl (by with_reducible rfl) rfl ?_|refine a1t rfl rfl (by with_reducible rfl) rfl ?_)|(refine a1a ?_;first|refine a0b (a1p rfl rfl (by (first|exact w64 (by omega) (by omega)|rfl))) rfl ?_|refine a0b (a2t rfl rfl) rfl ?_)|(refine a1i ?_;first|refine a0b (a0j rfl (by with_reducible rfl) rfl) rfl ?_|refine a0b (a0i rfl (by with_reducible rfl) rfl) rfl ?_)|refine a0b (a0e rfl) rfl ?_|(refine a0d ?_;first|refine a0b (a0p rfl) rfl ?_)|refine a0u ?_|refine a0b (a1u rfl rfl (by omega) (by omega)) rfl ?_)|(first|refine a1n ?_|(refine a1o ?_;first|refine a0c (a0a ?_)|refine a0c ?_|refine a0a ?_|(refine a0x ?_;first|refine a0g rfl (by with_reducible rfl) ?_|refine a0h rfl (by with_reducible rfl) ?_)|refine a0n ?_|refine a0o ?_|refine a0k ?_|refine a1f ?_)|refine a0t ?_|refine a1q ?_|refine a2b ?_|refine a1d ?_|refine a1v ?_|refine a1b ?_|refine a1e ?_))
      all_goals
        first | refine a1y (k + 1) (.of (.same (by repeat constructor))) ?_ ?_ | fail
        · exact ⟨by omega, by rw [a7d hok hcc, ho]⟩
        · omega
  · rw [List.take_of_length_le (by omega)] at hok
    have hn : valueY s = decide (bareI s = s) := by unfold valueY; rw [hok]; rfl
    repeat' (first|(first|(refine a1a ?_;first|refine a0b (a1l rfl rfl rfl (by omega)) rfl ?_|refine a0b (a1m rfl rfl rfl (by omega)) rfl ?_)|(refine a0d ?_;refine a0q rfl rfl rfl rfl hT ?_;rintro _ rfl))|(refine a2k ?_;first|refine a0b (a0l rfl) rfl ?_|(refine k_g ?_;first|refine a1j rfl rfl (by with_reducible rfl) ?_|refine a1w rfl rfl (by with_reducible rfl) rfl ?_|refine a1t rfl rfl (by with_reducible rfl) rfl ?_)|(refine a1a ?_;first|refine a0b (a1p rfl rfl (by (first|exact w64 (by omega) (by omega)|rfl))) rfl ?_|refine a0b (a2t rfl rfl) rfl ?_)|(refine a1i ?_;first|refine a0b (a0j rfl (by with_reducible rfl) rfl) rfl ?_|refine a0b (a0i rfl (by with_reducible rfl) rfl) rfl ?_)|refine a0b (a0e rfl) rfl ?_|(refine a0d ?_;first|refine a0b (a0p rfl) rfl ?_)|refine a0u ?_|refine a0b (a1u rfl rfl (by omega) (by omega)) rfl ?_)|(first|refine a1n ?_|(refine a1o ?_;first|refine a0c (a0a ?_)|refine a0c ?_|refine a0a ?_|(refine a0x ?_;first|refine a0g rfl (by with_reducible rfl) ?_|refine a0h rfl (by with_reducible rfl) ?_)|refine a0n ?_|refine a0o ?_|refine a0k ?_|refine a1f ?_)|refine a0t ?_|refine a1q ?_|refine a2b ?_|refine a1d ?_|refine a1v ?_|refine a1b ?_|refine a1e ?_))
    all_goals
      refine ret1 (by first | exact .inr rfl | exact .inl rfl) rfl rfl ?_
      exact ⟨by rw [hn], rfl⟩
end
end Go.Proofs.YtkljmljkiodnpaaGreatDoor.L

namespace Go.Proofs.YtkljmljkiodnpaaGreatDoor.L
open Go Go.RowKit Go.Proofs
attribute [local irreducible] AL QL AWp Thn InB RetQ ACalls LoopQ HL HO HW HQ NoG JmpQ MidQ HF

theorem b7f {st : Int} (h : ∀ p ∈ reasonL, st ≠ p.1) : wordsY st = none := by
  have h2 : ∀ l : List (Int × List UInt8), (∀ p ∈ l, st ≠ p.1) → wordsOfY st l = none := by
    intro l
    induction l with
    | nil => intro _; rfl
    | cons p l ih =>
      intro h
      rw [wordsOfY, if_neg (fun k => h p List.mem_cons_self k.symm)]
      exact ih fun q hq => h q (List.mem_cons_of_mem _ hq)
  exact h2 _ h
theorem b9m {st : Int} (h : st ≠ 200 ∧ st ≠ 201 ∧ st ≠ 204 ∧ st ≠ 400 ∧ st ≠ 401 ∧ st ≠ 403 ∧ st ≠ 404 ∧ st ≠ 409 ∧ st ≠ 413 ∧ st ≠ 431 ∧ st ≠ 500 ∧ st ≠ 503 ∧ st ≠ 505) : wordsY st = none := by
  have hm : reasonL.map (·.1) = [200, 201, 204, 400, 401, 403, 404, 409, 413, 431, 500, 503, 505] := by decide +kernel
  refine b7f fun p hp => ?_
  have h1 : p.1 ∈ reasonL.map (·.1) := List.mem_map_of_mem hp
  rw [hm] at h1
  simp only [List.mem_cons, List.not_mem_nil, or_false] at h1
  omega
def reaR (st : Int) : AV := .tup [.str ((wordsY st).getD []), .int .i64 (if (wordsY st).isSome then 0 else 3)]
theorem b3d {st : Int} {w : List UInt8} (h : wordsY st = some w) : reaR st = .tup [.str w, .int .i64 0] := by unfold reaR; rw [h]; rfl
theorem b3e {st : Int} (h : wordsY st = none) : reaR st = .tup [.str [], .int .i64 3] := by unfold reaR; rw [h]; rfl
section
variable {w0 : World} {base : Nat}
set_option maxHeartbeats 8000000 in
theorem b9d {st : Int} : PCalls (EE w0 base) 55 [.int .i64 st] fun rv => rv = reaR st := by
  refine a1s Tryz.func55 rfl rfl rfl (.cons .nil) ?_
  repeat' (first|(refine a2k ?_;first|refine a0b (a0l rfl) rfl ?_|(refine a1a ?_;first|refine a0b (a1h rfl rfl rfl) rfl ?_)|refine a0b (a0e rfl) rfl ?_|refine a0u ?_)|(first|refine a1n ?_|(refine a1o ?_;first|refine a0c (a0a ?_)|refine a0c ?_|refine a0a ?_|(refine a0x ?_;first|(refine a0r rfl (fun hc => ?_) (fun hc => ?_) <;> (try (exfalso;omega))))|refine a0n ?_|refine a0o ?_|refine a0k ?_)|refine a0t ?_|refine a1v ?_|refine a1b ?_))
  all_goals
    refine ret2 (by first | exact .inr rfl | exact .inl rfl) rfl rfl rfl ?_
    refine ⟨?_, rfl⟩
    first
      | (subst hc; exact (b3d (by decide +kernel)).symm)
      | (exact (b3e (b9m (by omega))).symm)
set_option maxHeartbeats 8000000 in
theorem c5h {r : Rp} (hr : RpFit r) : PCalls (EE w0 base) 54 [.agg (rpC r)] fun rv => rv = .bool (mayY r) := by
  obtain ⟨st, fs, body, cl⟩ := r
  obtain ⟨hf, he, hbd⟩ := hr
  dsimp only at hf he hbd
  show PCalls (EE w0 base) 54 [.agg [.int .i64 st, .rs (fs.map prAV), .str body, .bool cl]] fun rv => rv = .bool (mayY ⟨st, fs, body, cl⟩)
  refine a1s Tryz.func54 rfl rfl rfl (.cons .nil) ?_
  have hlen : (fs.map prAV).length = fs.length := List.length_map _
  by_cases hg : (200 ≤ st ∧ st ≤ 599) ∧ fs.length ≤ 32 ∧ body.length ≤ 1048576
  · have hm : mayY ⟨st, fs, body, cl⟩ = fs.all fieldY := by
      unfold mayY
      dsimp only
      rw [decide_eq_true hg.1, decide_eq_true hg.2.1, decide_eq_true hg.2.2]
      rfl
    repeat' (first|(first|(refine a0d ?_;refine a0b (a3p fs.length rfl hlen) rfl ?_)|(refine a1a ?_;first|refine a0b (a1l rfl rfl rfl (by omega)) rfl ?_|refine a0b (a1m rfl rfl rfl (by omega)) rfl ?_))|(refine a2k ?_;first|refine a0b (a0l rfl) rfl ?_|(refine k_g ?_;first|refine a1j rfl rfl (by with_reducible rfl) ?_|refine a1t rfl rfl (by with_reducible rfl) rfl ?_|(refine a1z rfl rfl (fun hc => ?_) (fun hc => ?_) <;> (try (exfalso;omega))))|refine a0b (a0f rfl rfl) rfl ?_|(refine a1g ?_;first|refine a0b (a0w rfl rfl) rfl ?_|refine a0b (a0m rfl rfl rfl) rfl ?_)|(refine a1a ?_;first|refine a0b (a1h rfl rfl rfl) rfl ?_|refine a0b (a1p rfl rfl (by (first|exact w64 (by omega) (by omega)|rfl))) rfl ?_)|(refine a1i ?_;first|refine a0b (a0j rfl (by with_reducible rfl) rfl) rfl ?_|refine a0b (a0i rfl (by with_reducible rfl) rfl) rfl ?_)|refine a0b (a0e rfl) rfl ?_|(refine a0d ?_;first|refine a0b (a0p rfl) rfl ?_)|refine a0u ?_|refine a2g rfl rfl rfl (by first|exact ln0|exact ln1) (by repeat constructor) rfl ?_|refine a0z rfl rfl rfl (by first|exact ln0|exact ln1) (by repeat constructor) rfl ?_|refine a1c rfl rfl rfl rfl rfl (by repeat constructor) (by repeat constructor) ?_|refine a0b (a0y rfl (by with_reducible rfl)) rfl ?_|refine a0b (a1r rfl (by with_reducible rfl)) rfl ?_)|(first|refine a1n ?_|(refine a1o ?_;first|refine a0c (a0a ?_)|refine a0c ?_|refine a0a ?_|(refine a0x ?_;first|refine a0g rfl (by with_reducible rfl) ?_|refine a0h rfl (by with_reducible rfl) ?_)|refine a0n ?_|refine a0o ?_|refine a0k ?_|refine a1f ?_)|refine a0t ?_|refine a1q ?_|refine a2b ?_|refine a1d ?_|refine a1v ?_|refine a1b ?_|refine a1e ?_))
    refine a2o (fun k : Nat => ⟨[(1, .op 0 0), (3, .int .i64 k)], [.box [.int .i64 st, .rs (fs.map prAV), .str body, .bool cl]]⟩) (fun k => k ≤ fs.length ∧ (fs.take k).all fieldY = true) (fun k => fs.length - k) 0 (.of (.same (by repeat constructor))) ⟨Nat.zero_le _, rfl⟩ ?_
    rintro k ⟨hk, hok⟩
    try dsimp only
    by_cases hlt : k < fs.length
    · obtain ⟨p, hp⟩ : ∃ p, fs[k]? = some p := ⟨_, List.getElem?_eq_getElem hlt⟩
      have hrow := a6e hp
      have hel := he p (List.mem_of_getElem? hp)
      have h1 := c6y (w0 := w0) (base := base) (s := p.1) (by omega)
      have h2 := c2g (w0 := w0) (base := base) (s := p.2) (by omega)
      have h3 := c2h (w0 := w0) (base := base) (s := p.1) (by omega)
      have hfy : fieldY p = (nameY p.1 && valueY p.2) := rfl
      have hny : nameY p.1 = ((p.1.all pToken && decide (smallS p.1 = p.1)) && (decide (p.1 ≠ []) && decide (p.1 ≠ clN) && decide (p.1 ≠ cnN))) := by unfold nameY; rw [c6m]
      have hln : decide (1 ≤ p.1.length) = decide (p.1 ≠ []) := by
        cases p.1 <;> simp
      rw [hln] at h1
      cases hA : (p.1.all pToken && decide (p.1 ≠ [])) with
      | false =>
        rw [hA] at h1
        have hf0 : fieldY p = false := by
          rw [hfy, hny]
          rw [Bool.and_eq_false_iff] at hA
          rcases hA with hA | hA <;> rw [hA] <;> simp
        repeat' (first|(first|refine a3b (id := 7) [] [⟨0,true,[],bl 28 0⟩,⟨1,true,[],bl 28 1⟩,⟨2,false,[],[]⟩,⟨3,true,[],bl 28 7⟩,⟨4,true,[],bl 28 15⟩,⟨5,true,[],bl 28 799⟩,⟨6,true,[],bl 28 831⟩,⟨8,true,[],bl 28 255⟩,⟨9,true,[],bl 28 511⟩,⟨7,false,[],[]⟩,⟨10,true,[],bl 28 1023⟩,⟨11,true,[],bl 28 2047⟩,⟨12,true,[],bl 28 4095⟩,⟨13,true,[],bl 28 8191⟩,⟨14,true,[],bl 28 16383⟩,⟨15,true,[],bl 28 32767⟩,⟨16,true,[],bl 28 65535⟩,⟨17,true,[],bl 28 131071⟩,⟨18,true,[],bl 28 262143⟩,⟨19,true,[],bl 28 524287⟩,⟨20,true,[],bl 28 1048575⟩,⟨21,true,[],bl 28 2097151⟩,⟨22,true,[],bl 28 4194303⟩,⟨23,true,[],bl 28 8388607⟩,⟨24,true,[],bl 28 16777215⟩,⟨25,false,[],[]⟩,⟨26,true,[],bl 28 67108863⟩,⟨27,true,[],bl 28 134217727⟩] (by kernel_rfl) (by kernel_rfl) rfl (by kernel_rfl) ?_|(refine a0d ?_;refine a0b (a3p fs.length rfl hlen) rfl ?_)|refine a0b (a2j rfl rfl (by omega) hrow rfl) rfl ?_|(refine a0d ?_;refine a0q rfl rfl rfl rfl h1 ?_;rintro _ rfl)|(refine a1a ?_;first|refine a0b (a1l rfl rfl rfl (by omega)) rfl ?_|refine a0b (a1m rfl rfl rfl (by omega)) rfl ?_))|(refine a2k ?_;first|refine a0b (a0l rfl) rfl ?_|(refine k_g ?_;first|refine a1j rfl rfl (by with_reducible rfl) ?_|refine a1t rfl rfl (by with_reducible rfl) rfl ?_|(refine a1z rfl rfl (fun hc => ?_) (fun hc => ?_) <;> (try (exfalso;omega))))|refine a0b (a0f rfl rfl) rfl ?_|(refine a1g ?_;first|refine a0b (a0w rfl rfl) rfl ?_|refine a0b (a0m rfl rfl rfl) rfl ?_)|(refine a1a ?_;first|refine a0b (a1h rfl rfl rfl) rfl ?_|refine a0b (a1p rfl rfl (by (first|exact w64 (by omega) (by omega)|rfl))) rfl ?_)|(refine a1i ?_;first|refine a0b (a0j rfl (by with_reducible rfl) rfl) rfl ?_|refine a0b (a0i rfl (by with_reducible rfl) rfl) rfl ?_)|refine a0b (a0e rfl) rfl ?_|(refine a0d ?_;first|refine a0b (a0p rfl) rfl ?_)|refine a0u ?_|refine a2g rfl rfl rfl (by first|exact ln0|exact ln1) (by repeat constructor) rfl ?_|refine a0z rfl rfl rfl (by first|exact ln0|exact ln1) (by repeat constructor) rfl ?_|refine a1c rfl rfl rfl rfl rfl (by repeat constructor) (by repeat constructor) ?_|refine a0b (a0y rfl (by with_reducible rfl)) rfl ?_|refine a0b (a1r rfl (by with_reducible rfl)) rfl ?_)|(first|refine a1n ?_|(refine a1o ?_;first|refine a0c (a0a ?_)|refine a0c ?_|refine a0a ?_|(refine a0x ?_;first|refine a0g rfl (by with_reducible rfl) ?_|refine a0h rfl (by with_reducible rfl) ?_)|refine a0n ?_|refine a0o ?_|refine a0k ?_|refine a1f ?_)|refine a0t ?_|refine a1q ?_|refine a2b ?_|refine a1d ?_|refine a1v ?_|refine a1b ?_|refine a1e ?_)|(first|(refine a7n ?_;first|refine a7p rfl ?_|refine a2c (a0l rfl) rfl ?_|refine a2c (a0e rfl) rfl ?_|refine a2c (a0f rfl rfl) rfl ?_|refine a2c (a0w rfl rfl) rfl ?_|refine a2c (a0m rfl rfl rfl) rfl ?_|refine a2c (a1h rfl rfl rfl) rfl ?_|refine a2c (a0j rfl (by with_reducible rfl) rfl) rfl ?_|refine a2c (a0i rfl (by with_reducible rfl) rfl) rfl ?_|refine a2c (a0p rfl) rfl ?_|refine a2c (a1p rfl rfl (by (first|exact w64 (by omega) (by omega)|rfl))) rfl ?_|refine a2c (a0y rfl (by with_reducible rfl)) rfl ?_|refine a2c (a1r rfl (by with_reducible rfl)) rfl ?_)|refine a4o rfl ?_|(refine a7o ?_;first|refine a7q ?_|refine b5f rfl rfl (by with_reducible rfl) ?_|refine a9n rfl rfl (by with_reducible rfl) rfl ?_)|refine a3r ?_|refine a3j ?_))
        all_goals
          refine ret1 (by first | exact .inr rfl | exact .inl rfl) rfl rfl ?_
          exact ⟨by rw [hm, a5r hp hf0], rfl⟩
      | true =>
        rw [hA] at h1
        rw [Bool.and_eq_true, decide_eq_true_eq] at hA
        by_cases hB : smallS p.1 = p.1
        · rw [hB] at h3
          by_cases hC : p.1 = clN
          · have hf0 : fieldY p = false := by rw [hfy, hny, decide_eq_false (p := p.1 ≠ clN) (fun k => k hC)]; simp
            repeat' (first|(first|refine a3b (id := 7) [] [⟨0,true,[],bl 28 0⟩,⟨1,true,[],bl 28 1⟩,⟨2,false,[],[]⟩,⟨3,true,[],bl 28 7⟩,⟨4,true,[],bl 28 15⟩,⟨5,true,[],bl 28 799⟩,⟨6,true,[],bl 28 831⟩,⟨8,true,[],bl 28 255⟩,⟨9,true,[],bl 28 511⟩,⟨7,false,[],[]⟩,⟨10,true,[],bl 28 1023⟩,⟨11,true,[],bl 28 2047⟩,⟨12,true,[],bl 28 4095⟩,⟨13,true,[],bl 28 8191⟩,⟨14,true,[],bl 28 16383⟩,⟨15,true,[],bl 28 32767⟩,⟨16,true,[],bl 28 65535⟩,⟨17,true,[],bl 28 131071⟩,⟨18,true,[],bl 28 262143⟩,⟨19,true,[],bl 28 524287⟩,⟨20,true,[],bl 28 1048575⟩,⟨21,true,[],bl 28 2097151⟩,⟨22,true,[],bl 28 4194303⟩,⟨23,true,[],bl 28 8388607⟩,⟨24,true,[],bl 28 16777215⟩,⟨25,false,[],[]⟩,⟨26,true,[],bl 28 67108863⟩,⟨27,true,[],bl 28 134217727⟩] (by kernel_rfl) (by kernel_rfl) rfl (by kernel_rfl) ?_|(refine a0d ?_;refine a0b (a3p fs.length rfl hlen) rfl ?_)|refine a0b (a2j rfl rfl (by omega) hrow rfl) rfl ?_|(refine a0d ?_;refine a0q rfl rfl rfl rfl h1 ?_;rintro _ rfl)|(refine a0d ?_;refine a0q rfl rfl rfl rfl h3 ?_;rintro _ rfl)|(refine a1a ?_;first|refine a0b (a1l rfl rfl rfl (by omega)) rfl ?_|refine a0b (a1m rfl rfl rfl (by omega)) rfl ?_)|refine a2c (a4r (m := p.1) (n := p.1) rfl rfl rfl) rfl ?_|refine a2c (a2h (n := clN) hC rfl rfl) rfl ?_)|(refine a2k ?_;first|refine a0b (a0l rfl) rfl ?_|(refine k_g ?_;first|refine a1j rfl rfl (by with_reducible rfl) ?_|refine a1t rfl rfl (by with_reducible rfl) rfl ?_|(refine a1z rfl rfl (fun hc => ?_) (fun hc => ?_) <;> (try (exfalso;omega))))|refine a0b (a0f rfl rfl) rfl ?_|(refine a1g ?_;first|refine a0b (a0w rfl rfl) rfl ?_|refine a0b (a0m rfl rfl rfl) rfl ?_)|(refine a1a ?_;first|refine a0b (a1h rfl rfl rfl) rfl ?_|refine a0b (a1p rfl rfl (by (first|exact w64 (by omega) (by omega)|rfl))) rfl ?_)|(refine a1i ?_;first|refine a0b (a0j rfl (by with_reducible rfl) rfl) rfl ?_|refine a0b (a0i rfl (by with_reducible rfl) rfl) rfl ?_)|refine a0b (a0e rfl) rfl ?_|(refine a0d ?_;first|refine a0b (a0p rfl) rfl ?_)|refine a0u ?_|refine a2g rfl rfl rfl (by first|exact ln0|exact ln1) (by repeat constructor) rfl ?_|refine a0z rfl rfl rfl (by first|exact ln0|exact ln1) (by repeat constructor) rfl ?_|refine a1c rfl rfl rfl rfl rfl (by repeat constructor) (by repeat constructor) ?_|refine a0b (a0y rfl (by with_reducible rfl)) rfl ?_|refine a0b (a1r rfl (by with_reducible rfl)) rfl ?_)|(first|refine a1n ?_|(refine a1o ?_;first|refine a0c (a0a ?_)|refine a0c ?_|refine a0a ?_|(refine a0x ?_;first|refine a0g rfl (by with_reducible rfl) ?_|refine a0h rfl (by with_reducible rfl) ?_)|refine a0n ?_|refine a0o ?_|refine a0k ?_|refine a1f ?_)|refine a0t ?_|refine a1q ?_|refine a2b ?_|refine a1d ?_|refine a1v ?_|refine a1b ?_|refine a1e ?_)|(first|(refine a7n ?_;first|refine a7p rfl ?_|refine a2c (a0l rfl) rfl ?_|refine a2c (a0e rfl) rfl ?_|refine a2c (a0f rfl rfl) rfl ?_|refine a2c (a0w rfl rfl) rfl ?_|refine a2c (a0m rfl rfl rfl) rfl ?_|refine a2c (a1h rfl rfl rfl) rfl ?_|refine a2c (a0j rfl (by with_reducible rfl) rfl) rfl ?_|refine a2c (a0i rfl (by with_reducible rfl) rfl) rfl ?_|refine a2c (a0p rfl) rfl ?_|refine a2c (a1p rfl rfl (by (first|exact w64 (by omega) (by omega)|rfl))) rfl ?_|refine a2c (a0y rfl (by with_reducible rfl)) rfl ?_|refine a2c (a1r rfl (by with_reducible rfl)) rfl ?_)|refine a4o rfl ?_|(refine a7o ?_;first|refine a7q ?_|refine b5f rfl rfl (by with_reducible rfl) ?_|refine a9n rfl rfl (by with_reducible rfl) rfl ?_)|refine a3r ?_|refine a3j ?_))
            all_goals
              refine ret1 (by first | exact .inr rfl | exact .inl rfl) rfl rfl ?_
              exact ⟨by rw [hm, a5r hp hf0], rfl⟩
          · by_cases hD : p.1 = cnN
            · have hf0 : fieldY p = false := by rw [hfy, hny, decide_eq_false (p := p.1 ≠ cnN) (fun k => k hD)]; simp
              repeat' (first|(first|refine a3b (id := 7) [] [⟨0,true,[],bl 28 0⟩,⟨1,true,[],bl 28 1⟩,⟨2,false,[],[]⟩,⟨3,true,[],bl 28 7⟩,⟨4,true,[],bl 28 15⟩,⟨5,true,[],bl 28 799⟩,⟨6,true,[],bl 28 831⟩,⟨8,true,[],bl 28 255⟩,⟨9,true,[],bl 28 511⟩,⟨7,false,[],[]⟩,⟨10,true,[],bl 28 1023⟩,⟨11,true,[],bl 28 2047⟩,⟨12,true,[],bl 28 4095⟩,⟨13,true,[],bl 28 8191⟩,⟨14,true,[],bl 28 16383⟩,⟨15,true,[],bl 28 32767⟩,⟨16,true,[],bl 28 65535⟩,⟨17,true,[],bl 28 131071⟩,⟨18,true,[],bl 28 262143⟩,⟨19,true,[],bl 28 524287⟩,⟨20,true,[],bl 28 1048575⟩,⟨21,true,[],bl 28 2097151⟩,⟨22,true,[],bl 28 4194303⟩,⟨23,true,[],bl 28 8388607⟩,⟨24,true,[],bl 28 16777215⟩,⟨25,false,[],[]⟩,⟨26,true,[],bl 28 67108863⟩,⟨27,true,[],bl 28 134217727⟩] (by kernel_rfl) (by kernel_rfl) rfl (by kernel_rfl) ?_|(refine a0d ?_;refine a0b (a3p fs.length rfl hlen) rfl ?_)|refine a0b (a2j rfl rfl (by omega) hrow rfl) rfl ?_|(refine a0d ?_;refine a0q rfl rfl rfl rfl h1 ?_;rintro _ rfl)|(refine a0d ?_;refine a0q rfl rfl rfl rfl h3 ?_;rintro _ rfl)|(refine a1a ?_;first|refine a0b (a1l rfl rfl rfl (by omega)) rfl ?_|refine a0b (a1m rfl rfl rfl (by omega)) rfl ?_)|refine a2c (a4r (m := p.1) (n := p.1) rfl rfl rfl) rfl ?_|refine a2c (a2l (n := clN) hC rfl rfl) rfl ?_|refine a2c (a2h (n := cnN) hD rfl rfl) rfl ?_)|(refine a2k ?_;first|refine a0b (a0l rfl) rfl ?_|(refine k_g ?_;first|refine a1j rfl rfl (by with_reducible rfl) ?_|refine a1t rfl rfl (by with_reducible rfl) rfl ?_|(refine a1z rfl rfl (fun hc => ?_) (fun hc => ?_) <;> (try (exfalso;omega))))|refine a0b (a0f rfl rfl) rfl ?_|(refine a1g ?_;first|refine a0b (a0w rfl rfl) rfl ?_|refine a0b (a0m rfl rfl rfl) rfl ?_)|(refine a1a ?_;first|refine a0b (a1h rfl rfl rfl) rfl ?_|refine a0b (a1p rfl rfl (by (first|exact w64 (by omega) (by omega)|rfl))) rfl ?_)|(refine a1i ?_;first|refine a0b (a0j rfl (by with_reducible rfl) rfl) rfl ?_|refine a0b (a0i rfl (by with_reducible rfl) rfl) rfl ?_)|refine a0b (a0e rfl) rfl ?_|(refine a0d ?_;first|refine a0b (a0p rfl) rfl ?_)|refine a0u ?_|refine a2g rfl rfl rfl (by first|exact ln0|exact ln1) (by repeat constructor) rfl ?_|refine a0z rfl rfl rfl (by first|exact ln0|exact ln1) (by repeat constructor) rfl ?_|refine a1c rfl rfl rfl rfl rfl (by repeat constructor) (by repeat constructor) ?_|refine a0b (a0y rfl (by with_reducible rfl)) rfl ?_|refine a0b (a1r rfl (by with_reducible rfl)) rfl ?_)|(first|refine a1n ?_|(refine a1o ?_;first|refine a0c (a0a ?_)|refine a0c ?_|refine a0a ?_|(refine a0x ?_;first|refine a0g rfl (by with_reducible rfl) ?_|refine a0h rfl (by with_reducible rfl) ?_)|refine a0n ?_|refine a0o ?_|refine a0k ?_|refine a1f ?_)|refine a0t ?_|refine a1q ?_|refine a2b ?_|refine a1d ?_|refine a1v ?_|refine a1b ?_|refine a1e ?_)|(first|(refine a7n ?_;first|refine a7p rfl ?_|refine a2c (a0l rfl) rfl ?_|refine a2c (a0e rfl) rfl ?_|refine a2c (a0f rfl rfl) rfl ?_|refine a2c (a0w rfl rfl) rfl ?_|refine a2c (a0m rfl rfl rfl) rfl ?_|refine a2c (a1h rfl rfl rfl) rfl ?_|refine a2c (a0j rfl (by with_reducible rfl) rfl) rfl ?_|refine a2c (a0i rfl (by with_reducible rfl) rfl) rfl ?_|refine a2c (a0p rfl) rfl ?_|refine a2c (a1p rfl rfl (by (first|exact w64 (by omega) (by omega)|rfl))) rfl ?_|refine a2c (a0y rfl (by with_reducible rfl)) rfl ?_|refine a2c (a1r rfl (by with_reducible rfl)) rfl ?_)|refine a4o rfl ?_|(refine a7o ?_;first|refine a7q ?_|refine b5f rfl rfl (by with_reducible rfl) ?_|refine a9n rfl rfl (by with_reducible rfl) rfl ?_)|refine a3r ?_|refine a3j ?_))
              all_goals
                refine ret1 (by first | exact .inr rfl | exact .inl rfl) rfl rfl ?_
                exact ⟨by rw [hm, a5r hp hf0], rfl⟩
            · have hfv : fieldY p = valueY p.2 := by
                rw [hfy, hny, hA.1, decide_eq_true hA.2, decide_eq_true hB, decide_eq_true hC, decide_eq_true hD]
                rfl
              cases hv : valueY p.2 with
              | false =>
                rw [hv] at h2 hfv
                repeat' (first|(first|refine a3b (id := 7) [] [⟨0,true,[],bl 28 0⟩,⟨1,true,[],bl 28 1⟩,⟨2,false,[],[]⟩,⟨3,true,[],bl 28 7⟩,⟨4,true,[],bl 28 15⟩,⟨5,true,[],bl 28 799⟩,⟨6,true,[],bl 28 831⟩,⟨8,true,[],bl 28 255⟩,⟨9,true,[],bl 28 511⟩,⟨7,false,[],[]⟩,⟨10,true,[],bl 28 1023⟩,⟨11,true,[],bl 28 2047⟩,⟨12,true,[],bl 28 4095⟩,⟨13,true,[],bl 28 8191⟩,⟨14,true,[],bl 28 16383⟩,⟨15,true,[],bl 28 32767⟩,⟨16,true,[],bl 28 65535⟩,⟨17,true,[],bl 28 131071⟩,⟨18,true,[],bl 28 262143⟩,⟨19,true,[],bl 28 524287⟩,⟨20,true,[],bl 28 1048575⟩,⟨21,true,[],bl 28 2097151⟩,⟨22,true,[],bl 28 4194303⟩,⟨23,true,[],bl 28 8388607⟩,⟨24,true,[],bl 28 16777215⟩,⟨25,false,[],[]⟩,⟨26,true,[],bl 28 67108863⟩,⟨27,true,[],bl 28 134217727⟩] (by kernel_rfl) (by kernel_rfl) rfl (by kernel_rfl) ?_|(refine a0d ?_;refine a0b (a3p fs.length rfl hlen) rfl ?_)|refine a0b (a2j rfl rfl (by omega) hrow rfl) rfl ?_|(refine a0d ?_;refine a0q rfl rfl rfl rfl h1 ?_;rintro _ rfl)|(refine a0d ?_;refine a0q rfl rfl rfl rfl h3 ?_;rintro _ rfl)|(refine a0d ?_;refine a0q rfl rfl rfl rfl h2 ?_;rintro _ rfl)|(refine a1a ?_;first|refine a0b (a1l rfl rfl rfl (by omega)) rfl ?_|refine a0b (a1m rfl rfl rfl (by omega)) rfl ?_)|refine a2c (a4r (m := p.1) (n := p.1) rfl rfl rfl) rfl ?_|refine a2c (a2l (n := clN) hC rfl rfl) rfl ?_|refine a2c (a2l (n := cnN) hD rfl rfl) rfl ?_)|(refine a2k ?_;first|refine a0b (a0l rfl) rfl ?_|(refine k_g ?_;first|refine a1j rfl rfl (by with_reducible rfl) ?_|refine a1t rfl rfl (by with_reducible rfl) rfl ?_|(refine a1z rfl rfl (fun hc => ?_) (fun hc => ?_) <;> (try (exfalso;omega))))|refine a0b (a0f rfl rfl) rfl ?_|(refine a1g ?_;first|refine a0b (a0w rfl rfl) rfl ?_|refine a0b (a0m rfl rfl rfl) rfl ?_)|(refine a1a ?_;first|refine a0b (a1h rfl rfl rfl) rfl ?_|refine a0b (a1p rfl rfl (by (first|exact w64 (by omega) (by omega)|rfl))) rfl ?_)|(refine a1i ?_;first|refine a0b (a0j rfl (by with_reducible rfl) rfl) rfl ?_|refine a0b (a0i rfl (by with_reducible rfl) rfl) rfl ?_)|refine a0b (a0e rfl) rfl ?_|(refine a0d ?_;first|refine a0b (a0p rfl) rfl ?_)|refine a0u ?_|refine a2g rfl rfl rfl (by first|exact ln0|exact ln1) (by repeat constructor) rfl ?_|refine a0z rfl rfl rfl (by first|exact ln0|exact ln1) (by repeat constructor) rfl ?_|refine a1c rfl rfl rfl rfl rfl (by repeat constructor) (by repeat constructor) ?_|refine a0b (a0y rfl (by with_reducible rfl)) rfl ?_|refine a0b (a1r rfl (by with_reducible rfl)) rfl ?_)|(first|refine a1n ?_|(refine a1o ?_;first|refine a0c (a0a ?_)|refine a0c ?_|refine a0a ?_|(refine a0x ?_;first|refine a0g rfl (by with_reducible rfl) ?_|refine a0h rfl (by with_reducible rfl) ?_)|refine a0n ?_|refine a0o ?_|refine a0k ?_|refine a1f ?_)|refine a0t ?_|refine a1q ?_|refine a2b ?_|refine a1d ?_|refine a1v ?_|refine a1b ?_|refine a1e ?_)|(first|(refine a7n ?_;first|refine a7p rfl ?_|refine a2c (a0l rfl) rfl ?_|refine a2c (a0e rfl) rfl ?_|refine a2c (a0f rfl rfl) rfl ?_|refine a2c (a0w rfl rfl) rfl ?_|refine a2c (a0m rfl rfl rfl) rfl ?_|refine a2c (a1h rfl rfl rfl) rfl ?_|refine a2c (a0j rfl (by with_reducible rfl) rfl) rfl ?_|refine a2c (a0i rfl (by with_reducible rfl) rfl) rfl ?_|refine a2c (a0p rfl) rfl ?_|refine a2c (a1p rfl rfl (by (first|exact w64 (by omega) (by omega)|rfl))) rfl ?_|refine a2c (a0y rfl (by with_reducible rfl)) rfl ?_|refine a2c (a1r rfl (by with_reducible rfl)) rfl ?_)|refine a4o rfl ?_|(refine a7o ?_;first|refine a7q ?_|refine b5f rfl rfl (by with_reducible rfl) ?_|refine a9n rfl rfl (by with_reducible rfl) rfl ?_)|refine a3r ?_|refine a3j ?_))
                all_goals
                  refine ret1 (by first | exact .inr rfl | exact .inl rfl) rfl rfl ?_
                  exact ⟨by rw [hm, a5r hp hfv], rfl⟩
              | true =>
                rw [hv] at h2 hfv
                repeat' (first|(first|refine a3b (id := 7) [] [⟨0,true,[],bl 28 0⟩,⟨1,true,[],bl 28 1⟩,⟨2,false,[],[]⟩,⟨3,true,[],bl 28 7⟩,⟨4,true,[],bl 28 15⟩,⟨5,true,[],bl 28 799⟩,⟨6,true,[],bl 28 831⟩,⟨8,true,[],bl 28 255⟩,⟨9,true,[],bl 28 511⟩,⟨7,false,[],[]⟩,⟨10,true,[],bl 28 1023⟩,⟨11,true,[],bl 28 2047⟩,⟨12,true,[],bl 28 4095⟩,⟨13,true,[],bl 28 8191⟩,⟨14,true,[],bl 28 16383⟩,⟨15,true,[],bl 28 32767⟩,⟨16,true,[],bl 28 65535⟩,⟨17,true,[],bl 28 131071⟩,⟨18,true,[],bl 28 262143⟩,⟨19,true,[],bl 28 524287⟩,⟨20,true,[],bl 28 1048575⟩,⟨21,true,[],bl 28 2097151⟩,⟨22,true,[],bl 28 4194303⟩,⟨23,true,[],bl 28 8388607⟩,⟨24,true,[],bl 28 16777215⟩,⟨25,false,[],[]⟩,⟨26,true,[],bl 28 67108863⟩,⟨27,true,[],bl 28 134217727⟩] (by kernel_rfl) (by kernel_rfl) rfl (by kernel_rfl) ?_|(refine a0d ?_;refine a0b (a3p fs.length rfl hlen) rfl ?_)|refine a0b (a2j rfl rfl (by omega) hrow rfl) rfl ?_|(refine a0d ?_;refine a0q rfl rfl rfl rfl h1 ?_;rintro _ rfl)|(refine a0d ?_;refine a0q rfl rfl rfl rfl h3 ?_;rintro _ rfl)|(refine a0d ?_;refine a0q rfl rfl rfl rfl h2 ?_;rintro _ rfl)|(refine a1a ?_;first|refine a0b (a1l rfl rfl rfl (by omega)) rfl ?_|refine a0b (a1m rfl rfl rfl (by omega)) rfl ?_)|refine a2c (a4r (m := p.1) (n := p.1) rfl rfl rfl) rfl ?_|refine a2c (a2l (n := clN) hC rfl rfl) rfl ?_|refine a2c (a2l (n := cnN) hD rfl rfl) rfl ?_)|(refine a2k ?_;first|refine a0b (a0l rfl) rfl ?_|(refine k_g ?_;first|refine a1j rfl rfl (by with_reducible rfl) ?_|refine a1t rfl rfl (by with_reducible rfl) rfl ?_|(refine a1z rfl rfl (fun hc => ?_) (fun hc => ?_) <;> (try (exfalso;omega))))|refine a0b (a0f rfl rfl) rfl ?_|(refine a1g ?_;first|refine a0b (a0w rfl rfl) rfl ?_|refine a0b (a0m rfl rfl rfl) rfl ?_)|(refine a1a ?_;first|refine a0b (a1h rfl rfl rfl) rfl ?_|refine a0b (a1p rfl rfl (by (first|exact w64 (by omega) (by omega)|rfl))) rfl ?_)|(refine a1i ?_;first|refine a0b (a0j rfl (by with_reducible rfl) rfl) rfl ?_|refine a0b (a0i rfl (by with_reducible rfl) rfl) rfl ?_)|refine a0b (a0e rfl) rfl ?_|(refine a0d ?_;first|refine a0b (a0p rfl) rfl ?_)|refine a0u ?_|refine a2g rfl rfl rfl (by first|exact ln0|exact ln1) (by repeat constructor) rfl ?_|refine a0z rfl rfl rfl (by first|exact ln0|exact ln1) (by repeat constructor) rfl ?_|refine a1c rfl rfl rfl rfl rfl (by repeat constructor) (by repeat constructor) ?_|refine a0b (a0y rfl (by with_reducible rfl)) rfl ?_|refine a0b (a1r rfl (by with_reducible rfl)) rfl ?_)|(first|refine a1n ?_|(refine a1o ?_;first|refine a0c (a0a ?_)|refine a0c ?_|refine a0a ?_|(refine a0x ?_;first|refine a0g rfl (by with_reducible rfl) ?_|refine a0h rfl (by with_reducible rfl) ?_)|refine a0n ?_|refine a0o ?_|refine a0k ?_|refine a1f ?_)|refine a0t ?_|refine a1q ?_|refine a2b ?_|refine a1d ?_|refine a1v ?_|refine a1b ?_|refine a1e ?_)|(first|(refine a7n ?_;first|refine a7p rfl ?_|refine a2c (a0l rfl) rfl ?_|refine a2c (a0e rfl) rfl ?_|refine a2c (a0f rfl rfl) rfl ?_|refine a2c (a0w rfl rfl) rfl ?_|refine a2c (a0m rfl rfl rfl) rfl ?_|refine a2c (a1h rfl rfl rfl) rfl ?_|refine a2c (a0j rfl (by with_reducible rfl) rfl) rfl ?_|refine a2c (a0i rfl (by with_reducible rfl) rfl) rfl ?_|refine a2c (a0p rfl) rfl ?_|refine a2c (a1p rfl rfl (by (first|exact w64 (by omega) (by omega)|rfl))) rfl ?_|refine a2c (a0y rfl (by with_reducible rfl)) rfl ?_|refine a2c (a1r rfl (by with_reducible rfl)) rfl ?_)|refine a4o rfl ?_|(refine a7o ?_;first|refine a7q ?_|refine b5f rfl rfl (by with_reducible rfl) ?_|refine a9n rfl rfl (by with_reducible rfl) rfl ?_)|refine a3r ?_|refine a3j ?_))
                all_goals
                  first|refine a1y (k + 1) (.of (.same (by repeat constructor))) ?_ ?_|refine a1y (k + 1) (.of (a2n [_] rfl (by repeat constructor) rfl (by repeat constructor) rfl)) ?_ ?_|refine a1y (k + 1) (.of (a2n [_,_] rfl (by repeat constructor) rfl (by repeat constructor) rfl)) ?_ ?_|refine a1y (k + 1) (.of (a2n [_,_,_] rfl (by repeat constructor) rfl (by repeat constructor) rfl)) ?_ ?_
                  · exact ⟨by omega, by rw [b4f hok hp, hfv]⟩
                  · omega
        · have hf0 : fieldY p = false := by rw [hfy, hny, decide_eq_false hB]; simp
          repeat' (first|(first|refine a3b (id := 7) [] [⟨0,true,[],bl 28 0⟩,⟨1,true,[],bl 28 1⟩,⟨2,false,[],[]⟩,⟨3,true,[],bl 28 7⟩,⟨4,true,[],bl 28 15⟩,⟨5,true,[],bl 28 799⟩,⟨6,true,[],bl 28 831⟩,⟨8,true,[],bl 28 255⟩,⟨9,true,[],bl 28 511⟩,⟨7,false,[],[]⟩,⟨10,true,[],bl 28 1023⟩,⟨11,true,[],bl 28 2047⟩,⟨12,true,[],bl 28 4095⟩,⟨13,true,[],bl 28 8191⟩,⟨14,true,[],bl 28 16383⟩,⟨15,true,[],bl 28 32767⟩,⟨16,true,[],bl 28 65535⟩,⟨17,true,[],bl 28 131071⟩,⟨18,true,[],bl 28 262143⟩,⟨19,true,[],bl 28 524287⟩,⟨20,true,[],bl 28 1048575⟩,⟨21,true,[],bl 28 2097151⟩,⟨22,true,[],bl 28 4194303⟩,⟨23,true,[],bl 28 8388607⟩,⟨24,true,[],bl 28 16777215⟩,⟨25,false,[],[]⟩,⟨26,true,[],bl 28 67108863⟩,⟨27,true,[],bl 28 134217727⟩] (by kernel_rfl) (by kernel_rfl) rfl (by kernel_rfl) ?_|(refine a0d ?_;refine a0b (a3p fs.length rfl hlen) rfl ?_)|refine a0b (a2j rfl rfl (by omega) hrow rfl) rfl ?_|(refine a0d ?_;refine a0q rfl rfl rfl rfl h1 ?_;rintro _ rfl)|(refine a0d ?_;refine a0q rfl rfl rfl rfl h3 ?_;rintro _ rfl)|(refine a1a ?_;first|refine a0b (a1l rfl rfl rfl (by omega)) rfl ?_|refine a0b (a1m rfl rfl rfl (by omega)) rfl ?_)|refine a2c (a4z hB rfl rfl) rfl ?_)|(refine a2k ?_;first|refine a0b (a0l rfl) rfl ?_|(refine k_g ?_;first|refine a1j rfl rfl (by with_reducible rfl) ?_|refine a1t rfl rfl (by with_reducible rfl) rfl ?_|(refine a1z rfl rfl (fun hc => ?_) (fun hc => ?_) <;> (try (exfalso;omega))))|refine a0b (a0f rfl rfl) rfl ?_|(refine a1g ?_;first|refine a0b (a0w rfl rfl) rfl ?_|refine a0b (a0m rfl rfl rfl) rfl ?_)|(refine a1a ?_;first|refine a0b (a1h rfl rfl rfl) rfl ?_|refine a0b (a1p rfl rfl (by (first|exact w64 (by omega) (by omega)|rfl))) rfl ?_)|(refine a1i ?_;first|refine a0b (a0j rfl (by with_reducible rfl) rfl) rfl ?_|refine a0b (a0i rfl (by with_reducible rfl) rfl) rfl ?_)|refine a0b (a0e rfl) rfl ?_|(refine a0d ?_;first|refine a0b (a0p rfl) rfl ?_)|refine a0u ?_|refine a2g rfl rfl rfl (by first|exact ln0|exact ln1) (by repeat constructor) rfl ?_|refine a0z rfl rfl rfl (by first|exact ln0|exact ln1) (by repeat constructor) rfl ?_|refine a1c rfl rfl rfl rfl rfl (by repeat constructor) (by repeat constructor) ?_|refine a0b (a0y rfl (by with_reducible rfl)) rfl ?_|refine a0b (a1r rfl (by with_reducible rfl)) rfl ?_)|(first|refine a1n ?_|(refine a1o ?_;first|refine a0c (a0a ?_)|refine a0c ?_|refine a0a ?_|(refine a0x ?_;first|refine a0g rfl (by with_reducible rfl) ?_|refine a0h rfl (by with_reducible rfl) ?_)|refine a0n ?_|refine a0o ?_|refine a0k ?_|refine a1f ?_)|refine a0t ?_|refine a1q ?_|refine a2b ?_|refine a1d ?_|refine a1v ?_|refine a1b ?_|refine a1e ?_)|(first|(refine a7n ?_;first|refine a7p rfl ?_|refine a2c (a0l rfl) rfl ?_|refine a2c (a0e rfl) rfl ?_|refine a2c (a0f rfl rfl) rfl ?_|refine a2c (a0w rfl rfl) rfl ?_|refine a2c (a0m rfl rfl rfl) rfl ?_|refine a2c (a1h rfl rfl rfl) rfl ?_|refine a2c (a0j rfl (by with_reducible rfl) rfl) rfl ?_|refine a2c (a0i rfl (by with_reducible rfl) rfl) rfl ?_|refine a2c (a0p rfl) rfl ?_|refine a2c (a1p rfl rfl (by (first|exact w64 (by omega) (by omega)|rfl))) rfl ?_|refine a2c (a0y rfl (by with_reducible rfl)) rfl ?_|refine a2c (a1r rfl (by with_reducible rfl)) rfl ?_)|refine a4o rfl ?_|(refine a7o ?_;first|refine a7q ?_|refine b5f rfl rfl (by with_reducible rfl) ?_|refine a9n rfl rfl (by with_reducible rfl) rfl ?_)|refine a3r ?_|refine a3j ?_))
          all_goals
            refine ret1 (by first | exact .inr rfl | exact .inl rfl) rfl rfl ?_
            exact ⟨by rw [hm, a5r hp hf0], rfl⟩
    · rw [List.take_of_length_le (by omega)] at hok
      repeat' (first|(first|(refine a0d ?_;refine a0b (a3p fs.length rfl hlen) rfl ?_)|(refine a1a ?_;first|refine a0b (a1l rfl rfl rfl (by omega)) rfl ?_|refine a0b (a1m rfl rfl rfl (by omega)) rfl ?_))|(refine a2k ?_;first|refine a0b (a0l rfl) rfl ?_|(refine k_g ?_;first|refine a1j rfl rfl (by with_reducible rfl) ?_|refine a1t rfl rfl (by with_reducible rfl) rfl ?_|(refine a1z rfl rfl (fun hc => ?_) (fun hc => ?_) <;> (try (exfalso;omega))))|refine a0b (a0f rfl rfl) rfl ?_|(refine a1g ?_;first|refine a0b (a0w rfl rfl) rfl ?_|refine a0b (a0m rfl rfl rfl) rfl ?_)|(refine a1a ?_;first|refine a0b (a1h rfl rfl rfl) rfl ?_|refine a0b (a1p rfl rfl (by (first|exact w64 (by omega) (by omega)|rfl))) rfl ?_)|(refine a1i ?_;first|refine a0b (a0j rfl (by with_reducible rfl) rfl) rfl ?_|refine a0b (a0i rfl (by with_reducible rfl) rfl) rfl ?_)|refine a0b (a0e rfl) rfl ?_|(refine a0d ?_;first|refine a0b (a0p rfl) rfl ?_)|refine a0u ?_|refine a2g rfl rfl rfl (by first|exact ln0|exact ln1) (by repeat constructor) rfl ?_|refine a0z rfl rfl rfl (by first|exact ln0|exact ln1) (by repeat constructor) rfl ?_|refine a1c rfl rfl rfl rfl rfl (by repeat constructor) (by repeat constructor) ?_|refine a0b (a0y rfl (by with_reducible rfl)) rfl ?_|refine a0b (a1r rfl (by with_reducible rfl)) rfl ?_)|(first|refine a1n ?_|(refine a1o ?_;first|refine a0c (a0a ?_)|refine a0c ?_|refine a0a ?_|(refine a0x ?_;first|refine a0g rfl (by with_reducible rfl) ?_|refine a0h rfl (by with_reducible rfl) ?_)|refine a0n ?_|refine a0o ?_|refine a0k ?_|refine a1f ?_)|refine a0t ?_|refine a1q ?_|refine a2b ?_|refine a1d ?_|refine a1v ?_|refine a1b ?_|refine a1e ?_))
      refine ret1 (by first | exact .inr rfl | exact .inl rfl) rfl rfl ?_
      exact ⟨by rw [hm, hok], rfl⟩
  · have hm : mayY ⟨st, fs, body, cl⟩ = false := by
      cases hq : mayY ⟨st, fs, body, cl⟩ with
      | false => rfl
      | true =>
        unfold mayY at hq
        simp only [Bool.and_eq_true, decide_eq_true_eq] at hq
        exact absurd ⟨hq.1.1.1, hq.1.1.2, hq.1.2⟩ hg
    repeat' (first|(first|(refine a0d ?_;refine a0b (a3p fs.length rfl hlen) rfl ?_)|(refine a1a ?_;first|refine a0b (a1l rfl rfl rfl (by omega)) rfl ?_|refine a0b (a1m rfl rfl rfl (by omega)) rfl ?_))|(refine a2k ?_;first|refine a0b (a0l rfl) rfl ?_|(refine k_g ?_;first|refine a1j rfl rfl (by with_reducible rfl) ?_|refine a1t rfl rfl (by with_reducible rfl) rfl ?_|(refine a1z rfl rfl (fun hc => ?_) (fun hc => ?_) <;> (try (exfalso;omega))))|refine a0b (a0f rfl rfl) rfl ?_|(refine a1g ?_;first|refine a0b (a0w rfl rfl) rfl ?_|refine a0b (a0m rfl rfl rfl) rfl ?_)|(refine a1a ?_;first|refine a0b (a1h rfl rfl rfl) rfl ?_|refine a0b (a1p rfl rfl (by (first|exact w64 (by omega) (by omega)|rfl))) rfl ?_)|(refine a1i ?_;first|refine a0b (a0j rfl (by with_reducible rfl) rfl) rfl ?_|refine a0b (a0i rfl (by with_reducible rfl) rfl) rfl ?_)|refine a0b (a0e rfl) rfl ?_|(refine a0d ?_;first|refine a0b (a0p rfl) rfl ?_)|refine a0u ?_|refine a2g rfl rfl rfl (by first|exact ln0|exact ln1) (by repeat constructor) rfl ?_|refine a0z rfl rfl rfl (by first|exact ln0|exact ln1) (by repeat constructor) rfl ?_|refine a1c rfl rfl rfl rfl rfl (by repeat constructor) (by repeat constructor) ?_|refine a0b (a0y rfl (by with_reducible rfl)) rfl ?_|refine a0b (a1r rfl (by with_reducible rfl)) rfl ?_)|(first|refine a1n ?_|(refine a1o ?_;first|refine a0c (a0a ?_)|refine a0c ?_|refine a0a ?_|(refine a0x ?_;first|refine a0g rfl (by with_reducible rfl) ?_|refine a0h rfl (by with_reducible rfl) ?_)|refine a0n ?_|refine a0o ?_|refine a0k ?_|refine a1f ?_)|refine a0t ?_|refine a1q ?_|refine a2b ?_|refine a1d ?_|refine a1v ?_|refine a1b ?_|refine a1e ?_))
    all_goals
      refine ret1 (by first | exact .inr rfl | exact .inl rfl) rfl rfl ?_
      exact ⟨by rw [hm], rfl⟩
end
end Go.Proofs.YtkljmljkiodnpaaGreatDoor.L

namespace Go.Proofs.YtkljmljkiodnpaaGreatDoor.L
open Go Go.RowKit Go.Proofs
attribute [local irreducible] AL QL AWp Thn InB RetQ ACalls LoopQ HL HO HW HQ NoG JmpQ MidQ HF

section
variable {w0 : World} {base : Nat}
set_option maxHeartbeats 8000000 in
theorem b9e {r : Rp} (hG : Tabs w0 base) (hr : RpFit r) : PCalls (EE w0 base) 36 [.agg (rpC r)] fun rv => rv = prnY r := by
  have hM := c5h (w0 := w0) (base := base) hr
  unfold prnY
  obtain ⟨st, fs, body, cl⟩ := r
  obtain ⟨hf, he, hbd⟩ := hr
  dsimp only at hf he hbd
  have hlen : (fs.map prAV).length = fs.length := List.length_map _
  change PCalls (EE w0 base) 54 [.agg [.int .i64 st, .rs (fs.map prAV), .str body, .bool cl]] _ at hM
  change PCalls (EE w0 base) 36 [.agg [.int .i64 st, .rs (fs.map prAV), .str body, .bool cl]] _
  refine a1s Tryz.func36 rfl rfl rfl (.cons .nil) ?_
  cases hm : mayY ⟨st, fs, body, cl⟩ with
  | false =>
    rw [hm] at hM
    repeat' (first|((refine a0d ?_;refine a0q rfl rfl rfl rfl hM ?_;rintro _ rfl))|(refine a2k ?_;first|refine a0b (a0l rfl) rfl ?_|refine a0b (a0f rfl rfl) rfl ?_|(refine a1g ?_;first|refine a0b (a0w rfl rfl) rfl ?_|refine a0b (a0m rfl rfl rfl) rfl ?_)|(refine a1a ?_;first|refine a0b (a4m rfl rfl (by first|omega|(simp only [List.length_append,List.length_cons,List.length_nil];omega)|(simp;omega))) rfl ?_|refine a0b (a1p rfl rfl (by (first|exact w64 (by omega) (by omega)|rfl))) rfl ?_)|refine a0b (a0e rfl) rfl ?_|(refine a0d ?_;first|refine a0b (a0p rfl) rfl ?_)|refine a0b (a0s rfl rfl) rfl ?_|refine a0u ?_|refine a2g rfl rfl rfl (by first|exact ln0) (by repeat constructor) rfl ?_|refine a0b (a0y rfl (by with_reducible rfl)) rfl ?_|refine a0b (a1r rfl (by with_reducible rfl)) rfl ?_)|(first|refine a1n ?_|(refine a1o ?_;first|refine a0c (a0a ?_)|refine a0c ?_|refine a0a ?_|(refine a0x ?_;first|refine a0g rfl (by with_reducible rfl) ?_|refine a0h rfl (by with_reducible rfl) ?_)|refine a0n ?_|refine a0o ?_|refine a0k ?_|refine a1f ?_)|refine a0t ?_|refine a1q ?_|refine a1d ?_|refine a1v ?_|refine a1e ?_))
    refine ret2 (by first | exact .inr rfl | exact .inl rfl) rfl rfl rfl ?_
    exact ⟨rfl, rfl⟩
  | true =>
    rw [hm] at hM
    obtain ⟨h1, h2, h3, h4⟩ := a6w hm
    dsimp only at h1 h2 h3 h4
    have hIa := b1m (w0 := w0) (base := base) (n := st) hG (by omega) (by omega)
    have hIb := b1m (w0 := w0) (base := base) (n := (body.length : Int)) hG (by omega) (by omega)
    have hRe := b9d (w0 := w0) (base := base) (st := st)
    have hWl := a8w st
    have hia := Lib.itoa_length_le st (by omega) (by omega)
    have hib := Lib.itoa_length_le (body.length : Int) (by omega) (by omega)
    have e1 : (tx "HTTP/1.1 ").length = 9 := by decide +kernel
    have e2 : (tx "content-length: ").length = 16 := by decide +kernel
    have e3 : (tx "\r\nconnection: ").length = 14 := by decide +kernel
    have hW : ∃ e : Int, ∃ w, reaR st = .tup [.str w, .int .i64 e] ∧ ((e = 0 ∧ w = statW st) ∨ (e ≠ 0 ∧ statW st = tx "Status")) := by
      cases hw : wordsY st with
      | none => exact ⟨3, [], b3e hw, .inr ⟨by decide, by unfold statW; rw [hw]; rfl⟩⟩
      | some w => exact ⟨0, w, b3d hw, .inl ⟨rfl, by unfold statW; rw [hw]; rfl⟩⟩
    obtain ⟨e, w, hrw, hcase⟩ := hW
    rw [hrw] at hRe
    have hfl := a9p he
    have hfi : ∀ i, (fldsY (fs.take i)).length ≤ fs.length * 2199023255556 := fun i => by
      have := a9p (fs := fs.take i) fun p hp => he p (List.mem_of_mem_take hp)
      refine Nat.le_trans this ?_
      exact Nat.mul_le_mul_right _ (by simp only [List.length_take]; omega)
    have hmax : fs.length * 2199023255556 ≤ 32 * 2199023255556 := Nat.mul_le_mul_right _ h2
    have hy1 : (y1 st (statW st)).length ≤ 200 := by
      unfold y1
      simp only [List.length_append, List.length_cons, List.length_nil, e1]
      omega
    rcases hcase with ⟨rfl, rfl⟩ | ⟨hne, hst⟩
    all_goals
      repeat' (first|(first|(refine a0d ?_;refine a0q rfl rfl rfl rfl hM ?_;rintro _ rfl)|(refine a0d ?_;refine a0q rfl rfl rfl rfl hIa ?_;rintro _ rfl)|(refine a0d ?_;refine a0q rfl rfl rfl rfl hRe ?_;rintro _ rfl)|(refine a1a ?_;first|refine a0b (a1l rfl rfl rfl (by omega)) rfl ?_|refine a0b (a1m rfl rfl rfl (by omega)) rfl ?_))|(refine a2k ?_;first|refine a0b (a0l rfl) rfl ?_|refine a0b (a0f rfl rfl) rfl ?_|(refine a1g ?_;first|refine a0b (a0w rfl rfl) rfl ?_|refine a0b (a0m rfl rfl rfl) rfl ?_)|(refine a1a ?_;first|refine a0b (a4m rfl rfl (by first|omega|(simp only [List.length_append,List.length_cons,List.length_nil];omega)|(simp;omega))) rfl ?_|refine a0b (a1p rfl rfl (by (first|exact w64 (by omega) (by omega)|rfl))) rfl ?_)|refine a0b (a0e rfl) rfl ?_|(refine a0d ?_;first|refine a0b (a0p rfl) rfl ?_)|refine a0b (a0s rfl rfl) rfl ?_|refine a0u ?_|refine a2g rfl rfl rfl (by first|exact ln0) (by repeat constructor) rfl ?_|refine a0b (a0y rfl (by with_reducible rfl)) rfl ?_|refine a0b (a1r rfl (by with_reducible rfl)) rfl ?_)|(first|refine a1n ?_|(refine a1o ?_;first|refine a0c (a0a ?_)|refine a0c ?_|refine a0a ?_|(refine a0x ?_;first|refine a0g rfl (by with_reducible rfl) ?_|refine a0h rfl (by with_reducible rfl) ?_)|refine a0n ?_|refine a0o ?_|refine a0k ?_|refine a1f ?_)|refine a0t ?_|refine a1q ?_|refine a1d ?_|refine a1v ?_|refine a1e ?_))
      refine a4y (.spell 6 (.str (y1 st (statW st))) rfl (congrArg AV.str (by first | rfl | (rw [hst]; rfl)))) ?_
      refine a2o (fun q : Nat × List UInt8 => ⟨[(1, .op 0 0), (6, .str q.2), (7, .int .i64 q.1)], [.box [.int .i64 st, .rs (fs.map prAV), .str body, .bool cl]]⟩) (fun q => q.1 ≤ fs.length ∧ q.2 = y1 st (statW st) ++ fldsY (fs.take q.1)) (fun q => fs.length - q.1) (0, y1 st (statW st)) (.of (.same (by repeat constructor))) ⟨Nat.zero_le _, by rw [List.take_zero, fldsY, List.append_nil]⟩ ?_
      rintro ⟨i, l⟩ ⟨hi, hl⟩
      dsimp only at hi hl ⊢
      have hll : l.length ≤ 200 + 32 * 2199023255556 := by
        rw [hl, List.length_append]
        have := hfi i
        omega
      by_cases hlt : i < fs.length
      · obtain ⟨p, hp⟩ : ∃ p, fs[i]? = some p := ⟨_, List.getElem?_eq_getElem hlt⟩
        have hrow := a6e hp
        have hel := he p (List.mem_of_getElem? hp)
        have hnx := b0z hp
        repeat' (first|(first|(refine a0d ?_;refine a0b (a3p fs.length rfl hlen) rfl ?_)|refine a4c (a2j rfl rfl (by omega) hrow rfl) rfl ?_|(refine a1a ?_;first|refine a0b (a1l rfl rfl rfl (by omega)) rfl ?_|refine a0b (a1m rfl rfl rfl (by omega)) rfl ?_))|(refine a2k ?_;first|refine a0b (a0l rfl) rfl ?_|refine a0b (a0f rfl rfl) rfl ?_|(refine a1g ?_;first|refine a0b (a0w rfl rfl) rfl ?_|refine a0b (a0m rfl rfl rfl) rfl ?_)|(refine a1a ?_;first|refine a0b (a4m rfl rfl (by first|omega|(simp only [List.length_append,List.length_cons,List.length_nil];omega)|(simp;omega))) rfl ?_|refine a0b (a1p rfl rfl (by (first|exact w64 (by omega) (by omega)|rfl))) rfl ?_)|refine a0b (a0e rfl) rfl ?_|(refine a0d ?_;first|refine a0b (a0p rfl) rfl ?_)|refine a0b (a0s rfl rfl) rfl ?_|refine a0u ?_|refine a2g rfl rfl rfl (by first|exact ln0) (by repeat constructor) rfl ?_|refine a0b (a0y rfl (by with_reducible rfl)) rfl ?_|refine a0b (a1r rfl (by with_reducible rfl)) rfl ?_)|(first|refine a1n ?_|(refine a1o ?_;first|refine a0c (a0a ?_)|refine a0c ?_|refine a0a ?_|(refine a0x ?_;first|refine a0g rfl (by with_reducible rfl) ?_|refine a0h rfl (by with_reducible rfl) ?_)|refine a0n ?_|refine a0o ?_|refine a0k ?_|refine a1f ?_)|refine a0t ?_|refine a1q ?_|refine a1d ?_|refine a1v ?_|refine a1e ?_)|refine a7c (by kernel_rfl) (by kernel_rfl) ?_|(first|refine a4c (a0l rfl) rfl ?_|refine a4c (a0e rfl) rfl ?_|refine a4c (a0f rfl rfl) rfl ?_|refine a4c (a0w rfl rfl) rfl ?_|refine a4c (a0m rfl rfl rfl) rfl ?_|refine a4c (a0p rfl) rfl ?_|refine a4c (a0s rfl rfl) rfl ?_|refine a4c (a1p rfl rfl (by (first|exact w64 (by omega) (by omega)|rfl))) rfl ?_|refine a4c (a0y rfl (by with_reducible rfl)) rfl ?_|refine a4c (a1r rfl (by with_reducible rfl)) rfl ?_|refine a4c (a4m rfl rfl (by first|omega|(simp only [List.length_append,List.length_cons,List.length_nil];omega)|(simp;omega))) rfl ?_|refine b0u ?_))
        first | refine a1y (i + 1, (((l ++ p.1) ++ [58, 32]) ++ p.2) ++ [13, 10]) (.of (.same (by repeat constructor))) ?_ ?_ | fail
        · refine ⟨by dsimp only; omega, ?_⟩
          dsimp only
          rw [hnx, hl]
          unfold fldY
          simp only [List.append_assoc]
        · dsimp only; omega
      · have hie : fs.take i = fs := List.take_of_length_le (by omega)
        rw [hie] at hl
        have hfin : l ++ y3 body cl = printY ⟨st, fs, body, cl⟩ := by rw [hl]; rfl
        rw [← hfin]
        have hbl := h3
        cases cl
        all_goals
          repeat' (first|(first|(refine a0d ?_;refine a0b (a3p fs.length rfl hlen) rfl ?_)|(refine a0d ?_;refine a0q rfl rfl rfl rfl hIb ?_;rintro _ rfl)|(refine a1a ?_;first|refine a0b (a1l rfl rfl rfl (by omega)) rfl ?_|refine a0b (a1m rfl rfl rfl (by omega)) rfl ?_|refine a0b (a4m rfl rfl (by simp only [List.length_append,List.length_cons,List.length_nil];omega)) rfl ?_))|(refine a2k ?_;first|refine a0b (a0l rfl) rfl ?_|refine a0b (a0f rfl rfl) rfl ?_|(refine a1g ?_;first|refine a0b (a0w rfl rfl) rfl ?_|refine a0b (a0m rfl rfl rfl) rfl ?_)|(refine a1a ?_;first|refine a0b (a4m rfl rfl (by first|omega|(simp only [List.length_append,List.length_cons,List.length_nil];omega)|(simp;omega))) rfl ?_|refine a0b (a1p rfl rfl (by (first|exact w64 (by omega) (by omega)|rfl))) rfl ?_)|refine a0b (a0e rfl) rfl ?_|(refine a0d ?_;first|refine a0b (a0p rfl) rfl ?_)|refine a0b (a0s rfl rfl) rfl ?_|refine a0u ?_|refine a2g rfl rfl rfl (by first|exact ln0) (by repeat constructor) rfl ?_|refine a0b (a0y rfl (by with_reducible rfl)) rfl ?_|refine a0b (a1r rfl (by with_reducible rfl)) rfl ?_)|(first|refine a1n ?_|(refine a1o ?_;first|refine a0c (a0a ?_)|refine a0c ?_|refine a0a ?_|(refine a0x ?_;first|refine a0g rfl (by with_reducible rfl) ?_|refine a0h rfl (by with_reducible rfl) ?_)|refine a0n ?_|refine a0o ?_|refine a0k ?_|refine a1f ?_)|refine a0t ?_|refine a1q ?_|refine a1d ?_|refine a1v ?_|refine a1e ?_))
          refine ret2 (by first | exact .inr rfl | exact .inl rfl) rfl rfl rfl ?_
          refine ⟨?_, rfl⟩
          dsimp only
          rw [if_pos rfl]
          have e4 : tx "close" = "close".toUTF8.data.toList := rfl
          unfold y3 endW
          simp only [List.append_assoc]
          rfl
end
end Go.Proofs.YtkljmljkiodnpaaGreatDoor.L

namespace Go.Proofs.YtkljmljkiodnpaaGreatDoor.L
open Go Go.RowKit Go.Proofs
attribute [local irreducible] AL QL AWp Thn InB RetQ ACalls LoopQ HL HO HW HQ NoG JmpQ MidQ HF

theorem a9s {l p a b : List UInt8} (h : Lib.cut l p = (a, b, true)) : l = a ++ (p ++ b) := by
  unfold Lib.cut at h
  split at h
  · rename_i hi
    rcases Lib.index_spec l p with ⟨h1, _⟩ | ⟨i, h1, h2, h3, _⟩
    · omega
    · rw [h1] at h
      have e1 : ((i : Nat) : Int).toNat = i := rfl
      rw [e1] at h
      injection h with ha hb
      injection hb with hb _
      unfold Lib.occAt at h3
      obtain ⟨t, ht⟩ := List.isPrefixOf_iff_prefix.1 h3
      rw [← List.drop_drop, ← ht, List.drop_left] at hb
      rw [← ha, ← hb, ht, List.take_append_drop]
  · cases h
def PrP (s : List UInt8) (r : Rp) : Prop := mayY r = true ∧ ∃ tail, s = printY r ++ tail
theorem a4q {s : List UInt8} (h : ∀ r, PrP s r → False) : prsY s = .tup [.agg (rpC (rp0 0 [])), .int .i64 0, .int .i64 90] := by
  unfold prsY
  rw [b4r fun r hr => h r ⟨hr.1, b1t.1 hr.2⟩]
theorem c2r {s : List UInt8} {r : Rp} (h : PrP s r) : prsY s = .tup [.agg (rpC r), .int .i64 ((printY r).length : Int), .int .i64 0] := by
  unfold prsY
  rw [a6f.2 ⟨h.1, b1t.2 h.2⟩]
theorem itoa3 {v : Int} (h0 : 200 ≤ v) (h1 : v ≤ 599) : (Lib.itoa v).length = 3 ∧ digR (Lib.itoa v) = v := by
  have h : ∀ k : Fin 400, (Lib.itoa (((k.1 + 200 : Nat) : Int))).length = 3 := by decide +kernel
  have h2 := h ⟨(v - 200).toNat, by omega⟩
  have e : (((v - 200).toNat + 200 : Nat) : Int) = v := by omega
  rw [e] at h2
  refine ⟨h2, ?_⟩
  obtain ⟨n, rfl⟩ := Int.eq_ofNat_of_zero_le (show 0 ≤ v by omega)
  exact b3s (by omega)
theorem b9o {s : List UInt8} {r : Rp} (h : PrP s r) : 13 ≤ s.length ∧ s.take 9 = tx "HTTP/1.1 " ∧ digR ((s.take 12).drop 9) = r.st ∧ ∃ tail line, Lib.cut s [13, 10] = (line, fldsY r.fs ++ (y3 r.body r.cl ++ tail), true) := by
  obtain ⟨hm, tail, hs⟩ := h
  obtain ⟨h1, h2, h3, h4⟩ := a6w hm
  have e : s = y1 r.st (statW r.st) ++ (fldsY r.fs ++ (y3 r.body r.cl ++ tail)) := by
    rw [hs]
    unfold printY
    simp only [List.append_assoc]
  obtain ⟨h5, h6⟩ := itoa3 h1.1 h1.2
  have e9 : (tx "HTTP/1.1 ").length = 9 := by decide +kernel
  have e2 : s = tx "HTTP/1.1 " ++ (Lib.itoa r.st ++ ([32] ++ (statW r.st ++ ([13, 10] ++ (fldsY r.fs ++ (y3 r.body r.cl ++ tail)))))) := by
    rw [e]
    unfold y1
    simp only [List.append_assoc]
  refine ⟨?_, ?_, ?_, tail, _, by rw [e]; exact b3r (by omega)⟩
  · rw [e2]
    simp only [List.length_append, List.length_cons, List.length_nil, e9, h5]
    omega
  · rw [e2, ← e9, List.take_left]
  · have e3 : s.take 12 = tx "HTTP/1.1 " ++ Lib.itoa r.st := by
      rw [e2, ← List.append_assoc]
      have : (tx "HTTP/1.1 " ++ Lib.itoa r.st).length = 12 := by rw [List.length_append, e9, h5]
      rw [← this, List.take_left]
    rw [e3, ← e9, List.drop_left]
    exact h6
def ColA (line : List UInt8) (k : Nat) : Prop := k ≤ line.length ∧ (∀ (j : Nat) (c : UInt8), j < k → line[j]? = some c → c ≠ 58) ∧ ∀ c, line[k]? = some c → c = 58
theorem c4r {a b : List UInt8} {k : Nat} (ha : (58 : UInt8) ∉ a) (h : ColA (a ++ (58 :: b)) k) : k = a.length := by
  obtain ⟨h1, h2, h3⟩ := h
  rcases Nat.lt_trichotomy k a.length with hk | hk | hk
  · exfalso
    have := h3 a[k] (by rw [List.getElem?_append_left hk, List.getElem?_eq_getElem hk])
    exact ha (this ▸ List.getElem_mem hk)
  · exact hk
  · exact absurd rfl (h2 a.length 58 hk (by rw [List.getElem?_append_right (Nat.le_refl _), Nat.sub_self]; rfl))
structure QInv (s : List UInt8) (st : Int) (at' : Nat) (out : Fs) : Prop where
  le : at' ≤ s.length
  len : out.length ≤ at'
  each : ∀ p ∈ out, p.1.length ≤ s.length ∧ p.2.length ≤ s.length
  eq : ∀ r, PrP s r → st = r.st ∧ r.body.length ≤ 1048576 ∧ ∃ rf tail, r.fs = out ++ rf ∧ rf.all fieldY = true ∧ s.drop at' = fldsY rf ++ (y3 r.body r.cl ++ tail)
theorem b3f {s : List UInt8} {st : Int} {at' : Nat} {out : Fs} {r : Rp} (h : QInv s st at' out) (hr : PrP s r) : (Lib.cut (s.drop at') [13, 10]).2.2 = true ∧ ∀ line rest, Lib.cut (s.drop at') [13, 10] = (line, rest, true) →
    (r.fs = out ∧ line = clN ++ (58 :: ([32] ++ Lib.itoa (r.body.length : Int))) ∧ ∃ tail, rest = (tx "connection: " ++ endW r.cl) ++ ([13, 10, 13, 10] ++ (r.body ++ tail))) ∨
    ∃ p rf tail, r.fs = (out ++ [p]) ++ rf ∧ rf.all fieldY = true ∧ fieldY p = true ∧ line = p.1 ++ (58 :: ([32] ++ p.2)) ∧ rest = fldsY rf ++ (y3 r.body r.cl ++ tail) := by
  obtain ⟨h1, hb, rf, tail, h2, h3, h4⟩ := h.eq r hr
  cases rf with
  | nil =>
    rw [fldsY, List.nil_append] at h4
    rw [h4, c0y]
    refine ⟨rfl, fun line rest hc => .inl ?_⟩
    injection hc with hc1 hc2
    injection hc2 with hc2 _
    refine ⟨by rw [h2, List.append_nil], ?_, tail, hc2.symm⟩
    rw [← hc1]
    have e2 : tx "content-length: " = clN ++ [58, 32] := by decide +kernel
    rw [e2]
    simp only [List.append_assoc, List.cons_append, List.nil_append]
  | cons p rf =>
    rw [List.all_cons, Bool.and_eq_true] at h3
    rw [fldsY, List.append_assoc] at h4
    rw [h4, c0x h3.1]
    refine ⟨rfl, fun line rest hc => .inr ⟨p, rf, tail, by rw [h2, List.append_assoc]; rfl, h3.2, h3.1, ?_, ?_⟩⟩
    · injection hc with hc1 hc2
      rw [← hc1]
      simp only [List.append_assoc, List.cons_append, List.nil_append]
    · injection hc with hc1 hc2
      injection hc2 with hc2 _
      exact hc2.symm
theorem b5m {p : List UInt8 × List UInt8} (h : fieldY p = true) : (58 : UInt8) ∉ p.1 ∧ p.1 ≠ clN := by
  unfold fieldY at h
  rw [Bool.and_eq_true] at h
  exact ⟨a6b (a5y h.1).1 (by decide +kernel), (a5y h.1).2.2.1⟩
theorem c7t : (58 : UInt8) ∉ clN := by decide +kernel
structure EndP (s : List UInt8) (at' : Nat) (n : Int) (r : Rp) (out : Fs) : Prop where
  fs : r.fs = out
  n : n = (r.body.length : Int)
  cut : ∃ tail, Lib.cut (s.drop at') [13, 10] = (tx "connection: " ++ endW r.cl, [13, 10] ++ (r.body ++ tail), true)
theorem c2q {s : List UInt8} {st : Int} {at' k : Nat} {out : Fs} {r : Rp} {line rest : List UInt8} (h : QInv s st at' out) (hr : PrP s r) (hc : Lib.cut (s.drop at') [13, 10] = (line, rest, true)) (hk : ColA line k) :
    k + 2 ≤ line.length ∧ (line.take k = clN → EndP s (at' + line.length + 2) (digR (line.drop (k + 2))) r out) ∧
      (line.take k ≠ clN → ∃ rf tail, r.fs = (out ++ [(line.take k, line.drop (k + 2))]) ++ rf ∧ rf.all fieldY = true ∧ s.drop (at' + line.length + 2) = fldsY rf ++ (y3 r.body r.cl ++ tail)) := by
  have heq := a9s hc
  have hdr : s.drop (at' + line.length + 2) = rest := by
    rw [Nat.add_assoc, ← List.drop_drop, heq, ← List.drop_drop, List.drop_left]
    rfl
  rcases (b3f h hr).2 line rest hc with ⟨h1, h2, tail, h3⟩ | ⟨p, rf, tail, h1, h2, h3, h4, h5⟩
  · have hkk := c4r (b := [32] ++ Lib.itoa (r.body.length : Int)) c7t (by rw [← h2]; exact hk)
    have ht : line.take k = clN := by rw [h2, hkk, List.take_left]
    have hl : line.length = clN.length + (1 + (1 + (Lib.itoa (r.body.length : Int)).length)) := by
      rw [h2]; simp only [List.length_append, List.length_cons, List.length_nil]; omega
    refine ⟨by omega, fun _ => ⟨h1, ?_, tail, ?_⟩, fun hn => absurd ht hn⟩
    · have hd2 : line.drop (k + 2) = Lib.itoa (r.body.length : Int) := by
        rw [h2, hkk, ← List.drop_drop, List.drop_left]
        rfl
      rw [hd2]
      exact b3s (h.eq r hr).2.1
    · rw [hdr, h3]
      have e : (tx "connection: " ++ endW r.cl) ++ ([13, 10, 13, 10] ++ (r.body ++ tail)) = (tx "connection: " ++ endW r.cl) ++ ([13, 10] ++ ([13, 10] ++ (r.body ++ tail))) := by simp only [List.append_assoc, List.cons_append, List.nil_append]
      rw [e]
      exact a6n 13 [10] (by cases r.cl <;> decide +kernel)
  · have hp := b5m h3
    have hkk := c4r (b := [32] ++ p.2) hp.1 (by rw [← h4]; exact hk)
    have ht : line.take k = p.1 := by rw [h4, hkk, List.take_left]
    have hd2 : line.drop (k + 2) = p.2 := by
      rw [h4, hkk, ← List.drop_drop, List.drop_left]
      rfl
    have hl : line.length = p.1.length + (1 + (1 + p.2.length)) := by
      rw [h4]; simp only [List.length_append, List.length_cons, List.length_nil]; omega
    refine ⟨by omega, fun hn => absurd (ht.symm.trans hn) hp.2, fun _ => ⟨rf, tail, ?_, h2, ?_⟩⟩
    · rw [ht, hd2]; exact h1
    · rw [hdr, h5]
theorem b2c {s line rest : List UInt8} {at' : Nat} {e : Bool} (h : Lib.cut (s.drop at') [13, 10] = (line, rest, e)) : endI s at' = if e then ((at' + line.length : Nat) : Int) else -1 := by
  unfold endI
  rw [h]
theorem a9a {s line rest : List UInt8} {at' : Nat} (h : Lib.cut (s.drop at') [13, 10] = (line, rest, true)) (ha : at' ≤ s.length) : at' + line.length + 2 ≤ s.length ∧ (s.take (at' + line.length)).drop at' = line := by
  have heq := a9s h
  have hl : (s.drop at').length = line.length + (2 + rest.length) := by
    rw [heq]; simp only [List.length_append, List.length_cons, List.length_nil]
  rw [List.length_drop] at hl
  refine ⟨by omega, ?_⟩
  rw [List.drop_take, heq]
  have : at' + line.length - at' = line.length := by omega
  rw [this, List.take_left]
end Go.Proofs.YtkljmljkiodnpaaGreatDoor.L

namespace Go.Proofs.YtkljmljkiodnpaaGreatDoor.L
open Go Go.RowKit Go.Proofs
attribute [local irreducible] AL QL AWp Thn InB RetQ ACalls LoopQ HL HO HW HQ NoG JmpQ MidQ HF

section
variable {w0 : World} {base : Nat}
end
end Go.Proofs.YtkljmljkiodnpaaGreatDoor.L

namespace Go.Proofs.YtkljmljkiodnpaaGreatDoor.L
open Go Go.RowKit Go.Proofs
attribute [local irreducible] AL QL AWp Thn InB RetQ ACalls LoopQ HL HO HW HQ NoG JmpQ MidQ HF

section
variable {E : Env} {sl : Slots} {H : List AO}
theorem a3y {t : Nat} {n b : Nat} {z : Value} [ti : TI E.P t .string n b z] {x lo hi : Operand} {s T : List UInt8} {k k' : IntKind} {l h : Int}
    (hx : ev sl x = some (.str s)) (hlo : ev sl lo = some (.int k l)) (hhi : ev sl hi = some (.int k' h)) (h0 : 0 ≤ l) (h1 : l ≤ h) (h2 : h ≤ (s.length : Int)) (he : (s.take h.toNat).drop l.toNat = T) : OV E sl H (.slice t x (some lo) (some hi) none) (.str T) := he ▸ a6g hx hlo hhi h0 h1 h2
end
def restLC (s : List UInt8) (a : Nat) : List (List UInt8) := if a ≤ s.length then splitB 10 (s.drop a) else []
section
variable {w0 : World} {base : Nat}
end
end Go.Proofs.YtkljmljkiodnpaaGreatDoor.L

namespace Go.Proofs.YtkljmljkiodnpaaGreatDoor.L
open Go Go.RowKit Go.Proofs
attribute [local irreducible] AL QL AWp Thn InB RetQ ACalls LoopQ HL HO HW HQ NoG JmpQ MidQ HF

section
variable {w0 : World} {base : Nat}
abbrev noneC : List AV := [.int .i64 0, .nilsl, .str [], .bool false]
abbrev qSt (s : List UInt8) (at' : Nat) (st : Int) (ver : Nat) (xs : List (List AV)) : St :=
  ⟨[(0, .str s), (2, .op 0 0), (5, .op 1 0), (6, .op 2 0), (7, .int .i64 at')], [.box noneC, .box noneC, .box [.int .i64 st, .os 3 ver, .str [], .bool false], .row 90 2 ver 0 xs]⟩
set_option maxHeartbeats 16000000 in
theorem b9f {s : List UInt8} (hG : Tabs w0 base) (hs : s.length ≤ 1073741824) : PCalls (EE w0 base) 14 [.str s] fun rv => rv = prsY s := by
  have hbox : ∀ r, PrP s r → 13 ≤ s.length ∧ s.take 9 = tx "HTTP/1.1 " ∧ digR ((s.take 12).drop 9) = r.st ∧ ∃ tail line, Lib.cut s [13, 10] = (line, fldsY r.fs ++ (y3 r.body r.cl ++ tail), true) := fun r h => b9o h
  have hE0 := c5m (w0 := w0) (base := base) (s := s) (at' := 0) (by omega) (Nat.zero_le _)
  refine a1s Tryz.func14 rfl rfl rfl (.cons .nil) ?_
  by_cases h13 : s.length < 13
  · rw [a4q fun r h => by have := (hbox r h).1; omega]
    repeat' (first | ((refine a1a ?_; first | (refine a0b (a1l rfl rfl rfl (by omega)) rfl ?_) | (refine a0b (a1m rfl rfl rfl (by omega)) rfl ?_))) | (refine stm ?_) | (refine stp ?_) | fail)
    refine a2m (.boxLe (id := 0) [.int .i64 0, .rs [], .str [], .bool false] rfl (.cons (.refl _) (.cons .nil (.cons (.refl _) (.cons (.refl _) .nil)))) rfl) ?_
    refine retc2 (by first | exact .inr rfl | exact .inl rfl) rfl rfl rfl rfl rfl rfl ?_
    exact ⟨rfl, rfl⟩
  obtain ⟨T, hT⟩ : ∃ T, s.take (9 : Int).toNat = T := ⟨_, rfl⟩
  have hT9 : s.take 9 = T := hT
  by_cases h9 : ¬ T = tx "HTTP/1.1 "
  · rw [a4q fun r h => h9 (by rw [← hT9]; exact (hbox r h).2.1)]
    repeat' (first | (first | (refine a0b (a3c (T := T) rfl rfl (by omega) (by omega) hT) rfl ?_) | (refine a1a ?_; first | (refine a0b (a1l rfl rfl rfl (by omega)) rfl ?_) | (refine a0b (a1m rfl rfl rfl (by omega)) rfl ?_) | (refine a0b (a4z (n := tx "HTTP/1.1 ") h9 rfl rfl) rfl ?_))) | (refine stm ?_) | (refine stp ?_) | fail)
    refine a2m (.boxLe (id := 0) [.int .i64 0, .rs [], .str [], .bool false] rfl (.cons (.refl _) (.cons .nil (.cons (.refl _) (.cons (.refl _) .nil)))) rfl) ?_
    refine retc2 (by first | exact .inr rfl | exact .inl rfl) rfl rfl rfl rfl rfl rfl ?_
    exact ⟨rfl, rfl⟩
  have h9 : T = tx "HTTP/1.1 " := Classical.not_not.1 h9
  have hD := b6k (w0 := w0) (base := base) (s := (s.take 12).drop 9) (by simp only [List.length_drop, List.length_take]; omega)
  have hbd := b1a ((s.take 12).drop 9)
  obtain ⟨st, hst⟩ : ∃ st, digR ((s.take 12).drop 9) = st := ⟨_, rfl⟩
  rw [hst] at hD hbd
  have hD2 : (s.take (12 : Int).toNat).drop (9 : Int).toNat = (s.take 12).drop 9 := rfl
  obtain ⟨line0, rest0, e0, hcut0⟩ : ∃ x y z, Lib.cut (s.drop 0) [13, 10] = (x, y, z) := ⟨_, _, _, rfl⟩
  rw [b2c hcut0] at hE0
  cases e0 with
  | false =>
    rw [if_neg (by decide)] at hE0
    rw [a4q fun r h => by
      obtain ⟨_, _, _, tail, line, hc⟩ := hbox r h
      rw [List.drop_zero, hc] at hcut0
      injection hcut0 with _ h2
      injection h2 with _ h2
      cases h2]
    repeat' (first | (first | (refine a0b (a3c (T := T) rfl rfl (by omega) (by omega) hT) rfl ?_) | (refine a0b (a3y rfl rfl rfl (by omega) (by omega) (by omega) hD2) rfl ?_) | (refine a0d ?_; refine a0q rfl rfl rfl rfl hD ?_; rintro _ rfl) | (refine a0d ?_; refine a0q rfl rfl rfl rfl hE0 ?_; rintro _ rfl) | (refine a1a ?_; first | (refine a0b (a1l rfl rfl rfl (by omega)) rfl ?_) | (refine a0b (a1m rfl rfl rfl (by omega)) rfl ?_) | (refine a0b (a4r (n := tx "HTTP/1.1 ") h9 rfl rfl) rfl ?_))) | (refine stm ?_) | (refine stp ?_) | fail)
    refine a2m (.boxLe (id := 0) [.int .i64 0, .rs [], .str [], .bool false] rfl (.cons (.refl _) (.cons .nil (.cons (.refl _) (.cons (.refl _) .nil)))) rfl) ?_
    refine retc2 (by first | exact .inr rfl | exact .inl rfl) rfl rfl rfl rfl rfl rfl ?_
    exact ⟨rfl, rfl⟩
  | true =>
    rw [if_pos rfl, Nat.zero_add] at hE0
    obtain ⟨hr0, _⟩ := a9a hcut0 (Nat.zero_le _)
    have heq0 := a9s hcut0
    rw [List.drop_zero] at heq0 hcut0
    repeat' (first | (first | (refine a0b (a3c (T := T) rfl rfl (by omega) (by omega) hT) rfl ?_) | (refine a0b (a3y rfl rfl rfl (by omega) (by omega) (by omega) hD2) rfl ?_) | (refine a0d ?_; refine a0q rfl rfl rfl rfl hD ?_; rintro _ rfl) | (refine a0d ?_; refine a0q rfl rfl rfl rfl hE0 ?_; rintro _ rfl) | (refine a1a ?_; first | (refine a0b (a1l rfl rfl rfl (by omega)) rfl ?_) | (refine a0b (a1m rfl rfl rfl (by omega)) rfl ?_) | (refine a0b (a4r (n := tx "HTTP/1.1 ") h9 rfl rfl) rfl ?_))) | (refine stm ?_) | (refine stp ?_) | fail)
    refine a4y (.adoptBox (id := 2) (k := 1) (e := 90) (sz := 2) rfl rfl (by decide) rfl rfl rfl) ?_
    refine a4y (.spell 7 (.int .i64 ((line0.length + 2 : Nat) : Int)) rfl (congrArg (AV.int .i64) (by omega))) ?_
    refine a2o (fun q : Nat × Fs × Nat × List (List AV) => qSt s q.1 st q.2.2.1 q.2.2.2) (fun q => q.2.2.2 = q.2.1.map prAV ∧ QInv s st q.1 q.2.1) (fun q => s.length - q.1) (line0.length + 2, [], 0, []) (.of (.same (by repeat constructor))) ⟨rfl, by dsimp only; omega, Nat.zero_le _, (fun p h => by cases h), fun r h => by
      obtain ⟨_, _, h3, tail, line, hc⟩ := hbox r h
      obtain ⟨m1, m2, m3, m4⟩ := a6w h.1
      rw [hcut0] at hc
      injection hc with hc1 hc2
      injection hc2 with hc2 _
      refine ⟨by rw [← hst, h3], m3, r.fs, tail, rfl, m4, ?_⟩
      dsimp only
      rw [heq0, ← List.drop_drop, List.drop_left]
      exact hc2⟩ ?_
    rintro ⟨at', out, ver, xs⟩ ⟨hxs, hI⟩
    dsimp only at hxs hI ⊢
    subst hxs
    have hIle := hI.le
    have hIlen := hI.len
    have hol : (out.map prAV).length = out.length := List.length_map _
    have hE1 := c5m (w0 := w0) (base := base) (s := s) (at' := at') (by omega) hIle
    obtain ⟨line, rest, e, hcut⟩ : ∃ x y z, Lib.cut (s.drop at') [13, 10] = (x, y, z) := ⟨_, _, _, rfl⟩
    rw [b2c hcut] at hE1
    cases e with
    | false =>
      rw [if_neg (by decide)] at hE1
      rw [a4q fun r h => by
        have := (b3f hI h).1
        rw [hcut] at this
        cases this]
      repeat' (first | (first | (refine a0d ?_; refine a0q rfl rfl rfl rfl hE1 ?_; rintro _ rfl) | (refine a1a ?_; first | (refine a0b (a1l rfl rfl rfl (by omega)) rfl ?_))) | (refine stm ?_) | (refine stp ?_) | fail)
      refine a2m (.boxLe (id := 0) [.int .i64 0, .rs [], .str [], .bool false] rfl (.cons (.refl _) (.cons .nil (.cons (.refl _) (.cons (.refl _) .nil)))) rfl) ?_
      refine retc2 (by first | exact .inr rfl | exact .inl rfl) rfl rfl rfl rfl rfl rfl ?_
      exact ⟨rfl, rfl⟩
    | true =>
      rw [if_pos rfl] at hE1
      obtain ⟨hroom, hsl⟩ := a9a hcut hIle
      have hsl2 : (s.take ((at' + line.length : Nat) : Int).toNat).drop ((at' : Nat) : Int).toNat = line := hsl
      repeat' (first | (first | (refine a0d ?_; refine a0q rfl rfl rfl rfl hE1 ?_; rintro _ rfl) | (refine a1a ?_; first | (refine a0b (a1l rfl rfl rfl (by omega)) rfl ?_) | (refine a0b (a1m rfl rfl rfl (by omega)) rfl ?_)) | (refine a0b (a3y (T := line) rfl rfl rfl (by omega) (by omega) (by omega) hsl2) rfl ?_)) | (refine stm ?_) | (refine stp ?_) | fail)
      refine a2o (fun k : Nat => ⟨[(0,.str s),(2,.op 0 0),(5,.op 1 0),(6,.op 2 0),(7,.int .i64 at'),(8,.int .i64 ((at' + line.length : Nat) : Int)),(9,.str line),(10,.int .i64 k)],(qSt s at' st ver (out.map prAV)).objs⟩) (fun k => k ≤ line.length ∧ ∀ (j : Nat) (c : UInt8),j < k → line[j]? = some c → c ≠ 58) (fun k => line.length - k) 0 (.of (.same (by repeat constructor))) ⟨Nat.zero_le _,fun j c h => absurd h (Nat.not_lt_zero _)⟩ ?_
      rintro k ⟨hk, hno⟩
      try dsimp only
      by_cases hcol : k < line.length ∧ ¬ byteAt line (k : Int) = 58
      · obtain ⟨hkl, hk58⟩ := hcol
        repeat' (first | ((refine a1a ?_; first | (refine a0b (a1l rfl rfl rfl (by omega)) rfl ?_) | (refine a0b (a1m rfl rfl rfl (by omega)) rfl ?_))) | (refine stm ?_) | (refine stp ?_) | fail)
        first | refine a1y (k + 1) (.of (.same (by repeat constructor))) ?_ ?_ | refine a1y (k + 1) (.of (a2n [_] rfl (by repeat constructor) rfl (by repeat constructor) rfl)) ?_ ?_ | refine a1y (k + 1) (.of (a2n [_, _] rfl (by repeat constructor) rfl (by repeat constructor) rfl)) ?_ ?_ | refine a1y (k + 1) (.of (a2n [_, _, _] rfl (by repeat constructor) rfl (by repeat constructor) rfl)) ?_ ?_
        · refine ⟨by omega, fun j c hj hc => ?_⟩
          rcases Nat.lt_or_ge j k with h | h
          · exact hno j c h hc
          · obtain rfl : j = k := by omega
            rintro rfl
            exact hk58 (a7x hc)
        · omega
      have hCol : ColA line k := ⟨hk, hno, fun c hc => by
        have hkl := (List.getElem?_eq_some_iff.1 hc).1
        have h58 : byteAt line (k : Int) = 58 := Classical.byContradiction fun h => hcol ⟨hkl, h⟩
        rw [a7x hc] at h58
        exact UInt8.toNat_inj.1 (by have e : (58 : UInt8).toNat = 58 := rfl; omega)⟩
      have hQ := fun r (h : PrP s r) => c2q hI h hcut hCol
      have hcol2 : ¬ k < line.length ∨ (k < line.length ∧ byteAt line (k : Int) = 58) := by
        by_cases h1 : k < line.length
        · exact .inr ⟨h1, Classical.byContradiction fun h => hcol ⟨h1, h⟩⟩
        · exact .inl h1
      by_cases hk2 : line.length < k + 2
      · rw [a4q fun r h => by have := (hQ r h).1; omega]
        rcases hcol2 with hc1 | ⟨hc1, hc2⟩
        all_goals
          repeat' (first | ((refine a1a ?_; first | (refine a0b (a1l rfl rfl rfl (by omega)) rfl ?_) | (refine a0b (a1m rfl rfl rfl (by omega)) rfl ?_))) | (refine stm ?_) | (refine stp ?_) | fail)
          refine a2m (.boxLe (id := 0) [.int .i64 0, .rs [], .str [], .bool false] rfl (.cons (.refl _) (.cons .nil (.cons (.refl _) (.cons (.refl _) .nil)))) rfl) ?_
          refine retc2 (by first | exact .inr rfl | exact .inl rfl) rfl rfl rfl rfl rfl rfl ?_
          exact ⟨rfl, rfl⟩
      have hc58 : k < line.length ∧ byteAt line (k : Int) = 58 := by
        rcases hcol2 with h | h
        · omega
        · exact h
      obtain ⟨hkl, hk58⟩ := hc58
      obtain ⟨nm, hnm⟩ : ∃ nm, line.take ((k : Nat) : Int).toNat = nm := ⟨_, rfl⟩
      have hnm2 : line.take k = nm := hnm
      obtain ⟨vl, hvl⟩ : ∃ vl, line.drop (((k : Nat) : Int) + 2).toNat = vl := ⟨_, rfl⟩
      have hvl2 : line.drop (k + 2) = vl := hvl
      rw [hnm2, hvl2] at hQ
      have hnml : nm.length ≤ line.length := by rw [← hnm2, List.length_take]; omega
      have hvll : vl.length ≤ line.length := by rw [← hvl2, List.length_drop]; omega
      by_cases hcl : nm = clN
      · have hDv := b6k (w0 := w0) (base := base) (s := vl) (by omega)
        have hdb := b1a vl
        obtain ⟨n, hn⟩ : ∃ n, digR vl = n := ⟨_, rfl⟩
        rw [hn] at hDv hdb hQ
        have hE2 := c5m (w0 := w0) (base := base) (s := s) (at' := at' + line.length + 2) (by omega) (by omega)
        obtain ⟨l2, rest2, e2, hcut2⟩ : ∃ x y z, Lib.cut (s.drop (at' + line.length + 2)) [13, 10] = (x, y, z) := ⟨_, _, _, rfl⟩
        rw [b2c hcut2] at hE2
        have hEP := fun r (h : PrP s r) => (hQ r h).2.1 hcl
        cases e2 with
        | false =>
          rw [if_neg (by decide)] at hE2
          rw [a4q fun r h => by
            obtain ⟨tail, hc⟩ := (hEP r h).cut
            rw [hcut2] at hc
            injection hc with _ hc
            injection hc with _ hc
            cases hc]
          have hn2 : n < 0 ∨ 0 ≤ n := by omega
          rcases hn2 with hn2 | hn2
          all_goals
            repeat' (first|(first|(refine a0d ?_;refine a0q rfl rfl rfl rfl hDv ?_;rintro _ rfl)|(refine a0d ?_;refine a0q rfl rfl rfl rfl hE2 ?_;rintro _ rfl)|(refine a1a ?_;first|refine a0b (a1l rfl rfl rfl (by omega)) rfl ?_|refine a0b (a1m rfl rfl rfl (by omega)) rfl ?_|refine a0b (a2h (n := clN) hcl rfl rfl) rfl ?_)|refine a0b (a3c rfl rfl (by omega) (by omega) hnm) rfl ?_|refine a0b (a3x rfl rfl (by omega) (by omega) hvl) rfl ?_)|refine stm ?_|refine stp ?_|fail)
            refine a2m (.boxLe (id := 0) [.int .i64 0, .rs [], .str [], .bool false] rfl (.cons (.refl _) (.cons .nil (.cons (.refl _) (.cons (.refl _) .nil)))) rfl) ?_
            refine retc2 (by first | exact .inr rfl | exact .inl rfl) rfl rfl rfl rfl rfl rfl ?_
            exact ⟨rfl, rfl⟩
        | true =>
          rw [if_pos rfl] at hE2
          obtain ⟨hroom2, hsl3⟩ := a9a hcut2 (by omega)
          by_cases hgood : ¬ (0 ≤ n ∧ n ≤ (s.length : Int) - ((at' + line.length + 2 + l2.length : Nat) : Int) - 4)
          · rw [a4q fun r h => by
              obtain ⟨h1, h2, tail, hc⟩ := hEP r h
              have hq := a9s hc
              have hlq : (s.drop (at' + line.length + 2)).length = (tx "connection: " ++ endW r.cl).length + (2 + (2 + (r.body.length + tail.length))) := by
                rw [hq]; simp only [List.length_append, List.length_cons, List.length_nil]
              rw [hcut2] at hc
              injection hc with hc _
              rw [← hc, List.length_drop] at hlq
              exact hgood ⟨by omega, by omega⟩]
            have hn2 : n < 0 ∨ 0 ≤ n := by omega
            rcases hn2 with hn2 | hn2
            all_goals
              repeat' (first|(first|(refine a0d ?_;refine a0q rfl rfl rfl rfl hDv ?_;rintro _ rfl)|(refine a0d ?_;refine a0q rfl rfl rfl rfl hE2 ?_;rintro _ rfl)|(refine a1a ?_;first|refine a0b (a1l rfl rfl rfl (by omega)) rfl ?_|refine a0b (a1m rfl rfl rfl (by omega)) rfl ?_|refine a0b (a2h (n := clN) hcl rfl rfl) rfl ?_)|refine a0b (a3c rfl rfl (by omega) (by omega) hnm) rfl ?_|refine a0b (a3x rfl rfl (by omega) (by omega) hvl) rfl ?_)|refine stm ?_|refine stp ?_|fail)
              refine a2m (.boxLe (id := 0) [.int .i64 0, .rs [], .str [], .bool false] rfl (.cons (.refl _) (.cons .nil (.cons (.refl _) (.cons (.refl _) .nil)))) rfl) ?_
              refine retc2 (by first | exact .inr rfl | exact .inl rfl) rfl rfl rfl rfl rfl rfl ?_
              exact ⟨rfl, rfl⟩
          obtain ⟨hg1, hg2⟩ := Classical.not_not.1 hgood
          obtain ⟨N, rfl⟩ := Int.eq_ofNat_of_zero_le hg1
          obtain ⟨body, hbody⟩ : ∃ b, (s.take (((at' + line.length + 2 + l2.length : Nat) : Int) + 4 + (N : Int)).toNat).drop (((at' + line.length + 2 + l2.length : Nat) : Int) + 4).toNat = b := ⟨_, rfl⟩
          have hsl4 : (s.take ((at' + line.length + 2 + l2.length : Nat) : Int).toNat).drop (((at' + line.length : Nat) : Int) + 2).toNat = l2 := hsl3
          have hbl : body.length ≤ s.length := by rw [← hbody]; simp only [List.length_drop, List.length_take]; omega
          have hfit : RpFit ⟨st, out, body, decide (l2 = tx "connection: close")⟩ := ⟨by dsimp only; omega, fun p h => by have := hI.each p h; omega, by dsimp only; omega⟩
          have hguess : ∀ r, PrP s r → (⟨st, out, body, decide (l2 = tx "connection: close")⟩ : Rp) = r := fun r h => by
            obtain ⟨h1, h2, tail, hc⟩ := hEP r h
            have hq := a9s hc
            have hl2 : l2 = tx "connection: " ++ endW r.cl := by
              rw [hcut2] at hc
              injection hc
            have hb : body = r.body := by
              have e1 : (((at' + line.length + 2 + l2.length : Nat) : Int) + 4 + (N : Int)).toNat = (at' + line.length + 2) + (l2.length + 4 + N) := by omega
              have e2 : (((at' + line.length + 2 + l2.length : Nat) : Int) + 4).toNat = (at' + line.length + 2) + (l2.length + 4) := by omega
              rw [← hbody, e1, e2, List.drop_take, ← List.drop_drop, hq, ← hl2]
              have e3 : l2 ++ ([13, 10] ++ ([13, 10] ++ (r.body ++ tail))) = (l2 ++ [13, 10, 13, 10]) ++ (r.body ++ tail) := by simp only [List.append_assoc, List.cons_append, List.nil_append]
              have e4 : l2.length + 4 = (l2 ++ [13, 10, 13, 10]).length := by simp
              have e5 : at' + line.length + 2 + (l2.length + 4 + N) - (at' + line.length + 2 + (l2.length + 4)) = r.body.length := by omega
              rw [e3, e5, e4, List.drop_left, List.take_left]
            have h3 := (hI.eq r h).1
            obtain ⟨rst, rfs, rb, rcl⟩ := r
            dsimp only at h1 h2 h3 hb hl2
            rw [h3, h1, hb, hl2, c4n]
          have hP := b9e (w0 := w0) (base := base) hG hfit
          obtain ⟨cl, hclq⟩ : ∃ cl, decide (l2 = tx "connection: close") = cl := ⟨_, rfl⟩
          rw [hclq] at hP hguess hfit
          have hseq : ∀ (t t' : TypeId) (sl : Slots) (H : List AO) (x y : Operand), ev sl x = some (.str l2) → ev sl y = some (.str (tx "connection: close")) → OV ((EE w0 base).at ([] : List AO).length) sl H (.binOp .eql t x y t') (.bool cl) := fun t t' sl H x y h1 h2 => by
            have := a2t (E := (EE w0 base).at ([] : List AO).length) (H := H) (t := t) (t' := t') h1 h2
            rwa [hclq] at this
          cases hm : mayY ⟨st, out, body, cl⟩ with
          | false =>
            rw [a4q fun r h => by
              have := hguess r h
              rw [this] at hm
              rw [h.1] at hm
              cases hm]
            have hP1 : PCalls (EE w0 base) 36 [.agg (rpC ⟨st, out, body, cl⟩)] fun rv => rv = .tup [.str [], .int .i64 90] := a2w hP fun rv os h => ⟨by rw [h.1]; unfold prnY; rw [hm]; rfl, h.2⟩
            repeat' (first|(first|(refine a0d ?_;refine a0q rfl rfl rfl rfl hDv ?_;rintro _ rfl)|(refine a0d ?_;refine a0q rfl rfl rfl rfl hE2 ?_;rintro _ rfl)|(refine a0d ?_;refine a0q rfl rfl rfl rfl hP1 ?_;rintro _ rfl)|(refine a1a ?_;first|refine a0b (a1l rfl rfl rfl (by omega)) rfl ?_|refine a0b (a1m rfl rfl rfl (by omega)) rfl ?_|refine a0b (a2h (m := nm) (n := clN) hcl rfl rfl) rfl ?_|refine a0b (hseq _ _ _ _ _ _ rfl rfl) rfl ?_)|refine a0b (a3y (T := l2) rfl rfl rfl (by omega) (by omega) (by omega) hsl4) rfl ?_|refine a0b (a3y (T := body) rfl rfl rfl (by omega) (by omega) (by omega) hbody) rfl ?_|refine a0b (a3c (T := nm) rfl rfl (by omega) (by omega) hnm) rfl ?_|refine a0b (a3x (T := vl) rfl rfl (by omega) (by omega) hvl) rfl ?_|(refine a4j (.boxFreeze (ib := 2) (k := 1) (id := 3) rfl rfl rfl rfl (by repeat constructor) rfl rfl) ?_;refine a0b (a0m (p := .tmp 6) rfl rfl rfl) rfl ?_))|refine stm ?_|refine stp ?_|fail)
            refine a2m (.boxLe (id := 0) [.int .i64 0, .rs [], .str [], .bool false] rfl (.cons (.refl _) (.cons .nil (.cons (.refl _) (.cons (.refl _) .nil)))) rfl) ?_
            refine retc2 (by first | exact .inr rfl | exact .inl rfl) rfl rfl rfl rfl rfl rfl ?_
            exact ⟨rfl, rfl⟩
          | true =>
            have hP1 : PCalls (EE w0 base) 36 [.agg (rpC ⟨st, out, body, cl⟩)] fun rv => rv = .tup [.str (printY ⟨st, out, body, cl⟩), .int .i64 0] := a2w hP fun rv os h => ⟨by rw [h.1]; unfold prnY; rw [hm]; rfl, h.2⟩
            obtain ⟨pt, hpt⟩ : ∃ pt, printY ⟨st, out, body, cl⟩ = pt := ⟨_, rfl⟩
            rw [hpt] at hP1
            by_cases hbig : s.length < pt.length
            · rw [a4q fun r h => by
                have h1 := hguess r h
                obtain ⟨_, tail, h2⟩ := h
                rw [← h1, hpt] at h2
                rw [h2, List.length_append] at hbig
                omega]
              repeat' (first|(first|(refine a0d ?_;refine a0q rfl rfl rfl rfl hDv ?_;rintro _ rfl)|(refine a0d ?_;refine a0q rfl rfl rfl rfl hE2 ?_;rintro _ rfl)|(refine a0d ?_;refine a0q rfl rfl rfl rfl hP1 ?_;rintro _ rfl)|(refine a1a ?_;first|refine a0b (a1l rfl rfl rfl (by omega)) rfl ?_|refine a0b (a1m rfl rfl rfl (by omega)) rfl ?_|refine a0b (a2h (m := nm) (n := clN) hcl rfl rfl) rfl ?_|refine a0b (hseq _ _ _ _ _ _ rfl rfl) rfl ?_)|refine a0b (a3y (T := l2) rfl rfl rfl (by omega) (by omega) (by omega) hsl4) rfl ?_|refine a0b (a3y (T := body) rfl rfl rfl (by omega) (by omega) (by omega) hbody) rfl ?_|refine a0b (a3c (T := nm) rfl rfl (by omega) (by omega) hnm) rfl ?_|refine a0b (a3x (T := vl) rfl rfl (by omega) (by omega) hvl) rfl ?_|(refine a4j (.boxFreeze (ib := 2) (k := 1) (id := 3) rfl rfl rfl rfl (by repeat constructor) rfl rfl) ?_;refine a0b (a0m (p := .tmp 6) rfl rfl rfl) rfl ?_))|refine stm ?_|refine stp ?_|fail)
              refine a2m (.boxLe (id := 0) [.int .i64 0, .rs [], .str [], .bool false] rfl (.cons (.refl _) (.cons .nil (.cons (.refl _) (.cons (.refl _) .nil)))) rfl) ?_
              refine retc2 (by first | exact .inr rfl | exact .inl rfl) rfl rfl rfl rfl rfl rfl ?_
              exact ⟨rfl, rfl⟩
            · obtain ⟨TT, hTT⟩ : ∃ TT, s.take ((pt.length : Nat) : Int).toNat = TT := ⟨_, rfl⟩
              by_cases heq : TT = pt
              · have hpr : PrP s ⟨st, out, body, cl⟩ := ⟨hm, s.drop pt.length, by
                  rw [hpt]
                  have hTT2 : s.take pt.length = TT := hTT
                  have := List.take_append_drop pt.length s
                  rw [hTT2, heq] at this
                  exact this.symm⟩
                rw [c2r hpr, hpt]
                repeat' (first|(first|(refine a0d ?_;refine a0q rfl rfl rfl rfl hDv ?_;rintro _ rfl)|(refine a0d ?_;refine a0q rfl rfl rfl rfl hE2 ?_;rintro _ rfl)|(refine a0d ?_;refine a0q rfl rfl rfl rfl hP1 ?_;rintro _ rfl)|(refine a1a ?_;first|refine a0b (a1l rfl rfl rfl (by omega)) rfl ?_|refine a0b (a1m rfl rfl rfl (by omega)) rfl ?_|refine a0b (a2h (m := nm) (n := clN) hcl rfl rfl) rfl ?_|refine a0b (a4r (m := TT) (n := pt) heq rfl rfl) rfl ?_|refine a0b (hseq _ _ _ _ _ _ rfl rfl) rfl ?_)|refine a0b (a3y (T := l2) rfl rfl rfl (by omega) (by omega) (by omega) hsl4) rfl ?_|refine a0b (a3y (T := body) rfl rfl rfl (by omega) (by omega) (by omega) hbody) rfl ?_|refine a0b (a3c (T := TT) rfl rfl (by omega) (by omega) hTT) rfl ?_|refine a0b (a3c (T := nm) rfl rfl (by omega) (by omega) hnm) rfl ?_|refine a0b (a3x (T := vl) rfl rfl (by omega) (by omega) hvl) rfl ?_|(refine a4j (.boxFreeze (ib := 2) (k := 1) (id := 3) rfl rfl rfl rfl (by repeat constructor) rfl rfl) ?_;refine a0b (a0m (p := .tmp 6) rfl rfl rfl) rfl ?_))|refine stm ?_|refine stp ?_|fail)
                refine retc2 (by first | exact .inr rfl | exact .inl rfl) rfl rfl rfl rfl rfl rfl ?_
                exact ⟨rfl, rfl⟩
              · rw [a4q fun r h => by
                  have h1 := hguess r h
                  obtain ⟨_, tail, h2⟩ := h
                  rw [← h1, hpt] at h2
                  have hTT2 : s.take pt.length = TT := hTT
                  rw [h2, List.take_left] at hTT2
                  exact heq hTT2.symm]
                repeat' (first|(first|(refine a0d ?_;refine a0q rfl rfl rfl rfl hDv ?_;rintro _ rfl)|(refine a0d ?_;refine a0q rfl rfl rfl rfl hE2 ?_;rintro _ rfl)|(refine a0d ?_;refine a0q rfl rfl rfl rfl hP1 ?_;rintro _ rfl)|(refine a1a ?_;first|refine a0b (a1l rfl rfl rfl (by omega)) rfl ?_|refine a0b (a1m rfl rfl rfl (by omega)) rfl ?_|refine a0b (a2h (m := nm) (n := clN) hcl rfl rfl) rfl ?_|refine a0b (a4z (m := TT) (n := pt) heq rfl rfl) rfl ?_|refine a0b (hseq _ _ _ _ _ _ rfl rfl) rfl ?_)|refine a0b (a3y (T := l2) rfl rfl rfl (by omega) (by omega) (by omega) hsl4) rfl ?_|refine a0b (a3y (T := body) rfl rfl rfl (by omega) (by omega) (by omega) hbody) rfl ?_|refine a0b (a3c (T := TT) rfl rfl (by omega) (by omega) hTT) rfl ?_|refine a0b (a3c (T := nm) rfl rfl (by omega) (by omega) hnm) rfl ?_|refine a0b (a3x (T := vl) rfl rfl (by omega) (by omega) hvl) rfl ?_|(refine a4j (.boxFreeze (ib := 2) (k := 1) (id := 3) rfl rfl rfl rfl (by repeat constructor) rfl rfl) ?_;refine a0b (a0m (p := .tmp 6) rfl rfl rfl) rfl ?_))|refine stm ?_|refine stp ?_|fail)
                refine a2m (.boxLe (id := 0) [.int .i64 0, .rs [], .str [], .bool false] rfl (.cons (.refl _) (.cons .nil (.cons (.refl _) (.cons (.refl _) .nil)))) rfl) ?_
                refine retc2 (by first | exact .inr rfl | exact .inl rfl) rfl rfl rfl rfl rfl rfl ?_
                exact ⟨rfl, rfl⟩
      · repeat' (first|(first|refine a3b (id := 26) [(11,[3,4]),(13,[2])] [⟨0,true,[],bl 14 2044⟩,⟨1,true,[],bl 14 2045⟩,⟨2,true,[],bl 14 491⟩,⟨3,true,[],bl 14 487⟩,⟨4,true,[],bl 14 495⟩,⟨5,true,[],bl 14 223⟩,⟨6,true,[],bl 14 63⟩,⟨7,true,[],bl 14 127⟩,⟨8,true,[],bl 14 255⟩,⟨9,true,[],bl 14 511⟩,⟨10,false,[],[]⟩,⟨11,false,[],[]⟩,⟨12,true,[],bl 14 4095⟩,⟨13,false,[],[]⟩] (by kernel_rfl) (by kernel_rfl) rfl (by kernel_rfl) ?_|(refine a1a ?_;first|refine a0b (a1l rfl rfl rfl (by omega)) rfl ?_|refine a0b (a1m rfl rfl rfl (by omega)) rfl ?_|refine a0b (a2l (m := nm) (n := clN) hcl rfl rfl) rfl ?_)|refine a0b (a3c (T := nm) rfl rfl (by omega) (by omega) hnm) rfl ?_|refine a2c (a3c (T := nm) rfl rfl (by omega) (by omega) hnm) rfl ?_|refine a2c (a3x (T := vl) rfl rfl (by omega) (by omega) hvl) rfl ?_|(refine a0d ?_;refine a4d rfl rfl (by repeat constructor) (a6q rfl rfl) rfl (by decide) (by simp only [List.length_cons,List.length_nil];omega) rfl ?_))|refine stm ?_|refine stp ?_|refine sth ?_|fail)
        refine a1y (at' + line.length + 2, out ++ [(nm, vl)], ver + 1, _) ((Wkn.spell 7 (.int .i64 ((at' + line.length + 2 : Nat) : Int)) rfl (congrArg (AV.int .i64) (by omega))).trans (.of (a2n [_] rfl (by repeat constructor) rfl (by repeat constructor) rfl))) ?_ ?_
        · refine ⟨by rw [List.map_append]; rfl, hroom, by simp only [List.length_append, List.length_cons, List.length_nil]; omega, ?_, ?_⟩
          · intro p hp
            rcases List.mem_append.1 hp with hp | hp
            · exact hI.each p hp
            · rw [List.mem_singleton.1 hp]
              exact ⟨by dsimp only; omega, by dsimp only; omega⟩
          · intro r h
            obtain ⟨h1, h2, _⟩ := hI.eq r h
            obtain ⟨rf, tail, h3, h4, h5⟩ := (hQ r h).2.2 hcl
            exact ⟨h1, h2, rf, tail, h3, h4, h5⟩
        · dsimp only; omega
end
end Go.Proofs.YtkljmljkiodnpaaGreatDoor.L

namespace Go.Proofs.YtkljmljkiodnpaaGreatDoor.L
open Go Go.RowKit Go.Proofs
theorem c3t {E : Env} {N : Nat} {Q : Exit → St → Prop} {σ : St} {ι : Type} {c y : Code} (J : ι → St) (ok : ι → Prop) (tail : ∀ j, ok j → AWp E N y Q (J j)) (head : True → AWp E N (.block 2 c) (MidQ E N J ok Q) σ) : AWp E N (.block 2 c) (Thn E N y Q) σ := by
  refine a8q (head trivial) fun e s h => ?_
  cases e with
  | normal => obtain ⟨j, hj, hw⟩ := h; exact a1n (a4y hw (tail j hj))
  | _ => exact h
attribute [local irreducible] AL QL AWp Thn InB RetQ ACalls LoopQ HL HO HW HQ NoG JmpQ MidQ HF

structure OpFitM (o : Op18) : Prop where
  f : OpFit o
  e : ∀ cl, (emitT { o.r with cl := cl }).length ≤ 1073741824
structure MetX (u c a : Int) (X : Dem) : Prop where
  ok : DemOk X
  met : Met X.ds
  u : X.users = u
  c : X.conns = c
  a : X.asks = a
theorem MetX.step {u c a : Int} {X X1 : Dem} {D' : DS} (h : MetX u c a X) (h1 : DemOk X1) (hd : X1.ds = D') (hm : Met D') (hl : SameL X.ds D') : MetX u c a X1 := by
  subst hd
  exact ⟨h1, hm, hl.1.trans h.u, hl.2.1.trans h.c, hl.2.2.trans h.a⟩
theorem c2s (s : List UInt8) : ∃ r n g, prsY s = .tup [.agg (rpC r), .int .i64 n, .int .i64 g] := by
  unfold prsY
  split
  · exact ⟨_, _, _, rfl⟩
  · exact ⟨_, _, _, rfl⟩
section
variable {w0 : World} {base : Nat}
set_option maxHeartbeats 64000000 in
theorem b1k {u c a : Int} {l : List Op18} (hG : Tabs w0 base) (hl : l.length ≤ 1099511627776) (hf : ∀ o ∈ l, OpFitM o) : PCalls (EE w0 base) 3 [.agg [.int .i64 u, .int .i64 c, .int .i64 a], .rs (l.map opC)] fun rv => rv = .bool true := by
  have hlen : (l.map opC).length = l.length := List.length_map _
  have hW := b9h (w0 := w0) (base := base) hG
  have hN := c1t (w0 := w0) (base := base) (u := u) (c := c) (a := a)
  refine a1s Tryz.func3 rfl rfl rfl (.cons (.cons .nil)) ?_
  by_cases h : (1 ≤ u ∧ u ≤ 16) ∧ (1 ≤ c ∧ c ≤ 64) ∧ 1 ≤ a ∧ a ≤ 64
  · simp only [if_pos h] at hN
    have hX0 : DemOk ⟨u, c, a, [], [], fun _ => none⟩ := ⟨h.1, h.2.1, h.2.2, ⟨(fun i e h => by cases h), (fun i j e e' h => by cases h)⟩, List.nodup_nil, (fun e h => by cases h), (fun e h => by cases h), (fun p h => by cases h)⟩
    have hM0 : MetX u c a ⟨u, c, a, [], [], fun _ => none⟩ := ⟨hX0, ⟨(fun p h => by cases h), (fun p h => by cases h), (fun v _ => by show ((0 : Nat) : Int) ≤ c; omega), (fun v _ => by show ((0 : Nat) : Int) ≤ a; omega)⟩, rfl, rfl, rfl⟩
    have hab := h
    repeat' (first|(first|refine a0z rfl rfl rfl (by first|exact ln8|exact ln9|exact ln10) (by repeat constructor) rfl ?_|(refine a0d ?_;refine a0v [] rfl rfl hN ?_ ?_ rfl rfl ?_;(focus ((repeat constructor);done));(focus ((repeat constructor);done));rintro _ _ ⟨rfl,rfl⟩;refine ⟨_,_,by repeat constructor,by repeat constructor,?_⟩;refine a4j (.hp0 (by repeat constructor)) ?_)|(refine a1a ?_;first|refine a0b (a1l rfl rfl rfl (by omega)) rfl ?_|refine a0b (a1m rfl rfl rfl (by omega)) rfl ?_|refine a0b (a2y rfl rfl rfl) rfl ?_))|(refine a2k ?_;first|refine a0b (a0l rfl) rfl ?_|(refine k_g ?_;first|refine a1j rfl rfl (by with_reducible rfl) ?_|refine a1w rfl rfl (by with_reducible rfl) rfl ?_|refine a1t rfl rfl (by with_reducible rfl) rfl ?_|(refine a1z rfl rfl (fun hc => ?_) (fun hc => ?_) <;> (try (exfalso;omega))))|refine a0b (a0f rfl rfl) rfl ?_|(refine a1g ?_;first|refine a0b (a0w rfl rfl) rfl ?_|refine a0b (a0m rfl rfl rfl) rfl ?_)|(refine a1a ?_;first|refine a0b (a1h rfl rfl rfl) rfl ?_|refine a0b (a1p rfl rfl (by (first|exact w64 (by omega) (by omega)|rfl))) rfl ?_|refine a0b (a2t rfl rfl) rfl ?_)|(refine a1i ?_;first|refine a0b (a0j rfl (by with_reducible rfl) rfl) rfl ?_|refine a0b (a0i rfl (by with_reducible rfl) rfl) rfl ?_)|refine a0b (a0e rfl) rfl ?_|(refine a0d ?_;first|refine a0b (a2f rfl) rfl ?_)|refine a0b (a0s rfl rfl) rfl ?_|refine a0u ?_|refine a2g rfl rfl rfl (by first|exact ln0|exact ln5|exact ln6|exact ln7) (by repeat constructor) rfl ?_|refine a0z rfl rfl rfl (by first|exact ln0|exact ln5|exact ln6|exact ln7) (by repeat constructor) rfl ?_|refine a1c rfl rfl rfl rfl rfl (by repeat constructor) (by repeat constructor) ?_|refine a0b (a0y rfl (by with_reducible rfl)) rfl ?_)|(first|refine a1n ?_|(refine a1o ?_;first|refine a0c (a0a ?_)|refine a0c ?_|refine a0a ?_|(refine a0x ?_;first|refine a0g rfl (by with_reducible rfl) ?_|refine a0h rfl (by with_reducible rfl) ?_|(refine a0r rfl (fun hc => ?_) (fun hc => ?_) <;> (try (exfalso;omega))))|refine a0n ?_|refine a0o ?_|refine a0k ?_|refine a1f ?_)|refine a0t ?_|refine a1q ?_|refine a2b ?_|refine a1d ?_|refine a1v ?_|refine a1b ?_|refine a1e ?_|refine a2v ?_))
    refine a2o (fun q : Nat × Dem => ⟨[(1,.rs (l.map opC)),(2,.op 0 0),(5,.op 3 0),(7,.int .i64 q.1)],[.box [.int .i64 u,.int .i64 c,.int .i64 a],.map (q.2.l.map enK),.map (q.2.ss.map ssK) true,.box [.int .i64 q.2.users,.int .i64 q.2.conns,.int .i64 q.2.asks,.mp 1,.mp 2],.hp q.2.m]⟩) (fun q => q.1 ≤ l.length ∧ MetX u c a q.2) (fun q => l.length - q.1) (0,⟨u,c,a,[],[],fun _ => none⟩) (.of (.same (by repeat constructor))) ⟨Nat.zero_le _,hM0⟩ ?_
    rintro ⟨i, X⟩ ⟨hi, hX⟩
    dsimp only at hi hX ⊢
    clear hN hX0 hM0
    have hXu := hX.u; have hXc := hX.c; have hXa := hX.a
    by_cases hlt : i < l.length
    · obtain ⟨o, ho⟩ : ∃ o, l[i]? = some o := ⟨_, List.getElem?_eq_getElem hlt⟩
      have hfit := hf o (List.mem_of_getElem? ho)
      obtain ⟨kd, at', us, tx, rp⟩ := o
      obtain ⟨⟨ftx, frp, ffs⟩, fem⟩ := hfit
      dsimp only at ftx frp ffs fem
      have hrow : (l.map opC)[((i : Nat) : Int).toNat]? = some [.int .i64 kd, .int .i64 at', .int .i64 us, .str tx, .int .i64 rp.st, .rs (rp.fs.map prAV), .str rp.body, .bool rp.cl] := by
        have : ((i : Nat) : Int).toNat = i := rfl
        rw [this, List.getElem?_map, ho]
        rfl
      repeat' (first|(first|refine c3t (fun Y : Dem => ⟨[(1,.rs (l.map opC)),(2,.op 0 0),(5,.op 3 0),(7,.int .i64 i),(8,.op 5 0)],[.box [.int .i64 u,.int .i64 c,.int .i64 a],.map (Y.l.map enK),.map (Y.ss.map ssK) true,.box [.int .i64 Y.users,.int .i64 Y.conns,.int .i64 Y.asks,.mp 1,.mp 2],.hp Y.m,.box [.int .i64 kd,.int .i64 at',.int .i64 us,.str tx,.int .i64 rp.st,.rs (rp.fs.map prAV),.str rp.body,.bool rp.cl]]⟩) (fun Y => MetX u c a Y) ?_ ?_|refine a0b (a2j rfl rfl (by omega) hrow rfl) rfl ?_)|(refine a2k ?_;first|refine a0b (a0l rfl) rfl ?_|(refine k_g ?_;first|refine a1j rfl rfl (by with_reducible rfl) ?_|refine a1w rfl rfl (by with_reducible rfl) rfl ?_|refine a1t rfl rfl (by with_reducible rfl) rfl ?_|(refine a1z rfl rfl (fun hc => ?_) (fun hc => ?_) <;> (try (exfalso;omega))))|refine a0b (a0f rfl rfl) rfl ?_|(refine a1g ?_;first|refine a0b (a0w rfl rfl) rfl ?_|refine a0b (a0m rfl rfl rfl) rfl ?_)|(refine a1a ?_;first|refine a0b (a1h rfl rfl rfl) rfl ?_|refine a0b (a1p rfl rfl (by (first|exact w64 (by omega) (by omega)|rfl))) rfl ?_|refine a0b (a2t rfl rfl) rfl ?_)|(refine a1i ?_;first|refine a0b (a0j rfl (by with_reducible rfl) rfl) rfl ?_|refine a0b (a0i rfl (by with_reducible rfl) rfl) rfl ?_)|refine a0b (a0e rfl) rfl ?_|(refine a0d ?_;first|refine a0b (a2f rfl) rfl ?_)|refine a0b (a0s rfl rfl) rfl ?_|refine a0u ?_|refine a2g rfl rfl rfl (by first|exact ln0|exact ln5|exact ln6|exact ln7) (by repeat constructor) rfl ?_|refine a0z rfl rfl rfl (by first|exact ln0|exact ln5|exact ln6|exact ln7) (by repeat constructor) rfl ?_|refine a1c rfl rfl rfl rfl rfl (by repeat constructor) (by repeat constructor) ?_|refine a0b (a0y rfl (by with_reducible rfl)) rfl ?_)|(first|refine a1n ?_|(refine a1o ?_;first|refine a0c (a0a ?_)|refine a0c ?_|refine a0a ?_|(refine a0x ?_;first|refine a0g rfl (by with_reducible rfl) ?_|refine a0h rfl (by with_reducible rfl) ?_|(refine a0r rfl (fun hc => ?_) (fun hc => ?_) <;> (try (exfalso;omega))))|refine a0n ?_|refine a0o ?_|refine a0k ?_|refine a1f ?_)|refine a0t ?_|refine a1q ?_|refine a2b ?_|refine a1d ?_|refine a1v ?_|refine a1b ?_|refine a1e ?_|refine a2v ?_))
      · intro Y hY
        have hYu := hY.u; have hYc := hY.c; have hYa := hY.a
        repeat' (first|(first|refine a0z rfl rfl rfl (by first|exact ln8|exact ln9|exact ln10) (by repeat constructor) rfl ?_|(refine a1a ?_;first|refine a0b (a1l rfl rfl rfl (by omega)) rfl ?_|refine a0b (a1m rfl rfl rfl (by omega)) rfl ?_|refine a0b (a2y rfl rfl rfl) rfl ?_))|(refine a2k ?_;first|refine a0b (a0l rfl) rfl ?_|(refine k_g ?_;first|refine a1j rfl rfl (by with_reducible rfl) ?_|refine a1w rfl rfl (by with_reducible rfl) rfl ?_|refine a1t rfl rfl (by with_reducible rfl) rfl ?_|(refine a1z rfl rfl (fun hc => ?_) (fun hc => ?_) <;> (try (exfalso;omega))))|refine a0b (a0f rfl rfl) rfl ?_|(refine a1g ?_;first|refine a0b (a0w rfl rfl) rfl ?_|refine a0b (a0m rfl rfl rfl) rfl ?_)|(refine a1a ?_;first|refine a0b (a1h rfl rfl rfl) rfl ?_|refine a0b (a1p rfl rfl (by (first|exact w64 (by omega) (by omega)|rfl))) rfl ?_|refine a0b (a2t rfl rfl) rfl ?_)|(refine a1i ?_;first|refine a0b (a0j rfl (by with_reducible rfl) rfl) rfl ?_|refine a0b (a0i rfl (by with_reducible rfl) rfl) rfl ?_)|refine a0b (a0e rfl) rfl ?_|(refine a0d ?_;first|refine a0b (a2f rfl) rfl ?_)|refine a0b (a0s rfl rfl) rfl ?_|refine a0u ?_|refine a2g rfl rfl rfl (by first|exact ln0|exact ln5|exact ln6|exact ln7) (by repeat constructor) rfl ?_|refine a0z rfl rfl rfl (by first|exact ln0|exact ln5|exact ln6|exact ln7) (by repeat constructor) rfl ?_|refine a1c rfl rfl rfl rfl rfl (by repeat constructor) (by repeat constructor) ?_|refine a0b (a0y rfl (by with_reducible rfl)) rfl ?_)|(first|refine a1n ?_|(refine a1o ?_;first|refine a0c (a0a ?_)|refine a0c ?_|refine a0a ?_|(refine a0x ?_;first|refine a0g rfl (by with_reducible rfl) ?_|refine a0h rfl (by with_reducible rfl) ?_|(refine a0r rfl (fun hc => ?_) (fun hc => ?_) <;> (try (exfalso;omega))))|refine a0n ?_|refine a0o ?_|refine a0k ?_|refine a1f ?_)|refine a0t ?_|refine a1q ?_|refine a2b ?_|refine a1d ?_|refine a1v ?_|refine a1b ?_|refine a1e ?_|refine a2v ?_))
        refine a2o (fun v : Nat => ⟨[(1,.rs (l.map opC)),(2,.op 0 0),(5,.op 3 0),(7,.int .i64 i),(8,.op 5 0),(19,.int .i64 v)],[.box [.int .i64 u,.int .i64 c,.int .i64 a],.map (Y.l.map enK),.map (Y.ss.map ssK) true,.box [.int .i64 Y.users,.int .i64 Y.conns,.int .i64 Y.asks,.mp 1,.mp 2],.hp Y.m,.box [.int .i64 kd,.int .i64 at',.int .i64 us,.str tx,.int .i64 rp.st,.rs (rp.fs.map prAV),.str rp.body,.bool rp.cl]]⟩) (fun v => (v : Int) ≤ u) (fun v => u.toNat + 1 - v) 0 (.of (.same (by repeat constructor))) (by show ((0 : Nat) : Int) ≤ u;omega) ?_
        intro v hv
        try dsimp only
        by_cases hvu : (v : Int) < u
        · have hC := a8t (w0 := w0) (base := base) (u := (v : Int)) hY.ok
          unfold cntAV at hC
          rw [show countsD Y.ds (v : Int) = (cntC Y.ds.l v, cntA Y.ds.l v) from if_pos ⟨by omega, by show (v : Int) < Y.users; omega⟩] at hC
          dsimp only at hC
          have h1 : ((cntC Y.ds.l v : Nat) : Int) ≤ c := hYc ▸ hY.met.c v (by omega)
          have h2 : ((cntA Y.ds.l v : Nat) : Int) ≤ a := hYa ▸ hY.met.a v (by omega)
          repeat' (first|(first|refine a0z rfl rfl rfl (by first|exact ln8|exact ln9|exact ln10) (by repeat constructor) rfl ?_|(refine a1a ?_;first|refine a0b (a1l rfl rfl rfl (by omega)) rfl ?_|refine a0b (a1m rfl rfl rfl (by omega)) rfl ?_|refine a0b (a2y rfl rfl rfl) rfl ?_)|(refine a0d ?_;refine a0v [3,1,2,4] rfl rfl hC ?_ ?_ rfl rfl ?_;(focus ((repeat constructor);done));(focus ((repeat constructor);done));rintro _ _ ⟨rfl,rfl⟩;refine ⟨_,_,by repeat constructor,by repeat constructor,?_⟩))|(refine a2k ?_;first|refine a0b (a0l rfl) rfl ?_|(refine k_g ?_;first|refine a1j rfl rfl (by with_reducible rfl) ?_|refine a1w rfl rfl (by with_reducible rfl) rfl ?_|refine a1t rfl rfl (by with_reducible rfl) rfl ?_|(refine a1z rfl rfl (fun hc => ?_) (fun hc => ?_) <;> (try (exfalso;omega))))|refine a0b (a0f rfl rfl) rfl ?_|(refine a1g ?_;first|refine a0b (a0w rfl rfl) rfl ?_|refine a0b (a0m rfl rfl rfl) rfl ?_)|(refine a1a ?_;first|refine a0b (a1h rfl rfl rfl) rfl ?_|refine a0b (a1p rfl rfl (by (first|exact w64 (by omega) (by omega)|rfl))) rfl ?_|refine a0b (a2t rfl rfl) rfl ?_)|(refine a1i ?_;first|refine a0b (a0j rfl (by with_reducible rfl) rfl) rfl ?_|refine a0b (a0i rfl (by with_reducible rfl) rfl) rfl ?_)|refine a0b (a0e rfl) rfl ?_|(refine a0d ?_;first|refine a0b (a2f rfl) rfl ?_)|refine a0b (a0s rfl rfl) rfl ?_|refine a0u ?_|refine a2g rfl rfl rfl (by first|exact ln0|exact ln5|exact ln6|exact ln7) (by repeat constructor) rfl ?_|refine a0z rfl rfl rfl (by first|exact ln0|exact ln5|exact ln6|exact ln7) (by repeat constructor) rfl ?_|refine a1c rfl rfl rfl rfl rfl (by repeat constructor) (by repeat constructor) ?_|refine a0b (a0y rfl (by with_reducible rfl)) rfl ?_)|(first|refine a1n ?_|(refine a1o ?_;first|refine a0c (a0a ?_)|refine a0c ?_|refine a0a ?_|(refine a0x ?_;first|refine a0g rfl (by with_reducible rfl) ?_|refine a0h rfl (by with_reducible rfl) ?_|(refine a0r rfl (fun hc => ?_) (fun hc => ?_) <;> (try (exfalso;omega))))|refine a0n ?_|refine a0o ?_|refine a0k ?_|refine a1f ?_)|refine a0t ?_|refine a1q ?_|refine a2b ?_|refine a1d ?_|refine a1v ?_|refine a1b ?_|refine a1e ?_|refine a2v ?_))
          first | refine a1y (v + 1) (.of (.same (by repeat constructor))) ?_ ?_ | refine a1y (v + 1) (.of (a2n [_] rfl (by repeat constructor) rfl (by repeat constructor) rfl)) ?_ ?_ | refine a1y (v + 1) (.of (a2n [_, _] rfl (by repeat constructor) rfl (by repeat constructor) rfl)) ?_ ?_ | refine a1y (v + 1) (.of (a2n [_, _, _] rfl (by repeat constructor) rfl (by repeat constructor) rfl)) ?_ ?_
          · show ((v + 1 : Nat) : Int) ≤ u; omega
          · (try dsimp only); omega
        · repeat' (first|(first|refine a0z rfl rfl rfl (by first|exact ln8|exact ln9|exact ln10) (by repeat constructor) rfl ?_|(refine a1a ?_;first|refine a0b (a1l rfl rfl rfl (by omega)) rfl ?_|refine a0b (a1m rfl rfl rfl (by omega)) rfl ?_|refine a0b (a2y rfl rfl rfl) rfl ?_))|(refine a2k ?_;first|refine a0b (a0l rfl) rfl ?_|(refine k_g ?_;first|refine a1j rfl rfl (by with_reducible rfl) ?_|refine a1w rfl rfl (by with_reducible rfl) rfl ?_|refine a1t rfl rfl (by with_reducible rfl) rfl ?_|(refine a1z rfl rfl (fun hc => ?_) (fun hc => ?_) <;> (try (exfalso;omega))))|refine a0b (a0f rfl rfl) rfl ?_|(refine a1g ?_;first|refine a0b (a0w rfl rfl) rfl ?_|refine a0b (a0m rfl rfl rfl) rfl ?_)|(refine a1a ?_;first|refine a0b (a1h rfl rfl rfl) rfl ?_|refine a0b (a1p rfl rfl (by (first|exact w64 (by omega) (by omega)|rfl))) rfl ?_|refine a0b (a2t rfl rfl) rfl ?_)|(refine a1i ?_;first|refine a0b (a0j rfl (by with_reducible rfl) rfl) rfl ?_|refine a0b (a0i rfl (by with_reducible rfl) rfl) rfl ?_)|refine a0b (a0e rfl) rfl ?_|(refine a0d ?_;first|refine a0b (a2f rfl) rfl ?_)|refine a0b (a0s rfl rfl) rfl ?_|refine a0u ?_|refine a2g rfl rfl rfl (by first|exact ln0|exact ln5|exact ln6|exact ln7) (by repeat constructor) rfl ?_|refine a0z rfl rfl rfl (by first|exact ln0|exact ln5|exact ln6|exact ln7) (by repeat constructor) rfl ?_|refine a1c rfl rfl rfl rfl rfl (by repeat constructor) (by repeat constructor) ?_|refine a0b (a0y rfl (by with_reducible rfl)) rfl ?_)|(first|refine a1n ?_|(refine a1o ?_;first|refine a0c (a0a ?_)|refine a0c ?_|refine a0a ?_|(refine a0x ?_;first|refine a0g rfl (by with_reducible rfl) ?_|refine a0h rfl (by with_reducible rfl) ?_|(refine a0r rfl (fun hc => ?_) (fun hc => ?_) <;> (try (exfalso;omega))))|refine a0n ?_|refine a0o ?_|refine a0k ?_|refine a1f ?_)|refine a0t ?_|refine a1q ?_|refine a2b ?_|refine a1d ?_|refine a1v ?_|refine a1b ?_|refine a1e ?_|refine a2v ?_))
          first|refine a1y (i + 1,Y) (.of (.same (by repeat constructor))) ?_ ?_|refine a1y (i + 1,Y) (.of (a2n [_] rfl (by repeat constructor) rfl (by repeat constructor) rfl)) ?_ ?_|refine a1y (i + 1,Y) (.of (a2n [_,_] rfl (by repeat constructor) rfl (by repeat constructor) rfl)) ?_ ?_|refine a1y (i + 1,Y) (.of (a2n [_,_,_] rfl (by repeat constructor) rfl (by repeat constructor) rfl)) ?_ ?_
          · exact ⟨hlt, hY⟩
          · (try dsimp only); omega
      · intro _
        have hk : kd = 1 ∨ kd = 3 ∨ kd = 5 ∨ (kd = 4 ∧ rp.st ≠ 503) ∨ (kd = 4 ∧ rp.st = 503) ∨ (kd ≠ 1 ∧ kd ≠ 3 ∧ kd ≠ 5 ∧ kd ≠ 4) := by omega
        rcases hk with hk | hk | hk | ⟨hk, hst⟩ | ⟨hk, hst⟩ | ⟨hk1, hk2, hk3, hk5⟩
        · repeat' (first|(first|refine a0z rfl rfl rfl (by first|exact ln8|exact ln9|exact ln10) (by repeat constructor) rfl ?_|(refine a1a ?_;first|refine a0b (a1l rfl rfl rfl (by omega)) rfl ?_|refine a0b (a1m rfl rfl rfl (by omega)) rfl ?_|refine a0b (a2y rfl rfl rfl) rfl ?_)|(refine a0d ?_;refine a0v [3,1,2,4] rfl rfl (b7d (w0 := w0) (base := base) (at' := at') (t := tx) hX.ok ftx) ?_ ?_ rfl rfl ?_;(focus ((repeat constructor);done));(focus ((repeat constructor);done));rintro _ _ ⟨rfl,X1,hX1,rfl,hdX1⟩;refine ⟨_,_,by repeat constructor,by repeat constructor,?_⟩))|(refine a2k ?_;first|refine a0b (a0l rfl) rfl ?_|(refine k_g ?_;first|refine a1j rfl rfl (by with_reducible rfl) ?_|refine a1w rfl rfl (by with_reducible rfl) rfl ?_|refine a1t rfl rfl (by with_reducible rfl) rfl ?_|(refine a1z rfl rfl (fun hc => ?_) (fun hc => ?_) <;> (try (exfalso;omega))))|refine a0b (a0f rfl rfl) rfl ?_|(refine a1g ?_;first|refine a0b (a0w rfl rfl) rfl ?_|refine a0b (a0m rfl rfl rfl) rfl ?_)|(refine a1a ?_;first|refine a0b (a1h rfl rfl rfl) rfl ?_|refine a0b (a1p rfl rfl (by (first|exact w64 (by omega) (by omega)|rfl))) rfl ?_|refine a0b (a2t rfl rfl) rfl ?_)|(refine a1i ?_;first|refine a0b (a0j rfl (by with_reducible rfl) rfl) rfl ?_|refine a0b (a0i rfl (by with_reducible rfl) rfl) rfl ?_)|refine a0b (a0e rfl) rfl ?_|(refine a0d ?_;first|refine a0b (a2f rfl) rfl ?_)|refine a0b (a0s rfl rfl) rfl ?_|refine a0u ?_|refine a2g rfl rfl rfl (by first|exact ln0|exact ln5|exact ln6|exact ln7) (by repeat constructor) rfl ?_|refine a0z rfl rfl rfl (by first|exact ln0|exact ln5|exact ln6|exact ln7) (by repeat constructor) rfl ?_|refine a1c rfl rfl rfl rfl rfl (by repeat constructor) (by repeat constructor) ?_|refine a0b (a0y rfl (by with_reducible rfl)) rfl ?_)|(first|refine a1n ?_|(refine a1o ?_;first|refine a0c (a0a ?_)|refine a0c ?_|refine a0a ?_|(refine a0x ?_;first|refine a0g rfl (by with_reducible rfl) ?_|refine a0h rfl (by with_reducible rfl) ?_|(refine a0r rfl (fun hc => ?_) (fun hc => ?_) <;> (try (exfalso;omega))))|refine a0n ?_|refine a0o ?_|refine a0k ?_|refine a1f ?_)|refine a0t ?_|refine a1q ?_|refine a2b ?_|refine a1d ?_|refine a1v ?_|refine a1b ?_|refine a1e ?_|refine a2v ?_))
          first
            | exact a6v X1 (hX.step hX1 hdX1 (hX.met.arrive _ _) (b0c _ _ _)) (.of (.same (by repeat constructor)))
            | exact a6v X1 (hX.step hX1 hdX1 (hX.met.arrive _ _) (b0c _ _ _)) (.of (a2n [_, _] rfl (by repeat constructor) rfl (by repeat constructor) rfl))
        · repeat' (first|(first|refine a0z rfl rfl rfl (by first|exact ln8|exact ln9|exact ln10) (by repeat constructor) rfl ?_|(refine a1a ?_;first|refine a0b (a1l rfl rfl rfl (by omega)) rfl ?_|refine a0b (a1m rfl rfl rfl (by omega)) rfl ?_|refine a0b (a2y rfl rfl rfl) rfl ?_))|(refine a2k ?_;first|refine a0b (a0l rfl) rfl ?_|(refine k_g ?_;first|refine a1j rfl rfl (by with_reducible rfl) ?_|refine a1w rfl rfl (by with_reducible rfl) rfl ?_|refine a1t rfl rfl (by with_reducible rfl) rfl ?_|(refine a1z rfl rfl (fun hc => ?_) (fun hc => ?_) <;> (try (exfalso;omega))))|refine a0b (a0f rfl rfl) rfl ?_|(refine a1g ?_;first|refine a0b (a0w rfl rfl) rfl ?_|refine a0b (a0m rfl rfl rfl) rfl ?_)|(refine a1a ?_;first|refine a0b (a1h rfl rfl rfl) rfl ?_|refine a0b (a1p rfl rfl (by (first|exact w64 (by omega) (by omega)|rfl))) rfl ?_|refine a0b (a2t rfl rfl) rfl ?_)|(refine a1i ?_;first|refine a0b (a0j rfl (by with_reducible rfl) rfl) rfl ?_|refine a0b (a0i rfl (by with_reducible rfl) rfl) rfl ?_)|refine a0b (a0e rfl) rfl ?_|(refine a0d ?_;first|refine a0b (a2f rfl) rfl ?_)|refine a0b (a0s rfl rfl) rfl ?_|refine a0u ?_|refine a2g rfl rfl rfl (by first|exact ln0|exact ln5|exact ln6|exact ln7) (by repeat constructor) rfl ?_|refine a0z rfl rfl rfl (by first|exact ln0|exact ln5|exact ln6|exact ln7) (by repeat constructor) rfl ?_|refine a1c rfl rfl rfl rfl rfl (by repeat constructor) (by repeat constructor) ?_|refine a0b (a0y rfl (by with_reducible rfl)) rfl ?_)|(first|refine a1n ?_|(refine a1o ?_;first|refine a0c (a0a ?_)|refine a0c ?_|refine a0a ?_|(refine a0x ?_;first|refine a0g rfl (by with_reducible rfl) ?_|refine a0h rfl (by with_reducible rfl) ?_|(refine a0r rfl (fun hc => ?_) (fun hc => ?_) <;> (try (exfalso;omega))))|refine a0n ?_|refine a0o ?_|refine a0k ?_|refine a1f ?_)|refine a0t ?_|refine a1q ?_|refine a2b ?_|refine a1d ?_|refine a1v ?_|refine a1b ?_|refine a1e ?_|refine a2v ?_))
          have hok := hX.ok
          refine a2o (fun q : Nat × Bool => ⟨[(1,.rs (l.map opC)),(2,.op 0 0),(5,.op 3 0),(7,.int .i64 i),(8,.op 5 0),(9,.bool q.2),(10,.int .i64 q.1)],[.box [.int .i64 u,.int .i64 c,.int .i64 a],.map (X.l.map enK),.map (X.ss.map ssK) true,.box [.int .i64 X.users,.int .i64 X.conns,.int .i64 X.asks,.mp 1,.mp 2],.hp X.m,.box [.int .i64 kd,.int .i64 at',.int .i64 us,.str tx,.int .i64 rp.st,.rs (rp.fs.map prAV),.str rp.body,.bool rp.cl]]⟩) (fun q => (q.1 : Int) ≤ u ∧ (q.2 = false → ∀ w : Int,0 ≤ w → w < q.1 → ((cntC X.ds.l w : Nat) : Int) < c ∧ ((cntA X.ds.l w : Nat) : Int) < a)) (fun q => u.toNat + 1 - q.1) (0,false) (.of (.same (by repeat constructor))) ⟨by show ((0 : Nat) : Int) ≤ u;omega,fun _ w h0 h1 => by exfalso;have h2 : w < ((0 : Nat) : Int) := h1;omega⟩ ?_
          rintro ⟨v, full⟩ ⟨hv, hfl⟩
          dsimp only at hv hfl ⊢
          by_cases hvu : (v : Int) < u
          · have hC := a8t (w0 := w0) (base := base) (u := (v : Int)) hok
            unfold cntAV at hC
            rw [show countsD X.ds (v : Int) = (cntC X.ds.l v, cntA X.ds.l v) from if_pos ⟨by omega, by show (v : Int) < X.users; omega⟩] at hC
            dsimp only at hC
            obtain ⟨nc, hnc⟩ : ∃ nc, nc = cntC X.ds.l v := ⟨_, rfl⟩
            obtain ⟨na, hna⟩ : ∃ na, na = cntA X.ds.l v := ⟨_, rfl⟩
            rw [← hnc, ← hna] at hC
            have hcs : full = true ∨ (full = false ∧ c ≤ (nc : Int)) ∨ (full = false ∧ ¬ c ≤ (nc : Int) ∧ a ≤ (na : Int)) ∨ (full = false ∧ ¬ c ≤ (nc : Int) ∧ ¬ a ≤ (na : Int)) := by
              cases full
              · simp only [true_and]; omega
              · exact .inl rfl
            rcases hcs with hcs | ⟨hcs, h1⟩ | ⟨hcs, h1, h2⟩ | ⟨hcs, h1, h2⟩
            · subst hcs
              repeat' (first|(first|refine a0z rfl rfl rfl (by first|exact ln8|exact ln9|exact ln10) (by repeat constructor) rfl ?_|(refine a1a ?_;first|refine a0b (a1l rfl rfl rfl (by omega)) rfl ?_|refine a0b (a1m rfl rfl rfl (by omega)) rfl ?_|refine a0b (a2y rfl rfl rfl) rfl ?_)|(refine a0d ?_;refine a0v [3,1,2,4] rfl rfl hC ?_ ?_ rfl rfl ?_;(focus ((repeat constructor);done));(focus ((repeat constructor);done));rintro _ _ ⟨rfl,rfl⟩;refine ⟨_,_,by repeat constructor,by repeat constructor,?_⟩))|(refine a2k ?_;first|refine a0b (a0l rfl) rfl ?_|(refine k_g ?_;first|refine a1j rfl rfl (by with_reducible rfl) ?_|refine a1w rfl rfl (by with_reducible rfl) rfl ?_|refine a1t rfl rfl (by with_reducible rfl) rfl ?_|(refine a1z rfl rfl (fun hc => ?_) (fun hc => ?_) <;> (try (exfalso;omega))))|refine a0b (a0f rfl rfl) rfl ?_|(refine a1g ?_;first|refine a0b (a0w rfl rfl) rfl ?_|refine a0b (a0m rfl rfl rfl) rfl ?_)|(refine a1a ?_;first|refine a0b (a1h rfl rfl rfl) rfl ?_|refine a0b (a1p rfl rfl (by (first|exact w64 (by omega) (by omega)|rfl))) rfl ?_|refine a0b (a2t rfl rfl) rfl ?_)|(refine a1i ?_;first|refine a0b (a0j rfl (by with_reducible rfl) rfl) rfl ?_|refine a0b (a0i rfl (by with_reducible rfl) rfl) rfl ?_)|refine a0b (a0e rfl) rfl ?_|(refine a0d ?_;first|refine a0b (a2f rfl) rfl ?_)|refine a0b (a0s rfl rfl) rfl ?_|refine a0u ?_|refine a2g rfl rfl rfl (by first|exact ln0|exact ln5|exact ln6|exact ln7) (by repeat constructor) rfl ?_|refine a0z rfl rfl rfl (by first|exact ln0|exact ln5|exact ln6|exact ln7) (by repeat constructor) rfl ?_|refine a1c rfl rfl rfl rfl rfl (by repeat constructor) (by repeat constructor) ?_|refine a0b (a0y rfl (by with_reducible rfl)) rfl ?_)|(first|refine a1n ?_|(refine a1o ?_;first|refine a0c (a0a ?_)|refine a0c ?_|refine a0a ?_|(refine a0x ?_;first|refine a0g rfl (by with_reducible rfl) ?_|refine a0h rfl (by with_reducible rfl) ?_|(refine a0r rfl (fun hc => ?_) (fun hc => ?_) <;> (try (exfalso;omega))))|refine a0n ?_|refine a0o ?_|refine a0k ?_|refine a1f ?_)|refine a0t ?_|refine a1q ?_|refine a2b ?_|refine a1d ?_|refine a1v ?_|refine a1b ?_|refine a1e ?_|refine a2v ?_))
              first|refine a1y (v + 1,true) (.of (.same (by repeat constructor))) ?_ ?_|refine a1y (v + 1,true) (.of (a2n [_] rfl (by repeat constructor) rfl (by repeat constructor) rfl)) ?_ ?_|refine a1y (v + 1,true) (.of (a2n [_,_] rfl (by repeat constructor) rfl (by repeat constructor) rfl)) ?_ ?_|refine a1y (v + 1,true) (.of (a2n [_,_,_] rfl (by repeat constructor) rfl (by repeat constructor) rfl)) ?_ ?_
              · exact ⟨by show ((v + 1 : Nat) : Int) ≤ u; omega, fun e => by cases e⟩
              · (try dsimp only); omega
            · subst hcs
              repeat' (first|(first|refine a0z rfl rfl rfl (by first|exact ln8|exact ln9|exact ln10) (by repeat constructor) rfl ?_|(refine a1a ?_;first|refine a0b (a1l rfl rfl rfl (by omega)) rfl ?_|refine a0b (a1m rfl rfl rfl (by omega)) rfl ?_|refine a0b (a2y rfl rfl rfl) rfl ?_)|(refine a0d ?_;refine a0v [3,1,2,4] rfl rfl hC ?_ ?_ rfl rfl ?_;(focus ((repeat constructor);done));(focus ((repeat constructor);done));rintro _ _ ⟨rfl,rfl⟩;refine ⟨_,_,by repeat constructor,by repeat constructor,?_⟩))|(refine a2k ?_;first|refine a0b (a0l rfl) rfl ?_|(refine k_g ?_;first|refine a1j rfl rfl (by with_reducible rfl) ?_|refine a1w rfl rfl (by with_reducible rfl) rfl ?_|refine a1t rfl rfl (by with_reducible rfl) rfl ?_|(refine a1z rfl rfl (fun hc => ?_) (fun hc => ?_) <;> (try (exfalso;omega))))|refine a0b (a0f rfl rfl) rfl ?_|(refine a1g ?_;first|refine a0b (a0w rfl rfl) rfl ?_|refine a0b (a0m rfl rfl rfl) rfl ?_)|(refine a1a ?_;first|refine a0b (a1h rfl rfl rfl) rfl ?_|refine a0b (a1p rfl rfl (by (first|exact w64 (by omega) (by omega)|rfl))) rfl ?_|refine a0b (a2t rfl rfl) rfl ?_)|(refine a1i ?_;first|refine a0b (a0j rfl (by with_reducible rfl) rfl) rfl ?_|refine a0b (a0i rfl (by with_reducible rfl) rfl) rfl ?_)|refine a0b (a0e rfl) rfl ?_|(refine a0d ?_;first|refine a0b (a2f rfl) rfl ?_)|refine a0b (a0s rfl rfl) rfl ?_|refine a0u ?_|refine a2g rfl rfl rfl (by first|exact ln0|exact ln5|exact ln6|exact ln7) (by repeat constructor) rfl ?_|refine a0z rfl rfl rfl (by first|exact ln0|exact ln5|exact ln6|exact ln7) (by repeat constructor) rfl ?_|refine a1c rfl rfl rfl rfl rfl (by repeat constructor) (by repeat constructor) ?_|refine a0b (a0y rfl (by with_reducible rfl)) rfl ?_)|(first|refine a1n ?_|(refine a1o ?_;first|refine a0c (a0a ?_)|refine a0c ?_|refine a0a ?_|(refine a0x ?_;first|refine a0g rfl (by with_reducible rfl) ?_|refine a0h rfl (by with_reducible rfl) ?_|(refine a0r rfl (fun hc => ?_) (fun hc => ?_) <;> (try (exfalso;omega))))|refine a0n ?_|refine a0o ?_|refine a0k ?_|refine a1f ?_)|refine a0t ?_|refine a1q ?_|refine a2b ?_|refine a1d ?_|refine a1v ?_|refine a1b ?_|refine a1e ?_|refine a2v ?_))
              first|refine a1y (v + 1,true) (.of (.same (by repeat constructor))) ?_ ?_|refine a1y (v + 1,true) (.of (a2n [_] rfl (by repeat constructor) rfl (by repeat constructor) rfl)) ?_ ?_|refine a1y (v + 1,true) (.of (a2n [_,_] rfl (by repeat constructor) rfl (by repeat constructor) rfl)) ?_ ?_|refine a1y (v + 1,true) (.of (a2n [_,_,_] rfl (by repeat constructor) rfl (by repeat constructor) rfl)) ?_ ?_
              · exact ⟨by show ((v + 1 : Nat) : Int) ≤ u; omega, fun e => by cases e⟩
              · (try dsimp only); omega
            · subst hcs
              repeat' (first|(first|refine a0z rfl rfl rfl (by first|exact ln8|exact ln9|exact ln10) (by repeat constructor) rfl ?_|(refine a1a ?_;first|refine a0b (a1l rfl rfl rfl (by omega)) rfl ?_|refine a0b (a1m rfl rfl rfl (by omega)) rfl ?_|refine a0b (a2y rfl rfl rfl) rfl ?_)|(refine a0d ?_;refine a0v [3,1,2,4] rfl rfl hC ?_ ?_ rfl rfl ?_;(focus ((repeat constructor);done));(focus ((repeat constructor);done));rintro _ _ ⟨rfl,rfl⟩;refine ⟨_,_,by repeat constructor,by repeat constructor,?_⟩))|(refine a2k ?_;first|refine a0b (a0l rfl) rfl ?_|(refine k_g ?_;first|refine a1j rfl rfl (by with_reducible rfl) ?_|refine a1w rfl rfl (by with_reducible rfl) rfl ?_|refine a1t rfl rfl (by with_reducible rfl) rfl ?_|(refine a1z rfl rfl (fun hc => ?_) (fun hc => ?_) <;> (try (exfalso;omega))))|refine a0b (a0f rfl rfl) rfl ?_|(refine a1g ?_;first|refine a0b (a0w rfl rfl) rfl ?_|refine a0b (a0m rfl rfl rfl) rfl ?_)|(refine a1a ?_;first|refine a0b (a1h rfl rfl rfl) rfl ?_|refine a0b (a1p rfl rfl (by (first|exact w64 (by omega) (by omega)|rfl))) rfl ?_|refine a0b (a2t rfl rfl) rfl ?_)|(refine a1i ?_;first|refine a0b (a0j rfl (by with_reducible rfl) rfl) rfl ?_|refine a0b (a0i rfl (by with_reducible rfl) rfl) rfl ?_)|refine a0b (a0e rfl) rfl ?_|(refine a0d ?_;first|refine a0b (a2f rfl) rfl ?_)|refine a0b (a0s rfl rfl) rfl ?_|refine a0u ?_|refine a2g rfl rfl rfl (by first|exact ln0|exact ln5|exact ln6|exact ln7) (by repeat constructor) rfl ?_|refine a0z rfl rfl rfl (by first|exact ln0|exact ln5|exact ln6|exact ln7) (by repeat constructor) rfl ?_|refine a1c rfl rfl rfl rfl rfl (by repeat constructor) (by repeat constructor) ?_|refine a0b (a0y rfl (by with_reducible rfl)) rfl ?_)|(first|refine a1n ?_|(refine a1o ?_;first|refine a0c (a0a ?_)|refine a0c ?_|refine a0a ?_|(refine a0x ?_;first|refine a0g rfl (by with_reducible rfl) ?_|refine a0h rfl (by with_reducible rfl) ?_|(refine a0r rfl (fun hc => ?_) (fun hc => ?_) <;> (try (exfalso;omega))))|refine a0n ?_|refine a0o ?_|refine a0k ?_|refine a1f ?_)|refine a0t ?_|refine a1q ?_|refine a2b ?_|refine a1d ?_|refine a1v ?_|refine a1b ?_|refine a1e ?_|refine a2v ?_))
              first|refine a1y (v + 1,true) (.of (.same (by repeat constructor))) ?_ ?_|refine a1y (v + 1,true) (.of (a2n [_] rfl (by repeat constructor) rfl (by repeat constructor) rfl)) ?_ ?_|refine a1y (v + 1,true) (.of (a2n [_,_] rfl (by repeat constructor) rfl (by repeat constructor) rfl)) ?_ ?_|refine a1y (v + 1,true) (.of (a2n [_,_,_] rfl (by repeat constructor) rfl (by repeat constructor) rfl)) ?_ ?_
              · exact ⟨by show ((v + 1 : Nat) : Int) ≤ u; omega, fun e => by cases e⟩
              · (try dsimp only); omega
            · subst hcs
              repeat' (first|(first|refine a0z rfl rfl rfl (by first|exact ln8|exact ln9|exact ln10) (by repeat constructor) rfl ?_|(refine a1a ?_;first|refine a0b (a1l rfl rfl rfl (by omega)) rfl ?_|refine a0b (a1m rfl rfl rfl (by omega)) rfl ?_|refine a0b (a2y rfl rfl rfl) rfl ?_)|(refine a0d ?_;refine a0v [3,1,2,4] rfl rfl hC ?_ ?_ rfl rfl ?_;(focus ((repeat constructor);done));(focus ((repeat constructor);done));rintro _ _ ⟨rfl,rfl⟩;refine ⟨_,_,by repeat constructor,by repeat constructor,?_⟩))|(refine a2k ?_;first|refine a0b (a0l rfl) rfl ?_|(refine k_g ?_;first|refine a1j rfl rfl (by with_reducible rfl) ?_|refine a1w rfl rfl (by with_reducible rfl) rfl ?_|refine a1t rfl rfl (by with_reducible rfl) rfl ?_|(refine a1z rfl rfl (fun hc => ?_) (fun hc => ?_) <;> (try (exfalso;omega))))|refine a0b (a0f rfl rfl) rfl ?_|(refine a1g ?_;first|refine a0b (a0w rfl rfl) rfl ?_|refine a0b (a0m rfl rfl rfl) rfl ?_)|(refine a1a ?_;first|refine a0b (a1h rfl rfl rfl) rfl ?_|refine a0b (a1p rfl rfl (by (first|exact w64 (by omega) (by omega)|rfl))) rfl ?_|refine a0b (a2t rfl rfl) rfl ?_)|(refine a1i ?_;first|refine a0b (a0j rfl (by with_reducible rfl) rfl) rfl ?_|refine a0b (a0i rfl (by with_reducible rfl) rfl) rfl ?_)|refine a0b (a0e rfl) rfl ?_|(refine a0d ?_;first|refine a0b (a2f rfl) rfl ?_)|refine a0b (a0s rfl rfl) rfl ?_|refine a0u ?_|refine a2g rfl rfl rfl (by first|exact ln0|exact ln5|exact ln6|exact ln7) (by repeat constructor) rfl ?_|refine a0z rfl rfl rfl (by first|exact ln0|exact ln5|exact ln6|exact ln7) (by repeat constructor) rfl ?_|refine a1c rfl rfl rfl rfl rfl (by repeat constructor) (by repeat constructor) ?_|refine a0b (a0y rfl (by with_reducible rfl)) rfl ?_)|(first|refine a1n ?_|(refine a1o ?_;first|refine a0c (a0a ?_)|refine a0c ?_|refine a0a ?_|(refine a0x ?_;first|refine a0g rfl (by with_reducible rfl) ?_|refine a0h rfl (by with_reducible rfl) ?_|(refine a0r rfl (fun hc => ?_) (fun hc => ?_) <;> (try (exfalso;omega))))|refine a0n ?_|refine a0o ?_|refine a0k ?_|refine a1f ?_)|refine a0t ?_|refine a1q ?_|refine a2b ?_|refine a1d ?_|refine a1v ?_|refine a1b ?_|refine a1e ?_|refine a2v ?_))
              first|refine a1y (v + 1,false) (.of (.same (by repeat constructor))) ?_ ?_|refine a1y (v + 1,false) (.of (a2n [_] rfl (by repeat constructor) rfl (by repeat constructor) rfl)) ?_ ?_|refine a1y (v + 1,false) (.of (a2n [_,_] rfl (by repeat constructor) rfl (by repeat constructor) rfl)) ?_ ?_|refine a1y (v + 1,false) (.of (a2n [_,_,_] rfl (by repeat constructor) rfl (by repeat constructor) rfl)) ?_ ?_
              · refine ⟨by show ((v + 1 : Nat) : Int) ≤ u; omega, fun _ w h0 hw => ?_⟩
                have hw2 : w < ((v + 1 : Nat) : Int) := hw
                by_cases hwv : w = (v : Int)
                · subst hwv; rw [← hnc, ← hna]; omega
                · exact hfl rfl w h0 (by omega)
              · (try dsimp only); omega
          · have hvu2 : (v : Int) = u := by omega
            have hfull : Full X.ds → full = true := by
              rintro ⟨w, ⟨w0', w1⟩, w2⟩
              cases full with
              | true => rfl
              | false =>
                exfalso
                have w3 : w < X.users := w1
                have := hfl rfl w w0' (by omega)
                have w4 : X.conns ≤ ((cntC X.ds.l w : Nat) : Int) ∨ X.asks ≤ ((cntA X.ds.l w : Nat) : Int) := w2
                omega
            obtain ⟨pm1, pm2, pm3, pm4⟩ := b9r hX.met at'
            have pm5 := b9q X.ds at'
            have hWt := c1q (w0 := w0) (base := base) (at' := at') hok
            obtain ⟨wt, hwt⟩ : ∃ wt, wt = waitsD X.ds at' := ⟨_, rfl⟩
            rw [← hwt] at hWt pm2
            obtain ⟨ac, er, hac⟩ : ∃ ac er, (pickD X.ds at').2 = (ac, er) := ⟨_, _, rfl⟩
            rw [hac] at pm2 pm3 pm4 pm5
            dsimp only at pm2 pm3 pm4 pm5
            have hPa : ACalls (EE w0 base) 13 [.op 0 0, .int .i64 at'] (dmO X) fun rv os => rv = .tup [.agg (atC ac), .int .i64 er] ∧ ∃ X', DemOk X' ∧ os = dmO X' ∧ X'.ds = (pickD X.ds at').1 := by
              have h0 := c1r (w0 := w0) (base := base) (at' := at') hG hok
              unfold PkR at h0
              rw [hac] at h0
              exact h0
            have hol : ac.out.length ≤ 1073741824 := by
              rcases pm5 with k1 | k1
              · obtain ⟨r, h1, h2, h3⟩ := pm3 k1
                rw [h1]; exact h3
              · rw [k1]; decide
            have hPr := b9f (w0 := w0) (base := base) (s := ac.out) hG hol
            obtain ⟨r2, n2, g2, hpy, hr2⟩ : ∃ r2 n2 g2, prsY ac.out = .tup [.agg (rpC r2), .int .i64 n2, .int .i64 g2] ∧ (ac.kind = 1 → g2 = 0 ∧ (r2.st = 503 → full = true)) := by
              by_cases k1 : ac.kind = 1
              · obtain ⟨r, h1, h2, h3⟩ := pm3 k1
                obtain ⟨r', e1, e2⟩ := b8d r
                refine ⟨r', ((printY r').length : Int), 0, ?_, fun _ => ⟨rfl, fun e => hfull (h2 (e2 e))⟩⟩
                rw [h1]
                unfold prsY
                rw [e1]
              · obtain ⟨r, n, g, h⟩ := c2s ac.out
                exact ⟨r, n, g, h, fun e => absurd e k1⟩
            rw [hpy] at hPr
            have hcs : (ac.kind = 1 ∧ wt = false ∧ g2 = 0 ∧ (r2.st ≠ 503 ∨ (r2.st = 503 ∧ full = true))) ∨ (ac.kind ≠ 1 ∧ wt = false) ∨ (ac.kind ≠ 1 ∧ wt = true ∧ ac.kind = 0) := by
              by_cases k1 : ac.kind = 1
              · left
                obtain ⟨e1, e2⟩ := hr2 k1
                refine ⟨k1, ?_, e1, ?_⟩
                · cases hh : wt with
                  | false => rfl
                  | true => rw [hh] at pm2; have := pm2 rfl; omega
                · by_cases e3 : r2.st = 503
                  · exact .inr ⟨e3, e2 e3⟩
                  · exact .inl e3
              · right
                cases hh : wt with
                | false => exact .inl ⟨k1, rfl⟩
                | true => rw [hh] at pm2; exact .inr ⟨k1, rfl, pm2 rfl⟩
            clear pm2 pm3 pm4 pm5 hr2 hpy hol hfull hwt
            obtain ⟨ak, ao, acl, au, atk, an, aw, rq⟩ := ac
            dsimp only at hcs hPr
            rcases rq with _ | ⟨h', b'⟩
            all_goals
              rcases hcs with ⟨k1, k2, k3, k4 | ⟨k4, k5⟩⟩ | ⟨k1, k2⟩ | ⟨k1, k2, k3⟩
              all_goals
                subst k2
                try subst k5
                repeat' (first|(first|refine a0z rfl rfl rfl (by first|exact ln8|exact ln9|exact ln10) (by repeat constructor) rfl ?_|(refine a1a ?_;first|refine a0b (a1l rfl rfl rfl (by omega)) rfl ?_|refine a0b (a1m rfl rfl rfl (by omega)) rfl ?_|refine a0b (a2y rfl rfl rfl) rfl ?_)|(refine a0d ?_;refine a0v [3,1,2,4] rfl rfl hWt ?_ ?_ rfl rfl ?_;(focus ((repeat constructor);done));(focus ((repeat constructor);done));rintro _ _ ⟨rfl,rfl⟩;refine ⟨_,_,by repeat constructor,by repeat constructor,?_⟩)|(refine a0d ?_;refine a0v [3,1,2,4] rfl rfl hPa ?_ ?_ rfl rfl ?_;(focus ((repeat constructor);done));(focus ((repeat constructor);done));rintro _ _ ⟨rfl,X1,hX1,rfl,hdX1⟩;refine ⟨_,_,by repeat constructor,by repeat constructor,?_⟩)|(refine a0d ?_;refine a0q rfl rfl rfl rfl hPr ?_;rintro _ rfl))|(refine a2k ?_;first|refine a0b (a0l rfl) rfl ?_|(refine k_g ?_;first|refine a1j rfl rfl (by with_reducible rfl) ?_|refine a1w rfl rfl (by with_reducible rfl) rfl ?_|refine a1t rfl rfl (by with_reducible rfl) rfl ?_|(refine a1z rfl rfl (fun hc => ?_) (fun hc => ?_) <;> (try (exfalso;omega))))|refine a0b (a0f rfl rfl) rfl ?_|(refine a1g ?_;first|refine a0b (a0w rfl rfl) rfl ?_|refine a0b (a0m rfl rfl rfl) rfl ?_)|(refine a1a ?_;first|refine a0b (a1h rfl rfl rfl) rfl ?_|refine a0b (a1p rfl rfl (by (first|exact w64 (by omega) (by omega)|rfl))) rfl ?_|refine a0b (a2t rfl rfl) rfl ?_)|(refine a1i ?_;first|refine a0b (a0j rfl (by with_reducible rfl) rfl) rfl ?_|refine a0b (a0i rfl (by with_reducible rfl) rfl) rfl ?_)|refine a0b (a0e rfl) rfl ?_|(refine a0d ?_;first|refine a0b (a2f rfl) rfl ?_)|refine a0b (a0s rfl rfl) rfl ?_|refine a0u ?_|refine a2g rfl rfl rfl (by first|exact ln0|exact ln5|exact ln6|exact ln7) (by repeat constructor) rfl ?_|refine a0z rfl rfl rfl (by first|exact ln0|exact ln5|exact ln6|exact ln7) (by repeat constructor) rfl ?_|refine a1c rfl rfl rfl rfl rfl (by repeat constructor) (by repeat constructor) ?_|refine a0b (a0y rfl (by with_reducible rfl)) rfl ?_)|(first|refine a1n ?_|(refine a1o ?_;first|refine a0c (a0a ?_)|refine a0c ?_|refine a0a ?_|(refine a0x ?_;first|refine a0g rfl (by with_reducible rfl) ?_|refine a0h rfl (by with_reducible rfl) ?_|(refine a0r rfl (fun hc => ?_) (fun hc => ?_) <;> (try (exfalso;omega))))|refine a0n ?_|refine a0o ?_|refine a0k ?_|refine a1f ?_)|refine a0t ?_|refine a1q ?_|refine a2b ?_|refine a1d ?_|refine a1v ?_|refine a1b ?_|refine a1e ?_|refine a2v ?_))
                all_goals
                  first
                    | exact a6v X1 (hX.step hX1 hdX1 pm1 (b3g _ _)) (.of (.same (by repeat constructor)))
                    | exact absurd k3 hc
                    | exact a6v X1 (hX.step hX1 hdX1 pm1 (b3g _ _)) (.of (a2n [_, _] rfl (by repeat constructor) rfl (by repeat constructor) rfl))
        · repeat' (first|(first|refine a0z rfl rfl rfl (by first|exact ln8|exact ln9|exact ln10) (by repeat constructor) rfl ?_|(refine a1a ?_;first|refine a0b (a1l rfl rfl rfl (by omega)) rfl ?_|refine a0b (a1m rfl rfl rfl (by omega)) rfl ?_|refine a0b (a2y rfl rfl rfl) rfl ?_)|(refine a0d ?_;refine a0v [3,1,2,4] rfl rfl (c4w (w0 := w0) (base := base) (t := tx) (u := us) hX.ok) ?_ ?_ rfl rfl ?_;(focus ((repeat constructor);done));(focus ((repeat constructor);done));rintro _ _ ⟨rfl,X1,hX1,rfl,hdX1⟩;refine ⟨_,_,by repeat constructor,by repeat constructor,?_⟩))|(refine a2k ?_;first|refine a0b (a0l rfl) rfl ?_|(refine k_g ?_;first|refine a1j rfl rfl (by with_reducible rfl) ?_|refine a1w rfl rfl (by with_reducible rfl) rfl ?_|refine a1t rfl rfl (by with_reducible rfl) rfl ?_|(refine a1z rfl rfl (fun hc => ?_) (fun hc => ?_) <;> (try (exfalso;omega))))|refine a0b (a0f rfl rfl) rfl ?_|(refine a1g ?_;first|refine a0b (a0w rfl rfl) rfl ?_|refine a0b (a0m rfl rfl rfl) rfl ?_)|(refine a1a ?_;first|refine a0b (a1h rfl rfl rfl) rfl ?_|refine a0b (a1p rfl rfl (by (first|exact w64 (by omega) (by omega)|rfl))) rfl ?_|refine a0b (a2t rfl rfl) rfl ?_)|(refine a1i ?_;first|refine a0b (a0j rfl (by with_reducible rfl) rfl) rfl ?_|refine a0b (a0i rfl (by with_reducible rfl) rfl) rfl ?_)|refine a0b (a0e rfl) rfl ?_|(refine a0d ?_;first|refine a0b (a2f rfl) rfl ?_)|refine a0b (a0s rfl rfl) rfl ?_|refine a0u ?_|refine a2g rfl rfl rfl (by first|exact ln0|exact ln5|exact ln6|exact ln7) (by repeat constructor) rfl ?_|refine a0z rfl rfl rfl (by first|exact ln0|exact ln5|exact ln6|exact ln7) (by repeat constructor) rfl ?_|refine a1c rfl rfl rfl rfl rfl (by repeat constructor) (by repeat constructor) ?_|refine a0b (a0y rfl (by with_reducible rfl)) rfl ?_)|(first|refine a1n ?_|(refine a1o ?_;first|refine a0c (a0a ?_)|refine a0c ?_|refine a0a ?_|(refine a0x ?_;first|refine a0g rfl (by with_reducible rfl) ?_|refine a0h rfl (by with_reducible rfl) ?_|(refine a0r rfl (fun hc => ?_) (fun hc => ?_) <;> (try (exfalso;omega))))|refine a0n ?_|refine a0o ?_|refine a0k ?_|refine a1f ?_)|refine a0t ?_|refine a1q ?_|refine a2b ?_|refine a1d ?_|refine a1v ?_|refine a1b ?_|refine a1e ?_|refine a2v ?_))
          first
            | exact a6v X1 (hX.step hX1 hdX1 (hX.met.bind _ _) (b4c _ _ _)) (.of (.same (by repeat constructor)))
            | exact a6v X1 (hX.step hX1 hdX1 (hX.met.bind _ _) (b4c _ _ _)) (.of (a2n [_, _] rfl (by repeat constructor) rfl (by repeat constructor) rfl))
        · repeat' (first|(first|refine a0z rfl rfl rfl (by first|exact ln8|exact ln9|exact ln10) (by repeat constructor) rfl ?_|(refine a1a ?_;first|refine a0b (a1l rfl rfl rfl (by omega)) rfl ?_|refine a0b (a1m rfl rfl rfl (by omega)) rfl ?_|refine a0b (a2y rfl rfl rfl) rfl ?_)|(refine a0d ?_;refine a0v [3,1,2,4] rfl rfl (b7e (w0 := w0) (base := base) (at' := at') (r := rp) hX.ok frp ffs) ?_ ?_ rfl rfl ?_;(focus ((repeat constructor);done));(focus ((repeat constructor);done));rintro _ _ ⟨rfl,X1,hX1,rfl,hdX1⟩;refine ⟨_,_,by repeat constructor,by repeat constructor,?_⟩))|(refine a2k ?_;first|refine a0b (a0l rfl) rfl ?_|(refine k_g ?_;first|refine a1j rfl rfl (by with_reducible rfl) ?_|refine a1w rfl rfl (by with_reducible rfl) rfl ?_|refine a1t rfl rfl (by with_reducible rfl) rfl ?_|(refine a1z rfl rfl (fun hc => ?_) (fun hc => ?_) <;> (try (exfalso;omega))))|refine a0b (a0f rfl rfl) rfl ?_|(refine a1g ?_;first|refine a0b (a0w rfl rfl) rfl ?_|refine a0b (a0m rfl rfl rfl) rfl ?_)|(refine a1a ?_;first|refine a0b (a1h rfl rfl rfl) rfl ?_|refine a0b (a1p rfl rfl (by (first|exact w64 (by omega) (by omega)|rfl))) rfl ?_|refine a0b (a2t rfl rfl) rfl ?_)|(refine a1i ?_;first|refine a0b (a0j rfl (by with_reducible rfl) rfl) rfl ?_|refine a0b (a0i rfl (by with_reducible rfl) rfl) rfl ?_)|refine a0b (a0e rfl) rfl ?_|(refine a0d ?_;first|refine a0b (a2f rfl) rfl ?_)|refine a0b (a0s rfl rfl) rfl ?_|refine a0u ?_|refine a2g rfl rfl rfl (by first|exact ln0|exact ln5|exact ln6|exact ln7) (by repeat constructor) rfl ?_|refine a0z rfl rfl rfl (by first|exact ln0|exact ln5|exact ln6|exact ln7) (by repeat constructor) rfl ?_|refine a1c rfl rfl rfl rfl rfl (by repeat constructor) (by repeat constructor) ?_|refine a0b (a0y rfl (by with_reducible rfl)) rfl ?_)|(first|refine a1n ?_|(refine a1o ?_;first|refine a0c (a0a ?_)|refine a0c ?_|refine a0a ?_|(refine a0x ?_;first|refine a0g rfl (by with_reducible rfl) ?_|refine a0h rfl (by with_reducible rfl) ?_|(refine a0r rfl (fun hc => ?_) (fun hc => ?_) <;> (try (exfalso;omega))))|refine a0n ?_|refine a0o ?_|refine a0k ?_|refine a1f ?_)|refine a0t ?_|refine a1q ?_|refine a2b ?_|refine a1d ?_|refine a1v ?_|refine a1b ?_|refine a1e ?_|refine a2v ?_))
          first
            | exact a6v X1 (hX.step hX1 hdX1 (hX.met.answer _ hst fem) (b0e _ _ _)) (.of (.same (by repeat constructor)))
            | exact a6v X1 (hX.step hX1 hdX1 (hX.met.answer _ hst fem) (b0e _ _ _)) (.of (a2n [_, _] rfl (by repeat constructor) rfl (by repeat constructor) rfl))
        · repeat' (first|(first|refine a0z rfl rfl rfl (by first|exact ln8|exact ln9|exact ln10) (by repeat constructor) rfl ?_|(refine a1a ?_;first|refine a0b (a1l rfl rfl rfl (by omega)) rfl ?_|refine a0b (a1m rfl rfl rfl (by omega)) rfl ?_|refine a0b (a2y rfl rfl rfl) rfl ?_))|(refine a2k ?_;first|refine a0b (a0l rfl) rfl ?_|(refine k_g ?_;first|refine a1j rfl rfl (by with_reducible rfl) ?_|refine a1w rfl rfl (by with_reducible rfl) rfl ?_|refine a1t rfl rfl (by with_reducible rfl) rfl ?_|(refine a1z rfl rfl (fun hc => ?_) (fun hc => ?_) <;> (try (exfalso;omega))))|refine a0b (a0f rfl rfl) rfl ?_|(refine a1g ?_;first|refine a0b (a0w rfl rfl) rfl ?_|refine a0b (a0m rfl rfl rfl) rfl ?_)|(refine a1a ?_;first|refine a0b (a1h rfl rfl rfl) rfl ?_|refine a0b (a1p rfl rfl (by (first|exact w64 (by omega) (by omega)|rfl))) rfl ?_|refine a0b (a2t rfl rfl) rfl ?_)|(refine a1i ?_;first|refine a0b (a0j rfl (by with_reducible rfl) rfl) rfl ?_|refine a0b (a0i rfl (by with_reducible rfl) rfl) rfl ?_)|refine a0b (a0e rfl) rfl ?_|(refine a0d ?_;first|refine a0b (a2f rfl) rfl ?_)|refine a0b (a0s rfl rfl) rfl ?_|refine a0u ?_|refine a2g rfl rfl rfl (by first|exact ln0|exact ln5|exact ln6|exact ln7) (by repeat constructor) rfl ?_|refine a0z rfl rfl rfl (by first|exact ln0|exact ln5|exact ln6|exact ln7) (by repeat constructor) rfl ?_|refine a1c rfl rfl rfl rfl rfl (by repeat constructor) (by repeat constructor) ?_|refine a0b (a0y rfl (by with_reducible rfl)) rfl ?_)|(first|refine a1n ?_|(refine a1o ?_;first|refine a0c (a0a ?_)|refine a0c ?_|refine a0a ?_|(refine a0x ?_;first|refine a0g rfl (by with_reducible rfl) ?_|refine a0h rfl (by with_reducible rfl) ?_|(refine a0r rfl (fun hc => ?_) (fun hc => ?_) <;> (try (exfalso;omega))))|refine a0n ?_|refine a0o ?_|refine a0k ?_|refine a1f ?_)|refine a0t ?_|refine a1q ?_|refine a2b ?_|refine a1d ?_|refine a1v ?_|refine a1b ?_|refine a1e ?_|refine a2v ?_))
          first
            | exact a6v X hX (.of (.same (by repeat constructor)))
            | exact a6v X hX (.of (a2n [_, _] rfl (by repeat constructor) rfl (by repeat constructor) rfl))
        · repeat' (first|(first|refine a0z rfl rfl rfl (by first|exact ln8|exact ln9|exact ln10) (by repeat constructor) rfl ?_|(refine a1a ?_;first|refine a0b (a1l rfl rfl rfl (by omega)) rfl ?_|refine a0b (a1m rfl rfl rfl (by omega)) rfl ?_|refine a0b (a2y rfl rfl rfl) rfl ?_))|(refine a2k ?_;first|refine a0b (a0l rfl) rfl ?_|(refine k_g ?_;first|refine a1j rfl rfl (by with_reducible rfl) ?_|refine a1w rfl rfl (by with_reducible rfl) rfl ?_|refine a1t rfl rfl (by with_reducible rfl) rfl ?_|(refine a1z rfl rfl (fun hc => ?_) (fun hc => ?_) <;> (try (exfalso;omega))))|refine a0b (a0f rfl rfl) rfl ?_|(refine a1g ?_;first|refine a0b (a0w rfl rfl) rfl ?_|refine a0b (a0m rfl rfl rfl) rfl ?_)|(refine a1a ?_;first|refine a0b (a1h rfl rfl rfl) rfl ?_|refine a0b (a1p rfl rfl (by (first|exact w64 (by omega) (by omega)|rfl))) rfl ?_|refine a0b (a2t rfl rfl) rfl ?_)|(refine a1i ?_;first|refine a0b (a0j rfl (by with_reducible rfl) rfl) rfl ?_|refine a0b (a0i rfl (by with_reducible rfl) rfl) rfl ?_)|refine a0b (a0e rfl) rfl ?_|(refine a0d ?_;first|refine a0b (a2f rfl) rfl ?_)|refine a0b (a0s rfl rfl) rfl ?_|refine a0u ?_|refine a2g rfl rfl rfl (by first|exact ln0|exact ln5|exact ln6|exact ln7) (by repeat constructor) rfl ?_|refine a0z rfl rfl rfl (by first|exact ln0|exact ln5|exact ln6|exact ln7) (by repeat constructor) rfl ?_|refine a1c rfl rfl rfl rfl rfl (by repeat constructor) (by repeat constructor) ?_|refine a0b (a0y rfl (by with_reducible rfl)) rfl ?_)|(first|refine a1n ?_|(refine a1o ?_;first|refine a0c (a0a ?_)|refine a0c ?_|refine a0a ?_|(refine a0x ?_;first|refine a0g rfl (by with_reducible rfl) ?_|refine a0h rfl (by with_reducible rfl) ?_|(refine a0r rfl (fun hc => ?_) (fun hc => ?_) <;> (try (exfalso;omega))))|refine a0n ?_|refine a0o ?_|refine a0k ?_|refine a1f ?_)|refine a0t ?_|refine a1q ?_|refine a2b ?_|refine a1d ?_|refine a1v ?_|refine a1b ?_|refine a1e ?_|refine a2v ?_))
          first
            | exact a6v X hX (.of (.same (by repeat constructor)))
            | exact a6v X hX (.of (a2n [_, _] rfl (by repeat constructor) rfl (by repeat constructor) rfl))
    · repeat' (first|(first|refine a0z rfl rfl rfl (by first|exact ln8|exact ln9|exact ln10) (by repeat constructor) rfl ?_|(refine a1a ?_;first|refine a0b (a1l rfl rfl rfl (by omega)) rfl ?_|refine a0b (a1m rfl rfl rfl (by omega)) rfl ?_|refine a0b (a2y rfl rfl rfl) rfl ?_)|(refine a0d ?_;refine a0q rfl rfl rfl rfl hW ?_;rintro _ rfl))|(refine a2k ?_;first|refine a0b (a0l rfl) rfl ?_|(refine k_g ?_;first|refine a1j rfl rfl (by with_reducible rfl) ?_|refine a1w rfl rfl (by with_reducible rfl) rfl ?_|refine a1t rfl rfl (by with_reducible rfl) rfl ?_|(refine a1z rfl rfl (fun hc => ?_) (fun hc => ?_) <;> (try (exfalso;omega))))|refine a0b (a0f rfl rfl) rfl ?_|(refine a1g ?_;first|refine a0b (a0w rfl rfl) rfl ?_|refine a0b (a0m rfl rfl rfl) rfl ?_)|(refine a1a ?_;first|refine a0b (a1h rfl rfl rfl) rfl ?_|refine a0b (a1p rfl rfl (by (first|exact w64 (by omega) (by omega)|rfl))) rfl ?_|refine a0b (a2t rfl rfl) rfl ?_)|(refine a1i ?_;first|refine a0b (a0j rfl (by with_reducible rfl) rfl) rfl ?_|refine a0b (a0i rfl (by with_reducible rfl) rfl) rfl ?_)|refine a0b (a0e rfl) rfl ?_|(refine a0d ?_;first|refine a0b (a2f rfl) rfl ?_)|refine a0b (a0s rfl rfl) rfl ?_|refine a0u ?_|refine a2g rfl rfl rfl (by first|exact ln0|exact ln5|exact ln6|exact ln7) (by repeat constructor) rfl ?_|refine a0z rfl rfl rfl (by first|exact ln0|exact ln5|exact ln6|exact ln7) (by repeat constructor) rfl ?_|refine a1c rfl rfl rfl rfl rfl (by repeat constructor) (by repeat constructor) ?_|refine a0b (a0y rfl (by with_reducible rfl)) rfl ?_)|(first|refine a1n ?_|(refine a1o ?_;first|refine a0c (a0a ?_)|refine a0c ?_|refine a0a ?_|(refine a0x ?_;first|refine a0g rfl (by with_reducible rfl) ?_|refine a0h rfl (by with_reducible rfl) ?_|(refine a0r rfl (fun hc => ?_) (fun hc => ?_) <;> (try (exfalso;omega))))|refine a0n ?_|refine a0o ?_|refine a0k ?_|refine a1f ?_)|refine a0t ?_|refine a1q ?_|refine a2b ?_|refine a1d ?_|refine a1v ?_|refine a1b ?_|refine a1e ?_|refine a2v ?_))
      all_goals
        refine ret1 (by first | exact .inr rfl | exact .inl rfl) rfl rfl ?_
        exact ⟨rfl, rfl⟩
  · simp only [if_neg h] at hN
    have h' : u < 1 ∨ (1 ≤ u ∧ 16 < u) ∨ (1 ≤ u ∧ u ≤ 16 ∧ c < 1) ∨ (1 ≤ u ∧ u ≤ 16 ∧ 1 ≤ c ∧ 64 < c) ∨ (1 ≤ u ∧ u ≤ 16 ∧ 1 ≤ c ∧ c ≤ 64 ∧ a < 1) ∨ (1 ≤ u ∧ u ≤ 16 ∧ 1 ≤ c ∧ c ≤ 64 ∧ 1 ≤ a ∧ 64 < a) := by omega
    clear h
    rcases h' with h' | h' | h' | h' | h' | h'
    all_goals
      repeat' (first|(first|refine a0z rfl rfl rfl (by first|exact ln8|exact ln9|exact ln10) (by repeat constructor) rfl ?_|(refine a0d ?_;refine a0v [] rfl rfl hN ?_ ?_ rfl rfl ?_;(focus ((repeat constructor);done));(focus ((repeat constructor);done));rintro _ _ ⟨rfl,rfl⟩;refine ⟨_,_,by repeat constructor,by repeat constructor,?_⟩)|(refine a1a ?_;first|refine a0b (a1l rfl rfl rfl (by omega)) rfl ?_|refine a0b (a1m rfl rfl rfl (by omega)) rfl ?_|refine a0b (a2y rfl rfl rfl) rfl ?_)|(refine a0d ?_;refine a0q rfl rfl rfl rfl hW ?_;rintro _ rfl))|(refine a2k ?_;first|refine a0b (a0l rfl) rfl ?_|(refine k_g ?_;first|refine a1j rfl rfl (by with_reducible rfl) ?_|refine a1w rfl rfl (by with_reducible rfl) rfl ?_|refine a1t rfl rfl (by with_reducible rfl) rfl ?_|(refine a1z rfl rfl (fun hc => ?_) (fun hc => ?_) <;> (try (exfalso;omega))))|refine a0b (a0f rfl rfl) rfl ?_|(refine a1g ?_;first|refine a0b (a0w rfl rfl) rfl ?_|refine a0b (a0m rfl rfl rfl) rfl ?_)|(refine a1a ?_;first|refine a0b (a1h rfl rfl rfl) rfl ?_|refine a0b (a1p rfl rfl (by (first|exact w64 (by omega) (by omega)|rfl))) rfl ?_|refine a0b (a2t rfl rfl) rfl ?_)|(refine a1i ?_;first|refine a0b (a0j rfl (by with_reducible rfl) rfl) rfl ?_|refine a0b (a0i rfl (by with_reducible rfl) rfl) rfl ?_)|refine a0b (a0e rfl) rfl ?_|(refine a0d ?_;first|refine a0b (a2f rfl) rfl ?_)|refine a0b (a0s rfl rfl) rfl ?_|refine a0u ?_|refine a2g rfl rfl rfl (by first|exact ln0|exact ln5|exact ln6|exact ln7) (by repeat constructor) rfl ?_|refine a0z rfl rfl rfl (by first|exact ln0|exact ln5|exact ln6|exact ln7) (by repeat constructor) rfl ?_|refine a1c rfl rfl rfl rfl rfl (by repeat constructor) (by repeat constructor) ?_|refine a0b (a0y rfl (by with_reducible rfl)) rfl ?_)|(first|refine a1n ?_|(refine a1o ?_;first|refine a0c (a0a ?_)|refine a0c ?_|refine a0a ?_|(refine a0x ?_;first|refine a0g rfl (by with_reducible rfl) ?_|refine a0h rfl (by with_reducible rfl) ?_|(refine a0r rfl (fun hc => ?_) (fun hc => ?_) <;> (try (exfalso;omega))))|refine a0n ?_|refine a0o ?_|refine a0k ?_|refine a1f ?_)|refine a0t ?_|refine a1q ?_|refine a2b ?_|refine a1d ?_|refine a1v ?_|refine a1b ?_|refine a1e ?_|refine a2v ?_))
      refine ret1 (by first | exact .inr rfl | exact .inl rfl) rfl rfl ?_
      exact ⟨rfl, rfl⟩
end
end Go.Proofs.YtkljmljkiodnpaaGreatDoor.L

namespace Go.Proofs.YtkljmljkiodnpaaGreatDoor.L
open Go Go.RowKit Go.Proofs Go.ChangeShapes Go.WideShapes Go.ChangeAt
attribute [local irreducible] AL QL AWp Thn InB RetQ ACalls LoopQ
theorem b8e {r : Rp} (h : cellsB (rpC r) ≤ 2097152) (cl : Bool) : (emitT { r with cl := cl }).length ≤ 1073741824 := by
  have hc : cellsB (rpC { r with cl := cl }) = cellsB (rpC r) := rfl
  unfold emitT
  split
  · rename_i hm
    have := b4q (r := { r with cl := cl }) hm
    omega
  · show (printY (plR 500 cl)).length ≤ 1073741824
    cases cl <;> decide +kernel
theorem c0c {xs : List AV} (h : OKL [.int .i64, .int .i64, .int .i64] xs) : ∃ a b c : Int, xs = [.int .i64 a, .int .i64 b, .int .i64 c] := by
  cases h with | cons a1 h => cases h with | cons a2 h => cases h with | cons a3 h =>
    cases h
    cases a1 with | int _ a _ => cases a2 with | int _ b _ => cases a3 with | int _ c _ => exact ⟨a, b, c, rfl⟩
theorem b9z {o : Op18} (h : cellsB (opC o) ≤ 2097152) : OpFitM o := by
  refine ⟨b6q h, fun cl => b8e ?_ cl⟩
  have e : cellsB (rpC o.r) = 1 + ((rowsB (o.r.fs.map prAV) + 1) + ((o.r.body.length + 1) + (1 + 0))) := rfl
  rw [b2e] at h
  omega
theorem c2y : ∀ {l : List Op18}, rowsB (l.map opC) ≤ 2097152 → ∀ o ∈ l, OpFitM o := by
  intro l
  induction l with
  | nil => intro _ r h; cases h
  | cons q l ih =>
    intro h r hr
    rw [List.map_cons, rowsB] at h
    rcases List.mem_cons.1 hr with rfl | hr
    · exact b9z (by omega)
    · exact ih (by omega) r hr
end Go.Proofs.YtkljmljkiodnpaaGreatDoor.L
