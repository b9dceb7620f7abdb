/- Part 4 of the texts behind the theorem of this claim: Layer 7 (head): the head of any bytes: the program's; Layer 7 (head): the head of any bytes: the document's; Layer 7 (head): what must come; the law HeadParses; Layer 7 (head), plain: texts of lines, and what is read out of them; Layer 7 (head), plain: what is printed is read as it was; Layer 7 (hea -/
import Derived.Test.YtkljmljkiodnpaaGreatDoorQg3
import Derived.Lib.SplitLaws
import Derived.Lib.AtoiErrMem
import Derived.Test.YtkljmljkiodnpaaGreatDoorQg2
import Derived.Lib.ItoaLen
import Derived.Lib.LaidTab
import Derived.Lib.AtoiAll
import Derived.Lib.ItoaMem
set_option linter.unusedVariables false
set_option linter.unusedSimpArgs false
set_option maxRecDepth 100000
namespace Go.Proofs.YtkljmljkiodnpaaGreatDoor.L
open Go Go.RowKit Go.Proofs
attribute [local irreducible] AL QL AWp Thn InB RetQ ACalls LoopQ HL HO HW HQ NoG

def hd0 : Hd := ⟨[], [], 0, []⟩
def hostsOk (h : Hd) : Prop := nHost h.fs = 1 ∨ nHost h.fs = 0 ∧ h.v = 0
instance (h : Hd) : Decidable (hostsOk h) := by unfold hostsOk; infer_instance
def lineAt (s : List UInt8) (at' : Nat) : List UInt8 × List UInt8 × Bool := Lib.cut (s.drop at') [13, 10]
def pGo (s : List UInt8) : Nat → Nat → Option Hd → Hd × Int × Int
  | 0, _, _ => (hd0, 0, 0)
  | f + 1, at', oh =>
    if 1024 < (lineAt s at').1.length then (hd0, 431, at')
    else if (lineAt s at').2.2 = false ∨ hasBr (lineAt s at').1 then (hd0, 400, at')
    else match oh with
      | none => if reqSt (lineAt s at').1 = 0 then pGo s f (at' + (lineAt s at').1.length + 2) (some ⟨rM (lineAt s at').1, rT (lineAt s at').1, reqV (lineAt s at').1, []⟩) else (hd0, reqSt (lineAt s at').1, at')
      | some h => if (lineAt s at').1 = [] then (if (lineAt s at').2.1 ≠ [] then (hd0, 400, s.length) else if hostsOk h then (h, 0, 0) else (hd0, 400, 0))
        else if h.fs.length = 32 then (hd0, 431, at')
        else if fieldOk (lineAt s at').1 then pGo s f (at' + (lineAt s at').1.length + 2) (some ⟨h.m, h.t, h.v, h.fs ++ [fieldOf (lineAt s at').1]⟩) else (hd0, 400, at')
theorem b1u (s : List UInt8) (f at' : Nat) (o : Option Hd) : pGo s (f + 1) at' o = if 1024 < (lineAt s at').1.length then (hd0, 431, (at' : Int))
    else if (lineAt s at').2.2 = false ∨ hasBr (lineAt s at').1 then (hd0, 400, (at' : Int))
    else match o with
      | none => if reqSt (lineAt s at').1 = 0 then pGo s f (at' + (lineAt s at').1.length + 2) (some ⟨rM (lineAt s at').1, rT (lineAt s at').1, reqV (lineAt s at').1, []⟩) else (hd0, reqSt (lineAt s at').1, (at' : Int))
      | some h => if (lineAt s at').1 = [] then (if (lineAt s at').2.1 ≠ [] then (hd0, 400, (s.length : Int)) else if hostsOk h then (h, 0, 0) else (hd0, 400, 0))
        else if h.fs.length = 32 then (hd0, 431, (at' : Int))
        else if fieldOk (lineAt s at').1 then pGo s f (at' + (lineAt s at').1.length + 2) (some ⟨h.m, h.t, h.v, h.fs ++ [fieldOf (lineAt s at').1]⟩) else (hd0, 400, (at' : Int)) := by
  cases o <;> rfl
def headParse (s : List UInt8) : Hd × Int × Int := if 4096 < s.length then (hd0, 431, 0) else pGo s (s.length + 1) 0 none
def oh (first : Bool) (h : Hd) : Option Hd := if first then none else some h
structure PInv (s : List UInt8) (at' : Nat) (first : Bool) (h : Hd) : Prop where
  le : at' ≤ s.length
  eq : ∃ f, s.length + 1 - at' ≤ f ∧ headParse s = pGo s f at' (oh first h)
  z : first = true → h = hd0
  v : h.v = 0 ∨ h.v = 1
  n : h.fs.length ≤ 32
theorem c3p {l p : List UInt8} (h : (Lib.cut l p).2.2 = true) : (Lib.cut l p).1.length + p.length + (Lib.cut l p).2.1.length = l.length := by
  unfold Lib.cut at h ⊢
  split at h
  · rename_i hi
    rw [if_pos hi]
    have := Lib.index_room l p hi
    simp
    omega
  · cases h
theorem b9l {l : List UInt8} (h : reqSt l = 0) : reqV l = 0 ∨ reqV l = 1 := by
  unfold reqSt stR at h
  split at h
  · rename_i hg
    split at h
    · cases h
    · rename_i hv
      have hl := b4l hg.2.2.2.2.2.2
      have e : byteAt (rV l) 7 = ((((rV l).drop 5).getD 2 0).toNat : Int) := by
        unfold byteAt
        rw [List.getD_eq_getElem?_getD, List.getD_eq_getElem?_getD, List.getElem?_drop]
        rfl
      unfold reqV
      rw [e]
      by_cases h0 : (rV l).drop 5 = [49, 46, 48]
      · rw [h0]; exact .inl rfl
      · by_cases h1 : (rV l).drop 5 = [49, 46, 49]
        · rw [h1]; exact .inr rfl
        · exact absurd ⟨h0, h1⟩ hv
  · cases h

section
variable {E : Env} {sl : Slots} {H : List AO}
theorem a3k {t e : Nat} {n b : Nat} {z : Value} [ti : TI E.P t (.slice e) n b z] {x : Operand} {xs : List (List AV)} (k : Nat) (hx : ev sl x = some (.rs xs)) (hk : xs.length = k) : OV E sl H (.call { callee := .builtin .len, args := #[x], argTypes := #[t] }) (.int .i64 (k : Int)) := by
  subst hk
  exact a2f hx
end

section
variable {w0 : World} {base : Nat}
abbrev nxAV : Bool → AV
  | true => .rs [[.fn 70 []], [.fn 71 []]]
  | false => .rs [[.fn 71 []]]
abbrev prR (s : List UInt8) (rv : AV) : Prop := rv = .tup [hdAV (headParse s).1.m (headParse s).1.t (headParse s).1.v (headParse s).1.fs, .int .i64 (headParse s).2.1, .int .i64 (headParse s).2.2]
theorem b0y {s : List UInt8} {at' : Nat} {line rest : List UInt8} {ended : Bool} (h : lineAt s at' = (line, rest, ended)) (ha : at' ≤ s.length) : line.length ≤ s.length - at' ∧ (ended = true → line.length + 2 + rest.length = s.length - at') := by
  unfold lineAt at h
  have hd : (s.drop at').length = s.length - at' := List.length_drop
  constructor
  · have h1 : (Lib.cut (s.drop at') [13, 10]).1 = line := by rw [h]
    have : (Lib.cut (s.drop at') [13, 10]).1.length ≤ (s.drop at').length := by
      unfold Lib.cut
      split
      · simp
        omega
      · exact Nat.le_refl _
    rw [h1] at this
    omega
  · intro he
    have := c3p (l := s.drop at') (p := [13, 10]) (by rw [h]; exact he)
    rw [h] at this
    simp only [List.length_cons, List.length_nil] at this
    omega
theorem b9u {s : List UInt8} {at' : Nat} {first : Bool} {h : Hd} {line rest : List UInt8} {ended : Bool} (hp : PInv s at' first h) (hl : lineAt s at' = (line, rest, ended)) :
    ∃ f, s.length - at' ≤ f ∧ headParse s = if 1024 < line.length then (hd0, 431, (at' : Int))
    else if ended = false ∨ hasBr line then (hd0, 400, (at' : Int))
    else match oh first h with
      | none => if reqSt line = 0 then pGo s f (at' + line.length + 2) (some ⟨rM line, rT line, reqV line, []⟩) else (hd0, reqSt line, (at' : Int))
      | some h => if line = [] then (if rest ≠ [] then (hd0, 400, (s.length : Int)) else if hostsOk h then (h, 0, 0) else (hd0, 400, 0))
        else if h.fs.length = 32 then (hd0, 431, (at' : Int))
        else if fieldOk line then pGo s f (at' + line.length + 2) (some ⟨h.m, h.t, h.v, h.fs ++ [fieldOf line]⟩) else (hd0, 400, (at' : Int)) := by
  obtain ⟨f, hf, he⟩ := hp.eq
  obtain ⟨f', rfl⟩ : ∃ f', f = f' + 1 := ⟨f - 1, by have := hp.le; omega⟩
  refine ⟨f', by omega, ?_⟩
  rw [he]
  show pGo s (f' + 1) at' (oh first h) = _
  rw [b1u, hl]
set_option maxHeartbeats 8000000 in
theorem c5f {s : List UInt8} (hG : Glob w0 base) : PCalls (EE w0 base) 46 [.str s] (prR s) := by
  refine a1s Tryz.func46 rfl rfl rfl (.cons .nil) ?_
  repeat' (first|(refine a2k ?_;first|refine a0b (a0l rfl) rfl ?_|(refine k_g ?_;first|refine a1j rfl rfl (by with_reducible rfl) ?_|refine a1w rfl rfl (by with_reducible rfl) rfl ?_|refine a1t rfl rfl (by with_reducible rfl) rfl ?_|refine a4a rfl rfl rfl ?_|(refine a1z rfl rfl (fun hc => ?_) (fun hc => ?_) <;> (try (exfalso;omega)))|(refine a3s rfl rfl (fun hc => ?_) (fun hc => ?_) <;> (try (exact absurd hc (by decide)))))|refine a0b (a0f rfl rfl) rfl ?_|(refine a1g ?_;first|refine a0b (a0w rfl rfl) rfl ?_|refine a0b (a0m rfl rfl rfl) rfl ?_)|(refine a1a ?_;first|refine a0b (a1h rfl rfl rfl) rfl ?_|refine a0b (a1p rfl rfl (by (first|exact w64 (by omega) (by omega)|rfl))) rfl ?_|refine a0b (a2s rfl rfl (by (first|exact w64 (by omega) (by omega)|rfl))) rfl ?_|refine a0b (a2t rfl rfl) rfl ?_|refine a0b (a3l rfl rfl) rfl ?_)|(refine a1i ?_;first|refine a0b (a0j rfl (by with_reducible rfl) rfl) rfl ?_|refine a0b (a0i rfl (by with_reducible rfl) rfl) rfl ?_)|refine a0b (a0e rfl) rfl ?_|(refine a0d ?_;first|refine a0b (a2f rfl) rfl ?_|refine a0b (a0p rfl) rfl ?_)|refine a0b (a0s rfl rfl) rfl ?_|refine a0u ?_|refine a0z rfl rfl rfl (by first|exact ln0|exact ln1) (by repeat constructor) rfl ?_|refine a1c rfl rfl rfl rfl rfl (by repeat constructor) (by repeat constructor) ?_|refine a0b (a1x rfl rfl rfl (by repeat constructor)) rfl ?_|refine a2e (by rfl) (by rfl) (by rfl) (by rfl) (by decide) (by decide) (by rfl) (by rfl) (by repeat constructor) (by rfl) (by repeat constructor) (by rfl) (by first|exact ln0|exact ln1) (by repeat constructor) rfl ?_|refine a0b (a0y rfl (by with_reducible rfl)) rfl ?_|refine a0b (a2z rfl rfl) rfl ?_)|(first|refine a1n ?_|(refine a1o ?_;first|refine a0c (a0a ?_)|refine a0c ?_|refine a0a ?_|(refine a0x ?_;first|refine a0g rfl (by with_reducible rfl) ?_|refine a0h rfl (by with_reducible rfl) ?_|(refine a0r rfl (fun hc => ?_) (fun hc => ?_) <;> (try (exfalso;omega))))|refine a0n ?_|refine a0o ?_|refine a0k ?_|refine a1f ?_)|refine a0t ?_|refine a1q ?_|refine a2b ?_|refine a1d ?_|refine a1v ?_|refine a1b ?_|refine a1e ?_|refine a5g rfl ?_))
  · have hv : headParse s = (hd0, 431, 0) := if_pos (by omega)
    refine a2m (.boxLe (id := 0) [.str [], .str [], .int .i64 0, .rs []] rfl (.cons (.refl _) (.cons (.refl _) (.cons (.refl _) (.cons .nil .nil)))) rfl) ?_
    refine retc2 (by first | exact .inr rfl | exact .inl rfl) rfl rfl rfl rfl rfl rfl ?_
    unfold prR
    rw [hv]
    exact ⟨rfl, rfl⟩
  have hle : s.length ≤ 4096 := by omega
  refine a4y (.freeze 5 rfl (by repeat constructor)) ?_
  refine a4y (.adoptBox (id := 0) (k := 3) (e := 90) (sz := 2) rfl rfl (by decide) rfl rfl rfl) ?_
  refine a2o (fun p : Nat × Bool × Hd × Nat => ⟨[(0, .str s), (2, .op 0 0), (4, .int .i64 p.1), (5, nxAV p.2.1)], [.box [.str p.2.2.1.m, .str p.2.2.1.t, .int .i64 p.2.2.1.v, .os 2 p.2.2.2], .row 137 1 0 2 [[.fn 70 []], [.fn 71 []]], .row 90 2 p.2.2.2 0 (p.2.2.1.fs.map prAV)]⟩)
    (fun p => PInv s p.1 p.2.1 p.2.2.1) (fun p => s.length - p.1) (0, true, hd0, 0) (.of (.same (by repeat constructor))) ⟨Nat.zero_le _, ⟨s.length + 1, Nat.le_refl _, by unfold headParse; rw [if_neg (by omega)]; rfl⟩, fun _ => rfl, .inl rfl, Nat.zero_le _⟩ ?_
  rintro ⟨at', first, h, ver⟩ hI
  dsimp only at hI ⊢
  obtain ⟨line, rest, ended, hline⟩ : ∃ line rest ended, lineAt s at' = (line, rest, ended) := ⟨_, _, _, rfl⟩
  obtain ⟨f, hf, hstep⟩ := b9u hI hline
  obtain ⟨hl1, hl2⟩ := b0y hline hI.le
  have hat := hI.le
  have hcut := b4n (s := s.drop at') (p := [13, 10]) hG (by rw [List.length_drop]; omega)
  rw [show Lib.cut (s.drop at') [13, 10] = (line, rest, ended) from hline] at hcut
  dsimp only at hcut
  have hcon := b1p (w0 := w0) (base := base) (s := line) (by omega)
  have hfl : (h.fs.map prAV).length = h.fs.length := List.length_map _
  have hfn := hI.n
  have rows1 : ∀ (i : Nat) row, ([[.fn 70 []], [.fn 71 []]] : List (List AV))[i]? = some row → row.length = 1 := fun i row hr => by
    match i, hr with
    | 0, hr => simp at hr; subst hr; rfl
    | 1, hr => simp at hr; subst hr; rfl
    | i + 2, hr => simp at hr
  have rows2 : ∀ (i : Nat) row, ([[.fn 71 []]] : List (List AV))[i]? = some row → row.length = 1 := fun i row hr => by
    match i, hr with
    | 0, hr => simp at hr; subst hr; rfl
    | i + 1, hr => simp at hr
  by_cases c1 : 1024 < line.length
  · rw [if_pos c1] at hstep
    repeat' (first|(first|refine a0b (a2u rfl rfl (by omega) (by omega)) rfl ?_|(refine a0d ?_;refine a0q rfl rfl rfl rfl hcut ?_;rintro _ rfl))|(refine a2k ?_;first|refine a0b (a0l rfl) rfl ?_|(refine k_g ?_;first|refine a1j rfl rfl (by with_reducible rfl) ?_|refine a1w rfl rfl (by with_reducible rfl) rfl ?_|refine a1t rfl rfl (by with_reducible rfl) rfl ?_|refine a4a rfl rfl rfl ?_|(refine a1z rfl rfl (fun hc => ?_) (fun hc => ?_) <;> (try (exfalso;omega)))|(refine a3s rfl rfl (fun hc => ?_) (fun hc => ?_) <;> (try (exact absurd hc (by decide)))))|refine a0b (a0f rfl rfl) rfl ?_|(refine a1g ?_;first|refine a0b (a0w rfl rfl) rfl ?_|refine a0b (a0m rfl rfl rfl) rfl ?_)|(refine a1a ?_;first|refine a0b (a1h rfl rfl rfl) rfl ?_|refine a0b (a1p rfl rfl (by (first|exact w64 (by omega) (by omega)|rfl))) rfl ?_|refine a0b (a2s rfl rfl (by (first|exact w64 (by omega) (by omega)|rfl))) rfl ?_|refine a0b (a2t rfl rfl) rfl ?_|refine a0b (a3l rfl rfl) rfl ?_)|(refine a1i ?_;first|refine a0b (a0j rfl (by with_reducible rfl) rfl) rfl ?_|refine a0b (a0i rfl (by with_reducible rfl) rfl) rfl ?_)|refine a0b (a0e rfl) rfl ?_|(refine a0d ?_;first|refine a0b (a2f rfl) rfl ?_|refine a0b (a0p rfl) rfl ?_)|refine a0b (a0s rfl rfl) rfl ?_|refine a0u ?_|refine a0z rfl rfl rfl (by first|exact ln0|exact ln1) (by repeat constructor) rfl ?_|refine a1c rfl rfl rfl rfl rfl (by repeat constructor) (by repeat constructor) ?_|refine a0b (a1x rfl rfl rfl (by repeat constructor)) rfl ?_|refine a2e (by rfl) (by rfl) (by rfl) (by rfl) (by decide) (by decide) (by rfl) (by rfl) (by repeat constructor) (by rfl) (by repeat constructor) (by rfl) (by first|exact ln0|exact ln1) (by repeat constructor) rfl ?_|refine a0b (a0y rfl (by with_reducible rfl)) rfl ?_|refine a0b (a2z rfl rfl) rfl ?_)|(first|refine a1n ?_|(refine a1o ?_;first|refine a0c (a0a ?_)|refine a0c ?_|refine a0a ?_|(refine a0x ?_;first|refine a0g rfl (by with_reducible rfl) ?_|refine a0h rfl (by with_reducible rfl) ?_|(refine a0r rfl (fun hc => ?_) (fun hc => ?_) <;> (try (exfalso;omega))))|refine a0n ?_|refine a0o ?_|refine a0k ?_|refine a1f ?_)|refine a0t ?_|refine a1q ?_|refine a2b ?_|refine a1d ?_|refine a1v ?_|refine a1b ?_|refine a1e ?_|refine a5g rfl ?_))
    skip
    refine a2m (.boxLe (id := 0) [.str [], .str [], .int .i64 0, .rs []] rfl (.cons (.refl _) (.cons (.refl _) (.cons (.refl _) (.cons .nil .nil)))) rfl) ?_
    refine retc2 (by first | exact .inr rfl | exact .inl rfl) rfl rfl rfl rfl rfl rfl ?_
    unfold prR
    rw [hstep]
    exact ⟨rfl, rfl⟩
  rw [if_neg c1] at hstep
  by_cases c2 : ended = false ∨ hasBr line
  · rw [if_pos c2] at hstep
    repeat' (first|(first|refine a0b (a2u rfl rfl (by omega) (by omega)) rfl ?_|(refine a0d ?_;refine a0q rfl rfl rfl rfl hcut ?_;rintro _ rfl)|(refine a0d ?_;refine a0q rfl rfl rfl rfl hcon ?_;rintro _ rfl))|(refine a2k ?_;first|refine a0b (a0l rfl) rfl ?_|(refine k_g ?_;first|refine a1j rfl rfl (by with_reducible rfl) ?_|refine a1w rfl rfl (by with_reducible rfl) rfl ?_|refine a1t rfl rfl (by with_reducible rfl) rfl ?_|refine a4a rfl rfl rfl ?_|(refine a1z rfl rfl (fun hc => ?_) (fun hc => ?_) <;> (try (exfalso;omega)))|(refine a3s rfl rfl (fun hc => ?_) (fun hc => ?_) <;> (try (exact absurd hc (by decide)))))|refine a0b (a0f rfl rfl) rfl ?_|(refine a1g ?_;first|refine a0b (a0w rfl rfl) rfl ?_|refine a0b (a0m rfl rfl rfl) rfl ?_)|(refine a1a ?_;first|refine a0b (a1h rfl rfl rfl) rfl ?_|refine a0b (a1p rfl rfl (by (first|exact w64 (by omega) (by omega)|rfl))) rfl ?_|refine a0b (a2s rfl rfl (by (first|exact w64 (by omega) (by omega)|rfl))) rfl ?_|refine a0b (a2t rfl rfl) rfl ?_|refine a0b (a3l rfl rfl) rfl ?_)|(refine a1i ?_;first|refine a0b (a0j rfl (by with_reducible rfl) rfl) rfl ?_|refine a0b (a0i rfl (by with_reducible rfl) rfl) rfl ?_)|refine a0b (a0e rfl) rfl ?_|(refine a0d ?_;first|refine a0b (a2f rfl) rfl ?_|refine a0b (a0p rfl) rfl ?_)|refine a0b (a0s rfl rfl) rfl ?_|refine a0u ?_|refine a0z rfl rfl rfl (by first|exact ln0|exact ln1) (by repeat constructor) rfl ?_|refine a1c rfl rfl rfl rfl rfl (by repeat constructor) (by repeat constructor) ?_|refine a0b (a1x rfl rfl rfl (by repeat constructor)) rfl ?_|refine a2e (by rfl) (by rfl) (by rfl) (by rfl) (by decide) (by decide) (by rfl) (by rfl) (by repeat constructor) (by rfl) (by repeat constructor) (by rfl) (by first|exact ln0|exact ln1) (by repeat constructor) rfl ?_|refine a0b (a0y rfl (by with_reducible rfl)) rfl ?_|refine a0b (a2z rfl rfl) rfl ?_)|(first|refine a1n ?_|(refine a1o ?_;first|refine a0c (a0a ?_)|refine a0c ?_|refine a0a ?_|(refine a0x ?_;first|refine a0g rfl (by with_reducible rfl) ?_|refine a0h rfl (by with_reducible rfl) ?_|(refine a0r rfl (fun hc => ?_) (fun hc => ?_) <;> (try (exfalso;omega))))|refine a0n ?_|refine a0o ?_|refine a0k ?_|refine a1f ?_)|refine a0t ?_|refine a1q ?_|refine a2b ?_|refine a1d ?_|refine a1v ?_|refine a1b ?_|refine a1e ?_|refine a5g rfl ?_))
    all_goals try (
        skip
        refine a2m (.boxLe (id := 0) [.str [], .str [], .int .i64 0, .rs []] rfl (.cons (.refl _) (.cons (.refl _) (.cons (.refl _) (.cons .nil .nil)))) rfl) ?_
        refine retc2 (by first | exact .inr rfl | exact .inl rfl) rfl rfl rfl rfl rfl rfl ?_
        unfold prR
        rw [hstep]
        exact ⟨rfl, rfl⟩)
    all_goals
      exfalso
      rcases c2 with c2 | c2
      · subst c2; exact absurd ‹(!false) = false› (by decide)
      · exact absurd c2 ‹_›
  rw [if_neg c2] at hstep
  have hend : ended = true := by
    cases ended with
    | true => rfl
    | false => exact absurd (.inl rfl) c2
  have hbr : ¬ hasBr line := fun hb => c2 (.inr hb)
  rw [decide_eq_false hbr] at hcon
  subst hend
  have hroom := hl2 rfl
  cases first with
  | true =>
    obtain rfl := hI.z rfl
    dsimp only [oh, if_true] at hstep
    by_cases hq : reqSt line = 0
    · rw [if_pos hq] at hstep
      have hreq : ACalls (EE w0 base) 70 [.op 0 0, .str line] (hdO hd0.m hd0.t hd0.v ver (hd0.fs.map prAV)) fun rv os => rv = .int .i64 0 ∧ os = hdO (rM line) (rT line) (reqV line) ver (hd0.fs.map prAV) := a2w (b4j hG (by omega)) fun rv os hr => by rw [if_pos hq, hq] at hr; exact hr
      repeat' (first|(first|refine a0b (a2u rfl rfl (by omega) (by omega)) rfl ?_|(refine a0d ?_;refine a0b (a3k 2 rfl rfl) rfl ?_)|(refine a0d ?_;refine a0q rfl rfl rfl rfl hcut ?_;rintro _ rfl)|(refine a0d ?_;refine a0q rfl rfl rfl rfl hcon ?_;rintro _ rfl)|refine a0b (a2j rfl rfl (by decide) rfl rfl) rfl ?_|refine a0b (b6p rfl rfl (by decide) (by decide) rows1) rfl ?_|(refine a0d ?_;refine a0v [0,2] rfl rfl hreq (by repeat constructor) (by repeat constructor) rfl rfl ?_;rintro _ _ ⟨rfl,rfl⟩;refine ⟨_,_,by repeat constructor,by repeat constructor,?_⟩))|(refine a2k ?_;first|refine a0b (a0l rfl) rfl ?_|(refine k_g ?_;first|refine a1j rfl rfl (by with_reducible rfl) ?_|refine a1w rfl rfl (by with_reducible rfl) rfl ?_|refine a1t rfl rfl (by with_reducible rfl) rfl ?_|refine a4a rfl rfl rfl ?_|(refine a1z rfl rfl (fun hc => ?_) (fun hc => ?_) <;> (try (exfalso;omega)))|(refine a3s rfl rfl (fun hc => ?_) (fun hc => ?_) <;> (try (exact absurd hc (by decide)))))|refine a0b (a0f rfl rfl) rfl ?_|(refine a1g ?_;first|refine a0b (a0w rfl rfl) rfl ?_|refine a0b (a0m rfl rfl rfl) rfl ?_)|(refine a1a ?_;first|refine a0b (a1h rfl rfl rfl) rfl ?_|refine a0b (a1p rfl rfl (by (first|exact w64 (by omega) (by omega)|rfl))) rfl ?_|refine a0b (a2s rfl rfl (by (first|exact w64 (by omega) (by omega)|rfl))) rfl ?_|refine a0b (a2t rfl rfl) rfl ?_|refine a0b (a3l rfl rfl) rfl ?_)|(refine a1i ?_;first|refine a0b (a0j rfl (by with_reducible rfl) rfl) rfl ?_|refine a0b (a0i rfl (by with_reducible rfl) rfl) rfl ?_)|refine a0b (a0e rfl) rfl ?_|(refine a0d ?_;first|refine a0b (a2f rfl) rfl ?_|refine a0b (a0p rfl) rfl ?_)|refine a0b (a0s rfl rfl) rfl ?_|refine a0u ?_|refine a0z rfl rfl rfl (by first|exact ln0|exact ln1) (by repeat constructor) rfl ?_|refine a1c rfl rfl rfl rfl rfl (by repeat constructor) (by repeat constructor) ?_|refine a0b (a1x rfl rfl rfl (by repeat constructor)) rfl ?_|refine a2e (by rfl) (by rfl) (by rfl) (by rfl) (by decide) (by decide) (by rfl) (by rfl) (by repeat constructor) (by rfl) (by repeat constructor) (by rfl) (by first|exact ln0|exact ln1) (by repeat constructor) rfl ?_|refine a0b (a0y rfl (by with_reducible rfl)) rfl ?_|refine a0b (a2z rfl rfl) rfl ?_)|(first|refine a1n ?_|(refine a1o ?_;first|refine a0c (a0a ?_)|refine a0c ?_|refine a0a ?_|(refine a0x ?_;first|refine a0g rfl (by with_reducible rfl) ?_|refine a0h rfl (by with_reducible rfl) ?_|(refine a0r rfl (fun hc => ?_) (fun hc => ?_) <;> (try (exfalso;omega))))|refine a0n ?_|refine a0o ?_|refine a0k ?_|refine a1f ?_)|refine a0t ?_|refine a1q ?_|refine a2b ?_|refine a1d ?_|refine a1v ?_|refine a1b ?_|refine a1e ?_|refine a5g rfl ?_))
      all_goals
        first | refine a1y (at' + (line.length + 2), false, ⟨rM line, rT line, reqV line, []⟩, ver) (.of (.same (by repeat constructor))) ?_ ?_ | fail
        · exact ⟨by dsimp only; omega, ⟨f, by dsimp only; omega, hstep⟩, (fun e => by cases e), b9l hq, Nat.zero_le _⟩
        · dsimp only; omega
    · rw [if_neg hq] at hstep
      have hreq : ACalls (EE w0 base) 70 [.op 0 0, .str line] (hdO hd0.m hd0.t hd0.v ver (hd0.fs.map prAV)) fun rv os => rv = .int .i64 (reqSt line) ∧ os = hdO hd0.m hd0.t hd0.v ver (hd0.fs.map prAV) := a2w (b4j hG (by omega)) fun rv os hr => by rw [if_neg hq] at hr; exact hr
      repeat' (first|(first|refine a0b (a2u rfl rfl (by omega) (by omega)) rfl ?_|(refine a0d ?_;refine a0q rfl rfl rfl rfl hcut ?_;rintro _ rfl)|(refine a0d ?_;refine a0q rfl rfl rfl rfl hcon ?_;rintro _ rfl)|(refine a0d ?_;refine a0b (a3k 2 rfl rfl) rfl ?_)|refine a0b (a2j rfl rfl (by decide) rfl rfl) rfl ?_|(refine a0d ?_;refine a0v [0,2] rfl rfl hreq (by repeat constructor) (by repeat constructor) rfl rfl ?_;rintro _ _ ⟨rfl,rfl⟩;refine ⟨_,_,by repeat constructor,by repeat constructor,?_⟩))|(refine a2k ?_;first|refine a0b (a0l rfl) rfl ?_|(refine k_g ?_;first|refine a1j rfl rfl (by with_reducible rfl) ?_|refine a1w rfl rfl (by with_reducible rfl) rfl ?_|refine a1t rfl rfl (by with_reducible rfl) rfl ?_|refine a4a rfl rfl rfl ?_|(refine a1z rfl rfl (fun hc => ?_) (fun hc => ?_) <;> (try (exfalso;omega)))|(refine a3s rfl rfl (fun hc => ?_) (fun hc => ?_) <;> (try (exact absurd hc (by decide)))))|refine a0b (a0f rfl rfl) rfl ?_|(refine a1g ?_;first|refine a0b (a0w rfl rfl) rfl ?_|refine a0b (a0m rfl rfl rfl) rfl ?_)|(refine a1a ?_;first|refine a0b (a1h rfl rfl rfl) rfl ?_|refine a0b (a1p rfl rfl (by (first|exact w64 (by omega) (by omega)|rfl))) rfl ?_|refine a0b (a2s rfl rfl (by (first|exact w64 (by omega) (by omega)|rfl))) rfl ?_|refine a0b (a2t rfl rfl) rfl ?_|refine a0b (a3l rfl rfl) rfl ?_)|(refine a1i ?_;first|refine a0b (a0j rfl (by with_reducible rfl) rfl) rfl ?_|refine a0b (a0i rfl (by with_reducible rfl) rfl) rfl ?_)|refine a0b (a0e rfl) rfl ?_|(refine a0d ?_;first|refine a0b (a2f rfl) rfl ?_|refine a0b (a0p rfl) rfl ?_)|refine a0b (a0s rfl rfl) rfl ?_|refine a0u ?_|refine a0z rfl rfl rfl (by first|exact ln0|exact ln1) (by repeat constructor) rfl ?_|refine a1c rfl rfl rfl rfl rfl (by repeat constructor) (by repeat constructor) ?_|refine a0b (a1x rfl rfl rfl (by repeat constructor)) rfl ?_|refine a2e (by rfl) (by rfl) (by rfl) (by rfl) (by decide) (by decide) (by rfl) (by rfl) (by repeat constructor) (by rfl) (by repeat constructor) (by rfl) (by first|exact ln0|exact ln1) (by repeat constructor) rfl ?_|refine a0b (a0y rfl (by with_reducible rfl)) rfl ?_|refine a0b (a2z rfl rfl) rfl ?_)|(first|refine a1n ?_|(refine a1o ?_;first|refine a0c (a0a ?_)|refine a0c ?_|refine a0a ?_|(refine a0x ?_;first|refine a0g rfl (by with_reducible rfl) ?_|refine a0h rfl (by with_reducible rfl) ?_|(refine a0r rfl (fun hc => ?_) (fun hc => ?_) <;> (try (exfalso;omega))))|refine a0n ?_|refine a0o ?_|refine a0k ?_|refine a1f ?_)|refine a0t ?_|refine a1q ?_|refine a2b ?_|refine a1d ?_|refine a1v ?_|refine a1b ?_|refine a1e ?_|refine a5g rfl ?_))
      all_goals
        refine a2m (.boxLe (id := 0) [.str [], .str [], .int .i64 0, .rs []] rfl (.cons (.refl _) (.cons (.refl _) (.cons (.refl _) (.cons .nil .nil)))) rfl) ?_
        refine retc2 (by first | exact .inr rfl | exact .inl rfl) rfl rfl rfl rfl rfl rfl ?_
        unfold prR
        rw [hstep]
        exact ⟨rfl, rfl⟩
  | false =>
    dsimp only [oh] at hstep
    rw [if_neg (by decide)] at hstep
    dsimp only at hstep
    by_cases c3 : line = []
    · rw [if_pos c3] at hstep
      by_cases c4 : rest ≠ []
      · rw [if_pos c4] at hstep
        repeat' (first|(first|refine a0b (a2u rfl rfl (by omega) (by omega)) rfl ?_|(refine a0d ?_;refine a0q rfl rfl rfl rfl hcut ?_;rintro _ rfl)|(refine a0d ?_;refine a0q rfl rfl rfl rfl hcon ?_;rintro _ rfl)|(refine a0d ?_;refine a0b (a3k 1 rfl rfl) rfl ?_))|(refine a2k ?_;first|refine a0b (a0l rfl) rfl ?_|(refine k_g ?_;first|refine a1j rfl rfl (by with_reducible rfl) ?_|refine a1w rfl rfl (by with_reducible rfl) rfl ?_|refine a1t rfl rfl (by with_reducible rfl) rfl ?_|refine a4a rfl rfl rfl ?_|(refine a1z rfl rfl (fun hc => ?_) (fun hc => ?_) <;> (try (exfalso;omega)))|(refine a3s rfl rfl (fun hc => ?_) (fun hc => ?_) <;> (try (exact absurd hc (by decide)))))|refine a0b (a0f rfl rfl) rfl ?_|(refine a1g ?_;first|refine a0b (a0w rfl rfl) rfl ?_|refine a0b (a0m rfl rfl rfl) rfl ?_)|(refine a1a ?_;first|refine a0b (a1h rfl rfl rfl) rfl ?_|refine a0b (a1p rfl rfl (by (first|exact w64 (by omega) (by omega)|rfl))) rfl ?_|refine a0b (a2s rfl rfl (by (first|exact w64 (by omega) (by omega)|rfl))) rfl ?_|refine a0b (a2t rfl rfl) rfl ?_|refine a0b (a3l rfl rfl) rfl ?_)|(refine a1i ?_;first|refine a0b (a0j rfl (by with_reducible rfl) rfl) rfl ?_|refine a0b (a0i rfl (by with_reducible rfl) rfl) rfl ?_)|refine a0b (a0e rfl) rfl ?_|(refine a0d ?_;first|refine a0b (a2f rfl) rfl ?_|refine a0b (a0p rfl) rfl ?_)|refine a0b (a0s rfl rfl) rfl ?_|refine a0u ?_|refine a0z rfl rfl rfl (by first|exact ln0|exact ln1) (by repeat constructor) rfl ?_|refine a1c rfl rfl rfl rfl rfl (by repeat constructor) (by repeat constructor) ?_|refine a0b (a1x rfl rfl rfl (by repeat constructor)) rfl ?_|refine a2e (by rfl) (by rfl) (by rfl) (by rfl) (by decide) (by decide) (by rfl) (by rfl) (by repeat constructor) (by rfl) (by repeat constructor) (by rfl) (by first|exact ln0|exact ln1) (by repeat constructor) rfl ?_|refine a0b (a0y rfl (by with_reducible rfl)) rfl ?_|refine a0b (a2z rfl rfl) rfl ?_)|(first|refine a1n ?_|(refine a1o ?_;first|refine a0c (a0a ?_)|refine a0c ?_|refine a0a ?_|(refine a0x ?_;first|refine a0g rfl (by with_reducible rfl) ?_|refine a0h rfl (by with_reducible rfl) ?_|(refine a0r rfl (fun hc => ?_) (fun hc => ?_) <;> (try (exfalso;omega))))|refine a0n ?_|refine a0o ?_|refine a0k ?_|refine a1f ?_)|refine a0t ?_|refine a1q ?_|refine a2b ?_|refine a1d ?_|refine a1v ?_|refine a1b ?_|refine a1e ?_|refine a5g rfl ?_))
        · skip
          refine a2m (.boxLe (id := 0) [.str [], .str [], .int .i64 0, .rs []] rfl (.cons (.refl _) (.cons (.refl _) (.cons (.refl _) (.cons .nil .nil)))) rfl) ?_
          refine retc2 (by first | exact .inr rfl | exact .inl rfl) rfl rfl rfl rfl rfl rfl ?_
          unfold prR
          rw [hstep]
          exact ⟨rfl, rfl⟩
        all_goals first | (exfalso; omega) | exact absurd c3 ‹_› | exact absurd c4 ‹_›
      · rw [if_neg c4] at hstep
        have hva := a6t (w0 := w0) (base := base) (m := h.m) (t := h.t) (v := h.v) (name := hostS) (fs := h.fs) (by decide) (by omega)
        have hsl : (strAV (valsOf h.fs hostS)).length = nHost h.fs := List.length_map _
        have hvl := a5k h.fs hostS
        have hv01 := hI.v
        repeat' (first|(first|(refine a4j (.boxFreeze (ib := 0) (k := 3) (id := 2) rfl rfl rfl rfl (by repeat constructor) rfl rfl) ?_;refine a0b (a0m rfl rfl rfl) rfl ?_)|refine a0b (a2u rfl rfl (by omega) (by omega)) rfl ?_|(refine a0d ?_;refine a0q rfl rfl rfl rfl hcut ?_;rintro _ rfl)|(refine a0d ?_;refine a0q rfl rfl rfl rfl hcon ?_;rintro _ rfl)|(refine a0d ?_;refine a0b (a3k 1 rfl rfl) rfl ?_)|(refine a0d ?_;refine a0q rfl rfl rfl rfl hva ?_;rintro _ rfl))|(refine a2k ?_;first|refine a0b (a0l rfl) rfl ?_|(refine k_g ?_;first|refine a1j rfl rfl (by with_reducible rfl) ?_|refine a1w rfl rfl (by with_reducible rfl) rfl ?_|refine a1t rfl rfl (by with_reducible rfl) rfl ?_|refine a4a rfl rfl rfl ?_|(refine a1z rfl rfl (fun hc => ?_) (fun hc => ?_) <;> (try (exfalso;omega)))|(refine a3s rfl rfl (fun hc => ?_) (fun hc => ?_) <;> (try (exact absurd hc (by decide)))))|refine a0b (a0f rfl rfl) rfl ?_|(refine a1g ?_;first|refine a0b (a0w rfl rfl) rfl ?_|refine a0b (a0m rfl rfl rfl) rfl ?_)|(refine a1a ?_;first|refine a0b (a1h rfl rfl rfl) rfl ?_|refine a0b (a1p rfl rfl (by (first|exact w64 (by omega) (by omega)|rfl))) rfl ?_|refine a0b (a2s rfl rfl (by (first|exact w64 (by omega) (by omega)|rfl))) rfl ?_|refine a0b (a2t rfl rfl) rfl ?_|refine a0b (a3l rfl rfl) rfl ?_)|(refine a1i ?_;first|refine a0b (a0j rfl (by with_reducible rfl) rfl) rfl ?_|refine a0b (a0i rfl (by with_reducible rfl) rfl) rfl ?_)|refine a0b (a0e rfl) rfl ?_|(refine a0d ?_;first|refine a0b (a2f rfl) rfl ?_|refine a0b (a0p rfl) rfl ?_)|refine a0b (a0s rfl rfl) rfl ?_|refine a0u ?_|refine a0z rfl rfl rfl (by first|exact ln0|exact ln1) (by repeat constructor) rfl ?_|refine a1c rfl rfl rfl rfl rfl (by repeat constructor) (by repeat constructor) ?_|refine a0b (a1x rfl rfl rfl (by repeat constructor)) rfl ?_|refine a2e (by rfl) (by rfl) (by rfl) (by rfl) (by decide) (by decide) (by rfl) (by rfl) (by repeat constructor) (by rfl) (by repeat constructor) (by rfl) (by first|exact ln0|exact ln1) (by repeat constructor) rfl ?_|refine a0b (a0y rfl (by with_reducible rfl)) rfl ?_|refine a0b (a2z rfl rfl) rfl ?_)|(first|refine a1n ?_|(refine a1o ?_;first|refine a0c (a0a ?_)|refine a0c ?_|refine a0a ?_|(refine a0x ?_;first|refine a0g rfl (by with_reducible rfl) ?_|refine a0h rfl (by with_reducible rfl) ?_|(refine a0r rfl (fun hc => ?_) (fun hc => ?_) <;> (try (exfalso;omega))))|refine a0n ?_|refine a0o ?_|refine a0k ?_|refine a1f ?_)|refine a0t ?_|refine a1q ?_|refine a2b ?_|refine a1d ?_|refine a1v ?_|refine a1b ?_|refine a1e ?_|refine a5g rfl ?_))
        · exact absurd ‹_› c4
        iterate 2
          · rw [if_neg (show ¬ hostsOk h from fun h => by unfold hostsOk at h; omega)] at hstep
            refine a2m (.boxLe (id := 0) [.str [], .str [], .int .i64 0, .rs []] rfl (.cons (.refl _) (.cons (.refl _) (.cons (.refl _) (.cons .nil .nil)))) rfl) ?_
            refine retc2 (by first | exact .inr rfl | exact .inl rfl) rfl rfl rfl rfl rfl rfl ?_
            unfold prR
            rw [hstep]
            exact ⟨rfl, rfl⟩
        iterate 2
          · rw [if_pos (show hostsOk h by unfold hostsOk; omega)] at hstep
            refine retc2 (by first | exact .inr rfl | exact .inl rfl) rfl rfl rfl rfl rfl rfl ?_
            unfold prR
            rw [hstep]
            exact ⟨rfl, rfl⟩
        · exact absurd c3 ‹_›
    · rw [if_neg c3] at hstep
      by_cases c5 : h.fs.length = 32
      · rw [if_pos c5] at hstep
        have hfi : ACalls (EE w0 base) 71 [.op 0 0, .str line] (hdO h.m h.t h.v ver (h.fs.map prAV)) fun rv os => ∃ ver', rv = .int .i64 431 ∧ os = hdO h.m h.t h.v ver' (h.fs.map prAV) := a2w (b6b hG (by omega) (by omega)) fun rv os hr => by
          rw [hfl, if_pos c5, if_neg (fun h => h.1 c5)] at hr
          exact hr
        repeat' (first|(first|refine a0b (a2u rfl rfl (by omega) (by omega)) rfl ?_|(refine a0d ?_;refine a0q rfl rfl rfl rfl hcut ?_;rintro _ rfl)|(refine a0d ?_;refine a0q rfl rfl rfl rfl hcon ?_;rintro _ rfl)|(refine a0d ?_;refine a0b (a3k 1 rfl rfl) rfl ?_)|refine a0b (a2j rfl rfl (by decide) rfl rfl) rfl ?_|(refine a0d ?_;refine a0v [0,2] rfl rfl hfi (by repeat constructor) (by repeat constructor) rfl rfl ?_;rintro _ _ ⟨ver',rfl,rfl⟩;refine ⟨_,_,by repeat constructor,by repeat constructor,?_⟩))|(refine a2k ?_;first|refine a0b (a0l rfl) rfl ?_|(refine k_g ?_;first|refine a1j rfl rfl (by with_reducible rfl) ?_|refine a1w rfl rfl (by with_reducible rfl) rfl ?_|refine a1t rfl rfl (by with_reducible rfl) rfl ?_|refine a4a rfl rfl rfl ?_|(refine a1z rfl rfl (fun hc => ?_) (fun hc => ?_) <;> (try (exfalso;omega)))|(refine a3s rfl rfl (fun hc => ?_) (fun hc => ?_) <;> (try (exact absurd hc (by decide)))))|refine a0b (a0f rfl rfl) rfl ?_|(refine a1g ?_;first|refine a0b (a0w rfl rfl) rfl ?_|refine a0b (a0m rfl rfl rfl) rfl ?_)|(refine a1a ?_;first|refine a0b (a1h rfl rfl rfl) rfl ?_|refine a0b (a1p rfl rfl (by (first|exact w64 (by omega) (by omega)|rfl))) rfl ?_|refine a0b (a2s rfl rfl (by (first|exact w64 (by omega) (by omega)|rfl))) rfl ?_|refine a0b (a2t rfl rfl) rfl ?_|refine a0b (a3l rfl rfl) rfl ?_)|(refine a1i ?_;first|refine a0b (a0j rfl (by with_reducible rfl) rfl) rfl ?_|refine a0b (a0i rfl (by with_reducible rfl) rfl) rfl ?_)|refine a0b (a0e rfl) rfl ?_|(refine a0d ?_;first|refine a0b (a2f rfl) rfl ?_|refine a0b (a0p rfl) rfl ?_)|refine a0b (a0s rfl rfl) rfl ?_|refine a0u ?_|refine a0z rfl rfl rfl (by first|exact ln0|exact ln1) (by repeat constructor) rfl ?_|refine a1c rfl rfl rfl rfl rfl (by repeat constructor) (by repeat constructor) ?_|refine a0b (a1x rfl rfl rfl (by repeat constructor)) rfl ?_|refine a2e (by rfl) (by rfl) (by rfl) (by rfl) (by decide) (by decide) (by rfl) (by rfl) (by repeat constructor) (by rfl) (by repeat constructor) (by rfl) (by first|exact ln0|exact ln1) (by repeat constructor) rfl ?_|refine a0b (a0y rfl (by with_reducible rfl)) rfl ?_|refine a0b (a2z rfl rfl) rfl ?_)|(first|refine a1n ?_|(refine a1o ?_;first|refine a0c (a0a ?_)|refine a0c ?_|refine a0a ?_|(refine a0x ?_;first|refine a0g rfl (by with_reducible rfl) ?_|refine a0h rfl (by with_reducible rfl) ?_|(refine a0r rfl (fun hc => ?_) (fun hc => ?_) <;> (try (exfalso;omega))))|refine a0n ?_|refine a0o ?_|refine a0k ?_|refine a1f ?_)|refine a0t ?_|refine a1q ?_|refine a2b ?_|refine a1d ?_|refine a1v ?_|refine a1b ?_|refine a1e ?_|refine a5g rfl ?_))
        · exact absurd ‹_› c3
        · exact absurd ‹_› c3
        · skip
          refine a2m (.boxLe (id := 0) [.str [], .str [], .int .i64 0, .rs []] rfl (.cons (.refl _) (.cons (.refl _) (.cons (.refl _) (.cons .nil .nil)))) rfl) ?_
          refine retc2 (by first | exact .inr rfl | exact .inl rfl) rfl rfl rfl rfl rfl rfl ?_
          unfold prR
          rw [hstep]
          exact ⟨rfl, rfl⟩
      · rw [if_neg c5] at hstep
        by_cases c6 : fieldOk line
        · rw [if_pos c6] at hstep
          have hfi : ACalls (EE w0 base) 71 [.op 0 0, .str line] (hdO h.m h.t h.v ver (h.fs.map prAV)) fun rv os => ∃ ver', rv = .int .i64 0 ∧ os = hdO h.m h.t h.v ver' ((h.fs ++ [fieldOf line]).map prAV) := a2w (b6b hG (by omega) (by omega)) fun rv os hr => by
            rw [hfl, if_neg c5, if_pos c6, if_pos (show h.fs.length ≠ 32 ∧ fieldOk line from ⟨c5, c6⟩)] at hr
            rw [List.map_append]
            exact hr
          repeat' (first|(first|refine a0b (a2u rfl rfl (by omega) (by omega)) rfl ?_|(refine a0d ?_;refine a0q rfl rfl rfl rfl hcut ?_;rintro _ rfl)|(refine a0d ?_;refine a0q rfl rfl rfl rfl hcon ?_;rintro _ rfl)|(refine a0d ?_;refine a0b (a3k 1 rfl rfl) rfl ?_)|refine a0b (a2j rfl rfl (by decide) rfl rfl) rfl ?_|refine a0b (b6p rfl rfl (by decide) (by decide) rows2) rfl ?_|(refine a0d ?_;refine a0v [0,2] rfl rfl hfi (by repeat constructor) (by repeat constructor) rfl rfl ?_;rintro _ _ ⟨ver',rfl,rfl⟩;refine ⟨_,_,by repeat constructor,by repeat constructor,?_⟩))|(refine a2k ?_;first|refine a0b (a0l rfl) rfl ?_|(refine k_g ?_;first|refine a1j rfl rfl (by with_reducible rfl) ?_|refine a1w rfl rfl (by with_reducible rfl) rfl ?_|refine a1t rfl rfl (by with_reducible rfl) rfl ?_|refine a4a rfl rfl rfl ?_|(refine a1z rfl rfl (fun hc => ?_) (fun hc => ?_) <;> (try (exfalso;omega)))|(refine a3s rfl rfl (fun hc => ?_) (fun hc => ?_) <;> (try (exact absurd hc (by decide)))))|refine a0b (a0f rfl rfl) rfl ?_|(refine a1g ?_;first|refine a0b (a0w rfl rfl) rfl ?_|refine a0b (a0m rfl rfl rfl) rfl ?_)|(refine a1a ?_;first|refine a0b (a1h rfl rfl rfl) rfl ?_|refine a0b (a1p rfl rfl (by (first|exact w64 (by omega) (by omega)|rfl))) rfl ?_|refine a0b (a2s rfl rfl (by (first|exact w64 (by omega) (by omega)|rfl))) rfl ?_|refine a0b (a2t rfl rfl) rfl ?_|refine a0b (a3l rfl rfl) rfl ?_)|(refine a1i ?_;first|refine a0b (a0j rfl (by with_reducible rfl) rfl) rfl ?_|refine a0b (a0i rfl (by with_reducible rfl) rfl) rfl ?_)|refine a0b (a0e rfl) rfl ?_|(refine a0d ?_;first|refine a0b (a2f rfl) rfl ?_|refine a0b (a0p rfl) rfl ?_)|refine a0b (a0s rfl rfl) rfl ?_|refine a0u ?_|refine a0z rfl rfl rfl (by first|exact ln0|exact ln1) (by repeat constructor) rfl ?_|refine a1c rfl rfl rfl rfl rfl (by repeat constructor) (by repeat constructor) ?_|refine a0b (a1x rfl rfl rfl (by repeat constructor)) rfl ?_|refine a2e (by rfl) (by rfl) (by rfl) (by rfl) (by decide) (by decide) (by rfl) (by rfl) (by repeat constructor) (by rfl) (by repeat constructor) (by rfl) (by first|exact ln0|exact ln1) (by repeat constructor) rfl ?_|refine a0b (a0y rfl (by with_reducible rfl)) rfl ?_|refine a0b (a2z rfl rfl) rfl ?_)|(first|refine a1n ?_|(refine a1o ?_;first|refine a0c (a0a ?_)|refine a0c ?_|refine a0a ?_|(refine a0x ?_;first|refine a0g rfl (by with_reducible rfl) ?_|refine a0h rfl (by with_reducible rfl) ?_|(refine a0r rfl (fun hc => ?_) (fun hc => ?_) <;> (try (exfalso;omega))))|refine a0n ?_|refine a0o ?_|refine a0k ?_|refine a1f ?_)|refine a0t ?_|refine a1q ?_|refine a2b ?_|refine a1d ?_|refine a1v ?_|refine a1b ?_|refine a1e ?_|refine a5g rfl ?_))
          · exact absurd ‹_› c3
          · exact absurd ‹_› c3
          · first | refine a1y (at' + (line.length + 2), false, ⟨h.m, h.t, h.v, h.fs ++ [fieldOf line]⟩, ver') (.of (.same (by repeat constructor))) ?_ ?_ | fail
            · exact ⟨by dsimp only; omega, ⟨f, by dsimp only; omega, hstep⟩, (fun e => by cases e), hI.v, by simp; omega⟩
            · dsimp only; omega
        · rw [if_neg c6] at hstep
          have hfi : ACalls (EE w0 base) 71 [.op 0 0, .str line] (hdO h.m h.t h.v ver (h.fs.map prAV)) fun rv os => ∃ ver', rv = .int .i64 400 ∧ os = hdO h.m h.t h.v ver' (h.fs.map prAV) := a2w (b6b hG (by omega) (by omega)) fun rv os hr => by
            rw [hfl, if_neg c5, if_neg c6, if_neg (fun h => c6 h.2)] at hr
            exact hr
          repeat' (first|(first|refine a0b (a2u rfl rfl (by omega) (by omega)) rfl ?_|(refine a0d ?_;refine a0q rfl rfl rfl rfl hcut ?_;rintro _ rfl)|(refine a0d ?_;refine a0q rfl rfl rfl rfl hcon ?_;rintro _ rfl)|(refine a0d ?_;refine a0b (a3k 1 rfl rfl) rfl ?_)|refine a0b (a2j rfl rfl (by decide) rfl rfl) rfl ?_|(refine a0d ?_;refine a0v [0,2] rfl rfl hfi (by repeat constructor) (by repeat constructor) rfl rfl ?_;rintro _ _ ⟨ver',rfl,rfl⟩;refine ⟨_,_,by repeat constructor,by repeat constructor,?_⟩))|(refine a2k ?_;first|refine a0b (a0l rfl) rfl ?_|(refine k_g ?_;first|refine a1j rfl rfl (by with_reducible rfl) ?_|refine a1w rfl rfl (by with_reducible rfl) rfl ?_|refine a1t rfl rfl (by with_reducible rfl) rfl ?_|refine a4a rfl rfl rfl ?_|(refine a1z rfl rfl (fun hc => ?_) (fun hc => ?_) <;> (try (exfalso;omega)))|(refine a3s rfl rfl (fun hc => ?_) (fun hc => ?_) <;> (try (exact absurd hc (by decide)))))|refine a0b (a0f rfl rfl) rfl ?_|(refine a1g ?_;first|refine a0b (a0w rfl rfl) rfl ?_|refine a0b (a0m rfl rfl rfl) rfl ?_)|(refine a1a ?_;first|refine a0b (a1h rfl rfl rfl) rfl ?_|refine a0b (a1p rfl rfl (by (first|exact w64 (by omega) (by omega)|rfl))) rfl ?_|refine a0b (a2s rfl rfl (by (first|exact w64 (by omega) (by omega)|rfl))) rfl ?_|refine a0b (a2t rfl rfl) rfl ?_|refine a0b (a3l rfl rfl) rfl ?_)|(refine a1i ?_;first|refine a0b (a0j rfl (by with_reducible rfl) rfl) rfl ?_|refine a0b (a0i rfl (by with_reducible rfl) rfl) rfl ?_)|refine a0b (a0e rfl) rfl ?_|(refine a0d ?_;first|refine a0b (a2f rfl) rfl ?_|refine a0b (a0p rfl) rfl ?_)|refine a0b (a0s rfl rfl) rfl ?_|refine a0u ?_|refine a0z rfl rfl rfl (by first|exact ln0|exact ln1) (by repeat constructor) rfl ?_|refine a1c rfl rfl rfl rfl rfl (by repeat constructor) (by repeat constructor) ?_|refine a0b (a1x rfl rfl rfl (by repeat constructor)) rfl ?_|refine a2e (by rfl) (by rfl) (by rfl) (by rfl) (by decide) (by decide) (by rfl) (by rfl) (by repeat constructor) (by rfl) (by repeat constructor) (by rfl) (by first|exact ln0|exact ln1) (by repeat constructor) rfl ?_|refine a0b (a0y rfl (by with_reducible rfl)) rfl ?_|refine a0b (a2z rfl rfl) rfl ?_)|(first|refine a1n ?_|(refine a1o ?_;first|refine a0c (a0a ?_)|refine a0c ?_|refine a0a ?_|(refine a0x ?_;first|refine a0g rfl (by with_reducible rfl) ?_|refine a0h rfl (by with_reducible rfl) ?_|(refine a0r rfl (fun hc => ?_) (fun hc => ?_) <;> (try (exfalso;omega))))|refine a0n ?_|refine a0o ?_|refine a0k ?_|refine a1f ?_)|refine a0t ?_|refine a1q ?_|refine a2b ?_|refine a1d ?_|refine a1v ?_|refine a1b ?_|refine a1e ?_|refine a5g rfl ?_))
          · exact absurd ‹_› c3
          · exact absurd ‹_› c3
          · skip
            refine a2m (.boxLe (id := 0) [.str [], .str [], .int .i64 0, .rs []] rfl (.cons (.refl _) (.cons (.refl _) (.cons (.refl _) (.cons .nil .nil)))) rfl) ?_
            refine retc2 (by first | exact .inr rfl | exact .inl rfl) rfl rfl rfl rfl rfl rfl ?_
            unfold prR
            rw [hstep]
            exact ⟨rfl, rfl⟩
end
end Go.Proofs.YtkljmljkiodnpaaGreatDoor.L

namespace Go.Proofs.YtkljmljkiodnpaaGreatDoor.L
open Go Go.RowKit Go.Proofs
attribute [local irreducible] AL QL AWp Thn InB RetQ ACalls LoopQ HL HO HW HQ NoG

section
variable {E : Env} {sl : Slots} {H : List AO}
theorem a5d {t : Nat} {n b : Nat} {z : Value} [ti : TI E.P t .string n b z] {x lo hi : Operand} {s v : List UInt8} {k k' : IntKind} {l h : Int} {i j : Nat} (hv : (s.take j).drop i = v)
    (hx : ev sl x = some (.str s)) (hlo : ev sl lo = some (.int k l)) (hhi : ev sl hi = some (.int k' h)) (hl : l = i) (hh : h = j) (h1 : i ≤ j) (h2 : j ≤ s.length) : OV E sl H (.slice t x (some lo) (some hi) none) (.str v) := by
  have := a6g (E := E) (H := H) (t := t) hx hlo hhi (by omega) (by omega) (by omega)
  subst hl; subst hh
  rw [← hv]
  exact this
end
section
variable {w0 : World} {base : Nat}
abbrev rpSt (s : List UInt8) (at' n : Nat) (h : Hd) (ver : Nat) : Bool → St
  | true => ⟨[(0, .str s), (2, .op 0 0), (5, .op 1 0), (6, .int .i64 at'), (7, .int .i64 n)], [.box [.str [], .str [], .int .i64 0, .nilsl], .box [.str [], .str [], .int .i64 0, .nilsl]]⟩
  | false => ⟨[(0, .str s), (2, .op 0 0), (5, .op 1 0), (6, .int .i64 at'), (7, .int .i64 n)], [.box [.str [], .str [], .int .i64 0, .nilsl], .box [.str h.m, .str h.t, .int .i64 h.v, .os 2 ver], .row 90 2 ver 0 (h.fs.map prAV)]⟩
end
end Go.Proofs.YtkljmljkiodnpaaGreatDoor.L

namespace Go.Proofs.YtkljmljkiodnpaaGreatDoor.L
open Go Go.RowKit Go.Proofs
attribute [local irreducible] AL QL AWp Thn InB RetQ ACalls LoopQ HL HO HW HQ NoG

def awA : List UInt8 := "GET /x HTTP/1.1\r\nHost:  a \r\n\r\n".toUTF8.data.toList
def awB : List UInt8 := "GET /x HTTP/1.1\r\n\r\n".toUTF8.data.toList
section
variable {w0 : World} {base : Nat}
end
end Go.Proofs.YtkljmljkiodnpaaGreatDoor.L

namespace Go.Proofs.YtkljmljkiodnpaaGreatDoor.L
open Go Go.RowKit Go.Proofs

def linesOf (ls : List (List UInt8)) : List UInt8 := ls.flatMap (fun l => l ++ [13, 10])
def textOf (ls : List (List UInt8)) : List UInt8 := linesOf ls ++ [13, 10]
structure FLine (l : List UInt8) : Prop where
  br : ¬ hasBr l
  ne : l ≠ []
  len : l.length ≤ 1024
  ok : fieldOk l
structure RLine (l : List UInt8) : Prop where
  br : ¬ hasBr l
  len : l.length ≤ 1024
  ok : reqSt l = 0
def hdOf (l : List UInt8) (ls : List (List UInt8)) : Hd := ⟨rM l, rT l, reqV l, ls.map fieldOf⟩
def hdAnd (h : Hd) (ls : List (List UInt8)) : Hd := ⟨h.m, h.t, h.v, h.fs ++ ls.map fieldOf⟩
def endR (h : Hd) : Hd × Int × Int := if hostsOk h then (h, 0, 0) else (hd0, 400, 0)
def fLine (p : List UInt8 × List UInt8) : List UInt8 := p.1 ++ 58 :: 32 :: p.2
def digS (v : Int) : List UInt8 := if v = 0 then [48] else if v = 1 then [49] else [50]
def rLine (h : Hd) : List UInt8 := h.m ++ 32 :: (h.t ++ 32 :: ([72, 84, 84, 80, 47, 49, 46] ++ digS h.v))
def printS (h : Hd) : List UInt8 := textOf (rLine h :: h.fs.map fLine)
instance : DecidableEq Hd := fun a b => decidable_of_iff (a.m = b.m ∧ a.t = b.t ∧ a.v = b.v ∧ a.fs = b.fs) (by
  cases a; cases b; simp)
def printOk (h : Hd) : Prop := h.fs.length ≤ 32 ∧ (h.v = 0 ∨ h.v = 1) ∧ (headParse (printS h)).2.1 = 0 ∧ (headParse (printS h)).1 = h
instance (h : Hd) : Decidable (printOk h) := inferInstanceAs (Decidable (_ ∧ _))
end Go.Proofs.YtkljmljkiodnpaaGreatDoor.L

namespace Go.Proofs.YtkljmljkiodnpaaGreatDoor.L
open Go Go.RowKit Go.Proofs

structure FldOk (p : List UInt8 × List UInt8) : Prop where
  ne : p.1 ≠ []
  tok : p.1.all pToken = true
  low : smallS p.1 = p.1
  loose : p.2.all pLoose = true
  trim : Lib.trimS p.2 [32, 9] = p.2
end Go.Proofs.YtkljmljkiodnpaaGreatDoor.L

namespace Go.Proofs.YtkljmljkiodnpaaGreatDoor.L
open Go Go.RowKit Go.Proofs
attribute [local irreducible] AL QL AWp Thn InB RetQ ACalls LoopQ HL HO HW HQ NoG

section
variable {w0 : World} {base : Nat}
abbrev prnR (h : Hd) (rv : AV) : Prop := rv = .tup [.str (if printOk h then printS h else []), .int .i64 (if printOk h then 0 else 70)]
structure Small (h : Hd) : Prop where
  z : h.m.length + h.t.length + (linesOf (h.fs.map fLine)).length ≤ 35184372088832
  f : h.fs.length * 16 ≤ 140737488351232
end
end Go.Proofs.YtkljmljkiodnpaaGreatDoor.L

namespace Go.Proofs.YtkljmljkiodnpaaGreatDoor.L
open Go Go.RowKit Go.Proofs
attribute [local irreducible] AL QL AWp Thn InB RetQ ACalls LoopQ HL HO HW HQ NoG

theorem b7i (c : UInt8) : ∀ (n : Nat) (s : List UInt8), s.length = n → Lib.splitK [c] 0 (Lib.count s [c]) s = splitB c s := by
  intro n
  induction n using Nat.strongRecOn with
  | _ n ih =>
    intro s hn
    rcases Lib.index_spec s [c] with ⟨h1, h2⟩ | ⟨i, h1, h2, h3, h4⟩
    · rw [Lib.count_miss h1]
      have hno : c ∉ s := by
        intro hm
        obtain ⟨j, hj, hjc⟩ := a7m hm
        have := h2 j (by omega)
        have ho : Lib.occAt s [c] j = true := by
          unfold Lib.occAt
          rw [List.isPrefixOf_iff_prefix]
          refine ⟨s.drop (j + 1), ?_⟩
          have := List.getElem?_eq_some_iff.1 hjc
          rw [List.drop_eq_getElem_cons hj, this.2]
          rfl
        rw [ho] at this
        cases this
      rw [a6r hno]
      rfl
    · have hroom : i < s.length := by
        have := Lib.occAt_room h3
        simp at this
        omega
      have hc := Lib.occAt_head (t := []) rfl h3
      have hno : c ∉ s.take i := by
        intro hm
        obtain ⟨j, hj, hjc⟩ := a7m hm
        rw [List.length_take] at hj
        have hji : j < i := by omega
        rw [List.getElem?_take, if_pos hji] at hjc
        have := h4 j hji
        have ho : Lib.occAt s [c] j = true := by
          unfold Lib.occAt
          rw [List.isPrefixOf_iff_prefix]
          refine ⟨s.drop (j + 1), ?_⟩
          have h6 := List.getElem?_eq_some_iff.1 hjc
          rw [List.drop_eq_getElem_cons (show j < s.length by omega), h6.2]
          rfl
        rw [ho] at this
        cases this
      rw [Lib.count_hit (by simp) h1, Nat.add_comm, Lib.splitK]
      have hne : (Lib.index s [c] == -1) = false := by rw [beq_eq_false_iff_ne, h1]; omega
      rw [hne, h1]
      have hs : s = s.take i ++ c :: s.drop (i + 1) := by
        have h6 := List.getElem?_eq_some_iff.1 hc
        conv => lhs; rw [← List.take_append_drop i s, List.drop_eq_getElem_cons hroom, h6.2]
      have hd := ih (s.drop (i + 1)).length (by rw [List.length_drop]; omega) (s.drop (i + 1)) rfl
      have hsp : splitB c s = s.take i :: splitB c (s.drop (i + 1)) := by
        conv => lhs; rw [hs]
        exact a6s hno
      rw [hsp, ← hd]
      simp
def decN (l : List UInt8) : Int := l.foldl (fun n b => 10 * n + ((b.toNat : Int) - 48)) 0
theorem a8h : ∀ (l : List UInt8) (acc : Nat), l.all pDigit = true → Lib.decFrom acc l = some (l.foldl (fun n b => 10 * n + ((b.toNat : Int) - 48)) (acc : Int)).toNat ∧ 0 ≤ l.foldl (fun n b => 10 * n + ((b.toNat : Int) - 48)) (acc : Int) := by
  intro l
  induction l with
  | nil => intro acc _; exact ⟨rfl, by simp⟩
  | cons b r ih =>
    intro acc h
    rw [List.all_cons, Bool.and_eq_true] at h
    have hb := h.1
    unfold pDigit at hb
    simp only [Bool.and_eq_true, decide_eq_true_eq] at hb
    have e : 10 * (acc : Int) + ((b.toNat : Int) - 48) = ((acc * 10 + (b.toNat - 48) : Nat) : Int) := by omega
    obtain ⟨h1, h2⟩ := ih (acc * 10 + (b.toNat - 48)) h.2
    rw [List.foldl_cons, e]
    refine ⟨?_, h2⟩
    rw [Lib.decFrom]
    have hd : Lib.digitVal b = some (b.toNat - 48) := by unfold Lib.digitVal; rw [if_pos hb]
    rw [hd]
    exact h1
theorem c3v {l : List UInt8} (h : l.all pDigit = true) (hne : l ≠ []) : Lib.atoi l = some (decN l) := by
  cases l with
  | nil => exact absurd rfl hne
  | cons b r =>
    have hb := h
    rw [List.all_cons, Bool.and_eq_true] at hb
    have hb := hb.1
    unfold pDigit at hb
    simp only [Bool.and_eq_true, decide_eq_true_eq] at hb
    have e1 : (b == 45) = false := by rw [beq_eq_false_iff_ne]; intro e; subst e; simp at hb
    have e2 : (b == 43) = false := by rw [beq_eq_false_iff_ne]; intro e; subst e; simp at hb
    obtain ⟨h1, h2⟩ := a8h (b :: r) 0 h
    rw [Lib.atoi, e1, e2]
    simp only [Bool.false_eq_true, if_false]
    unfold Lib.decNat
    simp only [List.isEmpty_cons, Bool.false_eq_true, if_false]
    rw [h1, Option.map_some]
    exact congrArg some (Int.toNat_of_nonneg h2)
section
variable {w0 : World} {base : Nat}
theorem c5e {s : List UInt8} (hG : Glob w0 base) (hs : s.length < 4294967281) : PCalls (EE w0 base) 88 [.str s, .str [44]] fun rv => rv = .rs (strAV (splitB 44 s)) := by
  refine a9e fun I ν w vs hh hl hv => ?_
  match vs, hl with
  | [v1, v2], _ =>
  have e1 := (hv 0 _ v1 rfl rfl).str_inv
  have e2 := (hv 1 _ v2 rfl rfl).str_inv
  subst e1; subst e2
  obtain ⟨m, hm⟩ := b5g hG hh
  obtain ⟨ps, hps⟩ : ∃ ps, ps = Lib.splitB ⟨#[44]⟩ 0 (Lib.countB ⟨s.toArray⟩ ⟨#[44]⟩) ⟨s.toArray⟩ := ⟨_, rfl⟩
  have hpl : ps.length = Lib.countB ⟨s.toArray⟩ ⟨#[44]⟩ + 1 := by rw [hps]; exact Lib.splitB_all _ (by decide) 0 _ _ rfl
  have hpm : ps.map (fun p => p.data.toList) = splitB 44 s := by
    rw [hps, Lib.splitB_data]
    exact b7i 44 s.length s rfl
  refine (Tryz.strings_Split ⟨s.toArray⟩ ⟨#[44]⟩ m w hs hm (by decide)).mono fun e w' ⟨he, hw⟩ => ⟨_, _, rfl, rfl, he, ?_, ?_⟩
  · subst hw; exact (Below.refl _ _).alloc (Nat.le_refl _) _
  · rw [← hps] at hw
    have hlen : (strAV (splitB 44 s)).length = Lib.countB ⟨s.toArray⟩ ⟨#[44]⟩ + 1 := by rw [← hpl, ← hpm]; simp [strAV]
    have hcell : ∀ j, j < ps.length → w'.cell? ⟨w.heap.size, 0 + j, none⟩ = some (((ps.map Value.string)[j]?).getD (.bool false)) := by
      intro j hj
      rw [hw]
      have hb : (w.alloc (.cells (ps.map Value.string).toArray 9)).heap[w.heap.size]? = some (.cells (ps.map Value.string).toArray 9) := a5b _ _
      unfold World.cell?
      rw [hb]
      simp [hj]
    rw [← hlen]
    refine .pure (.rs (strAV (splitB 44 s)) 1 w.heap.size 0 _ (fun j => ((ps.map Value.string)[j]?).getD (.bool false)) (by omega) (Nat.le_refl _) ?_ ?_ ?_ ?_)
    · rw [hlen, ← hpl]
      have := Lib.splitB_length_le ⟨#[44]⟩ 0 (Lib.countB ⟨s.toArray⟩ ⟨#[44]⟩) ⟨s.toArray⟩
      have hc : Lib.countB ⟨s.toArray⟩ ⟨#[44]⟩ ≤ s.length + 1 := Lib.count_le _ _
      simp only [maxLen]
      omega
    · intro i row hi
      unfold strAV at hi
      rw [List.getElem?_map] at hi
      obtain ⟨x, _, rfl⟩ := Option.map_eq_some_iff.1 hi
      rfl
    · intro j hj
      have h1 := hcell j (by omega)
      exact ⟨h1, .inr ⟨Nat.le_refl _, _, h1⟩⟩
    · intro i j row x hi hj
      unfold strAV at hi
      rw [← hpm, List.map_map, List.getElem?_map] at hi
      obtain ⟨p, hp, rfl⟩ := Option.map_eq_some_iff.1 hi
      cases j with
      | succ j => simp at hj
      | zero =>
        simp at hj
        subst hj
        have : (ps.map Value.string)[i * 1 + 0]? = some (.string p) := by
          rw [List.getElem?_map, Nat.mul_one, Nat.add_zero, hp]
          rfl
        rw [this]
        simpa using VP.str (w := w') (I := immNew w w' I) p.data.toList
theorem c7d {l : List UInt8} (h : l.all pDigit = true) (hne : l ≠ []) (hl : l.length ≤ 9) : PCalls (EE w0 base) 80 [.str l] fun rv => rv = .tup [.int .i64 (decN l), .nilif] := by
  refine a3n rfl fun I ν w vs hh hl' hv => ?_
  match vs, hl' with
  | [v1], _ =>
  have e1 := (hv 0 _ v1 rfl rfl).str_inv
  subst e1
  refine ⟨_, fun w I => .tup _ [_, _] rfl (fun j x v h1 h2 => ?_), (Tryz.strconv_Atoi ⟨l.toArray⟩ (decN l) (by simp [a6m]; omega) (by simpa using c3v h hne) w).mono fun e w' ⟨he, t, hw⟩ => ⟨he, by subst hw; exact Lib.bytesWorld_below _ _ _⟩⟩
  match j, h1, h2 with
  | 0, h1, h2 => simp at h1 h2; subst h1; subst h2; exact .pure (.int _ _)
  | 1, h1, h2 => simp at h1 h2; subst h1; subst h2; exact .pure .nilif
  | j + 2, h1, h2 => simp at h1
end
end Go.Proofs.YtkljmljkiodnpaaGreatDoor.L

namespace Go.Proofs.YtkljmljkiodnpaaGreatDoor.L
open Go Go.RowKit Go.Proofs
attribute [local irreducible] AL QL AWp Thn InB RetQ ACalls LoopQ HL HO HW HQ NoG

def cleS : List UInt8 := [99, 111, 110, 116, 101, 110, 116, 45, 108, 101, 110, 103, 116, 104]
def teS : List UInt8 := [116, 114, 97, 110, 115, 102, 101, 114, 45, 101, 110, 99, 111, 100, 105, 110, 103]
def chS : List UInt8 := [99, 104, 117, 110, 107, 101, 100]
def bodyL (v : Int) : List (List UInt8) → List (List UInt8) → Int × Int × Int
  | [], [] => (0, 0, 0)
  | _ :: _, _ :: _ => (0, 0, 400)
  | [], c :: C => if C ≠ [] ∨ smallS c ≠ chS ∨ v ≠ 1 then (0, 0, 400) else (2, 0, 0)
  | l :: L, [] => if l.length < 1 ∨ 9 < l.length ∨ l.all pDigit = false ∨ ((l :: L).all fun x => decide (x = l)) = false then (0, 0, 400) else if 16384 < decN l then (0, 0, 413) else (1, decN l, 0)
def bodyS (h : Hd) : Int × Int × Int := bodyL h.v (valsOf h.fs cleS) (valsOf h.fs teS)
abbrev bodR (h : Hd) (rv : AV) : Prop := rv = .tup [.int .i64 (bodyS h).1, .int .i64 (bodyS h).2.1, .int .i64 (bodyS h).2.2]
structure Tiny (h : Hd) : Prop where
  f : h.fs.length ≤ 1048580
  v : ∀ p ∈ h.fs, p.2.length ≤ 1048580
theorem a8x {h : Hd} (ht : Tiny h) {name x : List UInt8} (hx : x ∈ valsOf h.fs name) : x.length ≤ 1048580 := by
  unfold valsOf at hx
  obtain ⟨p, hp, rfl⟩ := List.mem_map.1 hx
  exact ht.v p ((List.mem_filter.1 hp).1)
theorem a6d {a : List (List UInt8)} {i : Nat} {p : List UInt8} (h : a[i]? = some p) : (strAV a)[((i : Nat) : Int).toNat]? = some [.str p] := by
  have : ((i : Nat) : Int).toNat = i := rfl
  rw [this]
  unfold strAV
  rw [List.getElem?_map, h]
  rfl
theorem a4u (a : List (List UInt8)) : (strAV a).length = a.length := List.length_map _
section
variable {w0 : World} {base : Nat}
theorem c8d {x l : List UInt8} : ACalls (EE w0 base) 79 [.str x, .op 0 0] [.box [.str l]] fun rv os => rv = .bool (decide (x ≠ l)) ∧ os = [.box [.str l]] := by
  refine a1s Tryz.func79 rfl rfl rfl (.cons (.cons .nil)) ?_
  repeat' (first | (refine a2k ?_; first | (refine a0b (a0l rfl) rfl ?_) | (refine a1g ?_; first | (refine a0b (a0w rfl rfl) rfl ?_)) | (refine a1a ?_; first | (refine a0b (a3l rfl rfl) rfl ?_)) | (refine a0b (a0e rfl) rfl ?_) | (refine a0u ?_)) | (first | (refine a1n ?_) | (refine a1o ?_; first | (refine a0c (a0a ?_)) | (refine a0c ?_) | (refine a0a ?_) | (refine a0o ?_))))
  refine ret1 (by first | exact .inr rfl | exact .inl rfl) rfl rfl ?_
  exact ⟨rfl, rfl⟩
set_option maxHeartbeats 2000000 in
theorem b6a {xs : List (List UInt8)} {l : List UInt8} (hx : xs.length ≤ 140737488351232) : ACalls (EE w0 base) 122 [.rs (strAV xs), .fn 79 [.op 0 0]] [.box [.str l]]
    fun rv os => (∃ k, rv = .int .i64 k ∧ (0 ≤ k ↔ (xs.all fun x => decide (x = l)) = false)) ∧ os = [.box [.str l]] := by
  refine a1s Tryz.func122 rfl rfl rfl (.cons (.cons .nil)) ?_
  have hxl := a4u xs
  repeat' (first|(refine a2k ?_;first|refine a0b (a0l rfl) rfl ?_|(refine a1g ?_;first|refine a0b (a0w rfl rfl) rfl ?_)|(refine a1a ?_;first|refine a0b (a1h rfl rfl rfl) rfl ?_|refine a0b (a1p rfl rfl (by (first|exact w64 (by omega) (by omega)|rfl))) rfl ?_)|refine a0b (a0e rfl) rfl ?_|(refine a0d ?_;first|refine a0b (a2f rfl) rfl ?_)|refine a0u ?_)|(first|refine a1n ?_|(refine a1o ?_;first|refine a0c (a0a ?_)|refine a0c ?_|refine a0a ?_|(refine a0x ?_;first|(refine a0r rfl (fun hc => ?_) (fun hc => ?_) <;> (try (exfalso;omega))))|refine a0n ?_|refine a0o ?_|refine a0k ?_|refine a1f ?_)|refine a0t ?_|refine a1q ?_|refine a2b ?_|refine a1d ?_|refine a1v ?_|refine a1b ?_|refine a1e ?_))
  refine a2o (fun k : Nat => ⟨[(0, .rs (strAV xs)), (1, .fn 79 [.op 0 0]), (7, .int .i64 ((strAV xs).length : Int)), (8, .int .i64 k)], [.box [.str l]]⟩) (fun k => k ≤ xs.length ∧ (xs.take k).all (fun x => decide (x = l)) = true) (fun k => xs.length - k) 0 (.of (.same (by repeat constructor))) ⟨Nat.zero_le _, rfl⟩ ?_
  rintro i ⟨hi, hall⟩
  try dsimp only
  by_cases hlt : i < xs.length
  · obtain ⟨p, hp⟩ : ∃ p, xs[i]? = some p := ⟨_, List.getElem?_eq_getElem hlt⟩
    have hrow := a6d hp
    repeat' (first|(first|refine a0b (a2j rfl rfl (by omega) hrow rfl) rfl ?_|(refine a0d ?_;refine a0v [0] rfl rfl (c8d (x := p) (l := l)) (by repeat constructor) (by repeat constructor) rfl rfl ?_;rintro _ _ ⟨rfl,rfl⟩;refine ⟨_,_,by repeat constructor,by repeat constructor,?_⟩))|(refine a2k ?_;first|refine a0b (a0l rfl) rfl ?_|(refine a1g ?_;first|refine a0b (a0w rfl rfl) rfl ?_)|(refine a1a ?_;first|refine a0b (a1h rfl rfl rfl) rfl ?_|refine a0b (a1p rfl rfl (by (first|exact w64 (by omega) (by omega)|rfl))) rfl ?_)|refine a0b (a0e rfl) rfl ?_|(refine a0d ?_;first|refine a0b (a2f rfl) rfl ?_)|refine a0u ?_)|(first|refine a1n ?_|(refine a1o ?_;first|refine a0c (a0a ?_)|refine a0c ?_|refine a0a ?_|(refine a0x ?_;first|(refine a0r rfl (fun hc => ?_) (fun hc => ?_) <;> (try (exfalso;omega))))|refine a0n ?_|refine a0o ?_|refine a0k ?_|refine a1f ?_)|refine a0t ?_|refine a1q ?_|refine a2b ?_|refine a1d ?_|refine a1v ?_|refine a1b ?_|refine a1e ?_))
    · refine ret1 (by first | exact .inr rfl | exact .inl rfl) rfl rfl ?_
      refine ⟨⟨_, rfl, fun _ => ?_, fun _ => by omega⟩, rfl⟩
      cases hc : xs.all fun x => decide (x = l) with
      | false => rfl
      | true =>
        have := List.all_eq_true.1 hc p (List.mem_of_getElem? hp)
        exact absurd (of_decide_eq_true this) ‹p ≠ l›
    · have hpl : p = l := Classical.not_not.1 ‹_›
      first | refine a1y (i + 1) (.of (.same (by repeat constructor))) ?_ ?_ | fail
      · refine ⟨by omega, ?_⟩
        rw [List.take_add_one, hp, List.all_append, hall]
        simp [hpl]
      · omega
  · repeat' (first|(refine a2k ?_;first|refine a0b (a0l rfl) rfl ?_|(refine a1g ?_;first|refine a0b (a0w rfl rfl) rfl ?_)|(refine a1a ?_;first|refine a0b (a1h rfl rfl rfl) rfl ?_|refine a0b (a1p rfl rfl (by (first|exact w64 (by omega) (by omega)|rfl))) rfl ?_)|refine a0b (a0e rfl) rfl ?_|(refine a0d ?_;first|refine a0b (a2f rfl) rfl ?_)|refine a0u ?_)|(first|refine a1n ?_|(refine a1o ?_;first|refine a0c (a0a ?_)|refine a0c ?_|refine a0a ?_|(refine a0x ?_;first|(refine a0r rfl (fun hc => ?_) (fun hc => ?_) <;> (try (exfalso;omega))))|refine a0n ?_|refine a0o ?_|refine a0k ?_|refine a1f ?_)|refine a0t ?_|refine a1q ?_|refine a2b ?_|refine a1d ?_|refine a1v ?_|refine a1b ?_|refine a1e ?_))
    rw [List.take_of_length_le (by omega)] at hall
    refine ret1 (by first | exact .inr rfl | exact .inl rfl) rfl rfl ?_
    refine ⟨⟨_, rfl, fun k => absurd k (by decide), fun k => ?_⟩, rfl⟩
    rw [hall] at k
    cases k
theorem b0n {xs : List (List UInt8)} {l : List UInt8} (hx : xs.length ≤ 140737488351232) : ACalls (EE w0 base) 78 [.rs (strAV xs), .fn 79 [.op 0 0]] [.box [.str l]]
    fun rv os => rv = .bool (!(xs.all fun x => decide (x = l))) ∧ os = [.box [.str l]] := by
  refine a1s Tryz.func78 rfl rfl rfl (.cons (.cons .nil)) ?_
  repeat' (first|((refine a0d ?_;refine a0v [0] rfl rfl (b6a (xs := xs) (l := l) hx) (by repeat constructor) (by repeat constructor) rfl rfl ?_;rintro _ _ ⟨⟨k,rfl,hk⟩,rfl⟩;refine ⟨_,_,by repeat constructor,by repeat constructor,?_⟩))|(refine a2k ?_;first|refine a0b (a0l rfl) rfl ?_|(refine a1a ?_;first|refine a0b (a1h rfl rfl rfl) rfl ?_)|refine a0b (a0e rfl) rfl ?_|refine a0u ?_)|(first|refine a1n ?_|(refine a1o ?_;first|refine a0c (a0a ?_)|refine a0c ?_|refine a0a ?_|refine a0o ?_)))
  refine ret1 (by first | exact .inr rfl | exact .inl rfl) rfl rfl ?_
  refine ⟨congrArg AV.bool ?_, rfl⟩
  rw [Bool.eq_iff_iff, decide_eq_true_eq, Bool.not_eq_true']
  exact hk
set_option maxHeartbeats 4000000 in
theorem c7c {h : Hd} (ht : Tiny h) : PCalls (EE w0 base) 47 [hdAV h.m h.t h.v h.fs] (bodR h) := by
  have hf := ht.f
  have hV1 := a6t (w0 := w0) (base := base) (m := h.m) (t := h.t) (v := h.v) (fs := h.fs) (name := cleS) (by decide) (by omega)
  have hV2 := a6t (w0 := w0) (base := base) (m := h.m) (t := h.t) (v := h.v) (fs := h.fs) (name := teS) (by decide) (by omega)
  have hl1 := a5k h.fs cleS
  have hm1 : ∀ x ∈ valsOf h.fs cleS, x.length ≤ 1048580 := fun x hx => a8x ht hx
  have hm2 : ∀ x ∈ valsOf h.fs teS, x.length ≤ 1048580 := fun x hx => a8x ht hx
  refine a1s Tryz.func47 rfl rfl rfl (.cons .nil) ?_
  unfold bodR bodyS
  revert hV1 hV2 hl1 hm1 hm2
  generalize valsOf h.fs cleS = L
  generalize valsOf h.fs teS = C
  intro hV1 hV2 hl1 hm1 hm2
  cases L with
  | nil =>
    cases C with
    | nil =>
      repeat' (first|(first|refine a3b (id := 1) [] [⟨0,true,[],bl 6 4⟩,⟨2,true,[],bl 6 3⟩,⟨1,false,[],[]⟩,⟨3,false,[],[]⟩,⟨4,true,[],bl 6 15⟩,⟨5,true,[],bl 6 31⟩] (by kernel_rfl) (by kernel_rfl) rfl (by kernel_rfl) ?_|(refine a0d ?_;refine a0q rfl rfl rfl rfl hV1 ?_;rintro _ rfl)|(refine a0d ?_;refine a0q rfl rfl rfl rfl hV2 ?_;rintro _ rfl)|(refine a0d ?_;refine a0b (a3k 0 rfl rfl) rfl ?_))|(refine a2k ?_;first|refine a0b (a0l rfl) rfl ?_|(refine k_g ?_;first|refine a1j rfl rfl (by with_reducible rfl) ?_|refine a1w rfl rfl (by with_reducible rfl) rfl ?_|refine a1t rfl rfl (by with_reducible rfl) rfl ?_|(refine a1z rfl rfl (fun hc => ?_) (fun hc => ?_) <;> (try (exfalso;omega))))|refine a0b (a0f rfl rfl) rfl ?_|(refine a1g ?_;first|refine a0b (a0w rfl rfl) rfl ?_|refine a0b (a0m rfl rfl rfl) rfl ?_)|(refine a1a ?_;first|refine a0b (a1h rfl rfl rfl) rfl ?_|refine a0b (a3l rfl rfl) rfl ?_)|(refine a1i ?_;first|refine a0b (a0j rfl (by with_reducible rfl) rfl) rfl ?_|refine a0b (a0i rfl (by with_reducible rfl) rfl) rfl ?_)|refine a0b (a0e rfl) rfl ?_|(refine a0d ?_;first|refine a0b (a0p rfl) rfl ?_)|refine a0b (a0s rfl rfl) rfl ?_|refine a0u ?_|refine a2g rfl rfl rfl (by first|exact ln0|exact ln1) (by repeat constructor) rfl ?_|refine a0z rfl rfl rfl (by first|exact ln0|exact ln1) (by repeat constructor) rfl ?_|refine a1c rfl rfl rfl rfl rfl (by repeat constructor) (by repeat constructor) ?_|refine a0b (a0y rfl (by with_reducible rfl)) rfl ?_|refine a0b (a1r rfl (by with_reducible rfl)) rfl ?_)|(first|refine a1n ?_|(refine a1o ?_;first|refine a0c (a0a ?_)|refine a0c ?_|refine a0a ?_|(refine a0x ?_;first|refine a0g rfl (by with_reducible rfl) ?_|refine a0h rfl (by with_reducible rfl) ?_|(refine a0r rfl (fun hc => ?_) (fun hc => ?_) <;> (try (exfalso;omega)))|(refine a2p rfl (fun hc => ?_) (fun hc => ?_) <;> (try (exact absurd hc (by decide)))))|refine a0n ?_|refine a0o ?_|refine a0k ?_)|refine a0t ?_|refine a1v ?_|refine a1b ?_)|(first|(refine a7n ?_;first|refine a7p rfl ?_|refine a2c (a0l rfl) rfl ?_|refine a2c (a0e rfl) rfl ?_|refine a2c (a0f rfl rfl) rfl ?_|refine a2c (a0w rfl rfl) rfl ?_|refine a2c (a0m rfl rfl rfl) rfl ?_|refine a2c (a1h rfl rfl rfl) rfl ?_|refine a2c (a0j rfl (by with_reducible rfl) rfl) rfl ?_|refine a2c (a0i rfl (by with_reducible rfl) rfl) rfl ?_|refine a2c (a0p rfl) rfl ?_|refine a2c (a3l rfl rfl) rfl ?_|refine a2c (a0s rfl rfl) rfl ?_|refine a2c (a0y rfl (by with_reducible rfl)) rfl ?_|refine a2c (a1r rfl (by with_reducible rfl)) rfl ?_)|refine a4o rfl ?_|(refine a7o ?_;first|refine a7q ?_)|refine a3r ?_|refine a3j ?_))
      refine ret3 (by first | exact .inr rfl | exact .inl rfl) rfl rfl rfl rfl ?_
      exact ⟨rfl, rfl⟩
    | cons c C =>
      have hcl : (strAV (c :: C)).length = C.length + 1 := by simp [strAV]
      have hS := b1j (w0 := w0) (base := base) (s := c) (by have := hm2 c (by simp); omega)
      have hC : C ≠ [] ↔ 0 < C.length := List.length_pos_iff.symm
      repeat' (first|(first|refine a3b (id := 1) [] [⟨0,true,[],bl 6 4⟩,⟨2,true,[],bl 6 3⟩,⟨1,false,[],[]⟩,⟨3,false,[],[]⟩,⟨4,true,[],bl 6 15⟩,⟨5,true,[],bl 6 31⟩] (by kernel_rfl) (by kernel_rfl) rfl (by kernel_rfl) ?_|(refine a0d ?_;refine a0q rfl rfl rfl rfl hV1 ?_;rintro _ rfl)|(refine a0d ?_;refine a0q rfl rfl rfl rfl hV2 ?_;rintro _ rfl)|(refine a0d ?_;refine a0b (a3k 0 rfl rfl) rfl ?_)|(refine a0d ?_;refine a0b (a3k (C.length + 1) rfl hcl) rfl ?_)|refine a0b (a2j rfl rfl (by decide) rfl rfl) rfl ?_|(refine a0d ?_;refine a0q rfl rfl rfl rfl hS ?_;rintro _ rfl))|(refine a2k ?_;first|refine a0b (a0l rfl) rfl ?_|(refine k_g ?_;first|refine a1j rfl rfl (by with_reducible rfl) ?_|refine a1w rfl rfl (by with_reducible rfl) rfl ?_|refine a1t rfl rfl (by with_reducible rfl) rfl ?_|(refine a1z rfl rfl (fun hc => ?_) (fun hc => ?_) <;> (try (exfalso;omega))))|refine a0b (a0f rfl rfl) rfl ?_|(refine a1g ?_;first|refine a0b (a0w rfl rfl) rfl ?_|refine a0b (a0m rfl rfl rfl) rfl ?_)|(refine a1a ?_;first|refine a0b (a1h rfl rfl rfl) rfl ?_|refine a0b (a3l rfl rfl) rfl ?_)|(refine a1i ?_;first|refine a0b (a0j rfl (by with_reducible rfl) rfl) rfl ?_|refine a0b (a0i rfl (by with_reducible rfl) rfl) rfl ?_)|refine a0b (a0e rfl) rfl ?_|(refine a0d ?_;first|refine a0b (a0p rfl) rfl ?_)|refine a0b (a0s rfl rfl) rfl ?_|refine a0u ?_|refine a2g rfl rfl rfl (by first|exact ln0|exact ln1) (by repeat constructor) rfl ?_|refine a0z rfl rfl rfl (by first|exact ln0|exact ln1) (by repeat constructor) rfl ?_|refine a1c rfl rfl rfl rfl rfl (by repeat constructor) (by repeat constructor) ?_|refine a0b (a0y rfl (by with_reducible rfl)) rfl ?_|refine a0b (a1r rfl (by with_reducible rfl)) rfl ?_)|(first|refine a1n ?_|(refine a1o ?_;first|refine a0c (a0a ?_)|refine a0c ?_|refine a0a ?_|(refine a0x ?_;first|refine a0g rfl (by with_reducible rfl) ?_|refine a0h rfl (by with_reducible rfl) ?_|(refine a0r rfl (fun hc => ?_) (fun hc => ?_) <;> (try (exfalso;omega)))|(refine a2p rfl (fun hc => ?_) (fun hc => ?_) <;> (try (exact absurd hc (by decide)))))|refine a0n ?_|refine a0o ?_|refine a0k ?_)|refine a0t ?_|refine a1v ?_|refine a1b ?_)|(first|(refine a7n ?_;first|refine a7p rfl ?_|refine a2c (a0l rfl) rfl ?_|refine a2c (a0e rfl) rfl ?_|refine a2c (a0f rfl rfl) rfl ?_|refine a2c (a0w rfl rfl) rfl ?_|refine a2c (a0m rfl rfl rfl) rfl ?_|refine a2c (a1h rfl rfl rfl) rfl ?_|refine a2c (a0j rfl (by with_reducible rfl) rfl) rfl ?_|refine a2c (a0i rfl (by with_reducible rfl) rfl) rfl ?_|refine a2c (a0p rfl) rfl ?_|refine a2c (a3l rfl rfl) rfl ?_|refine a2c (a0s rfl rfl) rfl ?_|refine a2c (a0y rfl (by with_reducible rfl)) rfl ?_|refine a2c (a1r rfl (by with_reducible rfl)) rfl ?_)|refine a4o rfl ?_|(refine a7o ?_;first|refine a7q ?_)|refine a3r ?_|refine a3j ?_))
      all_goals first
        | (exfalso; omega)
        | (refine ret3 (by first | exact .inr rfl | exact .inl rfl) rfl rfl rfl rfl ?_
           rw [bodyL, if_pos (by first | exact .inl (hC.2 (by omega)) | exact .inr (.inl ‹_›) | exact .inr (.inr ‹_›))]
           exact ⟨rfl, rfl⟩)
        | (refine ret3 (by first | exact .inr rfl | exact .inl rfl) rfl rfl rfl rfl ?_
           rw [bodyL, if_neg (by rintro (k | k | k) <;> first | (have := hC.1 k; omega) | exact ‹¬ _› k)]
           exact ⟨rfl, rfl⟩)
  | cons l L =>
    have hll : (strAV (l :: L)).length = L.length + 1 := by simp [strAV]
    cases C with
    | cons c C =>
      have hcl : (strAV (c :: C)).length = C.length + 1 := by simp [strAV]
      repeat' (first|(first|refine a3b (id := 1) [] [⟨0,true,[],bl 6 4⟩,⟨2,true,[],bl 6 3⟩,⟨1,false,[],[]⟩,⟨3,false,[],[]⟩,⟨4,true,[],bl 6 15⟩,⟨5,true,[],bl 6 31⟩] (by kernel_rfl) (by kernel_rfl) rfl (by kernel_rfl) ?_|(refine a0d ?_;refine a0q rfl rfl rfl rfl hV1 ?_;rintro _ rfl)|(refine a0d ?_;refine a0q rfl rfl rfl rfl hV2 ?_;rintro _ rfl)|(refine a0d ?_;refine a0b (a3k (L.length + 1) rfl hll) rfl ?_)|(refine a0d ?_;refine a0b (a3k (C.length + 1) rfl hcl) rfl ?_))|(refine a2k ?_;first|refine a0b (a0l rfl) rfl ?_|(refine k_g ?_;first|refine a1j rfl rfl (by with_reducible rfl) ?_|refine a1w rfl rfl (by with_reducible rfl) rfl ?_|refine a1t rfl rfl (by with_reducible rfl) rfl ?_|(refine a1z rfl rfl (fun hc => ?_) (fun hc => ?_) <;> (try (exfalso;omega))))|refine a0b (a0f rfl rfl) rfl ?_|(refine a1g ?_;first|refine a0b (a0w rfl rfl) rfl ?_|refine a0b (a0m rfl rfl rfl) rfl ?_)|(refine a1a ?_;first|refine a0b (a1h rfl rfl rfl) rfl ?_|refine a0b (a3l rfl rfl) rfl ?_)|(refine a1i ?_;first|refine a0b (a0j rfl (by with_reducible rfl) rfl) rfl ?_|refine a0b (a0i rfl (by with_reducible rfl) rfl) rfl ?_)|refine a0b (a0e rfl) rfl ?_|(refine a0d ?_;first|refine a0b (a0p rfl) rfl ?_)|refine a0b (a0s rfl rfl) rfl ?_|refine a0u ?_|refine a2g rfl rfl rfl (by first|exact ln0|exact ln1) (by repeat constructor) rfl ?_|refine a0z rfl rfl rfl (by first|exact ln0|exact ln1) (by repeat constructor) rfl ?_|refine a1c rfl rfl rfl rfl rfl (by repeat constructor) (by repeat constructor) ?_|refine a0b (a0y rfl (by with_reducible rfl)) rfl ?_|refine a0b (a1r rfl (by with_reducible rfl)) rfl ?_)|(first|refine a1n ?_|(refine a1o ?_;first|refine a0c (a0a ?_)|refine a0c ?_|refine a0a ?_|(refine a0x ?_;first|refine a0g rfl (by with_reducible rfl) ?_|refine a0h rfl (by with_reducible rfl) ?_|(refine a0r rfl (fun hc => ?_) (fun hc => ?_) <;> (try (exfalso;omega)))|(refine a2p rfl (fun hc => ?_) (fun hc => ?_) <;> (try (exact absurd hc (by decide)))))|refine a0n ?_|refine a0o ?_|refine a0k ?_)|refine a0t ?_|refine a1v ?_|refine a1b ?_)|(first|(refine a7n ?_;first|refine a7p rfl ?_|refine a2c (a0l rfl) rfl ?_|refine a2c (a0e rfl) rfl ?_|refine a2c (a0f rfl rfl) rfl ?_|refine a2c (a0w rfl rfl) rfl ?_|refine a2c (a0m rfl rfl rfl) rfl ?_|refine a2c (a1h rfl rfl rfl) rfl ?_|refine a2c (a0j rfl (by with_reducible rfl) rfl) rfl ?_|refine a2c (a0i rfl (by with_reducible rfl) rfl) rfl ?_|refine a2c (a0p rfl) rfl ?_|refine a2c (a3l rfl rfl) rfl ?_|refine a2c (a0s rfl rfl) rfl ?_|refine a2c (a0y rfl (by with_reducible rfl)) rfl ?_|refine a2c (a1r rfl (by with_reducible rfl)) rfl ?_)|refine a4o rfl ?_|(refine a7o ?_;first|refine a7q ?_)|refine a3r ?_|refine a3j ?_))
      all_goals first
        | (exfalso; omega)
        | (refine ret3 (by first | exact .inr rfl | exact .inl rfl) rfl rfl rfl rfl ?_
           exact ⟨rfl, rfl⟩)
    | nil =>
      by_cases h9 : 1 ≤ l.length ∧ l.length ≤ 9
      · have hA := b9i (w0 := w0) (base := base) (s := l) (g := 77) (p := pDigit) (by omega) (fun b => b1n)
        obtain ⟨al, hal⟩ : ∃ al, al = l.all pDigit := ⟨_, rfl⟩
        obtain ⟨eq, heq⟩ : ∃ eq, eq = (l :: L).all fun x => decide (x = l) := ⟨_, rfl⟩
        have hCF := b0n (w0 := w0) (base := base) (xs := l :: L) (l := l) (by simp only [List.length_cons] at hl1 ⊢; omega)
        rw [← hal] at hA
        rw [← heq] at hCF
        cases al with
        | true =>
          have hAt := c7d (w0 := w0) (base := base) (l := l) hal.symm (by intro e; subst e; simp at h9) h9.2
          cases eq with
          | true =>
            repeat' (first|(first|refine a3b (id := 1) [] [⟨0,true,[],bl 6 4⟩,⟨2,true,[],bl 6 3⟩,⟨1,false,[],[]⟩,⟨3,false,[],[]⟩,⟨4,true,[],bl 6 15⟩,⟨5,true,[],bl 6 31⟩] (by kernel_rfl) (by kernel_rfl) rfl (by kernel_rfl) ?_|(refine a0d ?_;refine a0q rfl rfl rfl rfl hV1 ?_;rintro _ rfl)|(refine a0d ?_;refine a0q rfl rfl rfl rfl hV2 ?_;rintro _ rfl)|(refine a0d ?_;refine a0b (a3k (L.length + 1) rfl hll) rfl ?_)|(refine a0d ?_;refine a0b (a3k 0 rfl rfl) rfl ?_)|refine a0b (a2j rfl rfl (by decide) rfl rfl) rfl ?_|(refine a0d ?_;refine a0q rfl rfl rfl rfl hA ?_;rintro _ rfl)|refine a0b (a5e rfl) rfl ?_|(refine a0d ?_;refine a0v [1] rfl rfl hCF (by repeat constructor) (by repeat constructor) rfl rfl ?_;rintro _ _ ⟨rfl,rfl⟩;refine ⟨_,_,by repeat constructor,by repeat constructor,?_⟩)|(refine a0d ?_;refine a0q rfl rfl rfl rfl hAt ?_;rintro _ rfl))|(refine a2k ?_;first|refine a0b (a0l rfl) rfl ?_|(refine k_g ?_;first|refine a1j rfl rfl (by with_reducible rfl) ?_|refine a1w rfl rfl (by with_reducible rfl) rfl ?_|refine a1t rfl rfl (by with_reducible rfl) rfl ?_|(refine a1z rfl rfl (fun hc => ?_) (fun hc => ?_) <;> (try (exfalso;omega))))|refine a0b (a0f rfl rfl) rfl ?_|(refine a1g ?_;first|refine a0b (a0w rfl rfl) rfl ?_|refine a0b (a0m rfl rfl rfl) rfl ?_)|(refine a1a ?_;first|refine a0b (a1h rfl rfl rfl) rfl ?_|refine a0b (a3l rfl rfl) rfl ?_)|(refine a1i ?_;first|refine a0b (a0j rfl (by with_reducible rfl) rfl) rfl ?_|refine a0b (a0i rfl (by with_reducible rfl) rfl) rfl ?_)|refine a0b (a0e rfl) rfl ?_|(refine a0d ?_;first|refine a0b (a0p rfl) rfl ?_)|refine a0b (a0s rfl rfl) rfl ?_|refine a0u ?_|refine a2g rfl rfl rfl (by first|exact ln0|exact ln1) (by repeat constructor) rfl ?_|refine a0z rfl rfl rfl (by first|exact ln0|exact ln1) (by repeat constructor) rfl ?_|refine a1c rfl rfl rfl rfl rfl (by repeat constructor) (by repeat constructor) ?_|refine a0b (a0y rfl (by with_reducible rfl)) rfl ?_|refine a0b (a1r rfl (by with_reducible rfl)) rfl ?_)|(first|refine a1n ?_|(refine a1o ?_;first|refine a0c (a0a ?_)|refine a0c ?_|refine a0a ?_|(refine a0x ?_;first|refine a0g rfl (by with_reducible rfl) ?_|refine a0h rfl (by with_reducible rfl) ?_|(refine a0r rfl (fun hc => ?_) (fun hc => ?_) <;> (try (exfalso;omega)))|(refine a2p rfl (fun hc => ?_) (fun hc => ?_) <;> (try (exact absurd hc (by decide)))))|refine a0n ?_|refine a0o ?_|refine a0k ?_)|refine a0t ?_|refine a1v ?_|refine a1b ?_)|(first|(refine a7n ?_;first|refine a7p rfl ?_|refine a2c (a0l rfl) rfl ?_|refine a2c (a0e rfl) rfl ?_|refine a2c (a0f rfl rfl) rfl ?_|refine a2c (a0w rfl rfl) rfl ?_|refine a2c (a0m rfl rfl rfl) rfl ?_|refine a2c (a1h rfl rfl rfl) rfl ?_|refine a2c (a0j rfl (by with_reducible rfl) rfl) rfl ?_|refine a2c (a0i rfl (by with_reducible rfl) rfl) rfl ?_|refine a2c (a0p rfl) rfl ?_|refine a2c (a3l rfl rfl) rfl ?_|refine a2c (a0s rfl rfl) rfl ?_|refine a2c (a0y rfl (by with_reducible rfl)) rfl ?_|refine a2c (a1r rfl (by with_reducible rfl)) rfl ?_)|refine a4o rfl ?_|(refine a7o ?_;first|refine a7q ?_)|refine a3r ?_|refine a3j ?_))
            all_goals first
              | (exfalso; omega)
              | (refine ret3 (by first | exact .inr rfl | exact .inl rfl) rfl rfl rfl rfl ?_
                 rw [bodyL, if_neg (by rintro (k | k | k | k) <;> first | omega | (rw [← hal] at k; cases k) | (rw [← heq] at k; cases k)), if_pos (by omega)]
                 exact ⟨rfl, rfl⟩)
              | (refine ret3 (by first | exact .inr rfl | exact .inl rfl) rfl rfl rfl rfl ?_
                 rw [bodyL, if_neg (by rintro (k | k | k | k) <;> first | omega | (rw [← hal] at k; cases k) | (rw [← heq] at k; cases k)), if_neg (by omega)]
                 exact ⟨rfl, rfl⟩)
          | false =>
            repeat' (first|(first|refine a3b (id := 1) [] [⟨0,true,[],bl 6 4⟩,⟨2,true,[],bl 6 3⟩,⟨1,false,[],[]⟩,⟨3,false,[],[]⟩,⟨4,true,[],bl 6 15⟩,⟨5,true,[],bl 6 31⟩] (by kernel_rfl) (by kernel_rfl) rfl (by kernel_rfl) ?_|(refine a0d ?_;refine a0q rfl rfl rfl rfl hV1 ?_;rintro _ rfl)|(refine a0d ?_;refine a0q rfl rfl rfl rfl hV2 ?_;rintro _ rfl)|(refine a0d ?_;refine a0b (a3k (L.length + 1) rfl hll) rfl ?_)|(refine a0d ?_;refine a0b (a3k 0 rfl rfl) rfl ?_)|refine a0b (a2j rfl rfl (by decide) rfl rfl) rfl ?_|(refine a0d ?_;refine a0q rfl rfl rfl rfl hA ?_;rintro _ rfl)|refine a0b (a5e rfl) rfl ?_|(refine a0d ?_;refine a0v [1] rfl rfl hCF (by repeat constructor) (by repeat constructor) rfl rfl ?_;rintro _ _ ⟨rfl,rfl⟩;refine ⟨_,_,by repeat constructor,by repeat constructor,?_⟩))|(refine a2k ?_;first|refine a0b (a0l rfl) rfl ?_|(refine k_g ?_;first|refine a1j rfl rfl (by with_reducible rfl) ?_|refine a1w rfl rfl (by with_reducible rfl) rfl ?_|refine a1t rfl rfl (by with_reducible rfl) rfl ?_|(refine a1z rfl rfl (fun hc => ?_) (fun hc => ?_) <;> (try (exfalso;omega))))|refine a0b (a0f rfl rfl) rfl ?_|(refine a1g ?_;first|refine a0b (a0w rfl rfl) rfl ?_|refine a0b (a0m rfl rfl rfl) rfl ?_)|(refine a1a ?_;first|refine a0b (a1h rfl rfl rfl) rfl ?_|refine a0b (a3l rfl rfl) rfl ?_)|(refine a1i ?_;first|refine a0b (a0j rfl (by with_reducible rfl) rfl) rfl ?_|refine a0b (a0i rfl (by with_reducible rfl) rfl) rfl ?_)|refine a0b (a0e rfl) rfl ?_|(refine a0d ?_;first|refine a0b (a0p rfl) rfl ?_)|refine a0b (a0s rfl rfl) rfl ?_|refine a0u ?_|refine a2g rfl rfl rfl (by first|exact ln0|exact ln1) (by repeat constructor) rfl ?_|refine a0z rfl rfl rfl (by first|exact ln0|exact ln1) (by repeat constructor) rfl ?_|refine a1c rfl rfl rfl rfl rfl (by repeat constructor) (by repeat constructor) ?_|refine a0b (a0y rfl (by with_reducible rfl)) rfl ?_|refine a0b (a1r rfl (by with_reducible rfl)) rfl ?_)|(first|refine a1n ?_|(refine a1o ?_;first|refine a0c (a0a ?_)|refine a0c ?_|refine a0a ?_|(refine a0x ?_;first|refine a0g rfl (by with_reducible rfl) ?_|refine a0h rfl (by with_reducible rfl) ?_|(refine a0r rfl (fun hc => ?_) (fun hc => ?_) <;> (try (exfalso;omega)))|(refine a2p rfl (fun hc => ?_) (fun hc => ?_) <;> (try (exact absurd hc (by decide)))))|refine a0n ?_|refine a0o ?_|refine a0k ?_)|refine a0t ?_|refine a1v ?_|refine a1b ?_)|(first|(refine a7n ?_;first|refine a7p rfl ?_|refine a2c (a0l rfl) rfl ?_|refine a2c (a0e rfl) rfl ?_|refine a2c (a0f rfl rfl) rfl ?_|refine a2c (a0w rfl rfl) rfl ?_|refine a2c (a0m rfl rfl rfl) rfl ?_|refine a2c (a1h rfl rfl rfl) rfl ?_|refine a2c (a0j rfl (by with_reducible rfl) rfl) rfl ?_|refine a2c (a0i rfl (by with_reducible rfl) rfl) rfl ?_|refine a2c (a0p rfl) rfl ?_|refine a2c (a3l rfl rfl) rfl ?_|refine a2c (a0s rfl rfl) rfl ?_|refine a2c (a0y rfl (by with_reducible rfl)) rfl ?_|refine a2c (a1r rfl (by with_reducible rfl)) rfl ?_)|refine a4o rfl ?_|(refine a7o ?_;first|refine a7q ?_)|refine a3r ?_|refine a3j ?_))
            all_goals first
              | (exfalso; omega)
              | (refine ret3 (by first | exact .inr rfl | exact .inl rfl) rfl rfl rfl rfl ?_
                 rw [bodyL, if_pos (.inr (.inr (.inr heq.symm)))]
                 exact ⟨rfl, rfl⟩)
        | false =>
          repeat' (first|(first|refine a3b (id := 1) [] [⟨0,true,[],bl 6 4⟩,⟨2,true,[],bl 6 3⟩,⟨1,false,[],[]⟩,⟨3,false,[],[]⟩,⟨4,true,[],bl 6 15⟩,⟨5,true,[],bl 6 31⟩] (by kernel_rfl) (by kernel_rfl) rfl (by kernel_rfl) ?_|(refine a0d ?_;refine a0q rfl rfl rfl rfl hV1 ?_;rintro _ rfl)|(refine a0d ?_;refine a0q rfl rfl rfl rfl hV2 ?_;rintro _ rfl)|(refine a0d ?_;refine a0b (a3k (L.length + 1) rfl hll) rfl ?_)|(refine a0d ?_;refine a0b (a3k 0 rfl rfl) rfl ?_)|refine a0b (a2j rfl rfl (by decide) rfl rfl) rfl ?_|(refine a0d ?_;refine a0q rfl rfl rfl rfl hA ?_;rintro _ rfl))|(refine a2k ?_;first|refine a0b (a0l rfl) rfl ?_|(refine k_g ?_;first|refine a1j rfl rfl (by with_reducible rfl) ?_|refine a1w rfl rfl (by with_reducible rfl) rfl ?_|refine a1t rfl rfl (by with_reducible rfl) rfl ?_|(refine a1z rfl rfl (fun hc => ?_) (fun hc => ?_) <;> (try (exfalso;omega))))|refine a0b (a0f rfl rfl) rfl ?_|(refine a1g ?_;first|refine a0b (a0w rfl rfl) rfl ?_|refine a0b (a0m rfl rfl rfl) rfl ?_)|(refine a1a ?_;first|refine a0b (a1h rfl rfl rfl) rfl ?_|refine a0b (a3l rfl rfl) rfl ?_)|(refine a1i ?_;first|refine a0b (a0j rfl (by with_reducible rfl) rfl) rfl ?_|refine a0b (a0i rfl (by with_reducible rfl) rfl) rfl ?_)|refine a0b (a0e rfl) rfl ?_|(refine a0d ?_;first|refine a0b (a0p rfl) rfl ?_)|refine a0b (a0s rfl rfl) rfl ?_|refine a0u ?_|refine a2g rfl rfl rfl (by first|exact ln0|exact ln1) (by repeat constructor) rfl ?_|refine a0z rfl rfl rfl (by first|exact ln0|exact ln1) (by repeat constructor) rfl ?_|refine a1c rfl rfl rfl rfl rfl (by repeat constructor) (by repeat constructor) ?_|refine a0b (a0y rfl (by with_reducible rfl)) rfl ?_|refine a0b (a1r rfl (by with_reducible rfl)) rfl ?_)|(first|refine a1n ?_|(refine a1o ?_;first|refine a0c (a0a ?_)|refine a0c ?_|refine a0a ?_|(refine a0x ?_;first|refine a0g rfl (by with_reducible rfl) ?_|refine a0h rfl (by with_reducible rfl) ?_|(refine a0r rfl (fun hc => ?_) (fun hc => ?_) <;> (try (exfalso;omega)))|(refine a2p rfl (fun hc => ?_) (fun hc => ?_) <;> (try (exact absurd hc (by decide)))))|refine a0n ?_|refine a0o ?_|refine a0k ?_)|refine a0t ?_|refine a1v ?_|refine a1b ?_)|(first|(refine a7n ?_;first|refine a7p rfl ?_|refine a2c (a0l rfl) rfl ?_|refine a2c (a0e rfl) rfl ?_|refine a2c (a0f rfl rfl) rfl ?_|refine a2c (a0w rfl rfl) rfl ?_|refine a2c (a0m rfl rfl rfl) rfl ?_|refine a2c (a1h rfl rfl rfl) rfl ?_|refine a2c (a0j rfl (by with_reducible rfl) rfl) rfl ?_|refine a2c (a0i rfl (by with_reducible rfl) rfl) rfl ?_|refine a2c (a0p rfl) rfl ?_|refine a2c (a3l rfl rfl) rfl ?_|refine a2c (a0s rfl rfl) rfl ?_|refine a2c (a0y rfl (by with_reducible rfl)) rfl ?_|refine a2c (a1r rfl (by with_reducible rfl)) rfl ?_)|refine a4o rfl ?_|(refine a7o ?_;first|refine a7q ?_)|refine a3r ?_|refine a3j ?_))
          all_goals first
            | (exfalso; omega)
            | (refine ret3 (by first | exact .inr rfl | exact .inl rfl) rfl rfl rfl rfl ?_
               rw [bodyL, if_pos (.inr (.inr (.inl hal.symm)))]
               exact ⟨rfl, rfl⟩)
      · repeat' (first|(first|refine a3b (id := 1) [] [⟨0,true,[],bl 6 4⟩,⟨2,true,[],bl 6 3⟩,⟨1,false,[],[]⟩,⟨3,false,[],[]⟩,⟨4,true,[],bl 6 15⟩,⟨5,true,[],bl 6 31⟩] (by kernel_rfl) (by kernel_rfl) rfl (by kernel_rfl) ?_|(refine a0d ?_;refine a0q rfl rfl rfl rfl hV1 ?_;rintro _ rfl)|(refine a0d ?_;refine a0q rfl rfl rfl rfl hV2 ?_;rintro _ rfl)|(refine a0d ?_;refine a0b (a3k (L.length + 1) rfl hll) rfl ?_)|(refine a0d ?_;refine a0b (a3k 0 rfl rfl) rfl ?_)|refine a0b (a2j rfl rfl (by decide) rfl rfl) rfl ?_)|(refine a2k ?_;first|refine a0b (a0l rfl) rfl ?_|(refine k_g ?_;first|refine a1j rfl rfl (by with_reducible rfl) ?_|refine a1w rfl rfl (by with_reducible rfl) rfl ?_|refine a1t rfl rfl (by with_reducible rfl) rfl ?_|(refine a1z rfl rfl (fun hc => ?_) (fun hc => ?_) <;> (try (exfalso;omega))))|refine a0b (a0f rfl rfl) rfl ?_|(refine a1g ?_;first|refine a0b (a0w rfl rfl) rfl ?_|refine a0b (a0m rfl rfl rfl) rfl ?_)|(refine a1a ?_;first|refine a0b (a1h rfl rfl rfl) rfl ?_|refine a0b (a3l rfl rfl) rfl ?_)|(refine a1i ?_;first|refine a0b (a0j rfl (by with_reducible rfl) rfl) rfl ?_|refine a0b (a0i rfl (by with_reducible rfl) rfl) rfl ?_)|refine a0b (a0e rfl) rfl ?_|(refine a0d ?_;first|refine a0b (a0p rfl) rfl ?_)|refine a0b (a0s rfl rfl) rfl ?_|refine a0u ?_|refine a2g rfl rfl rfl (by first|exact ln0|exact ln1) (by repeat constructor) rfl ?_|refine a0z rfl rfl rfl (by first|exact ln0|exact ln1) (by repeat constructor) rfl ?_|refine a1c rfl rfl rfl rfl rfl (by repeat constructor) (by repeat constructor) ?_|refine a0b (a0y rfl (by with_reducible rfl)) rfl ?_|refine a0b (a1r rfl (by with_reducible rfl)) rfl ?_)|(first|refine a1n ?_|(refine a1o ?_;first|refine a0c (a0a ?_)|refine a0c ?_|refine a0a ?_|(refine a0x ?_;first|refine a0g rfl (by with_reducible rfl) ?_|refine a0h rfl (by with_reducible rfl) ?_|(refine a0r rfl (fun hc => ?_) (fun hc => ?_) <;> (try (exfalso;omega)))|(refine a2p rfl (fun hc => ?_) (fun hc => ?_) <;> (try (exact absurd hc (by decide)))))|refine a0n ?_|refine a0o ?_|refine a0k ?_)|refine a0t ?_|refine a1v ?_|refine a1b ?_)|(first|(refine a7n ?_;first|refine a7p rfl ?_|refine a2c (a0l rfl) rfl ?_|refine a2c (a0e rfl) rfl ?_|refine a2c (a0f rfl rfl) rfl ?_|refine a2c (a0w rfl rfl) rfl ?_|refine a2c (a0m rfl rfl rfl) rfl ?_|refine a2c (a1h rfl rfl rfl) rfl ?_|refine a2c (a0j rfl (by with_reducible rfl) rfl) rfl ?_|refine a2c (a0i rfl (by with_reducible rfl) rfl) rfl ?_|refine a2c (a0p rfl) rfl ?_|refine a2c (a3l rfl rfl) rfl ?_|refine a2c (a0s rfl rfl) rfl ?_|refine a2c (a0y rfl (by with_reducible rfl)) rfl ?_|refine a2c (a1r rfl (by with_reducible rfl)) rfl ?_)|refine a4o rfl ?_|(refine a7o ?_;first|refine a7q ?_)|refine a3r ?_|refine a3j ?_))
        all_goals first
          | (exfalso; omega)
          | (refine ret3 (by first | exact .inr rfl | exact .inl rfl) rfl rfl rfl rfl ?_
             rw [bodyL, if_pos (by omega)]
             exact ⟨rfl, rfl⟩)
end
end Go.Proofs.YtkljmljkiodnpaaGreatDoor.L

namespace Go.Proofs.YtkljmljkiodnpaaGreatDoor.L
open Go Go.RowKit Go.Proofs
attribute [local irreducible] AL QL AWp Thn InB RetQ ACalls LoopQ HL HO HW HQ NoG

def cnS : List UInt8 := [99, 111, 110, 110, 101, 99, 116, 105, 111, 110]
def coS : List UInt8 := [99, 108, 111, 115, 101]
def kaS : List UInt8 := [107, 101, 101, 112, 45, 97, 108, 105, 118, 101]
def wOf (w : List UInt8) : List UInt8 := smallS (Lib.trimS w [32, 9])
def wordsOf (vs : List (List UInt8)) : List (List UInt8) := vs.flatMap fun v => (splitB 44 v).map wOf
def closesS (h : Hd) : Bool := decide (coS ∈ wordsOf (valsOf h.fs cnS)) || (decide (h.v = 0) && !decide (kaS ∈ wordsOf (valsOf h.fs cnS)))
theorem b0q (c : UInt8) : ∀ l : List UInt8, (splitB c l).length ≤ l.length + 1 := by
  intro l
  induction l with
  | nil => exact Nat.le_refl _
  | cons b r ih =>
    rw [splitB]
    split
    · simp only [List.length_cons]; omega
    · simp only [List.length_cons, List.length_tail]; omega
theorem b7j (c : UInt8) : ∀ (l p : List UInt8), p ∈ splitB c l → p.length ≤ l.length := by
  intro l
  induction l with
  | nil => intro p h; simp [splitB] at h; subst h; exact Nat.le_refl _
  | cons b r ih =>
    intro p h
    rw [splitB] at h
    split at h
    · rcases List.mem_cons.1 h with rfl | h
      · simp
      · have := ih p h; simp only [List.length_cons]; omega
    · rcases List.mem_cons.1 h with rfl | h
      · have hh : (splitB c r).headD [] ∈ splitB c r := by
          cases hs : splitB c r with
          | nil => exact absurd hs (b8w c r)
          | cons a t => simp
        have := ih _ hh
        simp only [List.length_cons]; omega
      · have := ih p (List.mem_of_mem_tail h); simp only [List.length_cons]; omega
theorem b4k {vs : List (List UInt8)} {B : Nat} : (∀ v ∈ vs, v.length ≤ B) → (wordsOf vs).length ≤ vs.length * (B + 1) := by
  induction vs with
  | nil => intro _; simp [wordsOf]
  | cons v vs ih =>
    intro h
    have h1 := ih fun x hx => h x (by simp [hx])
    have h2 := b0q 44 v
    have h3 := h v (by simp)
    have : wordsOf (v :: vs) = (splitB 44 v).map wOf ++ wordsOf vs := rfl
    rw [this, List.length_append, List.length_map, List.length_cons, Nat.succ_mul]
    omega
theorem b2n {vs : List (List UInt8)} {i : Nat} {v : List UInt8} (h : vs[i]? = some v) : wordsOf (vs.take (i + 1)) = wordsOf (vs.take i) ++ (splitB 44 v).map wOf := by
  unfold wordsOf
  rw [List.take_add_one, h, List.flatMap_append]
  simp
theorem a5u (vs : List (List UInt8)) (i : Nat) : (wordsOf (vs.take i)).length ≤ (wordsOf vs).length := by
  have : wordsOf vs = wordsOf (vs.take i) ++ wordsOf (vs.drop i) := by
    unfold wordsOf
    rw [← List.flatMap_append, List.take_append_drop]
  rw [this, List.length_append]
  omega
section
variable {w0 : World} {base : Nat}
set_option maxHeartbeats 2000000 in
theorem c2j {xs : List (List UInt8)} {v : List UInt8} (hx : xs.length ≤ 140737488351232) : PCalls (EE w0 base) 138 [.rs (strAV xs), .str v] fun rv => ∃ k, rv = .int .i64 k ∧ (0 ≤ k ↔ v ∈ xs) := by
  refine a1s Tryz.func138 rfl rfl rfl (.cons (.cons .nil)) ?_
  have hxl := a4u xs
  repeat' (first|(refine a2k ?_;first|refine a0b (a0l rfl) rfl ?_|(refine a1g ?_;first|refine a0b (a0w rfl rfl) rfl ?_)|(refine a1a ?_;first|refine a0b (a1h rfl rfl rfl) rfl ?_|refine a0b (a1p rfl rfl (by (first|exact w64 (by omega) (by omega)|rfl))) rfl ?_|refine a0b (a2t rfl rfl) rfl ?_)|refine a0b (a0e rfl) rfl ?_|(refine a0d ?_;first|refine a0b (a2f rfl) rfl ?_)|refine a0u ?_)|(first|refine a1n ?_|(refine a1o ?_;first|refine a0c (a0a ?_)|refine a0c ?_|refine a0a ?_|(refine a0x ?_;first|(refine a0r rfl (fun hc => ?_) (fun hc => ?_) <;> (try (exfalso;omega))))|refine a0n ?_|refine a0o ?_|refine a0k ?_|refine a1f ?_)|refine a0t ?_|refine a1q ?_|refine a2b ?_|refine a1d ?_|refine a1v ?_|refine a1b ?_|refine a1e ?_))
  refine a2o (fun k : Nat => ⟨[(0, .rs (strAV xs)), (1, .str v), (7, .int .i64 ((strAV xs).length : Int)), (8, .int .i64 k)], []⟩) (fun k => k ≤ xs.length ∧ v ∉ xs.take k) (fun k => xs.length - k) 0 (.of (.same (by repeat constructor))) ⟨Nat.zero_le _, by simp⟩ ?_
  rintro i ⟨hi, hno⟩
  try dsimp only
  by_cases hlt : i < xs.length
  · obtain ⟨p, hp⟩ : ∃ p, xs[i]? = some p := ⟨_, List.getElem?_eq_getElem hlt⟩
    have hrow := a6d hp
    repeat' (first|((refine a0b (a2j rfl rfl (by omega) hrow rfl) rfl ?_))|(refine a2k ?_;first|refine a0b (a0l rfl) rfl ?_|(refine a1g ?_;first|refine a0b (a0w rfl rfl) rfl ?_)|(refine a1a ?_;first|refine a0b (a1h rfl rfl rfl) rfl ?_|refine a0b (a1p rfl rfl (by (first|exact w64 (by omega) (by omega)|rfl))) rfl ?_|refine a0b (a2t rfl rfl) rfl ?_)|refine a0b (a0e rfl) rfl ?_|(refine a0d ?_;first|refine a0b (a2f rfl) rfl ?_)|refine a0u ?_)|(first|refine a1n ?_|(refine a1o ?_;first|refine a0c (a0a ?_)|refine a0c ?_|refine a0a ?_|(refine a0x ?_;first|(refine a0r rfl (fun hc => ?_) (fun hc => ?_) <;> (try (exfalso;omega))))|refine a0n ?_|refine a0o ?_|refine a0k ?_|refine a1f ?_)|refine a0t ?_|refine a1q ?_|refine a2b ?_|refine a1d ?_|refine a1v ?_|refine a1b ?_|refine a1e ?_))
    · refine ret1 (by first | exact .inr rfl | exact .inl rfl) rfl rfl ?_
      refine ⟨⟨_, rfl, fun _ => ?_, fun _ => by omega⟩, rfl⟩
      rw [show v = p from ‹_›]
      exact List.mem_of_getElem? hp
    · first | refine a1y (i + 1) (.of (.same (by repeat constructor))) ?_ ?_ | fail
      · refine ⟨by omega, ?_⟩
        rw [List.take_add_one, hp, List.mem_append]
        rintro (k | k)
        · exact hno k
        · exact (‹¬v = p›) (by simpa using k)
      · omega
  · repeat' (first|(refine a2k ?_;first|refine a0b (a0l rfl) rfl ?_|(refine a1g ?_;first|refine a0b (a0w rfl rfl) rfl ?_)|(refine a1a ?_;first|refine a0b (a1h rfl rfl rfl) rfl ?_|refine a0b (a1p rfl rfl (by (first|exact w64 (by omega) (by omega)|rfl))) rfl ?_|refine a0b (a2t rfl rfl) rfl ?_)|refine a0b (a0e rfl) rfl ?_|(refine a0d ?_;first|refine a0b (a2f rfl) rfl ?_)|refine a0u ?_)|(first|refine a1n ?_|(refine a1o ?_;first|refine a0c (a0a ?_)|refine a0c ?_|refine a0a ?_|(refine a0x ?_;first|(refine a0r rfl (fun hc => ?_) (fun hc => ?_) <;> (try (exfalso;omega))))|refine a0n ?_|refine a0o ?_|refine a0k ?_|refine a1f ?_)|refine a0t ?_|refine a1q ?_|refine a2b ?_|refine a1d ?_|refine a1v ?_|refine a1b ?_|refine a1e ?_))
    rw [List.take_of_length_le (by omega)] at hno
    refine ret1 (by first | exact .inr rfl | exact .inl rfl) rfl rfl ?_
    exact ⟨⟨_, rfl, fun k => absurd k (by decide), fun k => absurd k hno⟩, rfl⟩
theorem b0t {xs : List (List UInt8)} {v : List UInt8} (hx : xs.length ≤ 140737488351232) : PCalls (EE w0 base) 90 [.rs (strAV xs), .str v] fun rv => rv = .bool (decide (v ∈ xs)) := by
  have hI := c2j (w0 := w0) (base := base) (v := v) hx
  refine a1s Tryz.func90 rfl rfl rfl (.cons (.cons .nil)) ?_
  repeat' (first | ((refine a0d ?_; refine a0q rfl rfl rfl rfl hI ?_; rintro _ ⟨k, rfl, hk⟩)) | (refine a2k ?_; first | (refine a0b (a0l rfl) rfl ?_) | (refine a1a ?_; first | (refine a0b (a1h rfl rfl rfl) rfl ?_)) | (refine a0b (a0e rfl) rfl ?_) | (refine a0u ?_)) | (first | (refine a1n ?_) | (refine a1o ?_; first | (refine a0c (a0a ?_)) | (refine a0c ?_) | (refine a0a ?_) | (refine a0o ?_))))
  refine ret1 (by first | exact .inr rfl | exact .inl rfl) rfl rfl ?_
  refine ⟨congrArg AV.bool ?_, rfl⟩
  rw [Bool.eq_iff_iff, decide_eq_true_eq, decide_eq_true_eq]
  exact hk
set_option maxHeartbeats 4000000 in
theorem c2k {h : Hd} (hG : Glob w0 base) (ht : Tiny h) : PCalls (EE w0 base) 50 [hdAV h.m h.t h.v h.fs] fun rv => rv = .bool (closesS h) := by
  have hf := ht.f
  have hV1 := a6t (w0 := w0) (base := base) (m := h.m) (t := h.t) (v := h.v) (fs := h.fs) (name := cnS) (by decide) (by omega)
  have hl1 := a5k h.fs cnS
  have hm1 : ∀ x ∈ valsOf h.fs cnS, x.length ≤ 1048580 := fun x hx => a8x ht hx
  have hwl := b4k hm1
  have hwl2 : (valsOf h.fs cnS).length * (1048580 + 1) ≤ 1048580 * 1048581 := Nat.mul_le_mul (by omega) (Nat.le_refl _)
  refine a1s Tryz.func50 rfl rfl rfl (.cons .nil) ?_
  unfold closesS
  revert hV1 hl1 hm1 hwl hwl2
  generalize valsOf h.fs cnS = V
  intro hV1 hl1 hm1 hwl hwl2
  have hVl := a4u V
  obtain ⟨W, hW⟩ : ∃ W, W = wordsOf V := ⟨_, rfl⟩
  repeat' (first|((refine a0d ?_;refine a0q rfl rfl rfl rfl hV1 ?_;rintro _ rfl))|(refine a2k ?_;first|refine a0b (a0l rfl) rfl ?_|(refine k_g ?_;first|refine a1j rfl rfl (by with_reducible rfl) ?_|refine a1w rfl rfl (by with_reducible rfl) rfl ?_|refine a1t rfl rfl (by with_reducible rfl) rfl ?_|refine a4a rfl rfl rfl ?_|(refine a1z rfl rfl (fun hc => ?_) (fun hc => ?_) <;> (try (exfalso;omega))))|refine a0b (a0f rfl rfl) rfl ?_|(refine a1g ?_;first|refine a0b (a0w rfl rfl) rfl ?_|refine a0b (a0m rfl rfl rfl) rfl ?_)|(refine a1a ?_;first|refine a0b (a1h rfl rfl rfl) rfl ?_|refine a0b (a1p rfl rfl (by (first|exact w64 (by omega) (by omega)|rfl))) rfl ?_)|(refine a1i ?_;first|refine a0b (a0j rfl (by with_reducible rfl) rfl) rfl ?_|refine a0b (a0i rfl (by with_reducible rfl) rfl) rfl ?_)|refine a0b (a0e rfl) rfl ?_|(refine a0d ?_;first|refine a0b (a2f rfl) rfl ?_)|refine a0u ?_|refine a2g rfl rfl rfl (by first|exact ln0|exact ln2) (by repeat constructor) rfl ?_|refine a2e (by rfl) (by rfl) (by rfl) (by rfl) (by decide) (by decide) (by rfl) (by rfl) (by repeat constructor) (by rfl) (by repeat constructor) (by rfl) (by first|exact ln0|exact ln2) (by repeat constructor) rfl ?_|refine a0b (a0y rfl (by with_reducible rfl)) rfl ?_|refine a0b (a1r rfl (by with_reducible rfl)) rfl ?_)|(first|refine a1n ?_|(refine a1o ?_;first|refine a0c (a0a ?_)|refine a0c ?_|refine a0a ?_|(refine a0x ?_;first|(refine a0r rfl (fun hc => ?_) (fun hc => ?_) <;> (try (exfalso;omega))))|refine a0n ?_|refine a0o ?_|refine a0k ?_|refine a1f ?_)|refine a1q ?_|refine a1d ?_|refine a1v ?_|refine a1e ?_))
  refine b0b 3 9 1 rfl (by decide) rfl (by repeat constructor) ?_
  refine a2o (fun p : Nat × Nat × List (List AV) => ⟨[(1, .op 0 0), (3, .os 1 p.2.1), (9, .rs (strAV V)), (10, .int .i64 ((strAV V).length : Int)), (11, .int .i64 p.1)], [.box [.str h.m, .str h.t, .int .i64 h.v, .rs (h.fs.map prAV)], .row 9 1 p.2.1 0 p.2.2]⟩)
    (fun p => p.1 ≤ V.length ∧ p.2.2 = strAV (wordsOf (V.take p.1))) (fun p => V.length - p.1) (0, 0, []) (.of (.same (by repeat constructor))) ⟨Nat.zero_le _, rfl⟩ ?_
  rintro ⟨i, ver, xs⟩ ⟨hi, hx⟩
  dsimp only at hi hx ⊢
  have hxl : xs.length ≤ W.length := by rw [hx, a4u, hW]; exact a5u V i
  rw [← hW] at hwl
  by_cases hlt : i < V.length
  · obtain ⟨v, hv⟩ : ∃ v, V[i]? = some v := ⟨_, List.getElem?_eq_getElem hlt⟩
    have hrow := a6d hv
    have hvl := hm1 v (List.mem_of_getElem? hv)
    have hS := c5e (w0 := w0) (base := base) (s := v) hG (by omega)
    have hnx := b2n hv
    have hmem := b7j 44 v
    have hPl := b0q 44 v
    have hnl : xs.length + (splitB 44 v).length ≤ W.length := by
      have := a5u V (i + 1)
      rw [hnx, List.length_append, List.length_map, ← hW] at this
      rw [hx, a4u]
      exact this
    revert hS hnx hmem hPl hnl
    generalize splitB 44 v = P
    intro hS hnx hmem hPl hnl
    have hPs := a4u P
    repeat' (first|(first|refine a0b (a2j rfl rfl (by omega) hrow rfl) rfl ?_|(refine a0d ?_;refine a0q rfl rfl rfl rfl hS ?_;rintro _ rfl))|(refine a2k ?_;first|refine a0b (a0l rfl) rfl ?_|(refine k_g ?_;first|refine a1j rfl rfl (by with_reducible rfl) ?_|refine a1w rfl rfl (by with_reducible rfl) rfl ?_|refine a1t rfl rfl (by with_reducible rfl) rfl ?_|refine a4a rfl rfl rfl ?_|(refine a1z rfl rfl (fun hc => ?_) (fun hc => ?_) <;> (try (exfalso;omega))))|refine a0b (a0f rfl rfl) rfl ?_|(refine a1g ?_;first|refine a0b (a0w rfl rfl) rfl ?_|refine a0b (a0m rfl rfl rfl) rfl ?_)|(refine a1a ?_;first|refine a0b (a1h rfl rfl rfl) rfl ?_|refine a0b (a1p rfl rfl (by (first|exact w64 (by omega) (by omega)|rfl))) rfl ?_)|(refine a1i ?_;first|refine a0b (a0j rfl (by with_reducible rfl) rfl) rfl ?_|refine a0b (a0i rfl (by with_reducible rfl) rfl) rfl ?_)|refine a0b (a0e rfl) rfl ?_|(refine a0d ?_;first|refine a0b (a2f rfl) rfl ?_)|refine a0u ?_|refine a2g rfl rfl rfl (by first|exact ln0|exact ln2) (by repeat constructor) rfl ?_|refine a2e (by rfl) (by rfl) (by rfl) (by rfl) (by decide) (by decide) (by rfl) (by rfl) (by repeat constructor) (by rfl) (by repeat constructor) (by rfl) (by first|exact ln0|exact ln2) (by repeat constructor) rfl ?_|refine a0b (a0y rfl (by with_reducible rfl)) rfl ?_|refine a0b (a1r rfl (by with_reducible rfl)) rfl ?_)|(first|refine a1n ?_|(refine a1o ?_;first|refine a0c (a0a ?_)|refine a0c ?_|refine a0a ?_|(refine a0x ?_;first|(refine a0r rfl (fun hc => ?_) (fun hc => ?_) <;> (try (exfalso;omega))))|refine a0n ?_|refine a0o ?_|refine a0k ?_|refine a1f ?_)|refine a1q ?_|refine a1d ?_|refine a1v ?_|refine a1e ?_))
    refine a2o (fun p : Nat × Nat × List (List AV) => ⟨[(1, .op 0 0), (3, .os 1 p.2.1), (9, .rs (strAV V)), (10, .int .i64 ((strAV V).length : Int)), (11, .int .i64 i), (16, .rs (strAV P)), (17, .int .i64 ((strAV P).length : Int)), (18, .int .i64 p.1)], [.box [.str h.m, .str h.t, .int .i64 h.v, .rs (h.fs.map prAV)], .row 9 1 p.2.1 0 p.2.2]⟩)
      (fun p => p.1 ≤ P.length ∧ p.2.2 = strAV (wordsOf (V.take i) ++ (P.take p.1).map wOf)) (fun p => P.length - p.1) (0, ver, xs) (.of (.same (by repeat constructor))) ⟨Nat.zero_le _, by rw [hx]; simp⟩ ?_
    rintro ⟨k, ver', ys⟩ ⟨hk, hy⟩
    dsimp only at hk hy ⊢
    have hyl : ys.length ≤ W.length := by
      rw [hy, a4u, List.length_append, List.length_map, List.length_take]
      rw [hx, a4u] at hnl
      omega
    by_cases hkt : k < P.length
    · obtain ⟨q, hq⟩ : ∃ q, P[k]? = some q := ⟨_, List.getElem?_eq_getElem hkt⟩
      have hrow2 := a6d hq
      have hql := hmem q (List.mem_of_getElem? hq)
      have hT := b6h (w0 := w0) (base := base) (s := q) (by omega)
      have htl := a8l q
      have hM := b1j (w0 := w0) (base := base) (s := Lib.trimS q [32, 9]) (by omega)
      repeat' (first|(first|refine a0b (a2j rfl rfl (by omega) hrow2 rfl) rfl ?_|(refine a0d ?_;refine a0q rfl rfl rfl rfl hT ?_;rintro _ rfl)|(refine a0d ?_;refine a0q rfl rfl rfl rfl hM ?_;rintro _ rfl)|(refine a0d ?_;refine a4d rfl rfl (by repeat constructor) (a6q rfl rfl) rfl (by decide) (by simp only [List.length_cons,List.length_nil];omega) rfl ?_))|(refine a2k ?_;first|refine a0b (a0l rfl) rfl ?_|(refine k_g ?_;first|refine a1j rfl rfl (by with_reducible rfl) ?_|refine a1w rfl rfl (by with_reducible rfl) rfl ?_|refine a1t rfl rfl (by with_reducible rfl) rfl ?_|refine a4a rfl rfl rfl ?_|(refine a1z rfl rfl (fun hc => ?_) (fun hc => ?_) <;> (try (exfalso;omega))))|refine a0b (a0f rfl rfl) rfl ?_|(refine a1g ?_;first|refine a0b (a0w rfl rfl) rfl ?_|refine a0b (a0m rfl rfl rfl) rfl ?_)|(refine a1a ?_;first|refine a0b (a1h rfl rfl rfl) rfl ?_|refine a0b (a1p rfl rfl (by (first|exact w64 (by omega) (by omega)|rfl))) rfl ?_)|(refine a1i ?_;first|refine a0b (a0j rfl (by with_reducible rfl) rfl) rfl ?_|refine a0b (a0i rfl (by with_reducible rfl) rfl) rfl ?_)|refine a0b (a0e rfl) rfl ?_|(refine a0d ?_;first|refine a0b (a2f rfl) rfl ?_)|refine a0u ?_|refine a2g rfl rfl rfl (by first|exact ln0|exact ln2) (by repeat constructor) rfl ?_|refine a2e (by rfl) (by rfl) (by rfl) (by rfl) (by decide) (by decide) (by rfl) (by rfl) (by repeat constructor) (by rfl) (by repeat constructor) (by rfl) (by first|exact ln0|exact ln2) (by repeat constructor) rfl ?_|refine a0b (a0y rfl (by with_reducible rfl)) rfl ?_|refine a0b (a1r rfl (by with_reducible rfl)) rfl ?_)|(first|refine a1n ?_|(refine a1o ?_;first|refine a0c (a0a ?_)|refine a0c ?_|refine a0a ?_|(refine a0x ?_;first|(refine a0r rfl (fun hc => ?_) (fun hc => ?_) <;> (try (exfalso;omega))))|refine a0n ?_|refine a0o ?_|refine a0k ?_|refine a1f ?_)|refine a1q ?_|refine a1d ?_|refine a1v ?_|refine a1e ?_))
      first|refine a1y (k + 1,ver' + 1,_) (.of (.same (by repeat constructor))) ?_ ?_|refine a1y (k + 1,ver' + 1,_) (.of (a2n [_] rfl (by repeat constructor) rfl (by repeat constructor) rfl)) ?_ ?_|refine a1y (k + 1,ver' + 1,_) (.of (a2n [_,_] rfl (by repeat constructor) rfl (by repeat constructor) rfl)) ?_ ?_|refine a1y (k + 1,ver' + 1,_) (.of (a2n [_,_,_] rfl (by repeat constructor) rfl (by repeat constructor) rfl)) ?_ ?_
      · refine ⟨by dsimp only; omega, ?_⟩
        dsimp only
        rw [hy, List.take_add_one, hq]
        simp [strAV, wOf]
      · dsimp only; omega
    · repeat' (first|(refine a2k ?_;first|refine a0b (a0l rfl) rfl ?_|(refine k_g ?_;first|refine a1j rfl rfl (by with_reducible rfl) ?_|refine a1w rfl rfl (by with_reducible rfl) rfl ?_|refine a1t rfl rfl (by with_reducible rfl) rfl ?_|refine a4a rfl rfl rfl ?_|(refine a1z rfl rfl (fun hc => ?_) (fun hc => ?_) <;> (try (exfalso;omega))))|refine a0b (a0f rfl rfl) rfl ?_|(refine a1g ?_;first|refine a0b (a0w rfl rfl) rfl ?_|refine a0b (a0m rfl rfl rfl) rfl ?_)|(refine a1a ?_;first|refine a0b (a1h rfl rfl rfl) rfl ?_|refine a0b (a1p rfl rfl (by (first|exact w64 (by omega) (by omega)|rfl))) rfl ?_)|(refine a1i ?_;first|refine a0b (a0j rfl (by with_reducible rfl) rfl) rfl ?_|refine a0b (a0i rfl (by with_reducible rfl) rfl) rfl ?_)|refine a0b (a0e rfl) rfl ?_|(refine a0d ?_;first|refine a0b (a2f rfl) rfl ?_)|refine a0u ?_|refine a2g rfl rfl rfl (by first|exact ln0|exact ln2) (by repeat constructor) rfl ?_|refine a2e (by rfl) (by rfl) (by rfl) (by rfl) (by decide) (by decide) (by rfl) (by rfl) (by repeat constructor) (by rfl) (by repeat constructor) (by rfl) (by first|exact ln0|exact ln2) (by repeat constructor) rfl ?_|refine a0b (a0y rfl (by with_reducible rfl)) rfl ?_|refine a0b (a1r rfl (by with_reducible rfl)) rfl ?_)|(first|refine a1n ?_|(refine a1o ?_;first|refine a0c (a0a ?_)|refine a0c ?_|refine a0a ?_|(refine a0x ?_;first|(refine a0r rfl (fun hc => ?_) (fun hc => ?_) <;> (try (exfalso;omega))))|refine a0n ?_|refine a0o ?_|refine a0k ?_|refine a1f ?_)|refine a1q ?_|refine a1d ?_|refine a1v ?_|refine a1e ?_))
      first|refine a1y (i + 1,ver',ys) (.of (.same (by repeat constructor))) ?_ ?_|refine a1y (i + 1,ver',ys) (.of (a2n [_] rfl (by repeat constructor) rfl (by repeat constructor) rfl)) ?_ ?_|refine a1y (i + 1,ver',ys) (.of (a2n [_,_] rfl (by repeat constructor) rfl (by repeat constructor) rfl)) ?_ ?_|refine a1y (i + 1,ver',ys) (.of (a2n [_,_,_] rfl (by repeat constructor) rfl (by repeat constructor) rfl)) ?_ ?_
      · refine ⟨by dsimp only; omega, ?_⟩
        dsimp only
        rw [hy, hnx, List.take_of_length_le (l := P) (by omega)]
      · dsimp only; omega
  · rw [List.take_of_length_le (by omega), ← hW] at hx
    subst hx
    have hC1 := b0t (w0 := w0) (base := base) (xs := W) (v := coS) (by omega)
    have hC2 := b0t (w0 := w0) (base := base) (xs := W) (v := kaS) (by omega)
    rw [← hW]
    obtain ⟨c1, hc1⟩ : ∃ c1, c1 = decide (coS ∈ W) := ⟨_, rfl⟩
    obtain ⟨c2, hc2⟩ : ∃ c2, c2 = decide (kaS ∈ W) := ⟨_, rfl⟩
    rw [← hc1] at hC1 ⊢
    rw [← hc2] at hC2 ⊢
    refine a4y (.freeze 3 rfl (by repeat constructor)) ?_
    cases c1
    all_goals
      cases c2
    all_goals
      repeat' (first|(first|(refine a0d ?_;refine a0q rfl rfl rfl rfl hC1 ?_;rintro _ rfl)|(refine a0d ?_;refine a0q rfl rfl rfl rfl hC2 ?_;rintro _ rfl))|(refine a2k ?_;first|refine a0b (a0l rfl) rfl ?_|(refine k_g ?_;first|refine a1j rfl rfl (by with_reducible rfl) ?_|refine a1w rfl rfl (by with_reducible rfl) rfl ?_|refine a1t rfl rfl (by with_reducible rfl) rfl ?_|refine a4a rfl rfl rfl ?_|(refine a1z rfl rfl (fun hc => ?_) (fun hc => ?_) <;> (try (exfalso;omega))))|refine a0b (a0f rfl rfl) rfl ?_|(refine a1g ?_;first|refine a0b (a0w rfl rfl) rfl ?_|refine a0b (a0m rfl rfl rfl) rfl ?_)|(refine a1a ?_;first|refine a0b (a1h rfl rfl rfl) rfl ?_|refine a0b (a1p rfl rfl (by (first|exact w64 (by omega) (by omega)|rfl))) rfl ?_)|(refine a1i ?_;first|refine a0b (a0j rfl (by with_reducible rfl) rfl) rfl ?_|refine a0b (a0i rfl (by with_reducible rfl) rfl) rfl ?_)|refine a0b (a0e rfl) rfl ?_|(refine a0d ?_;first|refine a0b (a2f rfl) rfl ?_)|refine a0u ?_|refine a2g rfl rfl rfl (by first|exact ln0|exact ln2) (by repeat constructor) rfl ?_|refine a2e (by rfl) (by rfl) (by rfl) (by rfl) (by decide) (by decide) (by rfl) (by rfl) (by repeat constructor) (by rfl) (by repeat constructor) (by rfl) (by first|exact ln0|exact ln2) (by repeat constructor) rfl ?_|refine a0b (a0y rfl (by with_reducible rfl)) rfl ?_|refine a0b (a1r rfl (by with_reducible rfl)) rfl ?_)|(first|refine a1n ?_|(refine a1o ?_;first|refine a0c (a0a ?_)|refine a0c ?_|refine a0a ?_|(refine a0x ?_;first|(refine a0r rfl (fun hc => ?_) (fun hc => ?_) <;> (try (exfalso;omega))))|refine a0n ?_|refine a0o ?_|refine a0k ?_|refine a1f ?_)|refine a1q ?_|refine a1d ?_|refine a1v ?_|refine a1e ?_))
    all_goals
      refine ret1 (by first | exact .inr rfl | exact .inl rfl) rfl rfl ?_
      refine ⟨congrArg AV.bool ?_, rfl⟩
      simp [*]
end
end Go.Proofs.YtkljmljkiodnpaaGreatDoor.L

namespace Go.Proofs.YtkljmljkiodnpaaGreatDoor.L
open Go Go.RowKit Go.Proofs
attribute [local irreducible] AL QL AWp Thn InB RetQ ACalls LoopQ HL HO HW HQ NoG

structure CInv (pre : List (List UInt8)) (v : List UInt8) (a k : Nat) (keep : Bool) (done : List (List UInt8)) : Prop where
  kle : k ≤ v.length + 1
  ale : a ≤ k
  co : coS ∉ done.map wOf
  ka : keep = decide (kaS ∈ pre ++ done.map wOf)
  rest : k ≤ v.length → splitB 44 v = done ++ splitB 44 (v.drop a) ∧ ∀ j, a ≤ j → j < k → v[j]? ≠ some 44
  all : k = v.length + 1 → splitB 44 v = done
theorem CInv.skip {pre : List (List UInt8)} {v : List UInt8} {a k : Nat} {keep : Bool} {done : List (List UInt8)} (h : CInv pre v a k keep done) (hk : k < v.length) (hc : byteAt v (k : Int) ≠ 44) : CInv pre v a (k + 1) keep done := by
  obtain ⟨h1, h2⟩ := h.rest (by omega)
  exact ⟨by omega, by have := h.ale; omega, h.co, h.ka, fun _ => ⟨h1, c5u (c := 44) hk h2 hc⟩, fun e => by omega⟩
section
variable {w0 : World} {base : Nat}
end
end Go.Proofs.YtkljmljkiodnpaaGreatDoor.L

namespace Go.Proofs.YtkljmljkiodnpaaGreatDoor.L
open Go Go.RowKit Go.Proofs
attribute [local irreducible] AL QL AWp Thn InB RetQ ACalls LoopQ HL HO HW HQ NoG JmpQ MidQ

inductive RS where
  | more
  | wrong
  | got (n k : Nat)
def endL (n k : Nat) : List UInt8 → RS
  | [] => .more
  | [c] => if c = 13 then .more else .wrong
  | c :: d :: _ => if c = 13 ∧ d = 10 then .got n (k + 2) else .wrong
def textB (c : UInt8) : Bool := decide (32 ≤ c.toNat ∧ c.toNat ≤ 126) || decide (c = 9)
def restL (n line k : Nat) : List UInt8 → RS
  | [] => .more
  | c :: r => if textB c = true then (if line + 1024 ≤ k then .wrong else restL n line (k + 1) r) else endL n k (c :: r)
def sizeL (line d n k : Nat) : List UInt8 → RS
  | [] => .more
  | c :: r => if 0 ≤ hexI c then (if d = 8 then .wrong else sizeL line (d + 1) (16 * n + (hexI c).toNat) (k + 1) r)
    else if d = 0 then .wrong else if c = 59 then restL n line (k + 1) r else endL n k (c :: r)
inductive CR where
  | more
  | bad (st : Int)
  | got (body : List UInt8) (k : Nat)
def afterL (s acc : List UInt8) (go : List UInt8 → Nat → CR) : RS → CR
  | .more => .more
  | .wrong => .bad 400
  | .got n k => if 16384 < acc.length + n then .bad 413 else if s.length < k + n then .more else match endL 0 (k + n) (s.drop (k + n)) with
    | .more => .more
    | .wrong => .bad 400
    | .got _ e => if n = 0 then .got (acc ++ (s.take (k + n)).drop k) e else go (acc ++ (s.take (k + n)).drop k) e
def chunksF : Nat → List UInt8 → List UInt8 → Nat → CR
  | 0, _, _, _ => .more
  | f + 1, s, acc, at' => afterL s acc (chunksF f s) (sizeL at' 0 0 at' (s.drop at'))
def chunksS (s : List UInt8) (at' : Nat) : CR := chunksF (s.length + 1) s [] at'
def nlI (l : List UInt8) : Int := match endL 0 0 l with
  | .got _ _ => 0
  | .more => 1
  | .wrong => 2
theorem b6z {n k m e : Nat} {l : List UInt8} (h : endL n k l = .got m e) : m = n ∧ e = k + 2 ∧ 2 ≤ l.length := by
  match l, h with
  | [c], h =>
    rw [endL] at h
    split at h <;> cases h
  | c :: d :: r, h =>
    rw [endL] at h
    split at h
    · cases h
      exact ⟨rfl, rfl, by simp⟩
    · cases h
theorem a9q (n k : Nat) (l : List UInt8) : endL n k l = match nlI l with
    | 0 => .got n (k + 2)
    | 1 => .more
    | _ => .wrong := by
  unfold nlI
  match l with
  | [] => rfl
  | [c] =>
    rw [endL, endL]
    split <;> rfl
  | c :: d :: r =>
    rw [endL, endL]
    split <;> rfl
theorem b3k (l : List UInt8) : nlI l = 0 ∨ nlI l = 1 ∨ nlI l = 2 := by
  unfold nlI
  split <;> simp
theorem c0z {n k : Nat} {l : List UInt8} (h : nlI l = 0) : endL n k l = .got n (k + 2) := by rw [a9q, h]; rfl
theorem c4p {n k : Nat} {l : List UInt8} (h : nlI l = 1) : endL n k l = .more := by rw [a9q, h]; rfl
theorem c4o {n k : Nat} {l : List UInt8} (h : nlI l = 2) : endL n k l = .wrong := by rw [a9q, h]; rfl
theorem c4j {l : List UInt8} (h : nlI l = 0) : 2 ≤ l.length := (b6z (c0z (n := 0) (k := 0) h)).2.2
theorem c7m (l : List UInt8) : nlI l = if Lib.hasPrefix l [13, 10] = true then 0 else if Lib.hasPrefix [13, 10] l = true then 1 else 2 := by
  unfold nlI Lib.hasPrefix
  match l with
  | [] => rfl
  | [c] =>
    rw [endL]
    by_cases h : c = 13
    · subst h; rfl
    · simp [h, List.isPrefixOf]
  | c :: d :: r =>
    rw [endL]
    by_cases h : c = 13
    · subst h
      by_cases h' : d = 10
      · subst h'; simp [List.isPrefixOf]
      · have h'' : ¬ 10 = d := fun k => h' k.symm
        simp [h', h'', List.isPrefixOf]
    · have h'' : ¬ 13 = c := fun k => h k.symm
      simp [h, h'', List.isPrefixOf]
theorem c7k {n : Nat} {d : Int} (hn : n < 268435456) (h0 : 0 ≤ d) (h1 : d < 16) : bits .or .i64 (IntKind.i64.wrap ((n : Int) * 2 ^ (min (4 : Int).toNat IntKind.i64.bits))) d = ((16 * n + d.toNat : Nat) : Int) := by
  obtain ⟨m, rfl⟩ : ∃ m : Nat, d = m := ⟨d.toNat, by omega⟩
  have e1 : IntKind.i64.wrap ((n : Int) * 2 ^ (min (4 : Int).toNat IntKind.i64.bits)) = ((n <<< 4 : Nat) : Int) := by
    have : (min (4 : Int).toNat IntKind.i64.bits) = 4 := by decide
    rw [this, Nat.shiftLeft_eq, w64 (by omega) (by omega)]
    omega
  have e2 : n <<< 4 ||| m = 16 * n + m := by
    rw [← Nat.shiftLeft_add_eq_or_of_lt (by omega), Nat.shiftLeft_eq]
    omega
  rw [e1, Int.toNat_natCast, ← e2]
  unfold bits
  have e3 : (BitVec.ofInt IntKind.i64.bits ((n <<< 4 : Nat) : Int) ||| BitVec.ofInt IntKind.i64.bits (m : Int)).toNat = n <<< 4 ||| m := by
    have hb : IntKind.i64.bits = 64 := rfl
    rw [BitVec.toNat_or, BitVec.ofInt_natCast, BitVec.ofInt_natCast, BitVec.toNat_ofNat, BitVec.toNat_ofNat, hb, Nat.mod_eq_of_lt (by rw [Nat.shiftLeft_eq]; omega), Nat.mod_eq_of_lt (by omega)]
  dsimp only
  rw [e3, e2]
  exact w64 (by omega) (by omega)
theorem c0q (c : UInt8) : hexI c < 16 := by
  rw [c4k]
  have := c.toNat_lt
  (repeat' split) <;> omega
section
variable {w0 : World} {base : Nat}
theorem b2t {b : UInt8} : PCalls (EE w0 base) 81 [bI b] fun rv => rv = .int .i64 (hexI b) := by
  refine a1s Tryz.func81 rfl rfl rfl (.cons .nil) ?_
  have hb := b.toNat_lt
  repeat' (first|(first|refine a0b (a5f rfl (by (first|exact w64 (by omega) (by omega)|exact w8 (by omega) (by omega)|rfl))) rfl ?_)|(refine a2k ?_;first|refine a0b (a0l rfl) rfl ?_|(refine k_g ?_;first|refine a1j rfl rfl (by with_reducible rfl) ?_|refine a1w rfl rfl (by with_reducible rfl) rfl ?_|(refine a1z rfl rfl (fun hc => ?_) (fun hc => ?_) <;> (try (exfalso;omega))))|(refine a1a ?_;first|refine a0b (a1h rfl rfl rfl) rfl ?_|refine a0b (a1p rfl rfl (by (first|exact w64 (by omega) (by omega)|exact w8 (by omega) (by omega)|rfl))) rfl ?_|refine a0b (a2s rfl rfl (by (first|exact w64 (by omega) (by omega)|exact w8 (by omega) (by omega)|rfl))) rfl ?_)|(refine a1i ?_;first|refine a0b (a0j rfl (by with_reducible rfl) rfl) rfl ?_|refine a0b (a0i rfl (by with_reducible rfl) rfl) rfl ?_)|refine a0b (a0e rfl) rfl ?_|refine a0u ?_)|(first|refine a1n ?_|(refine a1o ?_;first|refine a0c (a0a ?_)|refine a0c ?_|refine a0a ?_|(refine a0x ?_;first|refine a0h rfl (by with_reducible rfl) ?_|(refine a0r rfl (fun hc => ?_) (fun hc => ?_) <;> (try (exfalso;omega))))|refine a0n ?_|refine a0o ?_|refine a0k ?_)|refine a0t ?_|refine a1v ?_|refine a1b ?_))
  all_goals
    refine ret1 (by first | exact .inr rfl | exact .inl rfl) rfl rfl ?_
    refine ⟨congrArg (AV.int .i64) ?_, rfl⟩
    rw [c4k]
    (repeat' split) <;> omega
theorem b2s {s : List UInt8} {at' : Int} (h0 : 0 ≤ at') (h : at' ≤ s.length) : PCalls (EE w0 base) 82 [.str s, .int .i64 at'] fun rv => rv = .int .i64 (nlI (s.drop at'.toNat)) := by
  refine a1s Tryz.func82 rfl rfl rfl (.cons (.cons .nil)) ?_
  rw [c7m]
  obtain ⟨l, hl⟩ : ∃ l, l = s.drop at'.toNat := ⟨_, rfl⟩
  rw [← hl]
  have hA := a5n (w0 := w0) (base := base) (s := l) (p := [13, 10])
  have hB := a5n (w0 := w0) (base := base) (s := [13, 10]) (p := l)
  cases hx : Lib.hasPrefix l [13, 10]
  all_goals
    cases hy : Lib.hasPrefix [13, 10] l
  all_goals
    rw [hx] at hA
    rw [hy] at hB
    repeat' (first|(first|refine a0b (b0j (j := at'.toNat) hl.symm rfl rfl (by omega) (by omega) (by omega)) rfl ?_|(refine a0d ?_;refine a0q rfl rfl rfl rfl hA ?_;rintro _ rfl)|(refine a0d ?_;refine a0q rfl rfl rfl rfl hB ?_;rintro _ rfl))|(refine a2k ?_;first|refine a0b (a0l rfl) rfl ?_|refine a0b (a0e rfl) rfl ?_|refine a0u ?_)|(first|refine a1n ?_|(refine a1o ?_;first|refine a0c (a0a ?_)|refine a0c ?_|refine a0a ?_|(refine a0x ?_;first|refine a0g rfl (by with_reducible rfl) ?_|refine a0h rfl (by with_reducible rfl) ?_)|refine a0n ?_|refine a0o ?_|refine a0k ?_)|refine a0t ?_|refine a1v ?_|refine a1b ?_))
    refine ret1 (by first | exact .inr rfl | exact .inl rfl) rfl rfl ?_
    exact ⟨rfl, rfl⟩
theorem b1f {p : AV} (hp : p = .nilp ∨ p = .op 0 0) {bs : List UInt8} {ver : Nat} : ACalls (EE w0 base) 83 [.op 0 0] [bldBox p ver, .row 5 1 ver 0 (bytesAV bs)]
    fun rv os => rv = .int .i64 (bs.length : Int) ∧ os = [bldBox p ver, .row 5 1 ver 0 (bytesAV bs)] := by
  refine a1s Tryz.func83 rfl rfl rfl (.cons .nil) ?_
  have hbl : (bytesAV bs).length = bs.length := List.length_map _
  rcases hp with rfl | rfl
  all_goals
    repeat' (first|(first|refine a0b (a1k (n := 0) rfl rfl) rfl ?_)|(refine a2k ?_;first|refine a0b (a0l rfl) rfl ?_|refine a0b (a0f rfl rfl) rfl ?_|(refine a1g ?_;first|refine a0b (a0w rfl rfl) rfl ?_)|refine a0b (a0e rfl) rfl ?_|(refine a0d ?_;first|refine a0b (a3m rfl rfl rfl) rfl ?_)|refine a0u ?_)|(first|refine a1n ?_|(refine a1o ?_;first|refine a0c (a0a ?_)|refine a0c ?_|refine a0a ?_|refine a0o ?_)))
    refine ret1 (by first | exact .inr rfl | exact .inl rfl) rfl rfl ?_
    exact ⟨by rw [hbl], rfl⟩
end
end Go.Proofs.YtkljmljkiodnpaaGreatDoor.L

namespace Go.Proofs.YtkljmljkiodnpaaGreatDoor.L
open Go Go.RowKit Go.Proofs
attribute [local irreducible] AL QL AWp Thn InB RetQ ACalls LoopQ HL HO HW HQ NoG JmpQ MidQ

theorem b2o {line d n i : Nat} {s : List UInt8} (hi : i < s.length) (hd : 0 ≤ hexI (bAt s (i : Int))) : sizeL line d n i (s.drop i) = if d = 8 then .wrong else sizeL line (d + 1) (16 * n + (hexI (bAt s (i : Int))).toNat) (i + 1) (s.drop (i + 1)) := by
  rw [a3q hi, sizeL, if_pos hd]
theorem b2q {line n i : Nat} {s : List UInt8} (hi : i < s.length) (hd : ¬ 0 ≤ hexI (bAt s (i : Int))) : sizeL line 0 n i (s.drop i) = .wrong := by
  rw [a3q hi, sizeL, if_neg hd, if_pos rfl]
theorem b2p {line d n i : Nat} {s : List UInt8} (hi : i < s.length) (hd : ¬ 0 ≤ hexI (bAt s (i : Int))) (h0 : d ≠ 0) (hc : byteAt s (i : Int) = 59) : sizeL line d n i (s.drop i) = restL n line (i + 1) (s.drop (i + 1)) := by
  rw [a3q hi, sizeL, if_neg hd, if_neg h0, if_pos (show bAt s (i : Int) = 59 from a4t 59 (by decide) (by rw [a3i] at hc; exact hc))]
theorem b0r {line d n i : Nat} {s : List UInt8} (hi : i < s.length) (hd : ¬ 0 ≤ hexI (bAt s (i : Int))) (h0 : d ≠ 0) (hc : ¬ byteAt s (i : Int) = 59) : sizeL line d n i (s.drop i) = endL n i (s.drop i) := by
  have := a3q hi
  rw [this, sizeL, if_neg hd, if_neg h0, if_neg (by intro k; apply hc; rw [a3i, k]; rfl)]
theorem b6f {line d n i : Nat} {s : List UInt8} (hi : s.length ≤ i) : sizeL line d n i (s.drop i) = .more := by
  rw [List.drop_eq_nil_of_le hi, sizeL]
theorem b6m {n line i : Nat} {s : List UInt8} (hi : s.length ≤ i) : restL n line i (s.drop i) = .more := by
  rw [List.drop_eq_nil_of_le hi, restL]
theorem b8s {s : List UInt8} {i : Int} : textB (bAt s i) = true ↔ (32 ≤ byteAt s i ∧ byteAt s i ≤ 126) ∨ byteAt s i = 9 := by
  rw [a3i]
  unfold textB
  rw [Bool.or_eq_true, decide_eq_true_eq, decide_eq_true_eq]
  have : bAt s i = 9 ↔ ((bAt s i).toNat : Int) = 9 := ⟨fun h => by rw [h]; rfl, fun h => a4t 9 (by decide) h⟩
  rw [this]
  omega
theorem b2y {n line i : Nat} {s : List UInt8} (hi : i < s.length) (h : textB (bAt s (i : Int)) = true) : restL n line i (s.drop i) = if line + 1024 ≤ i then .wrong else restL n line (i + 1) (s.drop (i + 1)) := by
  rw [a3q hi, restL, if_pos h]
theorem b2z {n line i : Nat} {s : List UInt8} (hi : i < s.length) (h : ¬ textB (bAt s (i : Int)) = true) : restL n line i (s.drop i) = endL n i (s.drop i) := by
  have := a3q hi
  rw [this, restL, if_neg h]
structure CS where
  lab : Nat
  at' : Nat
  n : Nat
  d : Nat
  line : Nat
  acc : List UInt8
  p : AV
  ver : Nat
structure COk (s : List UInt8) (T : CR) (x : CS) : Prop where
  le : x.at' ≤ s.length
  hp : x.p = .nilp ∨ x.p = .op 0 0
  acc : x.acc.length ≤ 16384
  at1 : x.lab = 0 ∨ x.lab = 1
  zero : x.lab = 0 → ∃ f, s.length < f + x.at' ∧ T = chunksF f s x.acc x.at'
  one : x.lab = 1 → ∃ f, s.length ≤ f + x.line ∧ x.line ≤ x.at' ∧ x.d ≤ 8 ∧ x.n < 16 ^ x.d ∧ T = afterL s x.acc (chunksF f s) (sizeL x.line x.d x.n x.at' (s.drop x.at'))
abbrev cSt (s : List UInt8) (x : CS) : St := ⟨[(0, .str s), (1, .int .i64 x.at'), (8, .op 0 0), (9, .int .i64 x.n), (10, .int .i64 x.d), (11, .int .i64 x.line)], [bldBox x.p x.ver, .row 5 1 x.ver 0 (bytesAV x.acc)]⟩
abbrev CrR (T : CR) (rv : AV) : Prop := rv = match T with
  | .more => .tup [.str [], .int .i64 0, .bool true, .int .i64 0]
  | .bad st => .tup [.str [], .int .i64 0, .bool false, .int .i64 st]
  | .got b k => .tup [.str b, .int .i64 k, .bool false, .int .i64 0]
abbrev rSt (s acc : List UInt8) (p : AV) (n d line ver : Nat) (j : Nat) : St := ⟨[(0, .str s), (1, .int .i64 j), (8, .op 0 0), (9, .int .i64 n), (10, .int .i64 d), (11, .int .i64 line)], [bldBox p ver, .row 5 1 ver 0 (bytesAV acc)]⟩
def rLab (_ : Nat) : Nat := 2
def rM2 (s : List UInt8) (j : Nat) : Nat := s.length - j
def ROk (s acc : List UInt8) (T : CR) (f i n line : Nat) (j : Nat) : Prop := i + 1 ≤ j ∧ j ≤ s.length ∧ T = afterL s acc (chunksF f s) (restL n line j (s.drop j))
theorem pow16 {d : Nat} (h : d ≤ 8) : 16 ^ d ≤ 4294967296 := Nat.pow_le_pow_right (by decide) h
theorem c5p {d : Nat} (h : d ≤ 7) : 16 ^ d ≤ 268435456 := Nat.pow_le_pow_right (by decide) h
section
variable {w0 : World} {base : Nat}
set_option maxHeartbeats 8000000 in
theorem c2l {s : List UInt8} {at' : Nat} (h : at' ≤ s.length) (hs : s.length ≤ 1099511627776) : PCalls (EE w0 base) 48 [.str s, .int .i64 at'] (CrR (chunksS s at')) := by
  refine a1s Tryz.func48 rfl rfl rfl (.cons (.cons .nil)) ?_
  obtain ⟨T, hT⟩ : ∃ T, T = chunksS s at' := ⟨_, rfl⟩
  rw [← hT]
  repeat' (first|((refine b1e (cSt s) CS.lab (COk s T) (fun x => 2 * (s.length - x.at') + (if x.lab = 0 then 1 else 0)) (2 * s.length + 2) 1 ?_ ?_ ?_ ?_))|(refine a2k ?_;first|refine a0b (a0l rfl) rfl ?_|(refine k_g ?_;first|refine a1j rfl rfl (by with_reducible rfl) ?_|refine a1w rfl rfl (by with_reducible rfl) rfl ?_|refine a1t rfl rfl (by with_reducible rfl) rfl ?_|(refine a1z rfl rfl (fun hc => ?_) (fun hc => ?_) <;> (try (exfalso;omega))))|(refine a1a ?_;first|refine a0b (a1h rfl rfl rfl) rfl ?_|refine a0b (a1p rfl rfl (by (first|exact w64 (by omega) (by omega)|rfl))) rfl ?_|refine a0b (a2s rfl rfl (by (first|exact w64 (by omega) (by omega)|rfl))) rfl ?_)|(refine a1i ?_;first|refine a0b (a0j rfl (by with_reducible rfl) rfl) rfl ?_|refine a0b (a0i rfl (by with_reducible rfl) rfl) rfl ?_)|refine a0b (a0e rfl) rfl ?_|(refine a0d ?_;first|refine a0b (a0p rfl) rfl ?_)|refine a0u ?_|refine a0b (a1u rfl rfl (by omega) (by omega)) rfl ?_)|(first|refine a1n ?_|(refine a1o ?_;first|refine a0c (a0a ?_)|refine a0c ?_|refine a0a ?_|(refine a0x ?_;first|refine a0g rfl (by with_reducible rfl) ?_|(refine a0r rfl (fun hc => ?_) (fun hc => ?_) <;> (try (exfalso;omega))))|refine a0n ?_|refine a0o ?_|refine a0k ?_|refine a2x ?_|refine a3e ?_)|refine a0t ?_|refine a1v ?_|refine a1b ?_|refine a3d ?_|refine a8n ?_|refine a3w ?_|refine a2v ?_))
  · rintro ⟨lab, i, n, d, line, acc, p, ver⟩ hx
    rcases hx.at1 with h | h <;> dsimp only at h <;> subst h <;> rfl
  · intro x hx
    rcases hx.at1 with h | h <;> omega
  · rintro ⟨lab, i, n, d, line, acc, p, ver⟩ hx hf
    rcases hx.at1 with h | h <;> dsimp only at h <;> subst h
    · obtain ⟨f, hf1, hT1⟩ := hx.zero rfl
      have hle := hx.le
      have hp := hx.hp
      have hacc := hx.acc
      dsimp only at hf1 hT1 hle hp hacc
      obtain ⟨f, rfl⟩ : ∃ g, f = g + 1 := ⟨f - 1, by omega⟩
      repeat' (first|((refine b2i (CS.mk 1 i 0 0 i acc p ver) (hf _ ?_ ?_) ?_ ?_))|(refine a2k ?_;first|refine a0b (a0l rfl) rfl ?_|(refine k_g ?_;first|refine a1j rfl rfl (by with_reducible rfl) ?_|refine a1w rfl rfl (by with_reducible rfl) rfl ?_|refine a1t rfl rfl (by with_reducible rfl) rfl ?_|(refine a1z rfl rfl (fun hc => ?_) (fun hc => ?_) <;> (try (exfalso;omega))))|(refine a1a ?_;first|refine a0b (a1h rfl rfl rfl) rfl ?_|refine a0b (a1p rfl rfl (by (first|exact w64 (by omega) (by omega)|rfl))) rfl ?_|refine a0b (a2s rfl rfl (by (first|exact w64 (by omega) (by omega)|rfl))) rfl ?_)|(refine a1i ?_;first|refine a0b (a0j rfl (by with_reducible rfl) rfl) rfl ?_|refine a0b (a0i rfl (by with_reducible rfl) rfl) rfl ?_)|refine a0b (a0e rfl) rfl ?_|(refine a0d ?_;first|refine a0b (a0p rfl) rfl ?_)|refine a0u ?_|refine a0b (a1u rfl rfl (by omega) (by omega)) rfl ?_)|(first|refine a1n ?_|(refine a1o ?_;first|refine a0c (a0a ?_)|refine a0c ?_|refine a0a ?_|(refine a0x ?_;first|refine a0g rfl (by with_reducible rfl) ?_|(refine a0r rfl (fun hc => ?_) (fun hc => ?_) <;> (try (exfalso;omega))))|refine a0n ?_|refine a0o ?_|refine a0k ?_|refine a2x ?_|refine a3e ?_)|refine a0t ?_|refine a1v ?_|refine a1b ?_|refine a3d ?_|refine a8n ?_|refine a3w ?_|refine a2v ?_))
      · refine ⟨hle, hp, hacc, .inr rfl, fun k => absurd k Nat.one_ne_zero, fun _ => ⟨f, by dsimp only; omega, Nat.le_refl _, Nat.zero_le _, Nat.zero_lt_one, hT1⟩⟩
      · exact Nat.zero_lt_one
      · simp
      · exact .of (.same (by repeat constructor))
    · clear hf
      obtain ⟨f, hf1, hln, hd8, hn, hT1⟩ := hx.one rfl
      have hle := hx.le
      have hp := hx.hp
      have hacc := hx.acc
      dsimp only at hf1 hln hd8 hn hT1 hle hp hacc
      have hpw := pow16 hd8
      dsimp only [cSt]
      obtain ⟨c, hc⟩ : ∃ c, c = s.getD ((i : Nat) : Int).toNat 0 := ⟨_, rfl⟩
      by_cases hend : i < s.length
      · have hx16 := c0q (s.getD ((i : Nat) : Int).toNat 0)
        by_cases hdig : 0 ≤ hexI (s.getD ((i : Nat) : Int).toNat 0)
        · have hst := b2o (line := line) (d := d) (n := n) hend hdig
          by_cases hd : d = 8
          · rw [if_pos hd] at hst
            repeat' (first|((refine a0d ?_;refine a0q rfl rfl rfl rfl b2t ?_;rintro _ rfl))|(refine a2k ?_;first|refine a0b (a0l rfl) rfl ?_|(refine k_g ?_;first|refine a1j rfl rfl (by with_reducible rfl) ?_|refine a1w rfl rfl (by with_reducible rfl) rfl ?_|refine a1t rfl rfl (by with_reducible rfl) rfl ?_|(refine a1z rfl rfl (fun hc => ?_) (fun hc => ?_) <;> (try (exfalso;omega))))|(refine a1a ?_;first|refine a0b (a1h rfl rfl rfl) rfl ?_|refine a0b (a1p rfl rfl (by (first|exact w64 (by omega) (by omega)|rfl))) rfl ?_|refine a0b (a2s rfl rfl (by (first|exact w64 (by omega) (by omega)|rfl))) rfl ?_)|(refine a1i ?_;first|refine a0b (a0j rfl (by with_reducible rfl) rfl) rfl ?_|refine a0b (a0i rfl (by with_reducible rfl) rfl) rfl ?_)|refine a0b (a0e rfl) rfl ?_|(refine a0d ?_;first|refine a0b (a0p rfl) rfl ?_)|refine a0u ?_|refine a0b (a1u rfl rfl (by omega) (by omega)) rfl ?_)|(first|refine a1n ?_|(refine a1o ?_;first|refine a0c (a0a ?_)|refine a0c ?_|refine a0a ?_|(refine a0x ?_;first|refine a0g rfl (by with_reducible rfl) ?_|(refine a0r rfl (fun hc => ?_) (fun hc => ?_) <;> (try (exfalso;omega))))|refine a0n ?_|refine a0o ?_|refine a0k ?_|refine a2x ?_|refine a3e ?_)|refine a0t ?_|refine a1v ?_|refine a1b ?_|refine a3d ?_|refine a8n ?_|refine a3w ?_|refine a2v ?_))
            refine ret4 (by first | exact .inr rfl | exact .inl rfl) rfl rfl rfl rfl rfl ?_
            exact ⟨by rw [hT1, hst]; rfl, rfl⟩
          · rw [if_neg hd] at hst
            have hp7 := c5p (d := d) (by omega)
            repeat' (first|(first|(refine a0d ?_;refine a0q rfl rfl rfl rfl b2t ?_;rintro _ rfl)|refine a0b (c4g rfl rfl (by decide) rfl) rfl ?_|refine a0b (b1v rfl rfl (.inr (.inl rfl)) (c7k (by omega) hdig hx16)) rfl ?_)|(refine a2k ?_;first|refine a0b (a0l rfl) rfl ?_|(refine k_g ?_;first|refine a1j rfl rfl (by with_reducible rfl) ?_|refine a1w rfl rfl (by with_reducible rfl) rfl ?_|refine a1t rfl rfl (by with_reducible rfl) rfl ?_|(refine a1z rfl rfl (fun hc => ?_) (fun hc => ?_) <;> (try (exfalso;omega))))|(refine a1a ?_;first|refine a0b (a1h rfl rfl rfl) rfl ?_|refine a0b (a1p rfl rfl (by (first|exact w64 (by omega) (by omega)|rfl))) rfl ?_|refine a0b (a2s rfl rfl (by (first|exact w64 (by omega) (by omega)|rfl))) rfl ?_)|(refine a1i ?_;first|refine a0b (a0j rfl (by with_reducible rfl) rfl) rfl ?_|refine a0b (a0i rfl (by with_reducible rfl) rfl) rfl ?_)|refine a0b (a0e rfl) rfl ?_|(refine a0d ?_;first|refine a0b (a0p rfl) rfl ?_)|refine a0u ?_|refine a0b (a1u rfl rfl (by omega) (by omega)) rfl ?_)|(first|refine a1n ?_|(refine a1o ?_;first|refine a0c (a0a ?_)|refine a0c ?_|refine a0a ?_|(refine a0x ?_;first|refine a0g rfl (by with_reducible rfl) ?_|(refine a0r rfl (fun hc => ?_) (fun hc => ?_) <;> (try (exfalso;omega))))|refine a0n ?_|refine a0o ?_|refine a0k ?_|refine a2x ?_|refine a3e ?_)|refine a0t ?_|refine a1v ?_|refine a1b ?_|refine a3d ?_|refine a8n ?_|refine a3w ?_|refine a2v ?_))
            refine b5a (CS.mk 1 (i + 1) (16 * n + (hexI (s.getD ((i : Nat) : Int).toNat 0)).toNat) (d + 1) line acc p ver) rfl (.of (.same (by repeat constructor))) ?_ ?_
            · refine ⟨by dsimp only; omega, hp, hacc, .inr rfl, fun k => absurd k Nat.one_ne_zero, fun _ => ⟨f, hf1, by dsimp only; omega, by dsimp only; omega, ?_, by dsimp only; rw [hT1, hst]⟩⟩
              dsimp only
              rw [Nat.pow_succ]
              omega
            · dsimp only
              simp only [Nat.one_ne_zero, if_false]
              omega
        · by_cases hd : d = 0
          · subst hd
            have hst := b2q (line := line) (n := n) hend hdig
            repeat' (first|((refine a0d ?_;refine a0q rfl rfl rfl rfl b2t ?_;rintro _ rfl))|(refine a2k ?_;first|refine a0b (a0l rfl) rfl ?_|(refine k_g ?_;first|refine a1j rfl rfl (by with_reducible rfl) ?_|refine a1w rfl rfl (by with_reducible rfl) rfl ?_|refine a1t rfl rfl (by with_reducible rfl) rfl ?_|(refine a1z rfl rfl (fun hc => ?_) (fun hc => ?_) <;> (try (exfalso;omega))))|(refine a1a ?_;first|refine a0b (a1h rfl rfl rfl) rfl ?_|refine a0b (a1p rfl rfl (by (first|exact w64 (by omega) (by omega)|rfl))) rfl ?_|refine a0b (a2s rfl rfl (by (first|exact w64 (by omega) (by omega)|rfl))) rfl ?_)|(refine a1i ?_;first|refine a0b (a0j rfl (by with_reducible rfl) rfl) rfl ?_|refine a0b (a0i rfl (by with_reducible rfl) rfl) rfl ?_)|refine a0b (a0e rfl) rfl ?_|(refine a0d ?_;first|refine a0b (a0p rfl) rfl ?_)|refine a0u ?_|refine a0b (a1u rfl rfl (by omega) (by omega)) rfl ?_)|(first|refine a1n ?_|(refine a1o ?_;first|refine a0c (a0a ?_)|refine a0c ?_|refine a0a ?_|(refine a0x ?_;first|refine a0g rfl (by with_reducible rfl) ?_|(refine a0r rfl (fun hc => ?_) (fun hc => ?_) <;> (try (exfalso;omega))))|refine a0n ?_|refine a0o ?_|refine a0k ?_|refine a2x ?_|refine a3e ?_)|refine a0t ?_|refine a1v ?_|refine a1b ?_|refine a3d ?_|refine a8n ?_|refine a3w ?_|refine a2v ?_))
            refine ret4 (by first | exact .inr rfl | exact .inl rfl) rfl rfl rfl rfl rfl ?_
            exact ⟨by rw [hT1, hst]; rfl, rfl⟩
          · repeat' (first|(first|refine b2h (fun j : Nat => ⟨[(0,.str s),(1,.int .i64 j),(8,.op 0 0),(9,.int .i64 n),(10,.int .i64 d),(11,.int .i64 line)],[bldBox p ver,.row 5 1 ver 0 (bytesAV acc)]⟩) (fun j => i ≤ j ∧ j ≤ s.length ∧ T = afterL s acc (chunksF f s) (endL n j (s.drop j))) ?_ ?_|(refine a0d ?_;refine a0q rfl rfl rfl rfl b2t ?_;rintro _ rfl))|(refine a2k ?_;first|refine a0b (a0l rfl) rfl ?_|(refine k_g ?_;first|refine a1j rfl rfl (by with_reducible rfl) ?_|refine a1w rfl rfl (by with_reducible rfl) rfl ?_|refine a1t rfl rfl (by with_reducible rfl) rfl ?_|(refine a1z rfl rfl (fun hc => ?_) (fun hc => ?_) <;> (try (exfalso;omega))))|(refine a1a ?_;first|refine a0b (a1h rfl rfl rfl) rfl ?_|refine a0b (a1p rfl rfl (by (first|exact w64 (by omega) (by omega)|rfl))) rfl ?_|refine a0b (a2s rfl rfl (by (first|exact w64 (by omega) (by omega)|rfl))) rfl ?_)|(refine a1i ?_;first|refine a0b (a0j rfl (by with_reducible rfl) rfl) rfl ?_|refine a0b (a0i rfl (by with_reducible rfl) rfl) rfl ?_)|refine a0b (a0e rfl) rfl ?_|(refine a0d ?_;first|refine a0b (a0p rfl) rfl ?_)|refine a0u ?_|refine a0b (a1u rfl rfl (by omega) (by omega)) rfl ?_)|(first|refine a1n ?_|(refine a1o ?_;first|refine a0c (a0a ?_)|refine a0c ?_|refine a0a ?_|(refine a0x ?_;first|refine a0g rfl (by with_reducible rfl) ?_|(refine a0r rfl (fun hc => ?_) (fun hc => ?_) <;> (try (exfalso;omega))))|refine a0n ?_|refine a0o ?_|refine a0k ?_|refine a2x ?_|refine a3e ?_)|refine a0t ?_|refine a1v ?_|refine a1b ?_|refine a3d ?_|refine a8n ?_|refine a3w ?_|refine a2v ?_))
            · rintro j ⟨hij, hjl, hTj⟩
              have hq := hp
              have hN1 := b2s (w0 := w0) (base := base) (s := s) (at' := (j : Int)) (by omega) (by omega)
              rw [Int.toNat_natCast] at hN1
              rcases b3k (s.drop j) with hk | hk | hk
              · rw [hk] at hN1
                rw [c0z hk, afterL] at hTj
                have hk2 := c4j hk
                rw [List.length_drop] at hk2
                have hN2 := b2s (w0 := w0) (base := base) (s := s) (at' := ((j + 2 + n : Nat) : Int))
                by_cases hbig : 16384 < acc.length + n
                · rw [if_pos hbig] at hTj
                  rcases hp with rfl | rfl
                  all_goals
                    repeat' (first|(first|(refine a0d ?_;refine a0q rfl rfl rfl rfl hN1 ?_;rintro _ rfl)|(refine a0d ?_;refine a0v [0,1] rfl rfl (b1f hq (bs := acc) (ver := ver)) (by repeat constructor) (by repeat constructor) rfl rfl ?_;rintro _ _ ⟨rfl,rfl⟩;refine ⟨_,_,by repeat constructor,by repeat constructor,?_⟩))|(refine a2k ?_;first|refine a0b (a0l rfl) rfl ?_|(refine k_g ?_;first|refine a1j rfl rfl (by with_reducible rfl) ?_|refine a1w rfl rfl (by with_reducible rfl) rfl ?_|refine a1t rfl rfl (by with_reducible rfl) rfl ?_|(refine a1z rfl rfl (fun hc => ?_) (fun hc => ?_) <;> (try (exfalso;omega))))|(refine a1a ?_;first|refine a0b (a1h rfl rfl rfl) rfl ?_|refine a0b (a1p rfl rfl (by (first|exact w64 (by omega) (by omega)|rfl))) rfl ?_|refine a0b (a2s rfl rfl (by (first|exact w64 (by omega) (by omega)|rfl))) rfl ?_)|(refine a1i ?_;first|refine a0b (a0j rfl (by with_reducible rfl) rfl) rfl ?_|refine a0b (a0i rfl (by with_reducible rfl) rfl) rfl ?_)|refine a0b (a0e rfl) rfl ?_|(refine a0d ?_;first|refine a0b (a0p rfl) rfl ?_)|refine a0u ?_|refine a0b (a1u rfl rfl (by omega) (by omega)) rfl ?_)|(first|refine a1n ?_|(refine a1o ?_;first|refine a0c (a0a ?_)|refine a0c ?_|refine a0a ?_|(refine a0x ?_;first|refine a0g rfl (by with_reducible rfl) ?_|(refine a0r rfl (fun hc => ?_) (fun hc => ?_) <;> (try (exfalso;omega))))|refine a0n ?_|refine a0o ?_|refine a0k ?_|refine a2x ?_|refine a3e ?_)|refine a0t ?_|refine a1v ?_|refine a1b ?_|refine a3d ?_|refine a8n ?_|refine a3w ?_|refine a2v ?_))
                    refine ret4 (by first | exact .inr rfl | exact .inl rfl) rfl rfl rfl rfl rfl ?_
                    exact ⟨by rw [hTj], rfl⟩
                · rw [if_neg hbig] at hTj
                  by_cases hlong : s.length < j + 2 + n
                  · rw [if_pos hlong] at hTj
                    rcases hp with rfl | rfl
                    all_goals
                      repeat' (first|(first|(refine a0d ?_;refine a0q rfl rfl rfl rfl hN1 ?_;rintro _ rfl)|(refine a0d ?_;refine a0v [0,1] rfl rfl (b1f hq (bs := acc) (ver := ver)) (by repeat constructor) (by repeat constructor) rfl rfl ?_;rintro _ _ ⟨rfl,rfl⟩;refine ⟨_,_,by repeat constructor,by repeat constructor,?_⟩))|(refine a2k ?_;first|refine a0b (a0l rfl) rfl ?_|(refine k_g ?_;first|refine a1j rfl rfl (by with_reducible rfl) ?_|refine a1w rfl rfl (by with_reducible rfl) rfl ?_|refine a1t rfl rfl (by with_reducible rfl) rfl ?_|(refine a1z rfl rfl (fun hc => ?_) (fun hc => ?_) <;> (try (exfalso;omega))))|(refine a1a ?_;first|refine a0b (a1h rfl rfl rfl) rfl ?_|refine a0b (a1p rfl rfl (by (first|exact w64 (by omega) (by omega)|rfl))) rfl ?_|refine a0b (a2s rfl rfl (by (first|exact w64 (by omega) (by omega)|rfl))) rfl ?_)|(refine a1i ?_;first|refine a0b (a0j rfl (by with_reducible rfl) rfl) rfl ?_|refine a0b (a0i rfl (by with_reducible rfl) rfl) rfl ?_)|refine a0b (a0e rfl) rfl ?_|(refine a0d ?_;first|refine a0b (a0p rfl) rfl ?_)|refine a0u ?_|refine a0b (a1u rfl rfl (by omega) (by omega)) rfl ?_)|(first|refine a1n ?_|(refine a1o ?_;first|refine a0c (a0a ?_)|refine a0c ?_|refine a0a ?_|(refine a0x ?_;first|refine a0g rfl (by with_reducible rfl) ?_|(refine a0r rfl (fun hc => ?_) (fun hc => ?_) <;> (try (exfalso;omega))))|refine a0n ?_|refine a0o ?_|refine a0k ?_|refine a2x ?_|refine a3e ?_)|refine a0t ?_|refine a1v ?_|refine a1b ?_|refine a3d ?_|refine a8n ?_|refine a3w ?_|refine a2v ?_))
                      refine ret4 (by first | exact .inr rfl | exact .inl rfl) rfl rfl rfl rfl rfl ?_
                      exact ⟨by rw [hTj], rfl⟩
                  · rw [if_neg hlong] at hTj
                    have hN2 := hN2 (by omega) (by omega)
                    rw [Int.toNat_natCast] at hN2
                    rcases b3k (s.drop (j + 2 + n)) with hk3 | hk3 | hk3
                    · rw [hk3] at hN2
                      rw [c0z hk3] at hTj; dsimp only at hTj
                      have hk4 := c4j hk3
                      rw [List.length_drop] at hk4
                      have hal : (acc ++ (s.take (j + 2 + n)).drop (j + 2)).length = acc.length + n := by simp; omega
                      by_cases hn0 : n = 0
                      · rw [if_pos hn0] at hTj
                        rcases hp with rfl | rfl
                        all_goals
                          repeat' (first|(first|(refine a0d ?_;refine a0q rfl rfl rfl rfl hN1 ?_;rintro _ rfl)|(refine a0d ?_;refine a0v [0,1] rfl rfl (b1f hq (bs := acc) (ver := ver)) (by repeat constructor) (by repeat constructor) rfl rfl ?_;rintro _ _ ⟨rfl,rfl⟩;refine ⟨_,_,by repeat constructor,by repeat constructor,?_⟩)|refine a0b (a5d (i := j + 2) (j := j + 2 + n) rfl rfl rfl rfl (by omega) (by omega) (by omega) (by omega)) rfl ?_|(refine a0d ?_;refine a0v [0,1] rfl rfl (a3v hq (bs := acc) (s := (s.take (j + 2 + n)).drop (j + 2)) (ver := ver) (by simp;omega)) (by repeat constructor) (by repeat constructor) rfl rfl ?_;rintro _ _ ⟨rfl,rfl⟩;refine ⟨_,_,by repeat constructor,by repeat constructor,?_⟩)|(refine a0d ?_;refine a0q rfl rfl rfl rfl hN2 ?_;rintro _ rfl)|(refine a0d ?_;refine a0v [0,1] rfl rfl (b2l (.inr rfl) (l := acc ++ (s.take (j + 2 + n)).drop (j + 2)) (ver := ver + 1) (.inl rfl) (by simp;omega)) (by repeat constructor) (by repeat constructor) rfl rfl ?_;rintro _ _ ⟨rfl,o',rfl,rfl|⟨wr,rfl⟩⟩ <;> refine ⟨_,_,by repeat constructor,by repeat constructor,?_⟩))|(refine a2k ?_;first|refine a0b (a0l rfl) rfl ?_|(refine k_g ?_;first|refine a1j rfl rfl (by with_reducible rfl) ?_|refine a1w rfl rfl (by with_reducible rfl) rfl ?_|refine a1t rfl rfl (by with_reducible rfl) rfl ?_|(refine a1z rfl rfl (fun hc => ?_) (fun hc => ?_) <;> (try (exfalso;omega))))|(refine a1a ?_;first|refine a0b (a1h rfl rfl rfl) rfl ?_|refine a0b (a1p rfl rfl (by (first|exact w64 (by omega) (by omega)|rfl))) rfl ?_|refine a0b (a2s rfl rfl (by (first|exact w64 (by omega) (by omega)|rfl))) rfl ?_)|(refine a1i ?_;first|refine a0b (a0j rfl (by with_reducible rfl) rfl) rfl ?_|refine a0b (a0i rfl (by with_reducible rfl) rfl) rfl ?_)|refine a0b (a0e rfl) rfl ?_|(refine a0d ?_;first|refine a0b (a0p rfl) rfl ?_)|refine a0u ?_|refine a0b (a1u rfl rfl (by omega) (by omega)) rfl ?_)|(first|refine a1n ?_|(refine a1o ?_;first|refine a0c (a0a ?_)|refine a0c ?_|refine a0a ?_|(refine a0x ?_;first|refine a0g rfl (by with_reducible rfl) ?_|(refine a0r rfl (fun hc => ?_) (fun hc => ?_) <;> (try (exfalso;omega))))|refine a0n ?_|refine a0o ?_|refine a0k ?_|refine a2x ?_|refine a3e ?_)|refine a0t ?_|refine a1v ?_|refine a1b ?_|refine a3d ?_|refine a8n ?_|refine a3w ?_|refine a2v ?_))
                          all_goals
                            refine ret4 (by first | exact .inr rfl | exact .inl rfl) rfl rfl rfl rfl rfl ?_
                            exact ⟨by rw [hTj]; rfl, rfl⟩
                      · rw [if_neg hn0] at hTj
                        rcases hp with rfl | rfl
                        all_goals
                          repeat' (first|(first|(refine a0d ?_;refine a0q rfl rfl rfl rfl hN1 ?_;rintro _ rfl)|(refine a0d ?_;refine a0v [0,1] rfl rfl (b1f hq (bs := acc) (ver := ver)) (by repeat constructor) (by repeat constructor) rfl rfl ?_;rintro _ _ ⟨rfl,rfl⟩;refine ⟨_,_,by repeat constructor,by repeat constructor,?_⟩)|refine a0b (a5d (i := j + 2) (j := j + 2 + n) rfl rfl rfl rfl (by omega) (by omega) (by omega) (by omega)) rfl ?_|(refine a0d ?_;refine a0v [0,1] rfl rfl (a3v hq (bs := acc) (s := (s.take (j + 2 + n)).drop (j + 2)) (ver := ver) (by simp;omega)) (by repeat constructor) (by repeat constructor) rfl rfl ?_;rintro _ _ ⟨rfl,rfl⟩;refine ⟨_,_,by repeat constructor,by repeat constructor,?_⟩)|(refine a0d ?_;refine a0q rfl rfl rfl rfl hN2 ?_;rintro _ rfl))|(refine a2k ?_;first|refine a0b (a0l rfl) rfl ?_|(refine k_g ?_;first|refine a1j rfl rfl (by with_reducible rfl) ?_|refine a1w rfl rfl (by with_reducible rfl) rfl ?_|refine a1t rfl rfl (by with_reducible rfl) rfl ?_|(refine a1z rfl rfl (fun hc => ?_) (fun hc => ?_) <;> (try (exfalso;omega))))|(refine a1a ?_;first|refine a0b (a1h rfl rfl rfl) rfl ?_|refine a0b (a1p rfl rfl (by (first|exact w64 (by omega) (by omega)|rfl))) rfl ?_|refine a0b (a2s rfl rfl (by (first|exact w64 (by omega) (by omega)|rfl))) rfl ?_)|(refine a1i ?_;first|refine a0b (a0j rfl (by with_reducible rfl) rfl) rfl ?_|refine a0b (a0i rfl (by with_reducible rfl) rfl) rfl ?_)|refine a0b (a0e rfl) rfl ?_|(refine a0d ?_;first|refine a0b (a0p rfl) rfl ?_)|refine a0u ?_|refine a0b (a1u rfl rfl (by omega) (by omega)) rfl ?_)|(first|refine a1n ?_|(refine a1o ?_;first|refine a0c (a0a ?_)|refine a0c ?_|refine a0a ?_|(refine a0x ?_;first|refine a0g rfl (by with_reducible rfl) ?_|(refine a0r rfl (fun hc => ?_) (fun hc => ?_) <;> (try (exfalso;omega))))|refine a0n ?_|refine a0o ?_|refine a0k ?_|refine a2x ?_|refine a3e ?_)|refine a0t ?_|refine a1v ?_|refine a1b ?_|refine a3d ?_|refine a8n ?_|refine a3w ?_|refine a2v ?_))
                          refine b5a (CS.mk 0 (j + 2 + n + 2) n d line (acc ++ (s.take (j + 2 + n)).drop (j + 2)) (.op 0 0) (ver + 1)) rfl (.of (.same (by repeat constructor))) ?_ ?_
                          · exact ⟨by dsimp only; omega, .inr rfl, by dsimp only; omega, .inl rfl, fun _ => ⟨f, by dsimp only; omega, hTj⟩, fun k => absurd k Nat.zero_ne_one⟩
                          · dsimp only
                            simp only [Nat.one_ne_zero, if_false, if_true]
                            omega
                    · rw [hk3] at hN2
                      rw [c4p hk3] at hTj; dsimp only at hTj
                      rcases hp with rfl | rfl
                      all_goals
                        repeat' (first|(first|(refine a0d ?_;refine a0q rfl rfl rfl rfl hN1 ?_;rintro _ rfl)|(refine a0d ?_;refine a0v [0,1] rfl rfl (b1f hq (bs := acc) (ver := ver)) (by repeat constructor) (by repeat constructor) rfl rfl ?_;rintro _ _ ⟨rfl,rfl⟩;refine ⟨_,_,by repeat constructor,by repeat constructor,?_⟩)|refine a0b (a5d (i := j + 2) (j := j + 2 + n) rfl rfl rfl rfl (by omega) (by omega) (by omega) (by omega)) rfl ?_|(refine a0d ?_;refine a0v [0,1] rfl rfl (a3v hq (bs := acc) (s := (s.take (j + 2 + n)).drop (j + 2)) (ver := ver) (by simp;omega)) (by repeat constructor) (by repeat constructor) rfl rfl ?_;rintro _ _ ⟨rfl,rfl⟩;refine ⟨_,_,by repeat constructor,by repeat constructor,?_⟩)|(refine a0d ?_;refine a0q rfl rfl rfl rfl hN2 ?_;rintro _ rfl))|(refine a2k ?_;first|refine a0b (a0l rfl) rfl ?_|(refine k_g ?_;first|refine a1j rfl rfl (by with_reducible rfl) ?_|refine a1w rfl rfl (by with_reducible rfl) rfl ?_|refine a1t rfl rfl (by with_reducible rfl) rfl ?_|(refine a1z rfl rfl (fun hc => ?_) (fun hc => ?_) <;> (try (exfalso;omega))))|(refine a1a ?_;first|refine a0b (a1h rfl rfl rfl) rfl ?_|refine a0b (a1p rfl rfl (by (first|exact w64 (by omega) (by omega)|rfl))) rfl ?_|refine a0b (a2s rfl rfl (by (first|exact w64 (by omega) (by omega)|rfl))) rfl ?_)|(refine a1i ?_;first|refine a0b (a0j rfl (by with_reducible rfl) rfl) rfl ?_|refine a0b (a0i rfl (by with_reducible rfl) rfl) rfl ?_)|refine a0b (a0e rfl) rfl ?_|(refine a0d ?_;first|refine a0b (a0p rfl) rfl ?_)|refine a0u ?_|refine a0b (a1u rfl rfl (by omega) (by omega)) rfl ?_)|(first|refine a1n ?_|(refine a1o ?_;first|refine a0c (a0a ?_)|refine a0c ?_|refine a0a ?_|(refine a0x ?_;first|refine a0g rfl (by with_reducible rfl) ?_|(refine a0r rfl (fun hc => ?_) (fun hc => ?_) <;> (try (exfalso;omega))))|refine a0n ?_|refine a0o ?_|refine a0k ?_|refine a2x ?_|refine a3e ?_)|refine a0t ?_|refine a1v ?_|refine a1b ?_|refine a3d ?_|refine a8n ?_|refine a3w ?_|refine a2v ?_))
                        refine ret4 (by first | exact .inr rfl | exact .inl rfl) rfl rfl rfl rfl rfl ?_
                        exact ⟨by rw [hTj], rfl⟩
                    · rw [hk3] at hN2
                      rw [c4o hk3] at hTj; dsimp only at hTj
                      rcases hp with rfl | rfl
                      all_goals
                        repeat' (first|(first|(refine a0d ?_;refine a0q rfl rfl rfl rfl hN1 ?_;rintro _ rfl)|(refine a0d ?_;refine a0v [0,1] rfl rfl (b1f hq (bs := acc) (ver := ver)) (by repeat constructor) (by repeat constructor) rfl rfl ?_;rintro _ _ ⟨rfl,rfl⟩;refine ⟨_,_,by repeat constructor,by repeat constructor,?_⟩)|refine a0b (a5d (i := j + 2) (j := j + 2 + n) rfl rfl rfl rfl (by omega) (by omega) (by omega) (by omega)) rfl ?_|(refine a0d ?_;refine a0v [0,1] rfl rfl (a3v hq (bs := acc) (s := (s.take (j + 2 + n)).drop (j + 2)) (ver := ver) (by simp;omega)) (by repeat constructor) (by repeat constructor) rfl rfl ?_;rintro _ _ ⟨rfl,rfl⟩;refine ⟨_,_,by repeat constructor,by repeat constructor,?_⟩)|(refine a0d ?_;refine a0q rfl rfl rfl rfl hN2 ?_;rintro _ rfl))|(refine a2k ?_;first|refine a0b (a0l rfl) rfl ?_|(refine k_g ?_;first|refine a1j rfl rfl (by with_reducible rfl) ?_|refine a1w rfl rfl (by with_reducible rfl) rfl ?_|refine a1t rfl rfl (by with_reducible rfl) rfl ?_|(refine a1z rfl rfl (fun hc => ?_) (fun hc => ?_) <;> (try (exfalso;omega))))|(refine a1a ?_;first|refine a0b (a1h rfl rfl rfl) rfl ?_|refine a0b (a1p rfl rfl (by (first|exact w64 (by omega) (by omega)|rfl))) rfl ?_|refine a0b (a2s rfl rfl (by (first|exact w64 (by omega) (by omega)|rfl))) rfl ?_)|(refine a1i ?_;first|refine a0b (a0j rfl (by with_reducible rfl) rfl) rfl ?_|refine a0b (a0i rfl (by with_reducible rfl) rfl) rfl ?_)|refine a0b (a0e rfl) rfl ?_|(refine a0d ?_;first|refine a0b (a0p rfl) rfl ?_)|refine a0u ?_|refine a0b (a1u rfl rfl (by omega) (by omega)) rfl ?_)|(first|refine a1n ?_|(refine a1o ?_;first|refine a0c (a0a ?_)|refine a0c ?_|refine a0a ?_|(refine a0x ?_;first|refine a0g rfl (by with_reducible rfl) ?_|(refine a0r rfl (fun hc => ?_) (fun hc => ?_) <;> (try (exfalso;omega))))|refine a0n ?_|refine a0o ?_|refine a0k ?_|refine a2x ?_|refine a3e ?_)|refine a0t ?_|refine a1v ?_|refine a1b ?_|refine a3d ?_|refine a8n ?_|refine a3w ?_|refine a2v ?_))
                        refine ret4 (by first | exact .inr rfl | exact .inl rfl) rfl rfl rfl rfl rfl ?_
                        exact ⟨by rw [hTj], rfl⟩
              · rw [hk] at hN1
                rw [c4p hk, afterL] at hTj
                repeat' (first|((refine a0d ?_;refine a0q rfl rfl rfl rfl hN1 ?_;rintro _ rfl))|(refine a2k ?_;first|refine a0b (a0l rfl) rfl ?_|(refine k_g ?_;first|refine a1j rfl rfl (by with_reducible rfl) ?_|refine a1w rfl rfl (by with_reducible rfl) rfl ?_|refine a1t rfl rfl (by with_reducible rfl) rfl ?_|(refine a1z rfl rfl (fun hc => ?_) (fun hc => ?_) <;> (try (exfalso;omega))))|(refine a1a ?_;first|refine a0b (a1h rfl rfl rfl) rfl ?_|refine a0b (a1p rfl rfl (by (first|exact w64 (by omega) (by omega)|rfl))) rfl ?_|refine a0b (a2s rfl rfl (by (first|exact w64 (by omega) (by omega)|rfl))) rfl ?_)|(refine a1i ?_;first|refine a0b (a0j rfl (by with_reducible rfl) rfl) rfl ?_|refine a0b (a0i rfl (by with_reducible rfl) rfl) rfl ?_)|refine a0b (a0e rfl) rfl ?_|(refine a0d ?_;first|refine a0b (a0p rfl) rfl ?_)|refine a0u ?_|refine a0b (a1u rfl rfl (by omega) (by omega)) rfl ?_)|(first|refine a1n ?_|(refine a1o ?_;first|refine a0c (a0a ?_)|refine a0c ?_|refine a0a ?_|(refine a0x ?_;first|refine a0g rfl (by with_reducible rfl) ?_|(refine a0r rfl (fun hc => ?_) (fun hc => ?_) <;> (try (exfalso;omega))))|refine a0n ?_|refine a0o ?_|refine a0k ?_|refine a2x ?_|refine a3e ?_)|refine a0t ?_|refine a1v ?_|refine a1b ?_|refine a3d ?_|refine a8n ?_|refine a3w ?_|refine a2v ?_))
                refine ret4 (by first | exact .inr rfl | exact .inl rfl) rfl rfl rfl rfl rfl ?_
                exact ⟨by rw [hTj], rfl⟩
              · rw [hk] at hN1
                rw [c4o hk, afterL] at hTj
                repeat' (first|((refine a0d ?_;refine a0q rfl rfl rfl rfl hN1 ?_;rintro _ rfl))|(refine a2k ?_;first|refine a0b (a0l rfl) rfl ?_|(refine k_g ?_;first|refine a1j rfl rfl (by with_reducible rfl) ?_|refine a1w rfl rfl (by with_reducible rfl) rfl ?_|refine a1t rfl rfl (by with_reducible rfl) rfl ?_|(refine a1z rfl rfl (fun hc => ?_) (fun hc => ?_) <;> (try (exfalso;omega))))|(refine a1a ?_;first|refine a0b (a1h rfl rfl rfl) rfl ?_|refine a0b (a1p rfl rfl (by (first|exact w64 (by omega) (by omega)|rfl))) rfl ?_|refine a0b (a2s rfl rfl (by (first|exact w64 (by omega) (by omega)|rfl))) rfl ?_)|(refine a1i ?_;first|refine a0b (a0j rfl (by with_reducible rfl) rfl) rfl ?_|refine a0b (a0i rfl (by with_reducible rfl) rfl) rfl ?_)|refine a0b (a0e rfl) rfl ?_|(refine a0d ?_;first|refine a0b (a0p rfl) rfl ?_)|refine a0u ?_|refine a0b (a1u rfl rfl (by omega) (by omega)) rfl ?_)|(first|refine a1n ?_|(refine a1o ?_;first|refine a0c (a0a ?_)|refine a0c ?_|refine a0a ?_|(refine a0x ?_;first|refine a0g rfl (by with_reducible rfl) ?_|(refine a0r rfl (fun hc => ?_) (fun hc => ?_) <;> (try (exfalso;omega))))|refine a0n ?_|refine a0o ?_|refine a0k ?_|refine a2x ?_|refine a3e ?_)|refine a0t ?_|refine a1v ?_|refine a1b ?_|refine a3d ?_|refine a8n ?_|refine a3w ?_|refine a2v ?_))
                refine ret4 (by first | exact .inr rfl | exact .inl rfl) rfl rfl rfl rfl rfl ?_
                exact ⟨by rw [hTj], rfl⟩
            · intro _
              by_cases hsemi : byteAt s (i : Int) = 59
              · have hst := b2p (line := line) (n := n) hend hdig hd hsemi
                rw [hst] at hT1
                repeat' (first|((refine b1e (rSt s acc p n d line ver) rLab (ROk s acc T f i n line) (rM2 s) (s.length + 1) 2 ?_ ?_ ?_ ?_))|(refine a2k ?_;first|refine a0b (a0l rfl) rfl ?_|(refine k_g ?_;first|refine a1j rfl rfl (by with_reducible rfl) ?_|refine a1w rfl rfl (by with_reducible rfl) rfl ?_|refine a1t rfl rfl (by with_reducible rfl) rfl ?_|(refine a1z rfl rfl (fun hc => ?_) (fun hc => ?_) <;> (try (exfalso;omega))))|(refine a1a ?_;first|refine a0b (a1h rfl rfl rfl) rfl ?_|refine a0b (a1p rfl rfl (by (first|exact w64 (by omega) (by omega)|rfl))) rfl ?_|refine a0b (a2s rfl rfl (by (first|exact w64 (by omega) (by omega)|rfl))) rfl ?_)|(refine a1i ?_;first|refine a0b (a0j rfl (by with_reducible rfl) rfl) rfl ?_|refine a0b (a0i rfl (by with_reducible rfl) rfl) rfl ?_)|refine a0b (a0e rfl) rfl ?_|(refine a0d ?_;first|refine a0b (a0p rfl) rfl ?_)|refine a0u ?_|refine a0b (a1u rfl rfl (by omega) (by omega)) rfl ?_)|(first|refine a1n ?_|(refine a1o ?_;first|refine a0c (a0a ?_)|refine a0c ?_|refine a0a ?_|(refine a0x ?_;first|refine a0g rfl (by with_reducible rfl) ?_|(refine a0r rfl (fun hc => ?_) (fun hc => ?_) <;> (try (exfalso;omega))))|refine a0n ?_|refine a0o ?_|refine a0k ?_|refine a2x ?_|refine a3e ?_)|refine a0t ?_|refine a1v ?_|refine a1b ?_|refine a3d ?_|refine a8n ?_|refine a3w ?_|refine a2v ?_))
                · intro _ _; rfl
                · intro _ _; exact Nat.le_refl _
                · rintro j ⟨hij, hjl, hTj⟩ _
                  dsimp only [rSt]
                  show AWp _ _ (lblC _ 2) _ _
                  by_cases hje : j < s.length
                  · have htb := b8s (s := s) (i := (j : Int))
                    by_cases htx : textB (bAt s (j : Int)) = true
                    · have hre := b2y (n := n) (line := line) hje htx
                      rw [hre] at hTj
                      have htx2 := htb.1 htx
                      by_cases hbig : line + 1024 ≤ j
                      · rw [if_pos hbig] at hTj
                        repeat' (first|(refine a2k ?_;first|refine a0b (a0l rfl) rfl ?_|(refine k_g ?_;first|refine a1j rfl rfl (by with_reducible rfl) ?_|refine a1w rfl rfl (by with_reducible rfl) rfl ?_|refine a1t rfl rfl (by with_reducible rfl) rfl ?_|(refine a1z rfl rfl (fun hc => ?_) (fun hc => ?_) <;> (try (exfalso;omega))))|(refine a1a ?_;first|refine a0b (a1h rfl rfl rfl) rfl ?_|refine a0b (a1p rfl rfl (by (first|exact w64 (by omega) (by omega)|rfl))) rfl ?_|refine a0b (a2s rfl rfl (by (first|exact w64 (by omega) (by omega)|rfl))) rfl ?_)|(refine a1i ?_;first|refine a0b (a0j rfl (by with_reducible rfl) rfl) rfl ?_|refine a0b (a0i rfl (by with_reducible rfl) rfl) rfl ?_)|refine a0b (a0e rfl) rfl ?_|(refine a0d ?_;first|refine a0b (a0p rfl) rfl ?_)|refine a0u ?_|refine a0b (a1u rfl rfl (by omega) (by omega)) rfl ?_)|(first|refine a1n ?_|(refine a1o ?_;first|refine a0c (a0a ?_)|refine a0c ?_|refine a0a ?_|(refine a0x ?_;first|refine a0g rfl (by with_reducible rfl) ?_|(refine a0r rfl (fun hc => ?_) (fun hc => ?_) <;> (try (exfalso;omega))))|refine a0n ?_|refine a0o ?_|refine a0k ?_|refine a2x ?_|refine a3e ?_)|refine a0t ?_|refine a1v ?_|refine a1b ?_|refine a3d ?_|refine a8n ?_|refine a3w ?_|refine a2v ?_))
                        all_goals
                          refine ret4 (by first | exact .inr rfl | exact .inl rfl) rfl rfl rfl rfl rfl ?_
                          exact ⟨by rw [hTj]; rfl, rfl⟩
                      · rw [if_neg hbig] at hTj
                        repeat' (first|(refine a2k ?_;first|refine a0b (a0l rfl) rfl ?_|(refine k_g ?_;first|refine a1j rfl rfl (by with_reducible rfl) ?_|refine a1w rfl rfl (by with_reducible rfl) rfl ?_|refine a1t rfl rfl (by with_reducible rfl) rfl ?_|(refine a1z rfl rfl (fun hc => ?_) (fun hc => ?_) <;> (try (exfalso;omega))))|(refine a1a ?_;first|refine a0b (a1h rfl rfl rfl) rfl ?_|refine a0b (a1p rfl rfl (by (first|exact w64 (by omega) (by omega)|rfl))) rfl ?_|refine a0b (a2s rfl rfl (by (first|exact w64 (by omega) (by omega)|rfl))) rfl ?_)|(refine a1i ?_;first|refine a0b (a0j rfl (by with_reducible rfl) rfl) rfl ?_|refine a0b (a0i rfl (by with_reducible rfl) rfl) rfl ?_)|refine a0b (a0e rfl) rfl ?_|(refine a0d ?_;first|refine a0b (a0p rfl) rfl ?_)|refine a0u ?_|refine a0b (a1u rfl rfl (by omega) (by omega)) rfl ?_)|(first|refine a1n ?_|(refine a1o ?_;first|refine a0c (a0a ?_)|refine a0c ?_|refine a0a ?_|(refine a0x ?_;first|refine a0g rfl (by with_reducible rfl) ?_|(refine a0r rfl (fun hc => ?_) (fun hc => ?_) <;> (try (exfalso;omega))))|refine a0n ?_|refine a0o ?_|refine a0k ?_|refine a2x ?_|refine a3e ?_)|refine a0t ?_|refine a1v ?_|refine a1b ?_|refine a3d ?_|refine a8n ?_|refine a3w ?_|refine a2v ?_))
                        all_goals
                          refine b5a (j + 1) rfl (.of (.same (by repeat constructor))) ⟨by omega, by omega, hTj⟩ (by unfold rM2; omega)
                    · have hre := b2z (n := n) (line := line) hje htx
                      rw [hre] at hTj
                      have htx2 : ¬ ((32 ≤ byteAt s (j : Int) ∧ byteAt s (j : Int) ≤ 126) ∨ byteAt s (j : Int) = 9) := fun k => htx (htb.2 k)
                      repeat' (first|(refine a2k ?_;first|refine a0b (a0l rfl) rfl ?_|(refine k_g ?_;first|refine a1j rfl rfl (by with_reducible rfl) ?_|refine a1w rfl rfl (by with_reducible rfl) rfl ?_|refine a1t rfl rfl (by with_reducible rfl) rfl ?_|(refine a1z rfl rfl (fun hc => ?_) (fun hc => ?_) <;> (try (exfalso;omega))))|(refine a1a ?_;first|refine a0b (a1h rfl rfl rfl) rfl ?_|refine a0b (a1p rfl rfl (by (first|exact w64 (by omega) (by omega)|rfl))) rfl ?_|refine a0b (a2s rfl rfl (by (first|exact w64 (by omega) (by omega)|rfl))) rfl ?_)|(refine a1i ?_;first|refine a0b (a0j rfl (by with_reducible rfl) rfl) rfl ?_|refine a0b (a0i rfl (by with_reducible rfl) rfl) rfl ?_)|refine a0b (a0e rfl) rfl ?_|(refine a0d ?_;first|refine a0b (a0p rfl) rfl ?_)|refine a0u ?_|refine a0b (a1u rfl rfl (by omega) (by omega)) rfl ?_)|(first|refine a1n ?_|(refine a1o ?_;first|refine a0c (a0a ?_)|refine a0c ?_|refine a0a ?_|(refine a0x ?_;first|refine a0g rfl (by with_reducible rfl) ?_|(refine a0r rfl (fun hc => ?_) (fun hc => ?_) <;> (try (exfalso;omega))))|refine a0n ?_|refine a0o ?_|refine a0k ?_|refine a2x ?_|refine a3e ?_)|refine a0t ?_|refine a1v ?_|refine a1b ?_|refine a3d ?_|refine a8n ?_|refine a3w ?_|refine a2v ?_))
                      all_goals
                        exact a6v j ⟨by omega, hjl, hTj⟩ (.of (.same (by repeat constructor)))
                  · have hre := b6m (n := n) (line := line) (s := s) (i := j) (by omega)
                    rw [hre] at hTj
                    repeat' (first|(refine a2k ?_;first|refine a0b (a0l rfl) rfl ?_|(refine k_g ?_;first|refine a1j rfl rfl (by with_reducible rfl) ?_|refine a1w rfl rfl (by with_reducible rfl) rfl ?_|refine a1t rfl rfl (by with_reducible rfl) rfl ?_|(refine a1z rfl rfl (fun hc => ?_) (fun hc => ?_) <;> (try (exfalso;omega))))|(refine a1a ?_;first|refine a0b (a1h rfl rfl rfl) rfl ?_|refine a0b (a1p rfl rfl (by (first|exact w64 (by omega) (by omega)|rfl))) rfl ?_|refine a0b (a2s rfl rfl (by (first|exact w64 (by omega) (by omega)|rfl))) rfl ?_)|(refine a1i ?_;first|refine a0b (a0j rfl (by with_reducible rfl) rfl) rfl ?_|refine a0b (a0i rfl (by with_reducible rfl) rfl) rfl ?_)|refine a0b (a0e rfl) rfl ?_|(refine a0d ?_;first|refine a0b (a0p rfl) rfl ?_)|refine a0u ?_|refine a0b (a1u rfl rfl (by omega) (by omega)) rfl ?_)|(first|refine a1n ?_|(refine a1o ?_;first|refine a0c (a0a ?_)|refine a0c ?_|refine a0a ?_|(refine a0x ?_;first|refine a0g rfl (by with_reducible rfl) ?_|(refine a0r rfl (fun hc => ?_) (fun hc => ?_) <;> (try (exfalso;omega))))|refine a0n ?_|refine a0o ?_|refine a0k ?_|refine a2x ?_|refine a3e ?_)|refine a0t ?_|refine a1v ?_|refine a1b ?_|refine a3d ?_|refine a8n ?_|refine a3w ?_|refine a2v ?_))
                    refine ret4 (by first | exact .inr rfl | exact .inl rfl) rfl rfl rfl rfl rfl ?_
                    exact ⟨by rw [hTj]; rfl, rfl⟩
                · intro hf
                  have hf1 := hf (Nat.succ i) ⟨Nat.le_refl _, by omega, hT1⟩
                  clear hf
                  repeat' (first|((refine b2i (Nat.succ i) hf1 ?_ ?_))|(refine a2k ?_;first|refine a0b (a0l rfl) rfl ?_|(refine k_g ?_;first|refine a1j rfl rfl (by with_reducible rfl) ?_|refine a1w rfl rfl (by with_reducible rfl) rfl ?_|refine a1t rfl rfl (by with_reducible rfl) rfl ?_|(refine a1z rfl rfl (fun hc => ?_) (fun hc => ?_) <;> (try (exfalso;omega))))|(refine a1a ?_;first|refine a0b (a1h rfl rfl rfl) rfl ?_|refine a0b (a1p rfl rfl (by (first|exact w64 (by omega) (by omega)|rfl))) rfl ?_|refine a0b (a2s rfl rfl (by (first|exact w64 (by omega) (by omega)|rfl))) rfl ?_)|(refine a1i ?_;first|refine a0b (a0j rfl (by with_reducible rfl) rfl) rfl ?_|refine a0b (a0i rfl (by with_reducible rfl) rfl) rfl ?_)|refine a0b (a0e rfl) rfl ?_|(refine a0d ?_;first|refine a0b (a0p rfl) rfl ?_)|refine a0u ?_|refine a0b (a1u rfl rfl (by omega) (by omega)) rfl ?_)|(first|refine a1n ?_|(refine a1o ?_;first|refine a0c (a0a ?_)|refine a0c ?_|refine a0a ?_|(refine a0x ?_;first|refine a0g rfl (by with_reducible rfl) ?_|(refine a0r rfl (fun hc => ?_) (fun hc => ?_) <;> (try (exfalso;omega))))|refine a0n ?_|refine a0o ?_|refine a0k ?_|refine a2x ?_|refine a3e ?_)|refine a0t ?_|refine a1v ?_|refine a1b ?_|refine a3d ?_|refine a8n ?_|refine a3w ?_|refine a2v ?_))
                  · unfold rM2; omega
                  · exact .of (.same (by repeat constructor))
              · have hst := b0r (line := line) (n := n) hend hdig hd hsemi
                rw [hst] at hT1
                repeat' (first|(refine a2k ?_;first|refine a0b (a0l rfl) rfl ?_|(refine k_g ?_;first|refine a1j rfl rfl (by with_reducible rfl) ?_|refine a1w rfl rfl (by with_reducible rfl) rfl ?_|refine a1t rfl rfl (by with_reducible rfl) rfl ?_|(refine a1z rfl rfl (fun hc => ?_) (fun hc => ?_) <;> (try (exfalso;omega))))|(refine a1a ?_;first|refine a0b (a1h rfl rfl rfl) rfl ?_|refine a0b (a1p rfl rfl (by (first|exact w64 (by omega) (by omega)|rfl))) rfl ?_|refine a0b (a2s rfl rfl (by (first|exact w64 (by omega) (by omega)|rfl))) rfl ?_)|(refine a1i ?_;first|refine a0b (a0j rfl (by with_reducible rfl) rfl) rfl ?_|refine a0b (a0i rfl (by with_reducible rfl) rfl) rfl ?_)|refine a0b (a0e rfl) rfl ?_|(refine a0d ?_;first|refine a0b (a0p rfl) rfl ?_)|refine a0u ?_|refine a0b (a1u rfl rfl (by omega) (by omega)) rfl ?_)|(first|refine a1n ?_|(refine a1o ?_;first|refine a0c (a0a ?_)|refine a0c ?_|refine a0a ?_|(refine a0x ?_;first|refine a0g rfl (by with_reducible rfl) ?_|(refine a0r rfl (fun hc => ?_) (fun hc => ?_) <;> (try (exfalso;omega))))|refine a0n ?_|refine a0o ?_|refine a0k ?_|refine a2x ?_|refine a3e ?_)|refine a0t ?_|refine a1v ?_|refine a1b ?_|refine a3d ?_|refine a8n ?_|refine a3w ?_|refine a2v ?_))
                exact a6v i ⟨Nat.le_refl _, hle, hT1⟩ (.of (.same (by repeat constructor)))
      · have hst := b6f (line := line) (d := d) (n := n) (s := s) (i := i) (by omega)
        repeat' (first|((refine a0d ?_;refine a0q rfl rfl rfl rfl b2t ?_;rintro _ rfl))|(refine a2k ?_;first|refine a0b (a0l rfl) rfl ?_|(refine k_g ?_;first|refine a1j rfl rfl (by with_reducible rfl) ?_|refine a1w rfl rfl (by with_reducible rfl) rfl ?_|refine a1t rfl rfl (by with_reducible rfl) rfl ?_|(refine a1z rfl rfl (fun hc => ?_) (fun hc => ?_) <;> (try (exfalso;omega))))|(refine a1a ?_;first|refine a0b (a1h rfl rfl rfl) rfl ?_|refine a0b (a1p rfl rfl (by (first|exact w64 (by omega) (by omega)|rfl))) rfl ?_|refine a0b (a2s rfl rfl (by (first|exact w64 (by omega) (by omega)|rfl))) rfl ?_)|(refine a1i ?_;first|refine a0b (a0j rfl (by with_reducible rfl) rfl) rfl ?_|refine a0b (a0i rfl (by with_reducible rfl) rfl) rfl ?_)|refine a0b (a0e rfl) rfl ?_|(refine a0d ?_;first|refine a0b (a0p rfl) rfl ?_)|refine a0u ?_|refine a0b (a1u rfl rfl (by omega) (by omega)) rfl ?_)|(first|refine a1n ?_|(refine a1o ?_;first|refine a0c (a0a ?_)|refine a0c ?_|refine a0a ?_|(refine a0x ?_;first|refine a0g rfl (by with_reducible rfl) ?_|(refine a0r rfl (fun hc => ?_) (fun hc => ?_) <;> (try (exfalso;omega))))|refine a0n ?_|refine a0o ?_|refine a0k ?_|refine a2x ?_|refine a3e ?_)|refine a0t ?_|refine a1v ?_|refine a1b ?_|refine a3d ?_|refine a8n ?_|refine a3w ?_|refine a2v ?_))
        refine ret4 (by first | exact .inr rfl | exact .inl rfl) rfl rfl rfl rfl rfl ?_
        exact ⟨by rw [hT1, hst]; rfl, rfl⟩
  · intro hf
    repeat' (first|(first|refine b2i (CS.mk 0 at' 0 0 0 [] .nilp 0) (hf _ ?_) ?_ ?_|(refine a7z rfl rfl rfl (by first|exact ln0) (by repeat constructor) rfl ?_;refine a4j (.adoptBox (id := 0) (k := 1) (e := 5) (sz := 1) rfl rfl (by decide) rfl rfl rfl) ?_))|(refine a2k ?_;first|refine a0b (a0l rfl) rfl ?_|(refine k_g ?_;first|refine a1j rfl rfl (by with_reducible rfl) ?_|refine a1w rfl rfl (by with_reducible rfl) rfl ?_|refine a1t rfl rfl (by with_reducible rfl) rfl ?_|(refine a1z rfl rfl (fun hc => ?_) (fun hc => ?_) <;> (try (exfalso;omega))))|(refine a1a ?_;first|refine a0b (a1h rfl rfl rfl) rfl ?_|refine a0b (a1p rfl rfl (by (first|exact w64 (by omega) (by omega)|rfl))) rfl ?_|refine a0b (a2s rfl rfl (by (first|exact w64 (by omega) (by omega)|rfl))) rfl ?_)|(refine a1i ?_;first|refine a0b (a0j rfl (by with_reducible rfl) rfl) rfl ?_|refine a0b (a0i rfl (by with_reducible rfl) rfl) rfl ?_)|refine a0b (a0e rfl) rfl ?_|(refine a0d ?_;first|refine a0b (a0p rfl) rfl ?_)|refine a0u ?_|refine a0b (a1u rfl rfl (by omega) (by omega)) rfl ?_)|(first|refine a1n ?_|(refine a1o ?_;first|refine a0c (a0a ?_)|refine a0c ?_|refine a0a ?_|(refine a0x ?_;first|refine a0g rfl (by with_reducible rfl) ?_|(refine a0r rfl (fun hc => ?_) (fun hc => ?_) <;> (try (exfalso;omega))))|refine a0n ?_|refine a0o ?_|refine a0k ?_|refine a2x ?_|refine a3e ?_)|refine a0t ?_|refine a1v ?_|refine a1b ?_|refine a3d ?_|refine a8n ?_|refine a3w ?_|refine a2v ?_))
    · exact ⟨h, .inl rfl, Nat.zero_le _, .inl rfl, fun _ => ⟨s.length + 1, by dsimp only; omega, hT⟩, fun k => absurd k Nat.zero_ne_one⟩
    · dsimp only
      simp only [if_true]
      omega
    · exact .of (.same (by repeat constructor))
end
end Go.Proofs.YtkljmljkiodnpaaGreatDoor.L

namespace Go.Proofs.YtkljmljkiodnpaaGreatDoor.L
open Go Go.RowKit Go.Proofs
attribute [local irreducible] AL QL AWp Thn InB RetQ ACalls LoopQ HL HO HW HQ NoG JmpQ MidQ

def rsAV : RS → AV
  | .more => .tup [.int .i64 0, .int .i64 (-1)]
  | .wrong => .tup [.int .i64 0, .int .i64 (-2)]
  | .got n k => .tup [.int .i64 (n : Int), .int .i64 (k : Int)]
section
variable {w0 : World} {base : Nat}
end
end Go.Proofs.YtkljmljkiodnpaaGreatDoor.L

namespace Go.Proofs.YtkljmljkiodnpaaGreatDoor.L
open Go Go.RowKit Go.Proofs
attribute [local irreducible] AL QL AWp Thn InB RetQ ACalls LoopQ HL HO HW HQ NoG JmpQ MidQ

theorem b5o {n i m k : Nat} {s : List UInt8} (hi : i ≤ s.length) (h : endL n i (s.drop i) = .got m k) : m = n ∧ k = i + 2 ∧ k ≤ s.length := by
  obtain ⟨h1, h2, h3⟩ := b6z h
  rw [List.length_drop] at h3
  exact ⟨h1, h2, by omega⟩
theorem c2p {n line m k : Nat} {s : List UInt8} : ∀ {i : Nat}, i ≤ s.length → restL n line i (s.drop i) = .got m k → m = n ∧ i + 2 ≤ k ∧ k ≤ s.length := by
  intro i
  generalize hd : s.length - i = q
  induction q generalizing i with
  | zero =>
    intro hi h
    rw [b6m (by omega)] at h
    cases h
  | succ q ih =>
    intro hi h
    by_cases htx : textB (bAt s (i : Int)) = true
    · rw [b2y (by omega) htx] at h
      split at h
      · cases h
      · have := ih (i := i + 1) (by omega) (by omega) h
        omega
    · rw [b2z (by omega) htx] at h
      have := b5o hi h
      omega
theorem c2e {line m k : Nat} {s : List UInt8} : ∀ {i d n : Nat}, i ≤ s.length → d ≤ 8 → n < 16 ^ d → sizeL line d n i (s.drop i) = .got m k → m < 4294967296 ∧ i + 2 ≤ k ∧ k ≤ s.length := by
  intro i
  generalize hd : s.length - i = q
  induction q generalizing i with
  | zero =>
    intro d n hi h8 hn h
    rw [b6f (by omega)] at h
    cases h
  | succ q ih =>
    intro d n hi h8 hn h
    have hpw := pow16 h8
    by_cases hdig : 0 ≤ hexI (bAt s (i : Int))
    · rw [b2o (by omega) hdig] at h
      have hx := c0q (bAt s (i : Int))
      split at h
      · cases h
      · have := ih (i := i + 1) (by omega) (d := d + 1) (n := 16 * n + (hexI (bAt s (i : Int))).toNat) (by omega) (by omega) (by rw [Nat.pow_succ]; omega) h
        omega
    · by_cases h0 : d = 0
      · subst h0
        rw [b2q (by omega) hdig] at h
        cases h
      · by_cases hc : byteAt s (i : Int) = 59
        · rw [b2p (by omega) hdig h0 hc] at h
          have := c2p (i := i + 1) (by omega) h
          omega
        · rw [b0r (by omega) hdig h0 hc] at h
          have := b5o hi h
          omega
section
variable {w0 : World} {base : Nat}
end
end Go.Proofs.YtkljmljkiodnpaaGreatDoor.L

namespace Go.Proofs.YtkljmljkiodnpaaGreatDoor.L
open Go Go.RowKit Go.Proofs
attribute [local irreducible] AL QL AWp Thn InB RetQ ACalls LoopQ HL HO HW HQ NoG JmpQ MidQ

def crlf2 : List UInt8 := [13, 10, 13, 10]
def bodyAt (s : List UInt8) (at' : Nat) (h : Hd) : CR :=
  if (bodyS h).2.2 ≠ 0 then .bad (bodyS h).2.2
  else if (bodyS h).1 = 1 then (if s.length < at' + (bodyS h).2.1.toNat then .more else .got ((s.take (at' + (bodyS h).2.1.toNat)).drop at') (at' + (bodyS h).2.1.toNat))
  else if (bodyS h).1 = 2 then chunksS s at' else .got [] at'
inductive NX where
  | more
  | bad (st : Int)
  | got (h : Hd) (body : List UInt8) (k : Nat)
def nextL (s : List UInt8) : NX :=
  if Lib.index s crlf2 < 0 then (if 4096 < s.length then .bad 431 else .more)
  else if (headParse (s.take ((Lib.index s crlf2).toNat + 4))).2.1 ≠ 0 then .bad (headParse (s.take ((Lib.index s crlf2).toNat + 4))).2.1
  else match bodyAt s ((Lib.index s crlf2).toNat + 4) (headParse (s.take ((Lib.index s crlf2).toNat + 4))).1 with
    | .more => .more
    | .bad st => .bad st
    | .got b k => .got (headParse (s.take ((Lib.index s crlf2).toNat + 4))).1 b k
abbrev bodAV : CR → AV
  | .more => .tup [.str [], .int .i64 (-1), .int .i64 0]
  | .bad st => .tup [.str [], .int .i64 0, .int .i64 st]
  | .got b k => .tup [.str b, .int .i64 (k : Int), .int .i64 0]
abbrev parO (is : Bool) (s : List UInt8) (st : Int) : AO := .box [.bool is, .str s, .int .i64 st]
def feedS (s : List UInt8) (st : Int) (t : List UInt8) : Int × List UInt8 := if st ≠ 0 then (80, s) else if 65536 < s.length + t.length then (2, s) else (0, s ++ t)
section
variable {w0 : World} {base : Nat}
theorem c5j {s p : List UInt8} (hG : Glob w0 base) (hs : s.length < 4294967281) : PCalls (EE w0 base) 44 [.str s, .str p] fun rv => rv = .int .i64 (Lib.index s p) := by
  refine a3n rfl fun I ν w vs hh hl hv => ?_
  match vs, hl with
  | [v1, v2], _ =>
  have e1 := (hv 0 _ v1 rfl rfl).str_inv
  have e2 := (hv 1 _ v2 rfl rfl).str_inv
  subst e1; subst e2
  obtain ⟨m, hm⟩ := b5g hG hh
  exact ⟨_, fun w I => .pure (.int _ _), (Tryz.strings_Index ⟨s.toArray⟩ ⟨p.toArray⟩ m w hs hm).mono fun e w' ⟨he, hw⟩ => ⟨he, by subst hw; exact Below.refl _ _⟩⟩
theorem a4f {is : Bool} {s : List UInt8} {st : Int} : ACalls (EE w0 base) 41 [.op 0 0] [parO is s st] fun rv os => rv = .bool is ∧ os = [parO is s st] := by
  refine a1s Tryz.func41 rfl rfl rfl (.cons .nil) ?_
  cases is
  all_goals
    repeat' (first|(first|refine a0b (a1k (n := 0) rfl rfl) rfl ?_|refine a0b (a5x rfl rfl rfl) rfl ?_)|(refine a2k ?_;first|refine a0b (a0l rfl) rfl ?_|(refine k_g ?_;first|refine a1j rfl rfl (by with_reducible rfl) ?_)|refine a0b (a0f rfl rfl) rfl ?_|(refine a1g ?_;first|refine a0b (a0w rfl rfl) rfl ?_)|(refine a1i ?_;first|refine a0b (a0j rfl (by with_reducible rfl) rfl) rfl ?_)|refine a0b (a0e rfl) rfl ?_|refine a0u ?_)|(first|refine a1n ?_|(refine a1o ?_;first|refine a0c (a0a ?_)|refine a0c ?_|refine a0a ?_|refine a0o ?_)))
    refine ret1 (by first | exact .inr rfl | exact .inl rfl) rfl rfl ?_
    exact ⟨rfl, rfl⟩
theorem c8c {s t : List UInt8} {st : Int} (hs : s.length ≤ 65536) (ht : t.length ≤ 140737488351232) : ACalls (EE w0 base) 28 [.op 0 0, .str t] [parO true s st] fun rv os => rv = .int .i64 (feedS s st t).1 ∧ os = [parO true (feedS s st t).2 st] := by
  refine a1s Tryz.func28 rfl rfl rfl (.cons (.cons .nil)) ?_
  unfold feedS
  by_cases h1 : st = 0
  · rw [if_neg (fun k => k h1)]
    by_cases h2 : 65536 < s.length + t.length
    · rw [if_pos h2]
      repeat' (first|(first|(refine a0d ?_;refine a0v [0] rfl rfl (a4f (is := true) (s := s) (st := st)) (by repeat constructor) (by repeat constructor) rfl rfl ?_;rintro _ _ ⟨rfl,rfl⟩;refine ⟨_,_,by repeat constructor,by repeat constructor,?_⟩)|refine a0b (a1k (n := 0) rfl rfl) rfl ?_)|(refine a2k ?_;first|refine a0b (a0l rfl) rfl ?_|refine a0b (a0f rfl rfl) rfl ?_|(refine a1g ?_;first|refine a0b (a0w rfl rfl) rfl ?_)|(refine a1a ?_;first|refine a0b (a1h rfl rfl rfl) rfl ?_|refine a0b (a4m rfl rfl (by first|omega|(simp only [List.length_append,List.length_cons,List.length_nil];omega)|(simp;omega))) rfl ?_|refine a0b (a1p rfl rfl (by (first|exact w64 (by omega) (by omega)|rfl))) rfl ?_)|refine a0b (a0e rfl) rfl ?_|(refine a0d ?_;first|refine a0b (a0p rfl) rfl ?_)|refine a0u ?_|refine a1c rfl rfl rfl rfl rfl (by repeat constructor) (by repeat constructor) ?_|refine a0b (a0y rfl (by with_reducible rfl)) rfl ?_)|(first|refine a1n ?_|(refine a1o ?_;first|refine a0c (a0a ?_)|refine a0c ?_|refine a0a ?_|(refine a0x ?_;first|refine a0h rfl (by with_reducible rfl) ?_|(refine a0r rfl (fun hc => ?_) (fun hc => ?_) <;> (try (exfalso;omega))))|refine a0n ?_|refine a0o ?_|refine a0k ?_)|refine a0t ?_|refine a1v ?_|refine a1b ?_))
      refine ret1 (by first | exact .inr rfl | exact .inl rfl) rfl rfl ?_
      exact ⟨rfl, rfl⟩
    · rw [if_neg h2]
      repeat' (first|(first|(refine a0d ?_;refine a0v [0] rfl rfl (a4f (is := true) (s := s) (st := st)) (by repeat constructor) (by repeat constructor) rfl rfl ?_;rintro _ _ ⟨rfl,rfl⟩;refine ⟨_,_,by repeat constructor,by repeat constructor,?_⟩)|refine a0b (a1k (n := 0) rfl rfl) rfl ?_)|(refine a2k ?_;first|refine a0b (a0l rfl) rfl ?_|refine a0b (a0f rfl rfl) rfl ?_|(refine a1g ?_;first|refine a0b (a0w rfl rfl) rfl ?_)|(refine a1a ?_;first|refine a0b (a1h rfl rfl rfl) rfl ?_|refine a0b (a4m rfl rfl (by first|omega|(simp only [List.length_append,List.length_cons,List.length_nil];omega)|(simp;omega))) rfl ?_|refine a0b (a1p rfl rfl (by (first|exact w64 (by omega) (by omega)|rfl))) rfl ?_)|refine a0b (a0e rfl) rfl ?_|(refine a0d ?_;first|refine a0b (a0p rfl) rfl ?_)|refine a0u ?_|refine a1c rfl rfl rfl rfl rfl (by repeat constructor) (by repeat constructor) ?_|refine a0b (a0y rfl (by with_reducible rfl)) rfl ?_)|(first|refine a1n ?_|(refine a1o ?_;first|refine a0c (a0a ?_)|refine a0c ?_|refine a0a ?_|(refine a0x ?_;first|refine a0h rfl (by with_reducible rfl) ?_|(refine a0r rfl (fun hc => ?_) (fun hc => ?_) <;> (try (exfalso;omega))))|refine a0n ?_|refine a0o ?_|refine a0k ?_)|refine a0t ?_|refine a1v ?_|refine a1b ?_))
      refine ret1 (by first | exact .inr rfl | exact .inl rfl) rfl rfl ?_
      exact ⟨rfl, rfl⟩
  · rw [if_pos h1]
    repeat' (first|(first|(refine a0d ?_;refine a0v [0] rfl rfl (a4f (is := true) (s := s) (st := st)) (by repeat constructor) (by repeat constructor) rfl rfl ?_;rintro _ _ ⟨rfl,rfl⟩;refine ⟨_,_,by repeat constructor,by repeat constructor,?_⟩)|refine a0b (a1k (n := 0) rfl rfl) rfl ?_)|(refine a2k ?_;first|refine a0b (a0l rfl) rfl ?_|refine a0b (a0f rfl rfl) rfl ?_|(refine a1g ?_;first|refine a0b (a0w rfl rfl) rfl ?_)|(refine a1a ?_;first|refine a0b (a1h rfl rfl rfl) rfl ?_|refine a0b (a4m rfl rfl (by first|omega|(simp only [List.length_append,List.length_cons,List.length_nil];omega)|(simp;omega))) rfl ?_|refine a0b (a1p rfl rfl (by (first|exact w64 (by omega) (by omega)|rfl))) rfl ?_)|refine a0b (a0e rfl) rfl ?_|(refine a0d ?_;first|refine a0b (a0p rfl) rfl ?_)|refine a0u ?_|refine a1c rfl rfl rfl rfl rfl (by repeat constructor) (by repeat constructor) ?_|refine a0b (a0y rfl (by with_reducible rfl)) rfl ?_)|(first|refine a1n ?_|(refine a1o ?_;first|refine a0c (a0a ?_)|refine a0c ?_|refine a0a ?_|(refine a0x ?_;first|refine a0h rfl (by with_reducible rfl) ?_|(refine a0r rfl (fun hc => ?_) (fun hc => ?_) <;> (try (exfalso;omega))))|refine a0n ?_|refine a0o ?_|refine a0k ?_)|refine a0t ?_|refine a1v ?_|refine a1b ?_))
    refine ret1 (by first | exact .inr rfl | exact .inl rfl) rfl rfl ?_
    exact ⟨rfl, rfl⟩
theorem c1x {s : List UInt8} {st : Int} : ACalls (EE w0 base) 43 [.op 0 0] [parO true s st] fun rv os => rv = .int .i64 st ∧ os = [parO true s st] := by
  refine a1s Tryz.func43 rfl rfl rfl (.cons .nil) ?_
  repeat' (first|(first|(refine a0d ?_;refine a0v [0] rfl rfl (a4f (is := true) (s := s) (st := st)) (by repeat constructor) (by repeat constructor) rfl rfl ?_;rintro _ _ ⟨rfl,rfl⟩;refine ⟨_,_,by repeat constructor,by repeat constructor,?_⟩)|refine a0b (a1k (n := 0) rfl rfl) rfl ?_)|(refine a2k ?_;first|refine a0b (a0l rfl) rfl ?_|refine a0b (a0f rfl rfl) rfl ?_|(refine a1g ?_;first|refine a0b (a0w rfl rfl) rfl ?_)|refine a0b (a0e rfl) rfl ?_|refine a0u ?_|refine a0b (a0y rfl (by with_reducible rfl)) rfl ?_)|(first|refine a1n ?_|(refine a1o ?_;first|refine a0c (a0a ?_)|refine a0c ?_|refine a0a ?_|(refine a0x ?_;first|refine a0h rfl (by with_reducible rfl) ?_)|refine a0o ?_|refine a0k ?_)))
  refine ret1 (by first | exact .inr rfl | exact .inl rfl) rfl rfl ?_
  exact ⟨rfl, rfl⟩
abbrev req0 : AV := .agg [.str [], .str [], .int .i64 0, .rs [], .str [], .rs [], .str [], .bool false]
theorem a8u {s : List UInt8} {st st' : Int} : ACalls (EE w0 base) 45 [.op 0 0, .int .i64 st'] [parO true s st] fun rv os => rv = .tup [req0, .bool false, .int .i64 st'] ∧ os = [parO true [] st', .box [.str [], .str [], .int .i64 0, .rs [], .str [], .rs [], .str [], .bool false]] := by
  refine a1s Tryz.func45 rfl rfl rfl (.cons (.cons .nil)) ?_
  repeat' (first|(first|refine a0b (a1k (n := 0) rfl rfl) rfl ?_)|(refine a2k ?_;first|refine a0b (a0l rfl) rfl ?_|refine a0b (a0f rfl rfl) rfl ?_|refine a0b (a0e rfl) rfl ?_|refine a0u ?_|refine a0z rfl rfl rfl (by first|exact ln1) (by repeat constructor) rfl ?_|refine a1c rfl rfl rfl rfl rfl (by repeat constructor) (by repeat constructor) ?_|refine a0b (a1x rfl rfl rfl (by repeat constructor)) rfl ?_)|(first|refine a1n ?_|(refine a1o ?_;first|refine a0c (a0a ?_)|refine a0c ?_|refine a0a ?_|refine a0o ?_)))
  refine a2m (.boxLe (id := 1) [.str [], .str [], .int .i64 0, .rs [], .str [], .rs [], .str [], .bool false] rfl (.cons (.refl _) (.cons (.refl _) (.cons (.refl _) (.cons .nil (.cons (.refl _) (.cons .nil (.cons (.refl _) (.cons (.refl _) .nil)))))))) rfl) ?_
  refine retc2 (by first | exact .inr rfl | exact .inl rfl) rfl rfl rfl rfl rfl rfl ?_
  exact ⟨rfl, rfl⟩
end
end Go.Proofs.YtkljmljkiodnpaaGreatDoor.L

namespace Go.Proofs.YtkljmljkiodnpaaGreatDoor.L
open Go Go.RowKit Go.Proofs
attribute [local irreducible] AL QL AWp Thn InB RetQ ACalls LoopQ HL HO HW HQ NoG JmpQ MidQ

def hdI (s : List UInt8) : Int := if Lib.index s crlf2 < 0 then -1 else Lib.index s crlf2 + 4
section
variable {w0 : World} {base : Nat}
end
end Go.Proofs.YtkljmljkiodnpaaGreatDoor.L

namespace Go.Proofs.YtkljmljkiodnpaaGreatDoor.L
open Go Go.RowKit Go.Proofs

structure GoodH (h : Hd) : Prop where
  f : h.fs.length ≤ 32
  v : ∀ p ∈ h.fs, p.2.length ≤ 1024
  t : tgtOk h.t = true
theorem GoodH.tiny {h : Hd} (g : GoodH h) : Tiny h := ⟨Nat.le_trans g.f (by decide), fun p hp => Nat.le_trans (g.v p hp) (by decide)⟩
theorem GoodH.tlen {h : Hd} (g : GoodH h) : h.t.length ≤ 1024 := by
  have := g.t
  unfold tgtOk at this
  rw [Bool.and_eq_true] at this
  exact of_decide_eq_true this.1
theorem c5o {l : List UInt8} (h : reqSt l = 0) : tgtOk (rT l) = true := by
  unfold reqSt stR at h
  split at h
  · split at h
    · cases h
    · split at h
      · assumption
      · cases h
  · cases h
theorem b5n (l : List UInt8) : (fieldOf l).2.length ≤ l.length := by
  unfold fieldOf fV
  have h1 := a8l (Lib.cut l [58]).2.1
  have h2 := (a6i l 58).2.1
  dsimp only
  omega
theorem c2w (s : List UInt8) : ∀ (f at' : Nat) (o : Option Hd), at' ≤ s.length → s.length + 1 - at' ≤ f → (∀ h, o = some h → GoodH h) → (pGo s f at' o).2.1 = 0 → GoodH (pGo s f at' o).1 := by
  intro f
  induction f with
  | zero => intro at' o h1 h2 _ _; omega
  | succ f ih =>
    intro at' o ha hf ho
    obtain ⟨line, rest, ended, hline⟩ : ∃ line rest ended, lineAt s at' = (line, rest, ended) := ⟨_, _, _, rfl⟩
    obtain ⟨hl1, hl2⟩ := b0y hline ha
    rw [b1u, hline]
    dsimp only
    split
    · intro h; cases h
    split
    · intro h; cases h
    rename_i hlen hend
    have hen : ended = true := by
      cases ended with
      | true => rfl
      | false => exact absurd (.inl rfl) hend
    have hl3 := hl2 hen
    cases o with
    | none =>
      dsimp only
      split
      · rename_i hr
        exact ih _ _ (by omega) (by omega) fun h e => by
          injection e with e
          subst e
          exact ⟨by simp, by simp, c5o hr⟩
      · rename_i hr
        intro h
        exact absurd h hr
    | some h =>
      have hg := ho h rfl
      dsimp only
      split
      · split
        · intro h; cases h
        · split
          · intro _; exact hg
          · intro h; cases h
      · split
        · intro h; cases h
        · split
          · rename_i h32 hok
            have hff := hg.f
            exact ih _ _ (by omega) (by omega) fun h' e => by
              injection e with e
              subst e
              refine ⟨by simp; omega, fun p hp => ?_, hg.t⟩
              rcases List.mem_append.1 hp with hp | hp
              · exact hg.v p hp
              · obtain rfl : p = fieldOf line := by simpa using hp
                have := b5n line
                omega
          · intro h; cases h
theorem a6k {s : List UInt8} (h : (headParse s).2.1 = 0) : GoodH (headParse s).1 := by
  unfold headParse at h ⊢
  split at h
  · cases h
  · rename_i hs
    rw [if_neg hs]
    exact c2w s _ 0 none (Nat.zero_le _) (by omega) (fun h e => by cases e) h
theorem a9x (h : Hd) : 0 ≤ (bodyS h).2.1 ∧ (bodyS h).2.1 ≤ 16384 ∧ 0 ≤ (bodyS h).1 ∧ (bodyS h).1 ≤ 2 := by
  unfold bodyS
  generalize valsOf h.fs cleS = L
  generalize valsOf h.fs teS = C
  cases L with
  | nil =>
    cases C with
    | nil =>
      rw [bodyL]
      exact ⟨by decide, by decide, by decide, by decide⟩
    | cons c C =>
      rw [bodyL]
      split <;> exact ⟨by decide, by decide, by decide, by decide⟩
  | cons l L =>
    cases C with
    | cons c C =>
      rw [bodyL]
      exact ⟨by decide, by decide, by decide, by decide⟩
    | nil =>
      rw [bodyL]
      split
      · exact ⟨by decide, by decide, by decide, by decide⟩
      · rename_i hc
        split
        · exact ⟨by decide, by decide, by decide, by decide⟩
        · have hd : l.all pDigit = true := by
            cases he : l.all pDigit with
            | true => rfl
            | false => exact absurd (.inr (.inr (.inl he))) hc
          have := (a8h l 0 hd).2
          exact ⟨this, by dsimp only; omega, by dsimp only; decide, by dsimp only; decide⟩
def CFacts (s : List UInt8) (at' : Nat) : CR → Prop
  | .more => True
  | .bad st => st = 400 ∨ st = 413
  | .got b k => at' ≤ k ∧ k ≤ s.length ∧ b.length ≤ 16384
theorem a5q (s : List UInt8) : ∀ (f : Nat) (acc : List UInt8) (at' : Nat), at' ≤ s.length → CFacts s at' (chunksF f s acc at') := by
  intro f
  induction f with
  | zero => intro acc at' _; exact trivial
  | succ f ih =>
    intro acc at' ha
    rw [chunksF]
    have hle : ∀ m k, sizeL at' 0 0 at' (s.drop at') = .got m k → m < 4294967296 ∧ at' + 2 ≤ k ∧ k ≤ s.length := fun m k => c2e ha (Nat.zero_le _) Nat.zero_lt_one
    revert hle
    generalize sizeL at' 0 0 at' (s.drop at') = z
    intro hle
    cases z with
    | more => exact trivial
    | wrong => exact .inl rfl
    | got n k =>
      obtain ⟨_, h1, h2⟩ := hle n k rfl
      rw [afterL]
      split
      · exact .inr rfl
      rename_i hbig
      split
      · exact trivial
      rename_i hlong
      have hel : ∀ m e, endL 0 (k + n) (s.drop (k + n)) = .got m e → m = 0 ∧ e = k + n + 2 ∧ e ≤ s.length := fun m e => b5o (by omega)
      have hal : (acc ++ (s.take (k + n)).drop k).length = acc.length + n := by simp; omega
      revert hel
      generalize endL 0 (k + n) (s.drop (k + n)) = z
      intro hel
      cases z with
      | more => exact trivial
      | wrong => exact .inl rfl
      | got m e =>
        obtain ⟨_, h3, h4⟩ := hel m e rfl
        dsimp only
        split
        · exact ⟨by omega, h4, by omega⟩
        · have := ih (acc ++ (s.take (k + n)).drop k) e h4
          revert this
          generalize chunksF f s (acc ++ (s.take (k + n)).drop k) e = q
          intro this
          cases q with
          | more => exact trivial
          | bad st => exact this
          | got b k' => exact ⟨by have := this.1; omega, this.2⟩
def BFacts (s : List UInt8) (at' : Nat) : CR → Prop
  | .more => True
  | .bad st => st = 400 ∨ st = 413
  | .got b k => at' ≤ k ∧ k ≤ s.length
theorem c3s (v : Int) (L C : List (List UInt8)) : (bodyL v L C).2.2 = 0 ∨ (bodyL v L C).2.2 = 400 ∨ (bodyL v L C).2.2 = 413 := by
  cases L with
  | nil =>
    cases C with
    | nil => rw [bodyL]; exact .inl rfl
    | cons c C => rw [bodyL]; split <;> simp
  | cons l L =>
    cases C with
    | cons c C => rw [bodyL]; simp
    | nil =>
      rw [bodyL]
      split
      · simp
      · split <;> simp
theorem b4a {s : List UInt8} {at' : Nat} {h : Hd} (ha : at' ≤ s.length) : BFacts s at' (bodyAt s at' h) := by
  unfold bodyAt
  have hst := c3s h.v (valsOf h.fs cleS) (valsOf h.fs teS)
  split
  · rename_i h0
    rcases hst with hst | hst
    · exact absurd hst h0
    · exact hst
  split
  · split
    · exact trivial
    · exact ⟨by omega, by omega⟩
  split
  · have := a5q s (s.length + 1) [] at' ha
    unfold chunksS
    revert this
    generalize chunksF (s.length + 1) s [] at' = q
    intro this
    cases q with
    | more => exact trivial
    | bad st => exact this
    | got b k => exact ⟨this.1, this.2.1⟩
  · exact ⟨Nat.le_refl _, ha⟩
theorem b2b : ∀ (s : List UInt8), Lib.index s crlf2 = -1 ∨ ∃ i : Nat, Lib.index s crlf2 = i ∧ i + 4 ≤ s.length := by
  intro s
  induction s with
  | nil => exact .inl rfl
  | cons b l ih =>
    rw [Lib.index]
    split
    · rename_i hp
      right
      refine ⟨0, rfl, ?_⟩
      have := (List.isPrefixOf_iff_prefix.1 hp).length_le
      simpa [crlf2] using this
    · split
      · exact .inl rfl
      · rename_i hne
        rcases ih with ih | ⟨i, ih, hi⟩
        · rw [ih] at hne; exact absurd rfl hne
        · exact .inr ⟨i + 1, by rw [ih]; rfl, by simp only [List.length_cons]; omega⟩
end Go.Proofs.YtkljmljkiodnpaaGreatDoor.L

namespace Go.Proofs.YtkljmljkiodnpaaGreatDoor.L
open Go Go.RowKit Go.Proofs
attribute [local irreducible] AL QL AWp Thn InB RetQ ACalls LoopQ HL HO HW HQ NoG JmpQ MidQ HF

abbrev Ins := List (Int × Int)
abbrev insC (p : Int × Int) : List AV := [.int .i64 p.1, .int .i64 p.2]
def insAV (l : Ins) : List (List AV) := l.map insC
def mayP (n : Nat) (p : Int × Int) : Prop := p.1 = 1 ∨ (p.1 = 3 ∧ 0 ≤ p.2 ∧ p.2 < 64) ∨ ((p.1 = 20 ∨ p.1 = 21 ∨ p.1 = 22) ∧ 0 ≤ p.2 ∧ p.2 < n) ∨ (p.1 = 24 ∧ 1 ≤ p.2 ∧ p.2 ≤ 99) ∨
  ((p.1 ≠ 3 ∧ p.1 ≠ 20 ∧ p.1 ≠ 21 ∧ p.1 ≠ 22 ∧ p.1 ≠ 24) ∧ 1 ≤ p.1 ∧ p.1 ≤ 25 ∧ p.2 = 0)
instance (n : Nat) (p : Int × Int) : Decidable (mayP n p) := by unfold mayP; exact inferInstance
def firstBad (n : Nat) : Ins → Nat → Option Nat
  | [], _ => none
  | p :: r, k => if mayP n p then firstBad n r (k + 1) else some k
def checkI (l : Ins) : Int × Int := if l.length < 1 ∨ 1024 < l.length then (2, 0) else match firstBad l.length l 0 with
  | none => (0, 0)
  | some k => (130, (k : Int))
def hasAP (op : Int) : Prop := op = 1 ∨ op = 3 ∨ op = 20 ∨ op = 21 ∨ op = 22 ∨ op = 24
instance (op : Int) : Decidable (hasAP op) := by unfold hasAP; exact inferInstance
def nameL : List (List UInt8) := ["push", "pop", "dup", "swap", "add", "sub", "mul", "div", "rem", "and", "or", "xor", "shl", "shr", "eq", "less", "not", "load", "store", "jump", "if", "call", "ret", "trap", "halt"].map fun s => s.toUTF8.data.toList
def nmI (op : Int) : List UInt8 := nameL.getD (op - 1).toNat []
section
variable {w0 : World} {base : Nat}
end
end Go.Proofs.YtkljmljkiodnpaaGreatDoor.L

namespace Go.Proofs.YtkljmljkiodnpaaGreatDoor.L
open Go Go.RowKit Go.Proofs
attribute [local irreducible] AL QL AWp Thn InB RetQ ACalls LoopQ HL HO HW HQ NoG JmpQ MidQ HF

def txtAV (l : List (List UInt8)) : List (List AV) := l.map fun x => [.str x]
structure Tabs (w0 : World) (base : Nat) : Prop where
  g : Glob w0 base
  lt : 4 ≤ base
  es : ∃ te pe, w0.cell? ⟨1, 0, none⟩ = some (.iface te pe)
  er : ∃ te pe, w0.cell? ⟨2, 0, none⟩ = some (.iface te pe)
  pow : Lib.TabIs Tryz.prog w0 "internal/strconv.uint64pow10" .u64 Lib.pow10Tab
def insS (p : Int × Int) : List UInt8 := nmI p.1 ++ ((if hasAP p.1 then 32 :: Lib.itoa p.2 else []) ++ [10])
def printI (l : Ins) : List UInt8 := l.flatMap insS
def InI (l : Ins) : Prop := ∀ p ∈ l, -9223372036854775808 ≤ p.2 ∧ p.2 ≤ 9223372036854775807
section
variable {w0 : World} {base : Nat}
abbrev nmV (op : Int) : AV := .tup [.str (if 1 ≤ op ∧ op ≤ 25 then nmI op else []), .int .i64 (if 1 ≤ op ∧ op ≤ 25 then 0 else 3)]
def takL : List Int := [1, 3, 20, 21, 22, 24]
abbrev numAV (l : List Int) : List (List AV) := l.map fun n => [.int .i64 n]
theorem c6v {I : Imm} {ν : Nu} {H : List AO} {w : World} (hG : Tabs w0 base) (hh : HR (EE w0 base) I ν H w) : Lib.TabIs Tryz.prog w "internal/strconv.uint64pow10" .u64 Lib.pow10Tab := by
  have hp := hG.pow
  unfold Lib.TabIs World.var? at hp ⊢
  have hg : Tryz.prog.globalNamed "internal/strconv.uint64pow10" = some ((Tryz.prog.globalNamed "internal/strconv.uint64pow10").getD 0) := by kernel_rfl
  have hlt : (Tryz.prog.globalNamed "internal/strconv.uint64pow10").getD 0 < 4 := of_decide_eq_true (by kernel_rfl)
  rw [hg] at hp ⊢
  simp only [Option.bind_some] at hp ⊢
  rw [hh.below.block _ (Nat.lt_of_lt_of_le hlt hG.lt)]
  exact hp
theorem b8k {w : World} (os : Array Obj) : Below w.heap.size w (Go.Sort.grow w os) :=
  ⟨rfl, rfl, rfl, by simp [Go.Sort.grow], fun k hk => by simp [Go.Sort.grow, Array.getElem?_append, hk]⟩
theorem b1m {n : Int} (hG : Tabs w0 base) (h0 : -9223372036854775808 ≤ n) (h1 : n ≤ 9223372036854775807) : PCalls (EE w0 base) 56 [.int .i64 n] fun rv => rv = .str (Lib.itoa n) := by
  refine a3n rfl fun I ν w vs hh hl hv => ?_
  match vs, hl with
  | [v1], _ =>
  have e1 := (hv 0 _ v1 rfl rfl).int_inv
  subst e1
  exact ⟨_, fun w I => .pure (.str _), (Tryz.strconv_Itoa n h0 h1 w (c6v hG hh)).mono fun e w' ⟨he, k, os, hw⟩ => ⟨he, by subst hw; exact (a9z k).trans (show Below w.heap.size (w.drewN k) _ from b8k (w := w.drewN k) os)⟩⟩
end
end Go.Proofs.YtkljmljkiodnpaaGreatDoor.L

namespace Go.Proofs.YtkljmljkiodnpaaGreatDoor.L
open Go Go.RowKit Go.Proofs
attribute [local irreducible] AL QL AWp Thn InB RetQ ACalls LoopQ HL HO HW HQ NoG JmpQ MidQ HF

theorem c4s {l : List UInt8} {ver : Nat} {o : AO} (h : BldB l ver o) {r : Nat → Nat} : RnO r o o := by
  rcases h with rfl | ⟨wr, rfl⟩
  · exact .row
  · exact .arr
section
variable {w0 : World} {base : Nat}
abbrev prnC (l : Ins) : AV := .tup [.str (if (checkI l).1 = 0 then printI l else []), .int .i64 (checkI l).1]
end
end Go.Proofs.YtkljmljkiodnpaaGreatDoor.L

namespace Go.Proofs.YtkljmljkiodnpaaGreatDoor.L
open Go Go.RowKit Go.Proofs
attribute [local irreducible] AL QL AWp Thn InB RetQ ACalls LoopQ HL HO HW HQ NoG JmpQ MidQ HF

section
variable {E : Env} {sl : Slots} {H : List AO}
end
def blank (b : UInt8) : Prop := b = 32 ∨ b = 9
instance (b : UInt8) : Decidable (blank b) := by unfold blank; exact inferInstance
section
variable {w0 : World} {base : Nat}
def AtoiR (l : List UInt8) (rv : AV) : Prop := (∃ v, Lib.atoiAll l = .ok v ∧ rv = .tup [.int .i64 v, .nilif]) ∨ ((∀ v, Lib.atoiAll l ≠ .ok v) ∧ ∃ n, rv = .tup [.int .i64 n, .iface])
end
end Go.Proofs.YtkljmljkiodnpaaGreatDoor.L

namespace Go.Proofs.YtkljmljkiodnpaaGreatDoor.L
open Go Go.RowKit Go.Proofs
attribute [local irreducible] AL QL AWp Thn InB RetQ ACalls LoopQ HL HO HW HQ NoG JmpQ MidQ HF

def firstEq (v : List UInt8) : List (List UInt8) → Nat → Option Nat
  | [], _ => none
  | x :: r, k => if v = x then some k else firstEq v r (k + 1)
def numI (s : List UInt8) : Option Int := match Lib.atoiAll s with
  | .ok v => if Lib.itoa v = s then some v else none
  | _ => none
def wordI (s : List UInt8) : List UInt8 := if 0 ≤ Lib.indexAny s [32, 9] then s.take (Lib.indexAny s [32, 9]).toNat else s
def restI (s : List UInt8) : List UInt8 := if 0 ≤ Lib.indexAny s [32, 9] then Lib.trimS (s.drop (Lib.indexAny s [32, 9]).toNat) [32, 9] else []
def readI (s : List UInt8) : Option (Int × Int) := match firstEq (wordI s) nameL 0 with
  | none => none
  | some a => if hasAP ((a : Int) + 1) then (match numI (restI s) with
      | some n => some ((a : Int) + 1, n)
      | none => none)
    else if restI s = [] then some ((a : Int) + 1, 0) else none
def ReadR (s : List UInt8) (rv : AV) : Prop := ∃ i : Int × Int, rv = .tup [.agg (insC i), .bool (readI s).isSome] ∧ ∀ x, readI s = some x → i = x
section
variable {w0 : World} {base : Nat}
end
end Go.Proofs.YtkljmljkiodnpaaGreatDoor.L

namespace Go.Proofs.YtkljmljkiodnpaaGreatDoor.L
open Go Go.RowKit Go.Proofs
attribute [local irreducible] AL QL AWp Thn InB RetQ ACalls LoopQ HL HO HW HQ NoG JmpQ MidQ HF

section
variable {E : Env} {sl : Slots} {H : List AO}
theorem a4z {t t' : TypeId} {x y : Operand} {m n : List UInt8} (h : m ≠ n) (hx : ev sl x = some (.str m)) (hy : ev sl y = some (.str n)) : OV E sl H (.binOp .neq t x y t') (.bool true) := by
  have := a3l (E := E) (H := H) (t := t) (t' := t') hx hy
  rwa [decide_eq_true h] at this
theorem a4r {t t' : TypeId} {x y : Operand} {m n : List UInt8} (h : m = n) (hx : ev sl x = some (.str m)) (hy : ev sl y = some (.str n)) : OV E sl H (.binOp .neq t x y t') (.bool false) := by
  have := a3l (E := E) (H := H) (t := t) (t' := t') hx hy
  rwa [decide_eq_false (fun k => k h)] at this
theorem a2h {t t' : TypeId} {x y : Operand} {m n : List UInt8} (h : m = n) (hx : ev sl x = some (.str m)) (hy : ev sl y = some (.str n)) : OV E sl H (.binOp .eql t x y t') (.bool true) := by
  have := a2t (E := E) (H := H) (t := t) (t' := t') hx hy
  rwa [decide_eq_true h] at this
theorem a2l {t t' : TypeId} {x y : Operand} {m n : List UInt8} (h : m ≠ n) (hx : ev sl x = some (.str m)) (hy : ev sl y = some (.str n)) : OV E sl H (.binOp .eql t x y t') (.bool false) := by
  have := a2t (E := E) (H := H) (t := t) (t' := t') hx hy
  rwa [decide_eq_false h] at this
end
section
variable {w0 : World} {base : Nat}
end
end Go.Proofs.YtkljmljkiodnpaaGreatDoor.L

namespace Go.Proofs.YtkljmljkiodnpaaGreatDoor.L
open Go Go.RowKit Go.Proofs
attribute [local irreducible] AL QL AWp Thn InB RetQ ACalls LoopQ HL HO HW HQ NoG JmpQ MidQ HF

def cutC (line : List UInt8) : List UInt8 := (Lib.cut line [59]).1
def bareI (t : List UInt8) : List UInt8 := Lib.trimS t [32, 9]
def leadI (t : List UInt8) : Nat := t.length - (Lib.trimLeftS t [32, 9]).length
inductive PR where
  | bad (p : Nat)
  | done (out : Ins) (ps : List Int)
def codeL : List (List UInt8) → Nat → Ins → List Int → PR
  | [], _, out, ps => .done out ps
  | line :: r, at', out, ps => if bareI (cutC line) = [] then codeL r (at' + (line.length + 1)) out ps else match readI (bareI (cutC line)) with
    | none => .bad (at' + leadI (cutC line))
    | some x => codeL r (at' + (line.length + 1)) (out ++ [x]) (ps ++ [((at' + leadI (cutC line) : Nat) : Int)])
def endC (out : Ins) (ps : List Int) : Ins × Int × Int := if (checkI out).1 = 0 then (out, 0, 0) else if (checkI out).1 = 130 then ([], 130, ps.getD (checkI out).2.toNat 0) else ([], (checkI out).1, 0)
def parseI (s : List UInt8) : Ins × Int × Int := if 262144 < s.length then ([], 4, 0) else match codeL (splitB 10 s) 0 [] [] with
  | .bad p => ([], 130, (p : Int))
  | .done out ps => endC out ps
def sumL : List (List UInt8) → Nat
  | [] => 0
  | l :: r => l.length + 1 + sumL r
section
variable {w0 : World} {base : Nat}
end
end Go.Proofs.YtkljmljkiodnpaaGreatDoor.L

namespace Go.Proofs.YtkljmljkiodnpaaGreatDoor.L
open Go Go.RowKit Go.Proofs

def digB (c : UInt8) : Bool := decide (48 ≤ c.toNat) && decide (c.toNat ≤ 57)
theorem a5a {c : UInt8} : digB c = true ↔ 48 ≤ c.toNat ∧ c.toNat ≤ 57 := by simp only [digB, Bool.and_eq_true, decide_eq_true_eq]
def fv (m : Nat) (l : List UInt8) : Nat := l.foldl (fun m c => 10 * m + (c.toNat - 48)) m
theorem a7s (m : Nat) (c : UInt8) (l : List UInt8) : fv m (c :: l) = fv (10 * m + (c.toNat - 48)) l := by unfold fv; rw [List.foldl_cons]
theorem c0u (m : Nat) (l : List UInt8) (c : UInt8) : fv m (l ++ [c]) = 10 * fv m l + (c.toNat - 48) := by unfold fv; rw [List.foldl_append, List.foldl_cons, List.foldl_nil]
theorem c8r : ∀ (l : List UInt8) (m : Nat), m ≤ fv m l := by
  intro l
  induction l with
  | nil => intro m; exact Nat.le_refl _
  | cons c l ih =>
    intro m
    rw [a7s]
    have := ih (10 * m + (c.toNat - 48))
    omega
structure DigL (l : List UInt8) : Prop where
  ne : l ≠ []
  dig : l.all digB = true
  lead : 1 < l.length → l.head? ≠ some 48
theorem b3j {k : Nat} (h : k < 10) : (UInt8.ofNat (48 + k)).toNat = 48 + k := by
  rw [UInt8.toNat_ofNat']
  omega
theorem b7a : ∀ (u : Nat), DigL (Lib.decDigits u) ∧ fv 0 (Lib.decDigits u) = u ∧ (1 ≤ u → (Lib.decDigits u).head? ≠ some 48) := by
  intro u
  induction u using Nat.strongRecOn with
  | _ u ih =>
    rw [Lib.decDigits]
    split
    · rename_i h
      have e := b3j h
      refine ⟨⟨by simp, by rw [List.all_cons, List.all_nil, Bool.and_true]; exact a5a.2 (by omega), fun k => by simp at k⟩, ?_, fun h1 k => ?_⟩
      · rw [a7s, e]; show 10 * 0 + (48 + u - 48) = u; omega
      · simp only [List.head?_cons, Option.some.injEq] at k
        have := congrArg UInt8.toNat k
        rw [e] at this
        have h48 : (48 : UInt8).toNat = 48 := rfl
        omega
    · rename_i h
      obtain ⟨d, hv, hz⟩ := ih (u / 10) (by omega)
      have e := b3j (k := u % 10) (by omega)
      have hhead : (Lib.decDigits (u / 10) ++ [UInt8.ofNat (48 + u % 10)]).head? = (Lib.decDigits (u / 10)).head? := by
        cases hq : Lib.decDigits (u / 10) with
        | nil => exact absurd hq d.ne
        | cons a r => rfl
      refine ⟨⟨by simp, by rw [List.all_append, d.dig, List.all_cons, List.all_nil, Bool.and_true, Bool.true_and]; exact a5a.2 (by omega), fun _ => by rw [hhead]; exact hz (by omega)⟩, ?_, fun _ => by rw [hhead]; exact hz (by omega)⟩
      rw [c0u, hv, e]
      omega
theorem a8e : ∀ (l : List UInt8) (acc : Nat), l.all digB = true → fv acc l < 18446744073709551616 → Lib.parseUint10 acc l = .ok (fv acc l) := by
  intro l
  induction l with
  | nil => intro acc _ _; rfl
  | cons c l ih =>
    intro acc h hf
    rw [List.all_cons, Bool.and_eq_true] at h
    have hc := a5a.1 h.1
    rw [a7s] at hf ⊢
    have hge := c8r l (10 * acc + (c.toNat - 48))
    have e : acc * 10 + (c.toNat - 48) = 10 * acc + (c.toNat - 48) := by omega
    rw [Lib.parseUint10, if_pos hc, if_neg (by omega), if_neg (by omega), e]
    exact ih _ h.2 hf
theorem c1a {l : List UInt8} (d : DigL l) : ∃ c r, l = c :: r ∧ c.toNat ≠ 43 ∧ c.toNat ≠ 45 := by
  cases l with
  | nil => exact absurd rfl d.ne
  | cons c r =>
    have := d.dig
    rw [List.all_cons, Bool.and_eq_true] at this
    have := a5a.1 this.1
    exact ⟨c, r, rfl, by omega, by omega⟩
theorem b4e {v : Int} (h0 : -9223372036854775808 ≤ v) (h1 : v ≤ 9223372036854775807) : Lib.atoiAll (Lib.itoa v) = .ok v := by
  unfold Lib.itoa
  split
  · rename_i hn
    obtain ⟨d, hv, _⟩ := b7a v.natAbs
    unfold Lib.atoiAll
    dsimp only
    have h45 : (45 : UInt8).toNat = 45 := rfl
    rw [if_pos (.inr h45)]
    unfold Lib.parseMag
    rw [if_neg d.ne, a8e _ 0 d.dig (by rw [hv]; omega), hv]
    dsimp only
    rw [if_neg (by rw [h45]; simp), if_neg (by omega), if_pos h45]
    congr 1
    omega
  · rename_i hn
    obtain ⟨d, hv, _⟩ := b7a v.toNat
    obtain ⟨c, r, hcr, hc1, hc2⟩ := c1a d
    unfold Lib.atoiAll
    rw [hcr]
    dsimp only
    rw [if_neg (by omega), ← hcr]
    unfold Lib.parseMag
    rw [if_neg d.ne, a8e _ 0 d.dig (by rw [hv]; omega), hv]
    dsimp only
    rw [if_neg (by omega), if_neg (by omega), if_neg hc2]
    congr 1
    omega
def negN : List UInt8 → Nat → Option Nat
  | [], m => some m
  | c :: r, m => if digB c = true ∧ 10 * m + (c.toNat - 48) ≤ 9223372036854775808 then negN r (10 * m + (c.toNat - 48)) else none
def belowN (s : List UInt8) : Prop := 1 < s.length ∧ s.head? = some 45
instance (s : List UInt8) : Decidable (belowN s) := by unfold belowN; exact inferInstance
def tailN (s : List UInt8) : List UInt8 := if belowN s then s.drop 1 else s
def numG (s : List UInt8) : Option Int :=
  if tailN s = [] ∨ (1 < (tailN s).length ∧ (tailN s).head? = some 48) ∨ (belowN s ∧ (tailN s).head? = some 48) then none
  else match negN (tailN s) 0 with
    | none => none
    | some m => if belowN s then some (-(m : Int)) else if m = 9223372036854775808 then none else some (m : Int)
end Go.Proofs.YtkljmljkiodnpaaGreatDoor.L

namespace Go.Proofs.YtkljmljkiodnpaaGreatDoor.L
open Go Go.RowKit Go.Proofs
attribute [local irreducible] AL QL AWp Thn InB RetQ ACalls LoopQ HL HO HW HQ NoG JmpQ MidQ HF

section
variable {E : Env} {sl : Slots} {H : List AO}
theorem a1l {op : BinOp} {t t' : TypeId} {x y : Operand} {k : IntKind} {m n : Int} {p : Prop} {ip : Decidable p} (hx : ev sl x = some (.int k m)) (hy : ev sl y = some (.int k n)) (hb : cmpI op m n = some (@decide p ip)) (h : p) : OV E sl H (.binOp op t x y t') (.bool true) := by
  have := a1h (E := E) (H := H) (t := t) (t' := t') hx hy hb
  rwa [decide_eq_true h] at this
theorem a1m {op : BinOp} {t t' : TypeId} {x y : Operand} {k : IntKind} {m n : Int} {p : Prop} {ip : Decidable p} (hx : ev sl x = some (.int k m)) (hy : ev sl y = some (.int k n)) (hb : cmpI op m n = some (@decide p ip)) (h : ¬ p) : OV E sl H (.binOp op t x y t') (.bool false) := by
  have := a1h (E := E) (H := H) (t := t) (t' := t') hx hy hb
  rwa [decide_eq_false h] at this
theorem a3x {t : Nat} {n b : Nat} {z : Value} [ti : TI E.P t .string n b z] {x lo : Operand} {s T : List UInt8} {k : IntKind} {l : Int}
    (hx : ev sl x = some (.str s)) (hlo : ev sl lo = some (.int k l)) (h0 : 0 ≤ l) (h2 : l ≤ (s.length : Int)) (he : s.drop l.toNat = T) : OV E sl H (.slice t x (some lo) none none) (.str T) := he ▸ a2u hx hlo h0 h2
theorem a3c {t : Nat} {n b : Nat} {z : Value} [ti : TI E.P t .string n b z] {x hi : Operand} {s T : List UInt8} {k : IntKind} {h : Int}
    (hx : ev sl x = some (.str s)) (hhi : ev sl hi = some (.int k h)) (h0 : 0 ≤ h) (h2 : h ≤ (s.length : Int)) (he : s.take h.toNat = T) : OV E sl H (.slice t x none (some hi) none) (.str T) := he ▸ a3t hx hhi h0 h2
end
section
variable {w0 : World} {base : Nat}
end
end Go.Proofs.YtkljmljkiodnpaaGreatDoor.L
