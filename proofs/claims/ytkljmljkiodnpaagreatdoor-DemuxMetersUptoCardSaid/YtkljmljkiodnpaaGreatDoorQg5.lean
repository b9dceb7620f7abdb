/- Part 5 of the texts behind the theorem of this claim: Layer 9 (reply): which names and values may be; Layer 9 (reply): the words of a status, the program's; Layer 9 (reply): which responses may be, the program's; Layer 9 (reply): Print, the program's; Layer 9 (reply): strings.SplitN at blanks, three parts at most; Layer 9 (reply): reading a response, p -/
import Derived.Test.YtkljmljkiodnpaaGreatDoorQg4
import Derived.Test.YtkljmljkiodnpaaGreatDoorQg3
import Derived.Test.YtkljmljkiodnpaaGreatDoorQg1
import Derived.Test.YtkljmljkiodnpaaGreatDoorRows
import Derived.Lib.ItoaLen
import Derived.Test.YtkljmljkiodnpaaGreatDoorQg2
set_option linter.unusedVariables false
set_option linter.unusedSimpArgs false
set_option maxRecDepth 100000
namespace Go.Proofs.YtkljmljkiodnpaaGreatDoor.L
open Go Go.RowKit Go.Proofs
attribute [local irreducible] AL QL AWp Thn InB RetQ ACalls LoopQ HL HO HW HQ NoG JmpQ MidQ HF

def markL : List UInt8 := "!#$%&'*+-.^_`|~".toUTF8.data.toList
def okN (c : UInt8) : Bool := (decide (97 ≤ c.toNat) && decide (c.toNat ≤ 122)) || (decide (48 ≤ c.toNat) && decide (c.toNat ≤ 57)) || decide (0 ≤ Lib.indexByte markL c)
def clN : List UInt8 := "content-length".toUTF8.data.toList
def cnN : List UInt8 := "connection".toUTF8.data.toList
def nameY (s : List UInt8) : Bool := s.all okN && (decide (s ≠ []) && decide (s ≠ clN) && decide (s ≠ cnN))
def okV (c : UInt8) : Bool := decide (c.toNat = 9) || (decide (32 ≤ c.toNat) && decide (c.toNat ≤ 126))
def valueY (s : List UInt8) : Bool := s.all okV && decide (bareI s = s)
theorem a7d {p : UInt8 → Bool} {s : List UInt8} {i : Nat} {c : UInt8} (h : (s.take i).all p = true) (hc : s[i]? = some c) : (s.take (i + 1)).all p = p c := by
  rw [List.take_add_one, hc, List.all_append, h]
  simp
theorem a8s {p : UInt8 → Bool} {s : List UInt8} {i : Nat} {c : UInt8} (hc : s[i]? = some c) (h : p c = false) : s.all p = false := by
  cases hq : s.all p with
  | false => rfl
  | true => rw [List.all_eq_true] at hq; rw [hq c (List.mem_of_getElem? hc)] at h; cases h
theorem a7x {s : List UInt8} {i : Nat} {c : UInt8} (hc : s[i]? = some c) : byteAt s (i : Int) = (c.toNat : Int) := by
  unfold byteAt
  have : ((i : Nat) : Int).toNat = i := rfl
  rw [this, List.getD_eq_getElem?_getD, hc]
  rfl
section
variable {w0 : World} {base : Nat}
set_option maxHeartbeats 4000000 in
theorem c5g {s : List UInt8} (hs : s.length ≤ 140737488351232) : PCalls (EE w0 base) 107 [.str s] fun rv => rv = .bool (nameY s) := by
  refine a1s Tryz.func107 rfl rfl rfl (.cons .nil) ?_
  repeat' (first|(refine a2k ?_;first|refine a0b (a0l rfl) rfl ?_|(refine k_g ?_;first|refine a1j rfl rfl (by with_reducible rfl) ?_|refine a1w rfl rfl (by with_reducible rfl) rfl ?_|refine a1t rfl rfl (by with_reducible rfl) rfl ?_|refine a4a rfl rfl rfl ?_|(refine a1z rfl rfl (fun hc => ?_) (fun hc => ?_) <;> (try (exfalso;omega))))|(refine a1a ?_;first|refine a0b (a1h rfl rfl rfl) rfl ?_|refine a0b (a1p rfl rfl (by (first|exact w64 (by omega) (by omega)|rfl))) rfl ?_)|(refine a1i ?_;first|refine a0b (a0j rfl (by with_reducible rfl) rfl) rfl ?_|refine a0b (a0i rfl (by with_reducible rfl) rfl) rfl ?_)|refine a0b (a0e rfl) rfl ?_|(refine a0d ?_;first|refine a0b (a0p rfl) rfl ?_)|refine a0u ?_|refine a0b (a1u rfl rfl (by omega) (by omega)) rfl ?_)|(first|refine a1n ?_|(refine a1o ?_;first|refine a0c (a0a ?_)|refine a0c ?_|refine a0a ?_|(refine a0x ?_;first|refine a0g rfl (by with_reducible rfl) ?_|refine a0h rfl (by with_reducible rfl) ?_)|refine a0n ?_|refine a0o ?_|refine a0k ?_|refine a1f ?_)|refine a0t ?_|refine a1q ?_|refine a2b ?_|refine a1d ?_|refine a1v ?_|refine a1b ?_|refine a1e ?_))
  refine a2o (fun k : Nat => ⟨[(0, .str s), (6, .int .i64 s.length), (7, .int .i64 k)], []⟩) (fun k => k ≤ s.length ∧ (s.take k).all okN = true) (fun k => s.length - k) 0 (.of (.same (by repeat constructor))) ⟨Nat.zero_le _, rfl⟩ ?_
  rintro k ⟨hk, hok⟩
  try dsimp only
  by_cases hlt : k < s.length
  · obtain ⟨c, hcc⟩ : ∃ c, s[k]? = some c := ⟨_, List.getElem?_eq_getElem hlt⟩
    have hb := a7x hcc
    have hI := a4n (w0 := w0) (base := base) (s := markL) (c := c)
    rw [← hb] at hI
    have hiff : okN c = true ↔ (97 ≤ c.toNat ∧ c.toNat ≤ 122) ∨ (48 ≤ c.toNat ∧ c.toNat ≤ 57) ∨ 0 ≤ Lib.indexByte markL c := by
      unfold okN
      simp only [Bool.or_eq_true, Bool.and_eq_true, decide_eq_true_eq]
      omega
    cases ho : okN c with
    | false =>
      have hno : ¬ ((97 ≤ c.toNat ∧ c.toNat ≤ 122) ∨ (48 ≤ c.toNat ∧ c.toNat ≤ 57) ∨ 0 ≤ Lib.indexByte markL c) := fun h => by rw [hiff.2 h] at ho; cases ho
      repeat' (first|(first|(refine a0d ?_;refine a0q rfl rfl rfl rfl hI ?_;rintro _ rfl)|(refine a1a ?_;first|refine a0b (a1l rfl rfl rfl (by omega)) rfl ?_|refine a0b (a1m rfl rfl rfl (by omega)) rfl ?_))|(refine a2k ?_;first|refine a0b (a0l rfl) rfl ?_|(refine k_g ?_;first|refine a1j rfl rfl (by with_reducible rfl) ?_|refine a1w rfl rfl (by with_reducible rfl) rfl ?_|refine a1t rfl rfl (by with_reducible rfl) rfl ?_|refine a4a rfl rfl rfl ?_|(refine a1z rfl rfl (fun hc => ?_) (fun hc => ?_) <;> (try (exfalso;omega))))|(refine a1a ?_;first|refine a0b (a1h rfl rfl rfl) rfl ?_|refine a0b (a1p rfl rfl (by (first|exact w64 (by omega) (by omega)|rfl))) rfl ?_)|(refine a1i ?_;first|refine a0b (a0j rfl (by with_reducible rfl) rfl) rfl ?_|refine a0b (a0i rfl (by with_reducible rfl) rfl) rfl ?_)|refine a0b (a0e rfl) rfl ?_|(refine a0d ?_;first|refine a0b (a0p rfl) rfl ?_)|refine a0u ?_|refine a0b (a1u rfl rfl (by omega) (by omega)) rfl ?_)|(first|refine a1n ?_|(refine a1o ?_;first|refine a0c (a0a ?_)|refine a0c ?_|refine a0a ?_|(refine a0x ?_;first|refine a0g rfl (by with_reducible rfl) ?_|refine a0h rfl (by with_reducible rfl) ?_)|refine a0n ?_|refine a0o ?_|refine a0k ?_|refine a1f ?_)|refine a0t ?_|refine a1q ?_|refine a2b ?_|refine a1d ?_|refine a1v ?_|refine a1b ?_|refine a1e ?_))
      all_goals
        refine ret1 (by first | exact .inr rfl | exact .inl rfl) rfl rfl ?_
        exact ⟨by unfold nameY; rw [a8s hcc ho]; rfl, rfl⟩
    | true =>
      have hyes := hiff.1 ho
      repeat' (first|(first|(refine a0d ?_;refine a0q rfl rfl rfl rfl hI ?_;rintro _ rfl)|(refine a1a ?_;first|refine a0b (a1l rfl rfl rfl (by omega)) rfl ?_|refine a0b (a1m rfl rfl rfl (by omega)) rfl ?_))|(refine a2k ?_;first|refine a0b (a0l rfl) rfl ?_|(refine k_g ?_;first|refine a1j rfl rfl (by with_reducible rfl) ?_|refine a1w rfl rfl (by with_reducible rfl) rfl ?_|refine a1t rfl rfl (by with_reducible rfl) rfl ?_|refine a4a rfl rfl rfl ?_|(refine a1z rfl rfl (fun hc => ?_) (fun hc => ?_) <;> (try (exfalso;omega))))|(refine a1a ?_;first|refine a0b (a1h rfl rfl rfl) rfl ?_|refine a0b (a1p rfl rfl (by (first|exact w64 (by omega) (by omega)|rfl))) rfl ?_)|(refine a1i ?_;first|refine a0b (a0j rfl (by with_reducible rfl) rfl) rfl ?_|refine a0b (a0i rfl (by with_reducible rfl) rfl) rfl ?_)|refine a0b (a0e rfl) rfl ?_|(refine a0d ?_;first|refine a0b (a0p rfl) rfl ?_)|refine a0u ?_|refine a0b (a1u rfl rfl (by omega) (by omega)) rfl ?_)|(first|refine a1n ?_|(refine a1o ?_;first|refine a0c (a0a ?_)|refine a0c ?_|refine a0a ?_|(refine a0x ?_;first|refine a0g rfl (by with_reducible rfl) ?_|refine a0h rfl (by with_reducible rfl) ?_)|refine a0n ?_|refine a0o ?_|refine a0k ?_|refine a1f ?_)|refine a0t ?_|refine a1q ?_|refine a2b ?_|refine a1d ?_|refine a1v ?_|refine a1b ?_|refine a1e ?_))
      all_goals
        first | refine a1y (k + 1) (.of (.same (by repeat constructor))) ?_ ?_ | fail
        · exact ⟨by omega, by rw [a7d hok hcc, ho]⟩
        · omega
  · rw [List.take_of_length_le (by omega)] at hok
    have hn : nameY s = (decide (s ≠ []) && decide (s ≠ clN) && decide (s ≠ cnN)) := by unfold nameY; rw [hok]; rfl
    by_cases h1 : s = []
    · repeat' (first|(first|(refine a1a ?_;first|refine a0b (a1l rfl rfl rfl (by omega)) rfl ?_|refine a0b (a1m rfl rfl rfl (by omega)) rfl ?_)|(refine a1a ?_;first|refine a0b (a4r h1 rfl rfl) rfl ?_))|(refine a2k ?_;first|refine a0b (a0l rfl) rfl ?_|(refine k_g ?_;first|refine a1j rfl rfl (by with_reducible rfl) ?_|refine a1w rfl rfl (by with_reducible rfl) rfl ?_|refine a1t rfl rfl (by with_reducible rfl) rfl ?_|refine a4a rfl rfl rfl ?_|(refine a1z rfl rfl (fun hc => ?_) (fun hc => ?_) <;> (try (exfalso;omega))))|(refine a1a ?_;first|refine a0b (a1h rfl rfl rfl) rfl ?_|refine a0b (a1p rfl rfl (by (first|exact w64 (by omega) (by omega)|rfl))) rfl ?_)|(refine a1i ?_;first|refine a0b (a0j rfl (by with_reducible rfl) rfl) rfl ?_|refine a0b (a0i rfl (by with_reducible rfl) rfl) rfl ?_)|refine a0b (a0e rfl) rfl ?_|(refine a0d ?_;first|refine a0b (a0p rfl) rfl ?_)|refine a0u ?_|refine a0b (a1u rfl rfl (by omega) (by omega)) rfl ?_)|(first|refine a1n ?_|(refine a1o ?_;first|refine a0c (a0a ?_)|refine a0c ?_|refine a0a ?_|(refine a0x ?_;first|refine a0g rfl (by with_reducible rfl) ?_|refine a0h rfl (by with_reducible rfl) ?_)|refine a0n ?_|refine a0o ?_|refine a0k ?_|refine a1f ?_)|refine a0t ?_|refine a1q ?_|refine a2b ?_|refine a1d ?_|refine a1v ?_|refine a1b ?_|refine a1e ?_))
      all_goals
        refine ret1 (by first | exact .inr rfl | exact .inl rfl) rfl rfl ?_
        exact ⟨by rw [hn, decide_eq_false (fun k => k h1)]; rfl, rfl⟩
    by_cases h2 : s = clN
    · repeat' (first|(first|(refine a1a ?_;first|refine a0b (a1l rfl rfl rfl (by omega)) rfl ?_|refine a0b (a1m rfl rfl rfl (by omega)) rfl ?_)|(refine a1a ?_;first|refine a0b (a4z h1 rfl rfl) rfl ?_|refine a0b (a4r (n := clN) h2 rfl rfl) rfl ?_))|(refine a2k ?_;first|refine a0b (a0l rfl) rfl ?_|(refine k_g ?_;first|refine a1j rfl rfl (by with_reducible rfl) ?_|refine a1w rfl rfl (by with_reducible rfl) rfl ?_|refine a1t rfl rfl (by with_reducible rfl) rfl ?_|refine a4a rfl rfl rfl ?_|(refine a1z rfl rfl (fun hc => ?_) (fun hc => ?_) <;> (try (exfalso;omega))))|(refine a1a ?_;first|refine a0b (a1h rfl rfl rfl) rfl ?_|refine a0b (a1p rfl rfl (by (first|exact w64 (by omega) (by omega)|rfl))) rfl ?_)|(refine a1i ?_;first|refine a0b (a0j rfl (by with_reducible rfl) rfl) rfl ?_|refine a0b (a0i rfl (by with_reducible rfl) rfl) rfl ?_)|refine a0b (a0e rfl) rfl ?_|(refine a0d ?_;first|refine a0b (a0p rfl) rfl ?_)|refine a0u ?_|refine a0b (a1u rfl rfl (by omega) (by omega)) rfl ?_)|(first|refine a1n ?_|(refine a1o ?_;first|refine a0c (a0a ?_)|refine a0c ?_|refine a0a ?_|(refine a0x ?_;first|refine a0g rfl (by with_reducible rfl) ?_|refine a0h rfl (by with_reducible rfl) ?_)|refine a0n ?_|refine a0o ?_|refine a0k ?_|refine a1f ?_)|refine a0t ?_|refine a1q ?_|refine a2b ?_|refine a1d ?_|refine a1v ?_|refine a1b ?_|refine a1e ?_))
      all_goals
        refine ret1 (by first | exact .inr rfl | exact .inl rfl) rfl rfl ?_
        exact ⟨by rw [hn, decide_eq_true h1, decide_eq_false (p := s ≠ clN) (fun k => k h2)]; rfl, rfl⟩
    by_cases h3 : s = cnN
    · repeat' (first|(first|(refine a1a ?_;first|refine a0b (a1l rfl rfl rfl (by omega)) rfl ?_|refine a0b (a1m rfl rfl rfl (by omega)) rfl ?_)|(refine a1a ?_;first|refine a0b (a4z h1 rfl rfl) rfl ?_|refine a0b (a4z (n := clN) h2 rfl rfl) rfl ?_|refine a0b (a4r (n := cnN) h3 rfl rfl) rfl ?_))|(refine a2k ?_;first|refine a0b (a0l rfl) rfl ?_|(refine k_g ?_;first|refine a1j rfl rfl (by with_reducible rfl) ?_|refine a1w rfl rfl (by with_reducible rfl) rfl ?_|refine a1t rfl rfl (by with_reducible rfl) rfl ?_|refine a4a rfl rfl rfl ?_|(refine a1z rfl rfl (fun hc => ?_) (fun hc => ?_) <;> (try (exfalso;omega))))|(refine a1a ?_;first|refine a0b (a1h rfl rfl rfl) rfl ?_|refine a0b (a1p rfl rfl (by (first|exact w64 (by omega) (by omega)|rfl))) rfl ?_)|(refine a1i ?_;first|refine a0b (a0j rfl (by with_reducible rfl) rfl) rfl ?_|refine a0b (a0i rfl (by with_reducible rfl) rfl) rfl ?_)|refine a0b (a0e rfl) rfl ?_|(refine a0d ?_;first|refine a0b (a0p rfl) rfl ?_)|refine a0u ?_|refine a0b (a1u rfl rfl (by omega) (by omega)) rfl ?_)|(first|refine a1n ?_|(refine a1o ?_;first|refine a0c (a0a ?_)|refine a0c ?_|refine a0a ?_|(refine a0x ?_;first|refine a0g rfl (by with_reducible rfl) ?_|refine a0h rfl (by with_reducible rfl) ?_)|refine a0n ?_|refine a0o ?_|refine a0k ?_|refine a1f ?_)|refine a0t ?_|refine a1q ?_|refine a2b ?_|refine a1d ?_|refine a1v ?_|refine a1b ?_|refine a1e ?_))
      all_goals
        refine ret1 (by first | exact .inr rfl | exact .inl rfl) rfl rfl ?_
        exact ⟨by rw [hn, decide_eq_true h1, decide_eq_true h2, decide_eq_false (p := s ≠ cnN) (fun k => k h3)]; rfl, rfl⟩
    · repeat' (first|(first|(refine a1a ?_;first|refine a0b (a1l rfl rfl rfl (by omega)) rfl ?_|refine a0b (a1m rfl rfl rfl (by omega)) rfl ?_)|(refine a1a ?_;first|refine a0b (a4z h1 rfl rfl) rfl ?_|refine a0b (a4z (n := clN) h2 rfl rfl) rfl ?_|refine a0b (a4z (n := cnN) h3 rfl rfl) rfl ?_))|(refine a2k ?_;first|refine a0b (a0l rfl) rfl ?_|(refine k_g ?_;first|refine a1j rfl rfl (by with_reducible rfl) ?_|refine a1w rfl rfl (by with_reducible rfl) rfl ?_|refine a1t rfl rfl (by with_reducible rfl) rfl ?_|refine a4a rfl rfl rfl ?_|(refine a1z rfl rfl (fun hc => ?_) (fun hc => ?_) <;> (try (exfalso;omega))))|(refine a1a ?_;first|refine a0b (a1h rfl rfl rfl) rfl ?_|refine a0b (a1p rfl rfl (by (first|exact w64 (by omega) (by omega)|rfl))) rfl ?_)|(refine a1i ?_;first|refine a0b (a0j rfl (by with_reducible rfl) rfl) rfl ?_|refine a0b (a0i rfl (by with_reducible rfl) rfl) rfl ?_)|refine a0b (a0e rfl) rfl ?_|(refine a0d ?_;first|refine a0b (a0p rfl) rfl ?_)|refine a0u ?_|refine a0b (a1u rfl rfl (by omega) (by omega)) rfl ?_)|(first|refine a1n ?_|(refine a1o ?_;first|refine a0c (a0a ?_)|refine a0c ?_|refine a0a ?_|(refine a0x ?_;first|refine a0g rfl (by with_reducible rfl) ?_|refine a0h rfl (by with_reducible rfl) ?_)|refine a0n ?_|refine a0o ?_|refine a0k ?_|refine a1f ?_)|refine a0t ?_|refine a1q ?_|refine a2b ?_|refine a1d ?_|refine a1v ?_|refine a1b ?_|refine a1e ?_))
      all_goals
        refine ret1 (by first | exact .inr rfl | exact .inl rfl) rfl rfl ?_
        exact ⟨by rw [hn, decide_eq_true h3, decide_eq_true h1, decide_eq_true h2]; rfl, rfl⟩
set_option maxHeartbeats 4000000 in
theorem c2f {s : List UInt8} (hs : s.length ≤ 140737488351232) : PCalls (EE w0 base) 108 [.str s] fun rv => rv = .bool (valueY s) := by
  have hT : PCalls (EE w0 base) 89 [.str s, .str [32, 9]] fun rv => rv = .str (bareI s) := b6h (by omega)
  refine a1s Tryz.func108 rfl rfl rfl (.cons .nil) ?_
  repeat' (first|(refine a2k ?_;first|refine a0b (a0l rfl) rfl ?_|(refine k_g ?_;first|refine a1j rfl rfl (by with_reducible rfl) ?_|refine a1w rfl rfl (by with_reducible rfl) rfl ?_|refine a1t rfl rfl (by with_reducible rfl) rfl ?_|refine a4a rfl rfl rfl ?_|(refine a1z rfl rfl (fun hc => ?_) (fun hc => ?_) <;> (try (exfalso;omega))))|(refine a1a ?_;first|refine a0b (a1h rfl rfl rfl) rfl ?_|refine a0b (a1p rfl rfl (by (first|exact w64 (by omega) (by omega)|rfl))) rfl ?_|refine a0b (a2t rfl rfl) rfl ?_)|(refine a1i ?_;first|refine a0b (a0j rfl (by with_reducible rfl) rfl) rfl ?_|refine a0b (a0i rfl (by with_reducible rfl) rfl) rfl ?_)|refine a0b (a0e rfl) rfl ?_|(refine a0d ?_;first|refine a0b (a0p rfl) rfl ?_)|refine a0u ?_|refine a0b (a1u rfl rfl (by omega) (by omega)) rfl ?_)|(first|refine a1n ?_|(refine a1o ?_;first|refine a0c (a0a ?_)|refine a0c ?_|refine a0a ?_|(refine a0x ?_;first|refine a0g rfl (by with_reducible rfl) ?_|refine a0h rfl (by with_reducible rfl) ?_)|refine a0n ?_|refine a0o ?_|refine a0k ?_|refine a1f ?_)|refine a0t ?_|refine a1q ?_|refine a2b ?_|refine a1d ?_|refine a1v ?_|refine a1b ?_|refine a1e ?_))
  refine a2o (fun k : Nat => ⟨[(0, .str s), (6, .int .i64 s.length), (7, .int .i64 k)], []⟩) (fun k => k ≤ s.length ∧ (s.take k).all okV = true) (fun k => s.length - k) 0 (.of (.same (by repeat constructor))) ⟨Nat.zero_le _, rfl⟩ ?_
  rintro k ⟨hk, hok⟩
  try dsimp only
  by_cases hlt : k < s.length
  · obtain ⟨c, hcc⟩ : ∃ c, s[k]? = some c := ⟨_, List.getElem?_eq_getElem hlt⟩
    have hb := a7x hcc
    have hiff : okV c = true ↔ c.toNat = 9 ∨ (32 ≤ c.toNat ∧ c.toNat ≤ 126) := by
      unfold okV
      simp only [Bool.or_eq_true, Bool.and_eq_true, decide_eq_true_eq]
    cases ho : okV c with
    | false =>
      have hno : ¬ (c.toNat = 9 ∨ (32 ≤ c.toNat ∧ c.toNat ≤ 126)) := fun h => by rw [hiff.2 h] at ho; cases ho
      repeat' (first|((refine a1a ?_;first|refine a0b (a1l rfl rfl rfl (by omega)) rfl ?_|refine a0b (a1m rfl rfl rfl (by omega)) rfl ?_))|(refine a2k ?_;first|refine a0b (a0l rfl) rfl ?_|(refine k_g ?_;first|refine a1j rfl rfl (by with_reducible rfl) ?_|refine a1w rfl rfl (by with_reducible rfl) rfl ?_|refine a1t rfl rfl (by with_reducible rfl) rfl ?_|refine a4a rfl rfl rfl ?_|(refine a1z rfl rfl (fun hc => ?_) (fun hc => ?_) <;> (try (exfalso;omega))))|(refine a1a ?_;first|refine a0b (a1h rfl rfl rfl) rfl ?_|refine a0b (a1p rfl rfl (by (first|exact w64 (by omega) (by omega)|rfl))) rfl ?_|refine a0b (a2t rfl rfl) rfl ?_)|(refine a1i ?_;first|refine a0b (a0j rfl (by with_reducible rfl) rfl) rfl ?_|refine a0b (a0i rfl (by with_reducible rfl) rfl) rfl ?_)|refine a0b (a0e rfl) rfl ?_|(refine a0d ?_;first|refine a0b (a0p rfl) rfl ?_)|refine a0u ?_|refine a0b (a1u rfl rfl (by omega) (by omega)) rfl ?_)|(first|refine a1n ?_|(refine a1o ?_;first|refine a0c (a0a ?_)|refine a0c ?_|refine a0a ?_|(refine a0x ?_;first|refine a0g rfl (by with_reducible rfl) ?_|refine a0h rfl (by with_reducible rfl) ?_)|refine a0n ?_|refine a0o ?_|refine a0k ?_|refine a1f ?_)|refine a0t ?_|refine a1q ?_|refine a2b ?_|refine a1d ?_|refine a1v ?_|refine a1b ?_|refine a1e ?_))
      all_goals
        refine ret1 (by first | exact .inr rfl | exact .inl rfl) rfl rfl ?_
        exact ⟨by unfold valueY; rw [a8s hcc ho]; rfl, rfl⟩
    | true =>
      have hyes := hiff.1 ho
      repeat' (first|((refine a1a ?_;first|refine a0b (a1l rfl rfl rfl (by omega)) rfl ?_|refine a0b (a1m rfl rfl rfl (by omega)) rfl ?_))|(refine a2k ?_;first|refine a0b (a0l rfl) rfl ?_|(refine k_g ?_;first|refine a1j rfl rfl (by with_reducible rfl) ?_|refine a1w rfl rfl (by with_reducible rfl) rfl ?_|refine a1t rfl rfl (by with_reducible rfl) rfl ?_|refine a4a rfl rfl rfl ?_|(refine a1z rfl rfl (fun hc => ?_) (fun hc => ?_) <;> (try (exfalso;omega))))|(refine a1a ?_;first|refine a0b (a1h rfl rfl rfl) rfl ?_|refine a0b (a1p rfl rfl (by (first|exact w64 (by omega) (by omega)|rfl))) rfl ?_|refine a0b (a2t rfl rfl) rfl ?_)|(refine a1i ?_;first|refine a0b (a0j rfl (by with_reducible rfl) rfl) rfl ?_|refine a0b (a0i rfl (by with_reducible rfl) rfl) rfl ?_)|refine a0b (a0e rfl) rfl ?_|(refine a0d ?_;first|refine a0b (a0p rfl) rfl ?_)|refine a0u ?_|refine a0b (a1u rfl rfl (by omega) (by omega)) rfl ?_)|(first|refine a1n ?_|(refine a1o ?_;first|refine a0c (a0a ?_)|refine a0c ?_|refine a0a ?_|(refine a0x ?_;first|refine a0g rfl (by with_reducible rfl) ?_|refine a0h rfl (by with_reducible rfl) ?_)|refine a0n ?_|refine a0o ?_|refine a0k ?_|refine a1f ?_)|refine a0t ?_|refine a1q ?_|refine a2b ?_|refine a1d ?_|refine a1v ?_|refine a1b ?_|refine a1e ?_))
      all_goals
        first | refine a1y (k + 1) (.of (.same (by repeat constructor))) ?_ ?_ | fail
        · exact ⟨by omega, by rw [a7d hok hcc, ho]⟩
        · omega
  · rw [List.take_of_length_le (by omega)] at hok
    have hn : valueY s = decide (bareI s = s) := by unfold valueY; rw [hok]; rfl
    repeat' (first|(first|(refine a1a ?_;first|refine a0b (a1l rfl rfl rfl (by omega)) rfl ?_|refine a0b (a1m rfl rfl rfl (by omega)) rfl ?_)|(refine a0d ?_;refine a0q rfl rfl rfl rfl hT ?_;rintro _ rfl))|(refine a2k ?_;first|refine a0b (a0l rfl) rfl ?_|(refine k_g ?_;first|refine a1j rfl rfl (by with_reducible rfl) ?_|refine a1w rfl rfl (by with_reducible rfl) rfl ?_|refine a1t rfl rfl (by with_reducible rfl) rfl ?_|refine a4a rfl rfl rfl ?_|(refine a1z rfl rfl (fun hc => ?_) (fun hc => ?_) <;> (try (exfalso;omega))))|(refine a1a ?_;first|refine a0b (a1h rfl rfl rfl) rfl ?_|refine a0b (a1p rfl rfl (by (first|exact w64 (by omega) (by omega)|rfl))) rfl ?_|refine a0b (a2t rfl rfl) rfl ?_)|(refine a1i ?_;first|refine a0b (a0j rfl (by with_reducible rfl) rfl) rfl ?_|refine a0b (a0i rfl (by with_reducible rfl) rfl) rfl ?_)|refine a0b (a0e rfl) rfl ?_|(refine a0d ?_;first|refine a0b (a0p rfl) rfl ?_)|refine a0u ?_|refine a0b (a1u rfl rfl (by omega) (by omega)) rfl ?_)|(first|refine a1n ?_|(refine a1o ?_;first|refine a0c (a0a ?_)|refine a0c ?_|refine a0a ?_|(refine a0x ?_;first|refine a0g rfl (by with_reducible rfl) ?_|refine a0h rfl (by with_reducible rfl) ?_)|refine a0n ?_|refine a0o ?_|refine a0k ?_|refine a1f ?_)|refine a0t ?_|refine a1q ?_|refine a2b ?_|refine a1d ?_|refine a1v ?_|refine a1b ?_|refine a1e ?_))
    all_goals
      refine ret1 (by first | exact .inr rfl | exact .inl rfl) rfl rfl ?_
      exact ⟨by rw [hn], rfl⟩
end
end Go.Proofs.YtkljmljkiodnpaaGreatDoor.L

namespace Go.Proofs.YtkljmljkiodnpaaGreatDoor.L
open Go Go.RowKit Go.Proofs
attribute [local irreducible] AL QL AWp Thn InB RetQ ACalls LoopQ HL HO HW HQ NoG JmpQ MidQ HF

def reasonL : List (Int × List UInt8) := [(200, "OK"), (201, "Created"), (204, "No Content"), (400, "Bad Request"), (401, "Unauthorized"), (403, "Forbidden"), (404, "Not Found"), (409, "Conflict"), (413, "Content Too Large"), (431, "Request Header Fields Too Large"), (500, "Internal Server Error"), (503, "Service Unavailable"), (505, "HTTP Version Not Supported")].map fun p => (p.1, p.2.toUTF8.data.toList)
abbrev reaC (p : Int × List UInt8) : List AV := [.int .i64 p.1, .str p.2]
def reasonAV : List (List AV) := reasonL.map reaC
def wordsOfY (st : Int) : List (Int × List UInt8) → Option (List UInt8)
  | [] => none
  | p :: r => if p.1 = st then some p.2 else wordsOfY st r
def wordsY (st : Int) : Option (List UInt8) := wordsOfY st reasonL
section
variable {w0 : World} {base : Nat}
theorem b9b : PCalls (EE w0 base) 109 [] fun rv => rv = .rs reasonAV := by
  refine a1s Tryz.func109 rfl rfl rfl .nil ?_
  repeat' (first|(refine a2k ?_;first|refine a0b (a0e rfl) rfl ?_|refine a0u ?_|refine a0b (a1x rfl rfl rfl (by repeat constructor)) rfl ?_|refine a2e (by rfl) (by rfl) (by rfl) (by rfl) (by decide) (by decide) (by rfl) (by rfl) (by repeat constructor) (by rfl) (by repeat constructor) (by rfl) (by first|exact ln0) (by repeat constructor) rfl ?_)|(first|refine a1n ?_|(refine a1o ?_;first|refine a0c (a0a ?_)|refine a0c ?_|refine a0a ?_|refine a0o ?_)))
  refine a2m (.freeze 0 rfl (by repeat constructor)) ?_
  refine ret1 (by first | exact .inr rfl | exact .inl rfl) rfl rfl ?_
  exact ⟨rfl, rfl⟩
set_option maxHeartbeats 4000000 in
theorem b9c {st : Int} : PCalls (EE w0 base) 65 [.int .i64 st] fun rv => rv = .tup [.str ((wordsY st).getD []), .int .i64 (if (wordsY st).isSome then 0 else 3)] := by
  refine a1s Tryz.func65 rfl rfl rfl (.cons .nil) ?_
  have hlen : reasonAV.length = 13 := rfl
  obtain ⟨T, hT⟩ : ∃ T, T = wordsY st := ⟨_, rfl⟩
  rw [← hT]
  repeat' (first|(first|(refine a0d ?_;refine a0q rfl rfl rfl rfl b9b ?_;rintro _ rfl))|(refine a2k ?_;first|refine a0b (a0l rfl) rfl ?_|refine a0b (a0f rfl rfl) rfl ?_|(refine a1g ?_;first|refine a0b (a0w rfl rfl) rfl ?_|refine a0b (a0m rfl rfl rfl) rfl ?_)|(refine a1a ?_;first|refine a0b (a1p rfl rfl (by (first|exact w64 (by omega) (by omega)|rfl))) rfl ?_)|refine a0b (a0e rfl) rfl ?_|(refine a0d ?_;first|refine a0b (a2f rfl) rfl ?_)|refine a0u ?_|refine a0z rfl rfl rfl (by first|exact ln0) (by repeat constructor) rfl ?_|refine a1c rfl rfl rfl rfl rfl (by repeat constructor) (by repeat constructor) ?_)|(first|refine a1n ?_|(refine a1o ?_;first|refine a0c (a0a ?_)|refine a0c ?_|refine a0a ?_|(refine a0x ?_;first|refine a0g rfl (by with_reducible rfl) ?_|refine a0h rfl (by with_reducible rfl) ?_)|refine a0n ?_|refine a0o ?_|refine a0k ?_|refine a1f ?_)|refine a0t ?_|refine a1q ?_|refine a2b ?_|refine a1d ?_|refine a1v ?_|refine a1b ?_|refine a1e ?_))
  refine a2o (fun k : Nat => ⟨[(0, .int .i64 st), (6, .rs reasonAV), (7, .int .i64 13), (8, .int .i64 k)], []⟩) (fun k => k ≤ 13 ∧ T = wordsOfY st (reasonL.drop k)) (fun k => 13 - k) 0 (.of (.same (by repeat constructor))) ⟨Nat.zero_le _, hT⟩ ?_
  rintro k ⟨hk, hTk⟩
  try dsimp only
  by_cases hlt : k < 13
  · have hlt2 : k < reasonL.length := hlt
    obtain ⟨p, hp⟩ : ∃ p, reasonL[k]? = some p := ⟨_, List.getElem?_eq_getElem hlt2⟩
    have hrow : reasonAV[((k : Nat) : Int).toNat]? = some [.int .i64 p.1, .str p.2] := by
      have : ((k : Nat) : Int).toNat = k := rfl
      unfold reasonAV
      rw [this, List.getElem?_map, hp]
      rfl
    have hd : reasonL.drop k = p :: reasonL.drop (k + 1) := by
      rw [List.drop_eq_getElem_cons hlt2]
      congr 1
      exact (List.getElem?_eq_some_iff.1 hp).2
    rw [hd, wordsOfY] at hTk
    by_cases hps : p.1 = st
    · rw [if_pos hps] at hTk
      repeat' (first|(first|refine a0b (a2j rfl rfl (by omega) hrow rfl) rfl ?_|(refine a1a ?_;first|refine a0b (a1l rfl rfl rfl (by omega)) rfl ?_|refine a0b (a1m rfl rfl rfl (by omega)) rfl ?_))|(refine a2k ?_;first|refine a0b (a0l rfl) rfl ?_|refine a0b (a0f rfl rfl) rfl ?_|(refine a1g ?_;first|refine a0b (a0w rfl rfl) rfl ?_|refine a0b (a0m rfl rfl rfl) rfl ?_)|(refine a1a ?_;first|refine a0b (a1p rfl rfl (by (first|exact w64 (by omega) (by omega)|rfl))) rfl ?_)|refine a0b (a0e rfl) rfl ?_|(refine a0d ?_;first|refine a0b (a2f rfl) rfl ?_)|refine a0u ?_|refine a0z rfl rfl rfl (by first|exact ln0) (by repeat constructor) rfl ?_|refine a1c rfl rfl rfl rfl rfl (by repeat constructor) (by repeat constructor) ?_)|(first|refine a1n ?_|(refine a1o ?_;first|refine a0c (a0a ?_)|refine a0c ?_|refine a0a ?_|(refine a0x ?_;first|refine a0g rfl (by with_reducible rfl) ?_|refine a0h rfl (by with_reducible rfl) ?_)|refine a0n ?_|refine a0o ?_|refine a0k ?_|refine a1f ?_)|refine a0t ?_|refine a1q ?_|refine a2b ?_|refine a1d ?_|refine a1v ?_|refine a1b ?_|refine a1e ?_))
      refine ret2 (by first | exact .inr rfl | exact .inl rfl) rfl rfl rfl ?_
      exact ⟨by rw [hTk]; rfl, rfl⟩
    · rw [if_neg hps] at hTk
      repeat' (first|(first|refine a0b (a2j rfl rfl (by omega) hrow rfl) rfl ?_|(refine a1a ?_;first|refine a0b (a1l rfl rfl rfl (by omega)) rfl ?_|refine a0b (a1m rfl rfl rfl (by omega)) rfl ?_))|(refine a2k ?_;first|refine a0b (a0l rfl) rfl ?_|refine a0b (a0f rfl rfl) rfl ?_|(refine a1g ?_;first|refine a0b (a0w rfl rfl) rfl ?_|refine a0b (a0m rfl rfl rfl) rfl ?_)|(refine a1a ?_;first|refine a0b (a1p rfl rfl (by (first|exact w64 (by omega) (by omega)|rfl))) rfl ?_)|refine a0b (a0e rfl) rfl ?_|(refine a0d ?_;first|refine a0b (a2f rfl) rfl ?_)|refine a0u ?_|refine a0z rfl rfl rfl (by first|exact ln0) (by repeat constructor) rfl ?_|refine a1c rfl rfl rfl rfl rfl (by repeat constructor) (by repeat constructor) ?_)|(first|refine a1n ?_|(refine a1o ?_;first|refine a0c (a0a ?_)|refine a0c ?_|refine a0a ?_|(refine a0x ?_;first|refine a0g rfl (by with_reducible rfl) ?_|refine a0h rfl (by with_reducible rfl) ?_)|refine a0n ?_|refine a0o ?_|refine a0k ?_|refine a1f ?_)|refine a0t ?_|refine a1q ?_|refine a2b ?_|refine a1d ?_|refine a1v ?_|refine a1b ?_|refine a1e ?_))
      first | refine a1y (k + 1) (.of (.same (by repeat constructor))) ?_ ?_ | refine a1y (k + 1) (.of (a2n [_] rfl (by repeat constructor) rfl (by repeat constructor) rfl)) ?_ ?_ | refine a1y (k + 1) (.of (a2n [_, _] rfl (by repeat constructor) rfl (by repeat constructor) rfl)) ?_ ?_ | refine a1y (k + 1) (.of (a2n [_, _, _] rfl (by repeat constructor) rfl (by repeat constructor) rfl)) ?_ ?_
      · exact ⟨by omega, hTk⟩
      · omega
  · have hl : reasonL.length = 13 := rfl
    rw [List.drop_eq_nil_of_le (by omega), wordsOfY] at hTk
    repeat' (first|((refine a1a ?_;first|refine a0b (a1l rfl rfl rfl (by omega)) rfl ?_|refine a0b (a1m rfl rfl rfl (by omega)) rfl ?_))|(refine a2k ?_;first|refine a0b (a0l rfl) rfl ?_|refine a0b (a0f rfl rfl) rfl ?_|(refine a1g ?_;first|refine a0b (a0w rfl rfl) rfl ?_|refine a0b (a0m rfl rfl rfl) rfl ?_)|(refine a1a ?_;first|refine a0b (a1p rfl rfl (by (first|exact w64 (by omega) (by omega)|rfl))) rfl ?_)|refine a0b (a0e rfl) rfl ?_|(refine a0d ?_;first|refine a0b (a2f rfl) rfl ?_)|refine a0u ?_|refine a0z rfl rfl rfl (by first|exact ln0) (by repeat constructor) rfl ?_|refine a1c rfl rfl rfl rfl rfl (by repeat constructor) (by repeat constructor) ?_)|(first|refine a1n ?_|(refine a1o ?_;first|refine a0c (a0a ?_)|refine a0c ?_|refine a0a ?_|(refine a0x ?_;first|refine a0g rfl (by with_reducible rfl) ?_|refine a0h rfl (by with_reducible rfl) ?_)|refine a0n ?_|refine a0o ?_|refine a0k ?_|refine a1f ?_)|refine a0t ?_|refine a1q ?_|refine a2b ?_|refine a1d ?_|refine a1v ?_|refine a1b ?_|refine a1e ?_))
    refine ret2 (by first | exact .inr rfl | exact .inl rfl) rfl rfl rfl ?_
    exact ⟨by rw [hTk]; rfl, rfl⟩
theorem c7b {b : Bool} : PCalls (EE w0 base) 67 [.bool b] fun rv => rv = .str (if b then "close".toUTF8.data.toList else "keep-alive".toUTF8.data.toList) := by
  refine a1s Tryz.func67 rfl rfl rfl (.cons .nil) ?_
  cases b
  all_goals
    repeat' (first|(refine a2k ?_;first|(refine a0b (a0l rfl) rfl ?_)|(refine a0b (a0e rfl) rfl ?_)|(refine a0u ?_))|(first|(refine a1n ?_)|(refine a1o ?_;first|(refine a0c (a0a ?_))|(refine a0c ?_)|(refine a0a ?_)|(refine a0x ?_;first|(refine a0g rfl (by with_reducible rfl) ?_)|(refine a0h rfl (by with_reducible rfl) ?_))|(refine a0o ?_)|(refine a0k ?_))|(refine a0t ?_)))
    refine ret1 (by first | exact .inr rfl | exact .inl rfl) rfl rfl ?_
    exact ⟨rfl, rfl⟩
end
end Go.Proofs.YtkljmljkiodnpaaGreatDoor.L

namespace Go.Proofs.YtkljmljkiodnpaaGreatDoor.L
open Go Go.RowKit Go.Proofs
attribute [local irreducible] AL QL AWp Thn InB RetQ ACalls LoopQ HL HO HW HQ NoG JmpQ MidQ HF

structure Rp where
  st : Int
  fs : Fs
  body : List UInt8
  cl : Bool
abbrev rpC (r : Rp) : List AV := [.int .i64 r.st, .rs (r.fs.map prAV), .str r.body, .bool r.cl]
structure RpFit (r : Rp) : Prop where
  fs : r.fs.length * 16 ≤ 140737488351232
  each : ∀ p ∈ r.fs, p.1.length ≤ 1099511627776 ∧ p.2.length ≤ 1099511627776
  body : r.body.length ≤ 140737488351232
def fieldY (p : List UInt8 × List UInt8) : Bool := nameY p.1 && valueY p.2
def mayY (r : Rp) : Bool := (decide (200 ≤ r.st ∧ r.st ≤ 599) && decide (r.fs.length ≤ 32) && decide (r.body.length ≤ 1048576)) && r.fs.all fieldY
theorem b4f {s : Fs} {i : Nat} {c : List UInt8 × List UInt8} (h : (s.take i).all fieldY = true) (hc : s[i]? = some c) : (s.take (i + 1)).all fieldY = fieldY c := by
  rw [List.take_add_one, hc, List.all_append, h]
  simp
theorem a5r {s : Fs} {i : Nat} {c : List UInt8 × List UInt8} (hc : s[i]? = some c) (h : fieldY c = false) : s.all fieldY = false := by
  cases hq : s.all fieldY with
  | false => rfl
  | true => rw [List.all_eq_true] at hq; rw [hq c (List.mem_of_getElem? hc)] at h; cases h
section
variable {w0 : World} {base : Nat}
set_option maxHeartbeats 8000000 in
theorem c6z {r : Rp} (hr : RpFit r) : PCalls (EE w0 base) 64 [.agg (rpC r)] fun rv => rv = .bool (mayY r) := by
  obtain ⟨st, fs, body, cl⟩ := r
  obtain ⟨hf, he, hbd⟩ := hr
  dsimp only at hf he hbd
  show PCalls (EE w0 base) 64 [.agg [.int .i64 st, .rs (fs.map prAV), .str body, .bool cl]] fun rv => rv = .bool (mayY ⟨st, fs, body, cl⟩)
  refine a1s Tryz.func64 rfl rfl rfl (.cons .nil) ?_
  have hlen : (fs.map prAV).length = fs.length := List.length_map _
  by_cases hg : (200 ≤ st ∧ st ≤ 599) ∧ fs.length ≤ 32 ∧ body.length ≤ 1048576
  · have hm : mayY ⟨st, fs, body, cl⟩ = fs.all fieldY := by
      unfold mayY
      dsimp only
      rw [decide_eq_true hg.1, decide_eq_true hg.2.1, decide_eq_true hg.2.2]
      rfl
    repeat' (first|(first|(refine a0d ?_;refine a0b (a3p fs.length rfl hlen) rfl ?_)|(refine a1a ?_;first|refine a0b (a1l rfl rfl rfl (by omega)) rfl ?_|refine a0b (a1m rfl rfl rfl (by omega)) rfl ?_))|(refine a2k ?_;first|refine a0b (a0l rfl) rfl ?_|(refine k_g ?_;first|refine a1j rfl rfl (by with_reducible rfl) ?_|refine a1t rfl rfl (by with_reducible rfl) rfl ?_|(refine a1z rfl rfl (fun hc => ?_) (fun hc => ?_) <;> (try (exfalso;omega))))|refine a0b (a0f rfl rfl) rfl ?_|(refine a1g ?_;first|refine a0b (a0w rfl rfl) rfl ?_|refine a0b (a0m rfl rfl rfl) rfl ?_)|(refine a1a ?_;first|refine a0b (a1h rfl rfl rfl) rfl ?_|refine a0b (a1p rfl rfl (by (first|exact w64 (by omega) (by omega)|rfl))) rfl ?_)|(refine a1i ?_;first|refine a0b (a0j rfl (by with_reducible rfl) rfl) rfl ?_|refine a0b (a0i rfl (by with_reducible rfl) rfl) rfl ?_)|refine a0b (a0e rfl) rfl ?_|(refine a0d ?_;first|refine a0b (a0p rfl) rfl ?_)|refine a0u ?_|refine a2g rfl rfl rfl (by first|exact ln0|exact ln1) (by repeat constructor) rfl ?_|refine a0z rfl rfl rfl (by first|exact ln0|exact ln1) (by repeat constructor) rfl ?_|refine a1c rfl rfl rfl rfl rfl (by repeat constructor) (by repeat constructor) ?_|refine a0b (a0y rfl (by with_reducible rfl)) rfl ?_|refine a0b (a1r rfl (by with_reducible rfl)) rfl ?_)|(first|refine a1n ?_|(refine a1o ?_;first|refine a0c (a0a ?_)|refine a0c ?_|refine a0a ?_|(refine a0x ?_;first|refine a0g rfl (by with_reducible rfl) ?_|refine a0h rfl (by with_reducible rfl) ?_)|refine a0n ?_|refine a0o ?_|refine a0k ?_|refine a1f ?_)|refine a0t ?_|refine a1q ?_|refine a2b ?_|refine a1d ?_|refine a1v ?_|refine a1b ?_|refine a1e ?_))
    refine a2o (fun k : Nat => ⟨[(26, .rs (fs.map prAV)), (27, .int .i64 fs.length), (28, .int .i64 k)], [.box [.int .i64 st, .rs (fs.map prAV), .str body, .bool cl]]⟩) (fun k => k ≤ fs.length ∧ (fs.take k).all fieldY = true) (fun k => fs.length - k) 0 (.of (.same (by repeat constructor))) ⟨Nat.zero_le _, rfl⟩ ?_
    rintro k ⟨hk, hok⟩
    try dsimp only
    by_cases hlt : k < fs.length
    · obtain ⟨p, hp⟩ : ∃ p, fs[k]? = some p := ⟨_, List.getElem?_eq_getElem hlt⟩
      have hrow := a6e hp
      have hel := he p (List.mem_of_getElem? hp)
      have h1 := c5g (w0 := w0) (base := base) (s := p.1) (by omega)
      have h2 := c2f (w0 := w0) (base := base) (s := p.2) (by omega)
      have hfy : fieldY p = (nameY p.1 && valueY p.2) := rfl
      cases hn : nameY p.1 with
      | false =>
        rw [hn] at h1 hfy
        repeat' (first|(first|refine a0b (a2j rfl rfl (by omega) hrow rfl) rfl ?_|(refine a0d ?_;refine a0q rfl rfl rfl rfl h1 ?_;rintro _ rfl)|(refine a0d ?_;refine a0q rfl rfl rfl rfl h2 ?_;rintro _ rfl)|(refine a1a ?_;first|refine a0b (a1l rfl rfl rfl (by omega)) rfl ?_|refine a0b (a1m rfl rfl rfl (by omega)) rfl ?_))|(refine a2k ?_;first|refine a0b (a0l rfl) rfl ?_|(refine k_g ?_;first|refine a1j rfl rfl (by with_reducible rfl) ?_|refine a1t rfl rfl (by with_reducible rfl) rfl ?_|(refine a1z rfl rfl (fun hc => ?_) (fun hc => ?_) <;> (try (exfalso;omega))))|refine a0b (a0f rfl rfl) rfl ?_|(refine a1g ?_;first|refine a0b (a0w rfl rfl) rfl ?_|refine a0b (a0m rfl rfl rfl) rfl ?_)|(refine a1a ?_;first|refine a0b (a1h rfl rfl rfl) rfl ?_|refine a0b (a1p rfl rfl (by (first|exact w64 (by omega) (by omega)|rfl))) rfl ?_)|(refine a1i ?_;first|refine a0b (a0j rfl (by with_reducible rfl) rfl) rfl ?_|refine a0b (a0i rfl (by with_reducible rfl) rfl) rfl ?_)|refine a0b (a0e rfl) rfl ?_|(refine a0d ?_;first|refine a0b (a0p rfl) rfl ?_)|refine a0u ?_|refine a2g rfl rfl rfl (by first|exact ln0|exact ln1) (by repeat constructor) rfl ?_|refine a0z rfl rfl rfl (by first|exact ln0|exact ln1) (by repeat constructor) rfl ?_|refine a1c rfl rfl rfl rfl rfl (by repeat constructor) (by repeat constructor) ?_|refine a0b (a0y rfl (by with_reducible rfl)) rfl ?_|refine a0b (a1r rfl (by with_reducible rfl)) rfl ?_)|(first|refine a1n ?_|(refine a1o ?_;first|refine a0c (a0a ?_)|refine a0c ?_|refine a0a ?_|(refine a0x ?_;first|refine a0g rfl (by with_reducible rfl) ?_|refine a0h rfl (by with_reducible rfl) ?_)|refine a0n ?_|refine a0o ?_|refine a0k ?_|refine a1f ?_)|refine a0t ?_|refine a1q ?_|refine a2b ?_|refine a1d ?_|refine a1v ?_|refine a1b ?_|refine a1e ?_))
        all_goals
          refine ret1 (by first | exact .inr rfl | exact .inl rfl) rfl rfl ?_
          exact ⟨by rw [hm, a5r hp hfy], rfl⟩
      | true =>
        cases hv : valueY p.2 with
        | false =>
          rw [hn, hv] at hfy
          rw [hn] at h1
          rw [hv] at h2
          repeat' (first|(first|refine a0b (a2j rfl rfl (by omega) hrow rfl) rfl ?_|(refine a0d ?_;refine a0q rfl rfl rfl rfl h1 ?_;rintro _ rfl)|(refine a0d ?_;refine a0q rfl rfl rfl rfl h2 ?_;rintro _ rfl)|(refine a1a ?_;first|refine a0b (a1l rfl rfl rfl (by omega)) rfl ?_|refine a0b (a1m rfl rfl rfl (by omega)) rfl ?_))|(refine a2k ?_;first|refine a0b (a0l rfl) rfl ?_|(refine k_g ?_;first|refine a1j rfl rfl (by with_reducible rfl) ?_|refine a1t rfl rfl (by with_reducible rfl) rfl ?_|(refine a1z rfl rfl (fun hc => ?_) (fun hc => ?_) <;> (try (exfalso;omega))))|refine a0b (a0f rfl rfl) rfl ?_|(refine a1g ?_;first|refine a0b (a0w rfl rfl) rfl ?_|refine a0b (a0m rfl rfl rfl) rfl ?_)|(refine a1a ?_;first|refine a0b (a1h rfl rfl rfl) rfl ?_|refine a0b (a1p rfl rfl (by (first|exact w64 (by omega) (by omega)|rfl))) rfl ?_)|(refine a1i ?_;first|refine a0b (a0j rfl (by with_reducible rfl) rfl) rfl ?_|refine a0b (a0i rfl (by with_reducible rfl) rfl) rfl ?_)|refine a0b (a0e rfl) rfl ?_|(refine a0d ?_;first|refine a0b (a0p rfl) rfl ?_)|refine a0u ?_|refine a2g rfl rfl rfl (by first|exact ln0|exact ln1) (by repeat constructor) rfl ?_|refine a0z rfl rfl rfl (by first|exact ln0|exact ln1) (by repeat constructor) rfl ?_|refine a1c rfl rfl rfl rfl rfl (by repeat constructor) (by repeat constructor) ?_|refine a0b (a0y rfl (by with_reducible rfl)) rfl ?_|refine a0b (a1r rfl (by with_reducible rfl)) rfl ?_)|(first|refine a1n ?_|(refine a1o ?_;first|refine a0c (a0a ?_)|refine a0c ?_|refine a0a ?_|(refine a0x ?_;first|refine a0g rfl (by with_reducible rfl) ?_|refine a0h rfl (by with_reducible rfl) ?_)|refine a0n ?_|refine a0o ?_|refine a0k ?_|refine a1f ?_)|refine a0t ?_|refine a1q ?_|refine a2b ?_|refine a1d ?_|refine a1v ?_|refine a1b ?_|refine a1e ?_))
          all_goals
            refine ret1 (by first | exact .inr rfl | exact .inl rfl) rfl rfl ?_
            exact ⟨by rw [hm, a5r hp hfy], rfl⟩
        | true =>
          rw [hn, hv] at hfy
          rw [hn] at h1
          rw [hv] at h2
          repeat' (first|(first|refine a0b (a2j rfl rfl (by omega) hrow rfl) rfl ?_|(refine a0d ?_;refine a0q rfl rfl rfl rfl h1 ?_;rintro _ rfl)|(refine a0d ?_;refine a0q rfl rfl rfl rfl h2 ?_;rintro _ rfl)|(refine a1a ?_;first|refine a0b (a1l rfl rfl rfl (by omega)) rfl ?_|refine a0b (a1m rfl rfl rfl (by omega)) rfl ?_))|(refine a2k ?_;first|refine a0b (a0l rfl) rfl ?_|(refine k_g ?_;first|refine a1j rfl rfl (by with_reducible rfl) ?_|refine a1t rfl rfl (by with_reducible rfl) rfl ?_|(refine a1z rfl rfl (fun hc => ?_) (fun hc => ?_) <;> (try (exfalso;omega))))|refine a0b (a0f rfl rfl) rfl ?_|(refine a1g ?_;first|refine a0b (a0w rfl rfl) rfl ?_|refine a0b (a0m rfl rfl rfl) rfl ?_)|(refine a1a ?_;first|refine a0b (a1h rfl rfl rfl) rfl ?_|refine a0b (a1p rfl rfl (by (first|exact w64 (by omega) (by omega)|rfl))) rfl ?_)|(refine a1i ?_;first|refine a0b (a0j rfl (by with_reducible rfl) rfl) rfl ?_|refine a0b (a0i rfl (by with_reducible rfl) rfl) rfl ?_)|refine a0b (a0e rfl) rfl ?_|(refine a0d ?_;first|refine a0b (a0p rfl) rfl ?_)|refine a0u ?_|refine a2g rfl rfl rfl (by first|exact ln0|exact ln1) (by repeat constructor) rfl ?_|refine a0z rfl rfl rfl (by first|exact ln0|exact ln1) (by repeat constructor) rfl ?_|refine a1c rfl rfl rfl rfl rfl (by repeat constructor) (by repeat constructor) ?_|refine a0b (a0y rfl (by with_reducible rfl)) rfl ?_|refine a0b (a1r rfl (by with_reducible rfl)) rfl ?_)|(first|refine a1n ?_|(refine a1o ?_;first|refine a0c (a0a ?_)|refine a0c ?_|refine a0a ?_|(refine a0x ?_;first|refine a0g rfl (by with_reducible rfl) ?_|refine a0h rfl (by with_reducible rfl) ?_)|refine a0n ?_|refine a0o ?_|refine a0k ?_|refine a1f ?_)|refine a0t ?_|refine a1q ?_|refine a2b ?_|refine a1d ?_|refine a1v ?_|refine a1b ?_|refine a1e ?_))
          all_goals
            first | refine a1y (k + 1) (.of (.same (by repeat constructor))) ?_ ?_ | refine a1y (k + 1) (.of (a2n [_] rfl (by repeat constructor) rfl (by repeat constructor) rfl)) ?_ ?_ | refine a1y (k + 1) (.of (a2n [_, _] rfl (by repeat constructor) rfl (by repeat constructor) rfl)) ?_ ?_ | refine a1y (k + 1) (.of (a2n [_, _, _] rfl (by repeat constructor) rfl (by repeat constructor) rfl)) ?_ ?_
            · exact ⟨by omega, by rw [b4f hok hp, hfy]; rfl⟩
            · omega
    · rw [List.take_of_length_le (by omega)] at hok
      repeat' (first|((refine a1a ?_;first|refine a0b (a1l rfl rfl rfl (by omega)) rfl ?_|refine a0b (a1m rfl rfl rfl (by omega)) rfl ?_))|(refine a2k ?_;first|refine a0b (a0l rfl) rfl ?_|(refine k_g ?_;first|refine a1j rfl rfl (by with_reducible rfl) ?_|refine a1t rfl rfl (by with_reducible rfl) rfl ?_|(refine a1z rfl rfl (fun hc => ?_) (fun hc => ?_) <;> (try (exfalso;omega))))|refine a0b (a0f rfl rfl) rfl ?_|(refine a1g ?_;first|refine a0b (a0w rfl rfl) rfl ?_|refine a0b (a0m rfl rfl rfl) rfl ?_)|(refine a1a ?_;first|refine a0b (a1h rfl rfl rfl) rfl ?_|refine a0b (a1p rfl rfl (by (first|exact w64 (by omega) (by omega)|rfl))) rfl ?_)|(refine a1i ?_;first|refine a0b (a0j rfl (by with_reducible rfl) rfl) rfl ?_|refine a0b (a0i rfl (by with_reducible rfl) rfl) rfl ?_)|refine a0b (a0e rfl) rfl ?_|(refine a0d ?_;first|refine a0b (a0p rfl) rfl ?_)|refine a0u ?_|refine a2g rfl rfl rfl (by first|exact ln0|exact ln1) (by repeat constructor) rfl ?_|refine a0z rfl rfl rfl (by first|exact ln0|exact ln1) (by repeat constructor) rfl ?_|refine a1c rfl rfl rfl rfl rfl (by repeat constructor) (by repeat constructor) ?_|refine a0b (a0y rfl (by with_reducible rfl)) rfl ?_|refine a0b (a1r rfl (by with_reducible rfl)) rfl ?_)|(first|refine a1n ?_|(refine a1o ?_;first|refine a0c (a0a ?_)|refine a0c ?_|refine a0a ?_|(refine a0x ?_;first|refine a0g rfl (by with_reducible rfl) ?_|refine a0h rfl (by with_reducible rfl) ?_)|refine a0n ?_|refine a0o ?_|refine a0k ?_|refine a1f ?_)|refine a0t ?_|refine a1q ?_|refine a2b ?_|refine a1d ?_|refine a1v ?_|refine a1b ?_|refine a1e ?_))
      refine ret1 (by first | exact .inr rfl | exact .inl rfl) rfl rfl ?_
      exact ⟨by rw [hm, hok], rfl⟩
  · have hm : mayY ⟨st, fs, body, cl⟩ = false := by
      cases hq : mayY ⟨st, fs, body, cl⟩ with
      | false => rfl
      | true =>
        unfold mayY at hq
        simp only [Bool.and_eq_true, decide_eq_true_eq] at hq
        exact absurd ⟨hq.1.1.1, hq.1.1.2, hq.1.2⟩ hg
    repeat' (first|(first|(refine a0d ?_;refine a0b (a3p fs.length rfl hlen) rfl ?_)|(refine a1a ?_;first|refine a0b (a1l rfl rfl rfl (by omega)) rfl ?_|refine a0b (a1m rfl rfl rfl (by omega)) rfl ?_))|(refine a2k ?_;first|refine a0b (a0l rfl) rfl ?_|(refine k_g ?_;first|refine a1j rfl rfl (by with_reducible rfl) ?_|refine a1t rfl rfl (by with_reducible rfl) rfl ?_|(refine a1z rfl rfl (fun hc => ?_) (fun hc => ?_) <;> (try (exfalso;omega))))|refine a0b (a0f rfl rfl) rfl ?_|(refine a1g ?_;first|refine a0b (a0w rfl rfl) rfl ?_|refine a0b (a0m rfl rfl rfl) rfl ?_)|(refine a1a ?_;first|refine a0b (a1h rfl rfl rfl) rfl ?_|refine a0b (a1p rfl rfl (by (first|exact w64 (by omega) (by omega)|rfl))) rfl ?_)|(refine a1i ?_;first|refine a0b (a0j rfl (by with_reducible rfl) rfl) rfl ?_|refine a0b (a0i rfl (by with_reducible rfl) rfl) rfl ?_)|refine a0b (a0e rfl) rfl ?_|(refine a0d ?_;first|refine a0b (a0p rfl) rfl ?_)|refine a0u ?_|refine a2g rfl rfl rfl (by first|exact ln0|exact ln1) (by repeat constructor) rfl ?_|refine a0z rfl rfl rfl (by first|exact ln0|exact ln1) (by repeat constructor) rfl ?_|refine a1c rfl rfl rfl rfl rfl (by repeat constructor) (by repeat constructor) ?_|refine a0b (a0y rfl (by with_reducible rfl)) rfl ?_|refine a0b (a1r rfl (by with_reducible rfl)) rfl ?_)|(first|refine a1n ?_|(refine a1o ?_;first|refine a0c (a0a ?_)|refine a0c ?_|refine a0a ?_|(refine a0x ?_;first|refine a0g rfl (by with_reducible rfl) ?_|refine a0h rfl (by with_reducible rfl) ?_)|refine a0n ?_|refine a0o ?_|refine a0k ?_|refine a1f ?_)|refine a0t ?_|refine a1q ?_|refine a2b ?_|refine a1d ?_|refine a1v ?_|refine a1b ?_|refine a1e ?_))
    all_goals
      refine ret1 (by first | exact .inr rfl | exact .inl rfl) rfl rfl ?_
      exact ⟨by rw [hm], rfl⟩
end
end Go.Proofs.YtkljmljkiodnpaaGreatDoor.L

namespace Go.Proofs.YtkljmljkiodnpaaGreatDoor.L
open Go Go.RowKit Go.Proofs
attribute [local irreducible] AL QL AWp Thn InB RetQ ACalls LoopQ HL HO HW HQ NoG JmpQ MidQ HF

abbrev tx (s : String) : List UInt8 := s.toUTF8.data.toList
def y1 (st : Int) (w : List UInt8) : List UInt8 := (((tx "HTTP/1.1 " ++ Lib.itoa st) ++ [32]) ++ w) ++ [13, 10]
def fldY (p : List UInt8 × List UInt8) : List UInt8 := ((p.1 ++ [58, 32]) ++ p.2) ++ [13, 10]
def fldsY : Fs → List UInt8
  | [] => []
  | p :: r => fldY p ++ fldsY r
def endW (b : Bool) : List UInt8 := if b then tx "close" else tx "keep-alive"
def y3 (body : List UInt8) (cl : Bool) : List UInt8 := ((((tx "content-length: " ++ Lib.itoa (body.length : Int)) ++ tx "\r\nconnection: ") ++ endW cl) ++ [13, 10, 13, 10]) ++ body
def statW (st : Int) : List UInt8 := (wordsY st).getD (tx "Status")
def printY (r : Rp) : List UInt8 := (y1 r.st (statW r.st) ++ fldsY r.fs) ++ y3 r.body r.cl
theorem b0z {fs : Fs} {i : Nat} {p : List UInt8 × List UInt8} (h : fs[i]? = some p) : fldsY (fs.take (i + 1)) = fldsY (fs.take i) ++ fldY p := by
  have e : ∀ a b : Fs, fldsY (a ++ b) = fldsY a ++ fldsY b := by
    intro a
    induction a with
    | nil => intro b; rfl
    | cons x a ih => intro b; rw [List.cons_append, fldsY, ih, fldsY, List.append_assoc]
  rw [List.take_add_one, h, e]
  show fldsY (fs.take i) ++ (fldY p ++ []) = _
  rw [List.append_nil]
theorem a9p : ∀ {fs : Fs}, (∀ p ∈ fs, p.1.length ≤ 1099511627776 ∧ p.2.length ≤ 1099511627776) → (fldsY fs).length ≤ fs.length * 2199023255556 := by
  intro fs
  induction fs with
  | nil => intro _; exact Nat.zero_le _
  | cons p fs ih =>
    intro h
    have h1 := h p List.mem_cons_self
    have h2 := ih fun q hq => h q (List.mem_cons_of_mem _ hq)
    rw [fldsY, List.length_append, List.length_cons, Nat.add_mul, Nat.one_mul]
    unfold fldY
    simp only [List.length_append, List.length_cons, List.length_nil]
    omega
theorem a8w (st : Int) : (statW st).length ≤ 40 := by
  have h : ∀ p ∈ reasonL, p.2.length ≤ 40 := by decide +kernel
  have h2 : ∀ (l : List (Int × List UInt8)) (w : List UInt8), wordsOfY st l = some w → ∃ p ∈ l, p.2 = w := by
    intro l
    induction l with
    | nil => intro w h; cases h
    | cons p l ih =>
      intro w h
      rw [wordsOfY] at h
      split at h
      · injection h with h; exact ⟨p, List.mem_cons_self, h⟩
      · obtain ⟨q, hq, e⟩ := ih w h; exact ⟨q, List.mem_cons_of_mem _ hq, e⟩
  unfold statW
  cases hw : wordsY st with
  | none => decide +kernel
  | some w =>
    obtain ⟨p, hp, e⟩ := h2 reasonL w hw
    rw [Option.getD_some, ← e]
    exact h p hp
section
variable {w0 : World} {base : Nat}
abbrev prnY (r : Rp) : AV := .tup [.str (if mayY r then printY r else []), .int .i64 (if mayY r then 0 else 90)]
set_option maxHeartbeats 8000000 in
theorem b6j {r : Rp} (hG : Tabs w0 base) (hr : RpFit r) : PCalls (EE w0 base) 42 [.agg (rpC r)] fun rv => rv = prnY r := by
  have hM := c6z (w0 := w0) (base := base) hr
  unfold prnY
  obtain ⟨st, fs, body, cl⟩ := r
  obtain ⟨hf, he, hbd⟩ := hr
  dsimp only at hf he hbd
  have hlen : (fs.map prAV).length = fs.length := List.length_map _
  change PCalls (EE w0 base) 64 [.agg [.int .i64 st, .rs (fs.map prAV), .str body, .bool cl]] _ at hM
  change PCalls (EE w0 base) 42 [.agg [.int .i64 st, .rs (fs.map prAV), .str body, .bool cl]] _
  refine a1s Tryz.func42 rfl rfl rfl (.cons .nil) ?_
  cases hm : mayY ⟨st, fs, body, cl⟩ with
  | false =>
    rw [hm] at hM
    repeat' (first|((refine a0d ?_;refine a0q rfl rfl rfl rfl hM ?_;rintro _ rfl))|(refine a2k ?_;first|refine a0b (a0l rfl) rfl ?_|refine a0b (a0f rfl rfl) rfl ?_|(refine a1g ?_;first|refine a0b (a0w rfl rfl) rfl ?_|refine a0b (a0m rfl rfl rfl) rfl ?_)|(refine a1a ?_;first|refine a0b (a4m rfl rfl (by first|omega|(simp only [List.length_append,List.length_cons,List.length_nil];omega)|(simp;omega))) rfl ?_|refine a0b (a1p rfl rfl (by (first|exact w64 (by omega) (by omega)|rfl))) rfl ?_)|refine a0b (a0e rfl) rfl ?_|(refine a0d ?_;first|refine a0b (a0p rfl) rfl ?_)|refine a0b (a0s rfl rfl) rfl ?_|refine a0u ?_|refine a2g rfl rfl rfl (by first|exact ln0|exact ln1|exact ln3) (by repeat constructor) rfl ?_|refine a0z rfl rfl rfl (by first|exact ln0|exact ln1|exact ln3) (by repeat constructor) rfl ?_|refine a1c rfl rfl rfl rfl rfl (by repeat constructor) (by repeat constructor) ?_|refine a0b (a0y rfl (by with_reducible rfl)) rfl ?_|refine a0b (a1r rfl (by with_reducible rfl)) rfl ?_)|(first|refine a1n ?_|(refine a1o ?_;first|refine a0c (a0a ?_)|refine a0c ?_|refine a0a ?_|(refine a0x ?_;first|refine a0g rfl (by with_reducible rfl) ?_|refine a0h rfl (by with_reducible rfl) ?_)|refine a0n ?_|refine a0o ?_|refine a0k ?_|refine a1f ?_)|refine a0t ?_|refine a1q ?_|refine a1d ?_|refine a1v ?_|refine a1e ?_))
    refine ret2 (by first | exact .inr rfl | exact .inl rfl) rfl rfl rfl ?_
    exact ⟨rfl, rfl⟩
  | true =>
    have hm2 := hm
    rw [hm] at hM
    unfold mayY at hm2
    simp only [Bool.and_eq_true, decide_eq_true_eq] at hm2
    obtain ⟨⟨⟨hst, hf32⟩, hb20⟩, _⟩ := hm2
    have hRe := b9c (w0 := w0) (base := base) (st := st)
    have hIt := b1m (w0 := w0) (base := base) (n := st) hG (by omega) (by omega)
    have hIl := Lib.itoa_length_le st (by omega) (by omega)
    have hIb := b1m (w0 := w0) (base := base) (n := (body.length : Int)) hG (by omega) (by omega)
    have hIbl := Lib.itoa_length_le (body.length : Int) (by omega) (by omega)
    have hwl := a8w st
    have hEn : PCalls (EE w0 base) 67 [.bool cl] fun rv => rv = .str (endW cl) := c7b
    have hE3 : (endW cl).length ≤ 10 := by cases cl <;> decide +kernel
    have hsw : statW st = (wordsY st).getD (tx "Status") := rfl
    obtain ⟨W, hW⟩ : ∃ W, W = statW st := ⟨_, rfl⟩
    have hRe2 : (wordsY st = none ∧ W = tx "Status") ∨ wordsY st = some W := by
      rw [hW]
      unfold statW
      cases wordsY st with
      | none => exact .inl ⟨rfl, rfl⟩
      | some w => exact .inr rfl
    rw [← hW] at hwl
    rcases hRe2 with ⟨hw, hWs⟩ | hw
    all_goals
      rw [hw] at hRe
      dsimp only [Option.getD_none, Option.isSome_none, Option.getD_some, Option.isSome_some] at hRe
      first | rw [if_neg (by decide)] at hRe | rw [if_pos rfl] at hRe
      repeat' (first|(first|refine a7z rfl rfl rfl (by first|exact ln0|exact ln1|exact ln3) (by repeat constructor) rfl ?_|(refine a0d ?_;refine a0q rfl rfl rfl rfl hM ?_;rintro _ rfl)|(refine a0d ?_;refine a0q rfl rfl rfl rfl hRe ?_;rintro _ rfl)|(refine a1a ?_;first|refine a0b (a1l rfl rfl rfl (by omega)) rfl ?_|refine a0b (a1m rfl rfl rfl (by omega)) rfl ?_))|(refine a2k ?_;first|refine a0b (a0l rfl) rfl ?_|refine a0b (a0f rfl rfl) rfl ?_|(refine a1g ?_;first|refine a0b (a0w rfl rfl) rfl ?_|refine a0b (a0m rfl rfl rfl) rfl ?_)|(refine a1a ?_;first|refine a0b (a4m rfl rfl (by first|omega|(simp only [List.length_append,List.length_cons,List.length_nil];omega)|(simp;omega))) rfl ?_|refine a0b (a1p rfl rfl (by (first|exact w64 (by omega) (by omega)|rfl))) rfl ?_)|refine a0b (a0e rfl) rfl ?_|(refine a0d ?_;first|refine a0b (a0p rfl) rfl ?_)|refine a0b (a0s rfl rfl) rfl ?_|refine a0u ?_|refine a2g rfl rfl rfl (by first|exact ln0|exact ln1|exact ln3) (by repeat constructor) rfl ?_|refine a0z rfl rfl rfl (by first|exact ln0|exact ln1|exact ln3) (by repeat constructor) rfl ?_|refine a1c rfl rfl rfl rfl rfl (by repeat constructor) (by repeat constructor) ?_|refine a0b (a0y rfl (by with_reducible rfl)) rfl ?_|refine a0b (a1r rfl (by with_reducible rfl)) rfl ?_)|(first|refine a1n ?_|(refine a1o ?_;first|refine a0c (a0a ?_)|refine a0c ?_|refine a0a ?_|(refine a0x ?_;first|refine a0g rfl (by with_reducible rfl) ?_|refine a0h rfl (by with_reducible rfl) ?_)|refine a0n ?_|refine a0o ?_|refine a0k ?_|refine a1f ?_)|refine a0t ?_|refine a1q ?_|refine a1d ?_|refine a1v ?_|refine a1e ?_))
      have hy1 : (y1 st W).length ≤ 200 := by
        unfold y1
        have e : (tx "HTTP/1.1 ").length = 9 := by decide +kernel
        simp only [List.length_append, List.length_cons, List.length_nil, e]
        omega
      have hW1 := a3v (w0 := w0) (base := base) (.inl rfl) (bs := []) (s := y1 st W) (ver := 0) (by simp only [List.length_nil]; omega)
      refine a4j (Wkn.spell 4 (.str W) rfl (congrArg AV.str (by first | rfl | (rw [hWs]; rfl)))) ?_
      refine a4j (.adoptBox (id := 1) (k := 1) (e := 5) (sz := 1) rfl rfl (by decide) rfl rfl rfl) ?_
      repeat' (first|(first|(refine a0d ?_;refine a0b (a3p fs.length rfl hlen) rfl ?_)|(refine a0d ?_;refine a0q rfl rfl rfl rfl hIt ?_;rintro _ rfl)|(refine a0d ?_;refine a0v [1,2] rfl rfl hW1 ?_ ?_ rfl rfl ?_;(focus ((repeat constructor);done));(focus ((repeat constructor);done));rintro _ _ ⟨rfl,rfl⟩;refine ⟨_,_,by repeat constructor,by repeat constructor,?_⟩)|(refine a1a ?_;first|refine a0b (a1l rfl rfl rfl (by omega)) rfl ?_|refine a0b (a1m rfl rfl rfl (by omega)) rfl ?_))|(refine a2k ?_;first|refine a0b (a0l rfl) rfl ?_|refine a0b (a0f rfl rfl) rfl ?_|(refine a1g ?_;first|refine a0b (a0w rfl rfl) rfl ?_|refine a0b (a0m rfl rfl rfl) rfl ?_)|(refine a1a ?_;first|refine a0b (a4m rfl rfl (by first|omega|(simp only [List.length_append,List.length_cons,List.length_nil];omega)|(simp;omega))) rfl ?_|refine a0b (a1p rfl rfl (by (first|exact w64 (by omega) (by omega)|rfl))) rfl ?_)|refine a0b (a0e rfl) rfl ?_|(refine a0d ?_;first|refine a0b (a0p rfl) rfl ?_)|refine a0b (a0s rfl rfl) rfl ?_|refine a0u ?_|refine a2g rfl rfl rfl (by first|exact ln0|exact ln1|exact ln3) (by repeat constructor) rfl ?_|refine a0z rfl rfl rfl (by first|exact ln0|exact ln1|exact ln3) (by repeat constructor) rfl ?_|refine a1c rfl rfl rfl rfl rfl (by repeat constructor) (by repeat constructor) ?_|refine a0b (a0y rfl (by with_reducible rfl)) rfl ?_|refine a0b (a1r rfl (by with_reducible rfl)) rfl ?_)|(first|refine a1n ?_|(refine a1o ?_;first|refine a0c (a0a ?_)|refine a0c ?_|refine a0a ?_|(refine a0x ?_;first|refine a0g rfl (by with_reducible rfl) ?_|refine a0h rfl (by with_reducible rfl) ?_)|refine a0n ?_|refine a0o ?_|refine a0k ?_|refine a1f ?_)|refine a0t ?_|refine a1q ?_|refine a1d ?_|refine a1v ?_|refine a1e ?_))
      refine a2o (fun p : Nat × Nat × List UInt8 => ⟨[(1, .op 0 0), (6, .op 1 0), (30, .rs (fs.map prAV)), (31, .int .i64 fs.length), (32, .int .i64 p.1)], [.box [.int .i64 st, .rs (fs.map prAV), .str body, .bool cl], .box [.op 1 0, .os 2 p.2.1] (some 128), .row 5 1 p.2.1 0 (bytesAV p.2.2)]⟩)
        (fun p => p.1 ≤ fs.length ∧ p.2.2 = y1 st W ++ fldsY (fs.take p.1)) (fun p => fs.length - p.1) (0, 1, [] ++ y1 st W) (.of (.same (by repeat constructor))) ⟨Nat.zero_le _, by dsimp only; simp [fldsY]⟩ ?_
      rintro ⟨i, ver, l⟩ ⟨hi, hl⟩
      dsimp only at hi hl ⊢
      have htk := a9p (fs := fs.take i) fun q hq => he q (List.mem_of_mem_take hq)
      have htl : (fs.take i).length * 2199023255556 ≤ 32 * 2199023255556 := Nat.mul_le_mul_right _ (by rw [List.length_take]; omega)
      have hlb : l.length ≤ 70368744178192 := by rw [hl, List.length_append]; omega
      by_cases hlt : i < fs.length
      · obtain ⟨p, hp⟩ : ∃ p, fs[i]? = some p := ⟨_, List.getElem?_eq_getElem hlt⟩
        have hrow := a6e hp
        have hel := he p (List.mem_of_getElem? hp)
        have hnx := b0z hp
        have hfl : (fldY p).length ≤ 2199023255556 := by
          unfold fldY
          simp only [List.length_append, List.length_cons, List.length_nil]
          omega
        have hWf := a3v (w0 := w0) (base := base) (.inr rfl) (bs := l) (s := fldY p) (ver := ver) (by omega)
        repeat' (first|(first|refine a0b (a2j rfl rfl (by omega) hrow rfl) rfl ?_|(refine a0d ?_;refine a0v [1,2] rfl rfl hWf ?_ ?_ rfl rfl ?_;(focus ((repeat constructor);done));(focus ((repeat constructor);done));rintro _ _ ⟨rfl,rfl⟩;refine ⟨_,_,by repeat constructor,by repeat constructor,?_⟩)|(refine a1a ?_;first|refine a0b (a1l rfl rfl rfl (by omega)) rfl ?_|refine a0b (a1m rfl rfl rfl (by omega)) rfl ?_))|(refine a2k ?_;first|refine a0b (a0l rfl) rfl ?_|refine a0b (a0f rfl rfl) rfl ?_|(refine a1g ?_;first|refine a0b (a0w rfl rfl) rfl ?_|refine a0b (a0m rfl rfl rfl) rfl ?_)|(refine a1a ?_;first|refine a0b (a4m rfl rfl (by first|omega|(simp only [List.length_append,List.length_cons,List.length_nil];omega)|(simp;omega))) rfl ?_|refine a0b (a1p rfl rfl (by (first|exact w64 (by omega) (by omega)|rfl))) rfl ?_)|refine a0b (a0e rfl) rfl ?_|(refine a0d ?_;first|refine a0b (a0p rfl) rfl ?_)|refine a0b (a0s rfl rfl) rfl ?_|refine a0u ?_|refine a2g rfl rfl rfl (by first|exact ln0|exact ln1|exact ln3) (by repeat constructor) rfl ?_|refine a0z rfl rfl rfl (by first|exact ln0|exact ln1|exact ln3) (by repeat constructor) rfl ?_|refine a1c rfl rfl rfl rfl rfl (by repeat constructor) (by repeat constructor) ?_|refine a0b (a0y rfl (by with_reducible rfl)) rfl ?_|refine a0b (a1r rfl (by with_reducible rfl)) rfl ?_)|(first|refine a1n ?_|(refine a1o ?_;first|refine a0c (a0a ?_)|refine a0c ?_|refine a0a ?_|(refine a0x ?_;first|refine a0g rfl (by with_reducible rfl) ?_|refine a0h rfl (by with_reducible rfl) ?_)|refine a0n ?_|refine a0o ?_|refine a0k ?_|refine a1f ?_)|refine a0t ?_|refine a1q ?_|refine a1d ?_|refine a1v ?_|refine a1e ?_))
        first|refine a1y (i + 1,ver + 1,l ++ fldY p) (.of (.same (by repeat constructor))) ?_ ?_|refine a1y (i + 1,ver + 1,l ++ fldY p) (.of (a2n [_] rfl (by repeat constructor) rfl (by repeat constructor) rfl)) ?_ ?_|refine a1y (i + 1,ver + 1,l ++ fldY p) (.of (a2n [_,_] rfl (by repeat constructor) rfl (by repeat constructor) rfl)) ?_ ?_|refine a1y (i + 1,ver + 1,l ++ fldY p) (.of (a2n [_,_,_] rfl (by repeat constructor) rfl (by repeat constructor) rfl)) ?_ ?_
        · exact ⟨by dsimp only; omega, by dsimp only; rw [hl, hnx, List.append_assoc]⟩
        · dsimp only; omega
      · have hie : fs.take i = fs := List.take_of_length_le (by omega)
        rw [hie] at hl
        have hy3 : (y3 body cl).length ≤ 1048700 := by
          unfold y3
          have e1 : (tx "content-length: ").length = 16 := by decide +kernel
          have e2 : (tx "\r\nconnection: ").length = 14 := by decide +kernel
          have e3 : (endW cl).length ≤ 10 := by cases cl <;> decide +kernel
          simp only [List.length_append, List.length_cons, List.length_nil, e1, e2]
          omega
        have hW3 := a3v (w0 := w0) (base := base) (.inr rfl) (bs := l) (s := y3 body cl) (ver := ver) (by omega)
        have e : l ++ y3 body cl = printY ⟨st, fs, body, cl⟩ := by rw [hl, hW]; rfl
        have hS := b2l (w0 := w0) (base := base) (p := .op 0 0) (.inr rfl) (l := l ++ y3 body cl) (ver := ver + 1) (.inl rfl) (by simp only [List.length_append]; omega)
        repeat' (first|(first|refine a3b (id := 13) [(14,[1,2])] [⟨0,true,[],bl 15 6336⟩,⟨1,true,[],bl 15 6337⟩,⟨2,true,[],bl 15 6339⟩,⟨6,true,[],bl 15 6207⟩,⟨7,true,[],bl 15 6271⟩,⟨11,true,[],bl 15 2047⟩,⟨12,true,[],bl 15 4095⟩,⟨3,false,[],[]⟩,⟨4,true,[],bl 15 6607⟩,⟨5,true,[],bl 15 6623⟩,⟨8,false,[],[]⟩,⟨9,true,[],bl 15 6655⟩,⟨10,true,[],bl 15 7167⟩,⟨13,true,[],bl 15 8191⟩,⟨14,false,[],[]⟩] (by kernel_rfl) (by kernel_rfl) rfl (by kernel_rfl) ?_|(refine a0d ?_;refine a0q rfl rfl rfl rfl hIb ?_;rintro _ rfl)|(refine a0d ?_;refine a0q rfl rfl rfl rfl hEn ?_;rintro _ rfl)|(refine a0d ?_;refine a0v [1,2] rfl rfl hW3 ?_ ?_ rfl rfl ?_;(focus ((repeat constructor);done));(focus ((repeat constructor);done));rintro _ _ ⟨rfl,rfl⟩;refine ⟨_,_,by repeat constructor,by repeat constructor,?_⟩)|(refine a0d ?_;refine a0v [1,2] rfl rfl hS (by repeat constructor) (by repeat (first|exact c4s ‹_›|constructor)) rfl rfl ?_;rintro _ _ ⟨rfl,o',rfl,hB⟩;refine ⟨_,_,by repeat constructor,(by repeat (first|exact c4s ‹_›|constructor)),?_⟩)|(refine a1a ?_;first|refine a0b (a1l rfl rfl rfl (by omega)) rfl ?_|refine a0b (a1m rfl rfl rfl (by omega)) rfl ?_))|(refine a2k ?_;first|refine a0b (a0l rfl) rfl ?_|refine a0b (a0f rfl rfl) rfl ?_|(refine a1g ?_;first|refine a0b (a0w rfl rfl) rfl ?_|refine a0b (a0m rfl rfl rfl) rfl ?_)|(refine a1a ?_;first|refine a0b (a4m rfl rfl (by first|omega|(simp only [List.length_append,List.length_cons,List.length_nil];omega)|(simp;omega))) rfl ?_|refine a0b (a1p rfl rfl (by (first|exact w64 (by omega) (by omega)|rfl))) rfl ?_)|refine a0b (a0e rfl) rfl ?_|(refine a0d ?_;first|refine a0b (a0p rfl) rfl ?_)|refine a0b (a0s rfl rfl) rfl ?_|refine a0u ?_|refine a2g rfl rfl rfl (by first|exact ln0|exact ln1|exact ln3) (by repeat constructor) rfl ?_|refine a0z rfl rfl rfl (by first|exact ln0|exact ln1|exact ln3) (by repeat constructor) rfl ?_|refine a1c rfl rfl rfl rfl rfl (by repeat constructor) (by repeat constructor) ?_|refine a0b (a0y rfl (by with_reducible rfl)) rfl ?_|refine a0b (a1r rfl (by with_reducible rfl)) rfl ?_)|(first|refine a1n ?_|(refine a1o ?_;first|refine a0c (a0a ?_)|refine a0c ?_|refine a0a ?_|(refine a0x ?_;first|refine a0g rfl (by with_reducible rfl) ?_|refine a0h rfl (by with_reducible rfl) ?_)|refine a0n ?_|refine a0o ?_|refine a0k ?_|refine a1f ?_)|refine a0t ?_|refine a1q ?_|refine a1d ?_|refine a1v ?_|refine a1e ?_)|(first|(refine a7n ?_;first|refine a7p rfl ?_|refine a2c (a0l rfl) rfl ?_|refine a2c (a0e rfl) rfl ?_|refine a2c (a0f rfl rfl) rfl ?_|refine a2c (a0w rfl rfl) rfl ?_|refine a2c (a0m rfl rfl rfl) rfl ?_|refine a2c (a0p rfl) rfl ?_|refine a2c (a0s rfl rfl) rfl ?_|refine a2c (a1p rfl rfl (by (first|exact w64 (by omega) (by omega)|rfl))) rfl ?_|refine a2c (a0y rfl (by with_reducible rfl)) rfl ?_|refine a2c (a1r rfl (by with_reducible rfl)) rfl ?_|refine a2c (a4m rfl rfl (by first|omega|(simp only [List.length_append,List.length_cons,List.length_nil];omega)|(simp;omega))) rfl ?_)|refine a4o rfl ?_|(refine a7o ?_;first|refine a7q ?_)|refine a3r ?_|refine a3j ?_))
        refine ret2 (by first | exact .inr rfl | exact .inl rfl) rfl rfl rfl ?_
        exact ⟨by rw [e]; rfl, rfl⟩
end
end Go.Proofs.YtkljmljkiodnpaaGreatDoor.L

namespace Go.Proofs.YtkljmljkiodnpaaGreatDoor.L
open Go Go.RowKit Go.Proofs
attribute [local irreducible] AL QL AWp Thn InB RetQ ACalls LoopQ HL HO HW HQ NoG JmpQ MidQ HF
def split3 (s : List UInt8) : List (List UInt8) := Lib.splitK [32] 0 (min 3 (s.length + 1) - 1) s
section
variable {w0 : World} {base : Nat}
end
end Go.Proofs.YtkljmljkiodnpaaGreatDoor.L

namespace Go.Proofs.YtkljmljkiodnpaaGreatDoor.L
open Go Go.RowKit Go.Proofs
attribute [local irreducible] AL QL AWp Thn InB RetQ ACalls LoopQ HL HO HW HQ NoG JmpQ MidQ HF

theorem a9m {a sep r : List UInt8} {c : UInt8} (h : c ∉ a) : Lib.index (a ++ ((c :: sep) ++ r)) (c :: sep) = (a.length : Int) := by
  refine Lib.index_first (by simp) ?_ ?_
  · unfold Lib.occAt
    rw [List.drop_left]
    exact List.isPrefixOf_iff_prefix.2 (List.prefix_append _ _)
  · intro j hj
    unfold Lib.occAt
    rw [List.drop_append_of_le_length (by omega), List.drop_eq_getElem_cons hj]
    have : c ≠ a[j] := fun e => h (e ▸ List.getElem_mem hj)
    rw [List.cons_append, List.isPrefixOf, beq_eq_false_iff_ne.2 this]
    rfl
theorem a6n {a r : List UInt8} (c : UInt8) (sep : List UInt8) (h : c ∉ a) : Lib.cut (a ++ ((c :: sep) ++ r)) (c :: sep) = (a, r, true) := by
  unfold Lib.cut
  rw [a9m h, if_pos (by omega)]
  have e1 : ((a.length : Nat) : Int).toNat = a.length := rfl
  rw [e1, List.take_left, ← List.drop_drop, List.drop_left, List.drop_left]
theorem b7k {a b c : List UInt8} (ha : (32 : UInt8) ∉ a) (hb : (32 : UInt8) ∉ b) : split3 (a ++ (32 :: (b ++ (32 :: c)))) = [a, b, c] := by
  unfold split3
  have hm : min 3 ((a ++ (32 :: (b ++ (32 :: c)))).length + 1) - 1 = 2 := by simp only [List.length_append, List.length_cons]; omega
  rw [hm]
  have h1 : Lib.index (a ++ (32 :: (b ++ (32 :: c)))) [32] = (a.length : Int) := a9m (sep := []) (r := b ++ (32 :: c)) ha
  have h2 : Lib.index (b ++ (32 :: c)) [32] = (b.length : Int) := a9m (sep := []) (r := c) hb
  have n1 : ¬ (((a.length : Nat) : Int) == -1) = true := fun e => by have := beq_iff_eq.1 e; omega
  have n2 : ¬ (((b.length : Nat) : Int) == -1) = true := fun e => by have := beq_iff_eq.1 e; omega
  rw [Lib.splitK, h1, if_neg n1]
  have e1 : ((a.length : Nat) : Int).toNat = a.length := rfl
  have e2 : ((b.length : Nat) : Int).toNat = b.length := rfl
  rw [e1, Nat.add_zero, List.take_left, ← List.drop_drop, List.drop_left]
  show a :: Lib.splitK [32] 0 1 (b ++ (32 :: c)) = _
  rw [Lib.splitK, h2, if_neg n2, e2, Nat.add_zero, List.take_left, ← List.drop_drop, List.drop_left]
  rfl
def fieldsP : Nat → List UInt8 → Fs → Option (Fs × List UInt8 × Bool)
  | 0, _, _ => none
  | f + 1, rest, out =>
    if (Lib.cut rest [13, 10]).2.2 = false then none
    else if (Lib.cut (Lib.cut rest [13, 10]).1 [58, 32]).2.2 = false then none
    else if (Lib.cut (Lib.cut rest [13, 10]).1 [58, 32]).1 = clN then
      (match Lib.atoiAll (Lib.cut (Lib.cut rest [13, 10]).1 [58, 32]).2.1 with
      | .ok n => if (Lib.cut (Lib.cut rest [13, 10]).2.1 [13, 10, 13, 10]).2.2 = true ∧ 0 ≤ n ∧ n ≤ ((Lib.cut (Lib.cut rest [13, 10]).2.1 [13, 10, 13, 10]).2.1.length : Int) then
          some (out, (Lib.cut (Lib.cut rest [13, 10]).2.1 [13, 10, 13, 10]).2.1.take n.toNat, decide ((Lib.cut (Lib.cut rest [13, 10]).2.1 [13, 10, 13, 10]).1 = tx "connection: close")) else none
      | _ => none)
    else fieldsP f (Lib.cut rest [13, 10]).2.1 (out ++ [((Lib.cut (Lib.cut rest [13, 10]).1 [58, 32]).1, (Lib.cut (Lib.cut rest [13, 10]).1 [58, 32]).2.1)])
def readP (s : List UInt8) : Option Rp := if (Lib.cut s [13, 10]).2.2 = false then none else match split3 (Lib.cut s [13, 10]).1 with
  | [_, w, _] => (match Lib.atoiAll w with
    | .ok st => (match fieldsP ((Lib.cut s [13, 10]).2.1.length + 1) (Lib.cut s [13, 10]).2.1 [] with
      | some g => some ⟨st, g.1, g.2.1, g.2.2⟩
      | none => none)
    | _ => none)
  | _ => none
theorem a6b {p : UInt8 → Bool} {s : List UInt8} {c : UInt8} (h : s.all p = true) (hc : p c = false) : c ∉ s := by
  intro hm
  rw [List.all_eq_true] at h
  rw [h c hm] at hc
  cases hc
theorem a5y {s : List UInt8} (h : nameY s = true) : s.all okN = true ∧ s ≠ [] ∧ s ≠ clN ∧ s ≠ cnN := by
  unfold nameY at h
  simp only [Bool.and_eq_true, decide_eq_true_eq] at h
  exact ⟨h.1, h.2.1.1, h.2.1.2, h.2.2⟩
theorem b7g {s : List UInt8} (h : valueY s = true) : s.all okV = true := by
  unfold valueY at h
  simp only [Bool.and_eq_true, decide_eq_true_eq] at h
  exact h.1
def okD (c : UInt8) : Bool := decide (45 ≤ c.toNat) && decide (c.toNat ≤ 57)
theorem c3d (v : Int) (h : 0 ≤ v) : (Lib.itoa v).all okD = true := by
  have h1 := (b7a v.toNat).1.dig
  have h2 : Lib.itoa v = Lib.decDigits v.toNat := by
    obtain ⟨n, rfl⟩ := Int.eq_ofNat_of_zero_le h
    rfl
  rw [h2]
  rw [List.all_eq_true] at h1 ⊢
  intro c hc
  have := a5a.1 (h1 c hc)
  unfold okD
  simp only [Bool.and_eq_true, decide_eq_true_eq]
  omega
theorem b5b {v : Int} (h : 0 ≤ v) {c : UInt8} (hc : okD c = false) : c ∉ Lib.itoa v := a6b (c3d v h) hc
theorem c2d (st : Int) : (13 : UInt8) ∉ statW st := by
  have h : ∀ p ∈ reasonL, (13 : UInt8) ∉ p.2 := by decide +kernel
  have h2 : ∀ (l : List (Int × List UInt8)) (w : List UInt8), wordsOfY st l = some w → ∃ p ∈ l, p.2 = w := by
    intro l
    induction l with
    | nil => intro w h; cases h
    | cons p l ih =>
      intro w h
      rw [wordsOfY] at h
      split at h
      · injection h with h; exact ⟨p, List.mem_cons_self, h⟩
      · obtain ⟨q, hq, e⟩ := ih w h; exact ⟨q, List.mem_cons_of_mem _ hq, e⟩
  unfold statW
  cases hw : wordsY st with
  | none => decide +kernel
  | some w =>
    obtain ⟨p, hp, e⟩ := h2 reasonL w hw
    rw [Option.getD_some, ← e]
    exact h p hp
theorem c0x {p : List UInt8 × List UInt8} {r : List UInt8} (h : fieldY p = true) : Lib.cut (fldY p ++ r) [13, 10] = ((p.1 ++ [58, 32]) ++ p.2, r, true) := by
  unfold fieldY at h
  rw [Bool.and_eq_true] at h
  have h1 := (a5y h.1).1
  have h2 := b7g h.2
  have hn : (13 : UInt8) ∉ (p.1 ++ [58, 32]) ++ p.2 := by
    intro hm
    simp only [List.mem_append] at hm
    rcases hm with (hm | hm) | hm
    · exact a6b h1 (by decide +kernel) hm
    · exact absurd hm (by decide)
    · exact a6b h2 (by decide +kernel) hm
  unfold fldY
  rw [List.append_assoc]
  exact a6n 13 [10] hn
theorem c3k {p : List UInt8 × List UInt8} (h : fieldY p = true) : Lib.cut ((p.1 ++ [58, 32]) ++ p.2) [58, 32] = (p.1, p.2, true) := by
  unfold fieldY at h
  rw [Bool.and_eq_true] at h
  rw [List.append_assoc]
  exact a6n 58 [32] (a6b (a5y h.1).1 (by decide +kernel))
theorem c0y {body tail : List UInt8} {cl : Bool} : Lib.cut (y3 body cl ++ tail) [13, 10] = (tx "content-length: " ++ Lib.itoa (body.length : Int), (tx "connection: " ++ endW cl) ++ ([13, 10, 13, 10] ++ (body ++ tail)), true) := by
  have e : y3 body cl ++ tail = (tx "content-length: " ++ Lib.itoa (body.length : Int)) ++ ([13, 10] ++ ((tx "connection: " ++ endW cl) ++ ([13, 10, 13, 10] ++ (body ++ tail)))) := by
    unfold y3
    have e2 : tx "\r\nconnection: " = [13, 10] ++ tx "connection: " := by decide +kernel
    rw [e2]
    simp only [List.append_assoc]
  rw [e]
  refine a6n 13 [10] ?_
  intro hm
  rcases List.mem_append.1 hm with hm | hm
  · exact absurd hm (by decide +kernel)
  · exact b5b (by omega) (by decide +kernel) hm
theorem c3m (n : Nat) : Lib.cut (tx "content-length: " ++ Lib.itoa (n : Int)) [58, 32] = (clN, Lib.itoa (n : Int), true) := by
  have e : tx "content-length: " ++ Lib.itoa (n : Int) = clN ++ ([58, 32] ++ Lib.itoa (n : Int)) := by
    have e2 : tx "content-length: " = clN ++ [58, 32] := by decide +kernel
    rw [e2, List.append_assoc]
  rw [e]
  exact a6n 58 [32] (by decide +kernel)
theorem c3l {r : List UInt8} {cl : Bool} : Lib.cut ((tx "connection: " ++ endW cl) ++ ([13, 10, 13, 10] ++ r)) [13, 10, 13, 10] = (tx "connection: " ++ endW cl, r, true) :=
  a6n 13 [10, 13, 10] (by cases cl <;> decide +kernel)
theorem c4n (cl : Bool) : decide (tx "connection: " ++ endW cl = tx "connection: close") = cl := by cases cl <;> decide +kernel
theorem b3r {st : Int} {r : List UInt8} (h : 0 ≤ st) : Lib.cut (y1 st (statW st) ++ r) [13, 10] = (tx "HTTP/1.1" ++ (32 :: (Lib.itoa st ++ (32 :: statW st))), r, true) := by
  have e : y1 st (statW st) ++ r = (tx "HTTP/1.1" ++ (32 :: (Lib.itoa st ++ (32 :: statW st)))) ++ ([13, 10] ++ r) := by
    unfold y1
    have e2 : tx "HTTP/1.1 " = tx "HTTP/1.1" ++ [32] := by decide +kernel
    rw [e2]
    simp only [List.append_assoc, List.cons_append, List.nil_append]
  rw [e]
  refine a6n 13 [10] ?_
  intro hm
  simp only [List.mem_append, List.mem_cons] at hm
  rcases hm with hm | hm | hm | hm | hm
  · exact absurd hm (by decide +kernel)
  · exact absurd hm (by decide)
  · exact b5b h (by decide +kernel) hm
  · exact absurd hm (by decide)
  · exact c2d st hm
theorem b5i {st : Int} (h : 0 ≤ st) : split3 (tx "HTTP/1.1" ++ (32 :: (Lib.itoa st ++ (32 :: statW st)))) = [tx "HTTP/1.1", Lib.itoa st, statW st] :=
  b7k (by decide +kernel) (b5b h (by decide +kernel))
theorem a6w {r : Rp} (h : mayY r = true) : (200 ≤ r.st ∧ r.st ≤ 599) ∧ r.fs.length ≤ 32 ∧ r.body.length ≤ 1048576 ∧ r.fs.all fieldY = true := by
  unfold mayY at h
  simp only [Bool.and_eq_true, decide_eq_true_eq] at h
  exact ⟨h.1.1.1, h.1.1.2, h.1.2, h.2⟩
theorem b5k {f : Nat} {out : Fs} {body tail : List UInt8} {cl : Bool} (hb : body.length ≤ 1048576) : fieldsP (f + 1) (y3 body cl ++ tail) out = some (out, body, cl) := by
  rw [fieldsP, c0y]
  dsimp only
  rw [if_neg (by decide), c3m]
  dsimp only
  rw [if_neg (by decide), if_pos rfl, b4e (by omega) (by omega), c3l]
  dsimp only
  rw [if_pos ⟨rfl, by omega, by rw [List.length_append]; omega⟩, c4n]
  have : ((body.length : Nat) : Int).toNat = body.length := rfl
  rw [this, List.take_left]
theorem b5j {f : Nat} {p : List UInt8 × List UInt8} {out : Fs} {r : List UInt8} (h : fieldY p = true) : fieldsP (f + 1) (fldY p ++ r) out = fieldsP f r (out ++ [p]) := by
  rw [fieldsP, c0x h]
  dsimp only
  rw [if_neg (by decide), c3k h]
  dsimp only
  have hh := h
  unfold fieldY at hh
  rw [Bool.and_eq_true] at hh
  rw [if_neg (by decide), if_neg (a5y hh.1).2.2.1]
theorem b5l {body tail : List UInt8} {cl : Bool} (hb : body.length ≤ 1048576) : ∀ {fs : Fs} {f : Nat} {out : Fs}, fs.all fieldY = true → fs.length < f → fieldsP f (fldsY fs ++ (y3 body cl ++ tail)) out = some (out ++ fs, body, cl) := by
  intro fs
  induction fs with
  | nil =>
    intro f out _ hf
    obtain ⟨f, rfl⟩ : ∃ g, f = g + 1 := ⟨f - 1, by simp only [List.length_nil] at hf; omega⟩
    rw [List.append_nil]
    exact b5k hb
  | cons p fs ih =>
    intro f out ha hf
    rw [List.length_cons] at hf
    obtain ⟨f, rfl⟩ : ∃ g, f = g + 1 := ⟨f - 1, by omega⟩
    rw [List.all_cons, Bool.and_eq_true] at ha
    rw [fldsY, List.append_assoc, b5j ha.1, ih ha.2 (by omega), List.append_assoc]
    rfl
theorem c3j (fs : Fs) : fs.length ≤ (fldsY fs).length := by
  induction fs with
  | nil => exact Nat.zero_le _
  | cons p fs ih =>
    rw [fldsY, List.length_append, List.length_cons]
    unfold fldY
    simp only [List.length_append, List.length_cons, List.length_nil]
    omega
theorem b4p {r : Rp} (h : mayY r = true) (tail : List UInt8) : readP (printY r ++ tail) = some r := by
  obtain ⟨h1, h2, h3, h4⟩ := a6w h
  have e : printY r ++ tail = y1 r.st (statW r.st) ++ (fldsY r.fs ++ (y3 r.body r.cl ++ tail)) := by
    unfold printY
    simp only [List.append_assoc]
  unfold readP
  rw [e, b3r (by omega)]
  dsimp only
  rw [if_neg (by decide), b5i (by omega)]
  dsimp only
  rw [b4e (by omega) (by omega)]
  dsimp only
  rw [b5l h3 h4 (by have := c3j r.fs; simp only [List.length_append]; omega)]
  rfl
def parseP (s : List UInt8) : Option Rp := match readP s with
  | some r => if mayY r = true ∧ Lib.hasPrefix s (printY r) = true then some r else none
  | none => none
theorem b1t {s p : List UInt8} : Lib.hasPrefix s p = true ↔ ∃ t, s = p ++ t := by
  unfold Lib.hasPrefix
  rw [List.isPrefixOf_iff_prefix]
  constructor
  · rintro ⟨t, e⟩; exact ⟨t, e.symm⟩
  · rintro ⟨t, e⟩; exact ⟨t, e.symm⟩
theorem a6f {s : List UInt8} {r : Rp} : parseP s = some r ↔ mayY r = true ∧ Lib.hasPrefix s (printY r) = true := by
  constructor
  · intro h
    unfold parseP at h
    split at h
    · split at h
      · rename_i g; injection h with h; subst h; exact g
      · cases h
    · cases h
  · rintro ⟨h1, h2⟩
    obtain ⟨t, e⟩ := b1t.1 h2
    unfold parseP
    rw [e, b4p h1]
    dsimp only
    rw [if_pos ⟨h1, b1t.2 ⟨t, rfl⟩⟩]
theorem b4r {s : List UInt8} (h : ∀ r, ¬ (mayY r = true ∧ Lib.hasPrefix s (printY r) = true)) : parseP s = none := by
  cases hq : parseP s with
  | none => rfl
  | some r => exact absurd (a6f.1 hq) (h r)
end Go.Proofs.YtkljmljkiodnpaaGreatDoor.L

namespace Go.Proofs.YtkljmljkiodnpaaGreatDoor.L
open Go Go.RowKit Go.Proofs
attribute [local irreducible] AL QL AWp Thn InB RetQ ACalls LoopQ HL HO HW HQ NoG JmpQ MidQ HF

section
variable {E : Env} {sl : Slots} {H : List AO}
end
def rp0 (st : Int) (fs : Fs) : Rp := ⟨st, fs, [], false⟩
def ReadY (s : List UInt8) (rv : AV) : Prop := ∃ (r : Rp) (ok : Bool), rv = .tup [.agg (rpC r), .bool ok] ∧ RpFit r ∧ ∀ r', readP s = some r' → r = r' ∧ ok = true
structure RInv (s : List UInt8) (st : Int) (rest : List UInt8) (out : Fs) : Prop where
  len : rest.length + out.length ≤ s.length
  each : ∀ p ∈ out, p.1.length ≤ s.length ∧ p.2.length ≤ s.length
  eq : ∀ r', readP s = some r' → ∃ f g, rest.length < f ∧ fieldsP f rest out = some g ∧ r' = ⟨st, g.1, g.2.1, g.2.2⟩
section
variable {w0 : World} {base : Nat}
end
end Go.Proofs.YtkljmljkiodnpaaGreatDoor.L

namespace Go.Proofs.YtkljmljkiodnpaaGreatDoor.L
open Go Go.RowKit Go.Proofs
attribute [local irreducible] AL QL AWp Thn InB RetQ ACalls LoopQ HL HO HW HQ NoG JmpQ MidQ HF

section
variable {E : Env} {N : Nat} {sl : Slots} {H : List AO}
theorem retc0 {fn : Func} {R : AV → List AO → Prop} {e : Exit} {σ : St} {p ty n b : Nat} {z : Value} {pv : AV} {cs : List AV} [ti : TZ E.P ty true n b z] (he : e = .normal ∨ e = .ret) (h2 : fn.results = #[.cell p ty]) (hp : lk σ.sl p = some pv) (hc : cellsAt σ.objs pv = some cs) (hn : Nat.ble n cs.length = true) (hR : R (.agg (cs.take n)) σ.objs) : RetQ E N fn R e σ :=
  b1q he σ [.cell p ty] [.agg (cs.take n)] (.refl σ) h2 (.agg hp hc hn .nil) hR
end
def prsY (s : List UInt8) : AV := match parseP s with
  | some r => .tup [.agg (rpC r), .int .i64 ((printY r).length : Int), .int .i64 0]
  | none => .tup [.agg (rpC (rp0 0 [])), .int .i64 0, .int .i64 90]
def awY : List UInt8 := tx "HTTP/1.1 200 OK\r\ncontent-length: 2\r\nconnection: keep-alive\r\n\r\nhi"
section
variable {w0 : World} {base : Nat}
theorem a4p {st : Int} {b : List UInt8} {cl : Bool} : PCalls (EE w0 base) 31 [.int .i64 st, .str b, .bool cl] fun rv => rv = .agg (rpC ⟨st, [], b, cl⟩) := by
  refine a1s Tryz.func31 rfl rfl rfl (.cons (.cons (.cons .nil))) ?_
  repeat' (first|(refine a2k ?_;first|refine a0b (a0l rfl) rfl ?_|refine a0u ?_|refine a0z rfl rfl rfl (by first|exact ln0) (by repeat constructor) rfl ?_|refine a1c rfl rfl rfl rfl rfl (by repeat constructor) (by repeat constructor) ?_|refine a0b (a1x rfl rfl rfl (by repeat constructor)) rfl ?_)|(first|refine a1n ?_|(refine a1o ?_;first|refine a0c (a0a ?_)|refine a0c ?_|refine a0a ?_|refine a0o ?_)))
  refine a2m (.boxLe (id := 0) [.int .i64 st, .rs [], .str b, .bool cl] rfl (.cons (.refl _) (.cons .nil (.cons (.refl _) (.cons (.refl _) .nil)))) rfl) ?_
  refine retc0 (by first | exact .inr rfl | exact .inl rfl) rfl rfl rfl rfl ?_
  exact ⟨rfl, rfl⟩
end
end Go.Proofs.YtkljmljkiodnpaaGreatDoor.L

namespace Go.Proofs.YtkljmljkiodnpaaGreatDoor.L
open Go Go.RowKit Go.ChangeShapes Go.WideShapes

mutual
def avB : AV → Nat
  | .str s => s.length + 1
  | .rs xs => rowsB xs + 1
  | .agg cs => cellsB cs + 1
  | _ => 1
def cellsB : List AV → Nat
  | [] => 0
  | x :: r => avB x + cellsB r
def rowsB : List (List AV) → Nat
  | [] => 0
  | c :: r => cellsB c + rowsB r
end
theorem b2f (a b : List AV) : cellsB (a ++ b) = cellsB a + cellsB b := by
  induction a with
  | nil => simp [cellsB]
  | cons x a ih => simp only [List.cons_append, cellsB, ih]; omega
theorem b2x (a b : List (List AV)) : rowsB (a ++ b) = rowsB a + rowsB b := by
  induction a with
  | nil => simp [rowsB]
  | cons x a ih => simp only [List.cons_append, rowsB, ih]; omega
theorem a8p {H : Type} (d : DataW H) : 1 ≤ Rows.uptoBulk d := by
  cases d with
  | lit l => cases l <;> simp [Rows.uptoBulk]
  | _ => simp [Rows.uptoBulk]
theorem b0m {H : Type} (l r : List (DataW H)) : Rows.uptoBulkAll (l ++ r) = Rows.uptoBulkAll l + Rows.uptoBulkAll r := by
  induction l with
  | nil => simp [Rows.uptoBulkAll]
  | cons x l ih => simp only [List.cons_append, Rows.uptoBulkAll, ih]; omega
def sumN (β : Nat → Nat) : Nat → Nat
  | 0 => 0
  | n + 1 => sumN β n + β n
theorem b8v {H : Type} (l : List (DataW H)) : ∀ n, n ≤ l.length → sumN (fun i => Rows.uptoBulk (l.getD i .nil)) n = Rows.uptoBulkAll (l.take n) := by
  intro n
  induction n with
  | zero => intro _; rfl
  | succ n ih =>
    intro h
    have hn : n < l.length := by omega
    rw [List.take_add_one, List.getElem?_eq_getElem hn, b0m, sumN, ih (by omega), List.getD_eq_getElem?_getD, List.getElem?_eq_getElem hn]
    simp [Rows.uptoBulkAll]

section
variable {H : Type} {enc : TypeId × Value → H} {P : Program} {w : World} {sp : Nat → Bool} {held : Bool}

theorem c2n {ks : List KT} (R : Nat → List Value) (β : Nat → Nat) : ∀ n, (∀ i, i < n → ∃ avs, OpL w (Rd w) ks (R i) avs ∧ cellsB avs ≤ β i) → ∃ xs : List (List AV), xs.length = n ∧ rowsB xs ≤ sumN β n ∧ ∀ (i : Nat) row, xs[i]? = some row → OpL w (Rd w) ks (R i) row := by
  intro n
  induction n with
  | zero => intro _; exact ⟨[], rfl, Nat.le_refl _, fun i row h => by simp at h⟩
  | succ n ih =>
    intro h
    obtain ⟨xs, h1, hb, h2⟩ := ih fun i hi => h i (by omega)
    obtain ⟨avs, ha, hab⟩ := h n (by omega)
    refine ⟨xs ++ [avs], by simp [h1], by rw [b2x]; simp only [rowsB, sumN]; omega, fun i row hi => ?_⟩
    rw [List.getElem?_append] at hi
    split at hi
    · exact h2 i row hi
    · rename_i hn
      have : i = n := by
        by_cases e : i - xs.length = 0
        · omega
        · rw [List.getElem?_eq_none (by simp; omega)] at hi; cases hi
      subst this
      rw [h1, Nat.sub_self] at hi
      simp at hi
      subst hi
      exact ha

theorem a9g : ∀ (n : Nat) (t : TypeId) (ks : List KT) (fuel : Nat) (cs : List Value) (x : DataW H × List MemPlace), ktOf P n t = some ks → DataW.trod enc P w 0 sp held fuel t cs = some x → (∀ m ∈ x.1.weights P t, m ≤ reachBytes) → ∃ avs, OpL w (Rd w) ks cs avs ∧ cellsB avs ≤ Rows.uptoBulk x.1 := by
  intro n
  induction n with
  | zero => intro t ks fuel cs x h; cases h
  | succ n ih =>
    intro t ks fuel cs x hk h hw
    unfold ktOf at hk
    split at hk
    · rename_i hu
      injection hk with hk; subst hk
      obtain ⟨b, rfl, _⟩ := DataW.trod_bool hu h
      exact ⟨_, .cons (.bool b) (.bool b) .nil, a8p _⟩
    · rename_i k hu
      injection hk with hk; subst hk
      obtain ⟨m, rfl, _, hwf⟩ := DataW.trod_int hu h
      exact ⟨_, .cons (.int _ m hwf) (.int _ m) .nil, a8p _⟩
    · rename_i hu
      injection hk with hk; subst hk
      obtain ⟨s, rfl, rfl, _⟩ := DataW.trod_string hu h
      obtain ⟨⟨s⟩⟩ := s
      exact ⟨_, .cons (.str s (by have := hw s.length (by simp [DataW.weights]); simpa [reachBytes] using this)) (by simpa using VP.str (w := w) (I := Rd w) s) .nil, by simp [cellsB, avB, Rows.uptoBulk]⟩
    · rename_i e hu
      split at hk
      · rename_i es he
        split at hk
        · rename_i hc0
          have hc := hc0.1
          injection hk with hk; subst hk
          rcases DataW.trod_slice hu h with ⟨rfl, _⟩ | ⟨a, len, cap, elems, rest, m, _, rfl, hx0, _, hl, hm, hlen, hel, _⟩
          · exact ⟨_, .cons (.sl _ [] (by simp) (by simp) .nil) (.rs0 none 0) .nil, by simpa [cellsB, avB, rowsB] using a8p _⟩
          · by_cases h0 : len = 0
            · subst h0
              exact ⟨_, .cons (.sl _ [] (by simp) (by simp) .nil) (.rs0 (some a) cap) .nil, by simpa [cellsB, avB, rowsB] using a8p _⟩
            · have row : ∀ i, i < len → ∃ R : List Value, w.cells? 0 (a.add (i * P.cellsOf e)) (P.cellsOf e) = some R ∧ ∃ avs, OpL w (Rd w) es R avs ∧ cellsB avs ≤ Rows.uptoBulk ((elems.map (·.1)).getD i .nil) := by
                intro i hi
                have := hel i hi
                rw [List.getElem?_eq_getElem (by omega)] at this
                obtain ⟨R, h1, h2⟩ := Option.bind_eq_some_iff.1 this
                have hgd : (elems.map (·.1)).getD i .nil = (elems[i]'(by omega)).1 := by
                  rw [List.getD_eq_getElem?_getD, List.getElem?_map, List.getElem?_eq_getElem (by omega)]
                  rfl
                rw [hgd]
                refine ⟨R, h1, ih _ _ _ _ _ he h2 fun q hq => hw q ?_⟩
                rw [hx0]
                simp only [DataW.weights, hu, List.mem_cons, List.mem_append]
                exact .inr (.inl (b0i (List.mem_map.2 ⟨_, List.getElem_mem _, rfl⟩) q hq))
              have hex : ∀ i, ∃ R : List Value, i < len → w.cells? 0 (a.add (i * P.cellsOf e)) (P.cellsOf e) = some R ∧ ∃ avs, OpL w (Rd w) es R avs ∧ cellsB avs ≤ Rows.uptoBulk ((elems.map (·.1)).getD i .nil) := by
                intro i
                by_cases hi : i < len
                · obtain ⟨R, hR⟩ := row i hi
                  exact ⟨R, fun _ => hR⟩
                · exact ⟨[], fun h => absurd h hi⟩
              obtain ⟨R, hR⟩ := Classical.axiomOfChoice hex
              obtain ⟨xs, hx1, hxb, hx2⟩ := c2n R (fun i => Rows.uptoBulk ((elems.map (·.1)).getD i .nil)) len fun i hi => (hR i hi).2
              have hbulk : rowsB xs + 1 ≤ Rows.uptoBulk x.1 := by
                rw [b8v _ _ (by rw [List.length_map]; omega), List.take_of_length_le (by rw [List.length_map]; omega)] at hxb
                rw [hx0]
                simp only [Rows.uptoBulk]
                omega
              have cell : ∀ i j, i < len → j < es.length → w.cell? (a.add (i * es.length + j)) = (R i)[j]? := by
                intro i j hi hj
                have h1 := (World.cells?_some (hR i hi).1).2.2 j (by omega)
                rw [← h1, hc.1]
                congr 1
                unfold Addr.add
                by_cases e1 : i * es.length = 0
                · rw [if_pos e1, e1, Nat.zero_add]
                · rw [if_neg e1, if_neg (by omega)]
                  by_cases e2 : j = 0
                  · subst e2; simp
                  · rw [if_neg e2]; simp [Nat.add_assoc]
              have hRl : ∀ i, i < len → (R i).length = es.length := fun i hi => by rw [(World.cells?_some (hR i hi).1).2.1, hc.1]
              have hsp : a.spot = none := by
                have h1 := cell 0 0 (by omega) hc.2
                rw [List.getElem?_eq_getElem (by rw [hRl 0 (by omega)]; exact hc.2)] at h1
                simp only [Nat.zero_mul, Nat.zero_add, Addr.add, if_true] at h1
                obtain ⟨b, o, s⟩ := a
                exact c1i h1
              obtain ⟨b, off, s⟩ := a
              simp only at hsp
              subst hsp
              have add : ∀ k, (⟨b, off, none⟩ : Addr).add k = ⟨b, off + k, none⟩ := fun k => a4s b off k
              have us : ∀ j, j < len * es.length → w.cell? ⟨b, off + j, none⟩ = (R (j / es.length))[j % es.length]? := by
                intro j hj
                have h1 : j / es.length < len := Nat.div_lt_of_lt_mul (by rw [Nat.mul_comm]; exact hj)
                have h2 : j % es.length < es.length := Nat.mod_lt _ hc.2
                rw [← cell _ _ h1 h2, add, Nat.mul_comm, Nat.div_add_mod]
              have us' : ∀ j, j < len * es.length → w.cell? ⟨b, off + j, none⟩ = some ((R (j / es.length)).getD (j % es.length) (.bool false)) := by
                intro j hj
                have h1 : j / es.length < len := Nat.div_lt_of_lt_mul (by rw [Nat.mul_comm]; exact hj)
                have h2 : j % es.length < es.length := Nat.mod_lt _ hc.2
                rw [us j hj, List.getElem?_eq_getElem (by rw [hRl _ h1]; exact h2), List.getD_eq_getElem?_getD, List.getElem?_eq_getElem (by rw [hRl _ h1]; exact h2)]
                rfl
              have hrow : ∀ (i : Nat) row, xs[i]? = some row → i < len := fun i row hi => by
                have := (List.getElem?_eq_some_iff.1 hi).1
                omega
              have hbig : xs.length ≤ 140737488351232 := by
                have := hw ((elems.length + rest.length) * P.bytesOf e) (by rw [hx0]; simp [DataW.weights, hu])
                have h2 : (elems.length + rest.length) * 1 ≤ (elems.length + rest.length) * P.bytesOf e := Nat.mul_le_mul_left _ (Nat.le_trans (c5y hc.2) hc0.2)
                simp only [reachBytes] at this
                omega
              have hbig2 : xs.length * ktW es ≤ 140737488351232 := by
                have := hw ((elems.length + rest.length) * P.bytesOf e) (by rw [hx0]; simp [DataW.weights, hu])
                have h2 : xs.length * ktW es ≤ (elems.length + rest.length) * P.bytesOf e := Nat.mul_le_mul (by omega) hc0.2
                simp only [reachBytes] at this
                omega
              refine ⟨_, .cons (.sl _ xs hbig hbig2 (OKR.of fun row hr => ?_)) ?_ .nil, by simpa [cellsB, avB] using hbulk⟩
              · obtain ⟨i, hi⟩ := List.mem_iff_getElem?.1 hr
                exact (hx2 i row hi).ok
              · have := VP.rs (w := w) (I := Rd w) xs es.length b off cap (fun j => (R (j / es.length)).getD (j % es.length) (.bool false)) hc.2 (by omega) hm
                  (fun i row hi => by have h1 := (hx2 i row hi).len; omega)
                  (fun j hj => ⟨us' j (by rw [← hx1]; exact hj), _, us' j (by rw [← hx1]; exact hj)⟩)
                  (fun i j row y hi hj => by
                    have h1 := hx2 i row hi
                    have h2 := hrow i row hi
                    have h3 : j < row.length := (List.getElem?_eq_some_iff.1 hj).1
                    have h4 : j < es.length := by have := h1.len; omega
                    have e1 : (i * es.length + j) / es.length = i := by rw [Nat.mul_comm, Nat.mul_add_div hc.2, Nat.div_eq_of_lt h4, Nat.add_zero]
                    have e2 : (i * es.length + j) % es.length = j := by rw [Nat.mul_comm, Nat.mul_add_mod, Nat.mod_eq_of_lt h4]
                    simp only [e1, e2]
                    refine h1.get j y _ hj ?_
                    rw [List.getD_eq_getElem?_getD, List.getElem?_eq_getElem (by rw [hRl i h2]; exact h4)]
                    rfl)
                rw [hx1] at this
                exact this
        · cases hk
      · cases hk
    · rename_i fs hu
      split at hk
      · rename_i es he
        split at hk
        · rename_i hc
          injection hk with hk; subst hk
          obtain ⟨xs, m, _, hx0, hcl, hxl, hxs⟩ := DataW.trod_struct hu h
          have key : ∀ (l : List (Field × (DataW H × List MemPlace))) (off : Nat) (ks : List KT),(∀ f ∈ l,DataW.trod enc P w 0 sp held m f.1.type ((cs.drop f.1.offset).take (P.cellsOf f.1.type)) = some f.2 ∧ ∀ q ∈ f.2.1.weights P f.1.type,q ≤ reachBytes) → ktF (ktOf P n) P (l.map (·.1)) off = some ks → ∃ avs,OpL w (Rd w) ks ((cs.drop off).take ks.length) avs ∧ cellsB avs ≤ Rows.uptoBulkAll (l.map (·.2.1)) := by
            intro l
            induction l with
            | nil => intro off ks _ hk; injection hk with hk; subst hk; exact ⟨[], by simpa using OpL.nil, Nat.le_refl _⟩
            | cons f l ihl =>
              intro off ks hf hk
              rw [List.map_cons] at hk
              unfold ktF at hk
              split at hk
              · rename_i k1 hk1
                split at hk
                · rename_i hcc
                  split at hk
                  · rename_i k2 hk2
                    injection hk with hk; subst hk
                    obtain ⟨hy, hyw⟩ := hf f (by simp)
                    obtain ⟨a1, h1, hb1⟩ := ih _ _ _ _ _ hk1 hy hyw
                    obtain ⟨a2, h2, hb2⟩ := ihl _ _ (fun g hg => hf g (by simp [hg])) hk2
                    refine ⟨a1 ++ a2, ?_, by rw [b2f, List.map_cons]; simp only [Rows.uptoBulkAll]; omega⟩
                    rw [List.length_append, List.take_add, List.drop_drop]
                    rw [hcc.1, hcc.2] at h1
                    exact h1.append h2
                  · cases hk
                · cases hk
              · cases hk
          have hzl : (fs.toList.zip xs).map (·.1) = fs.toList := List.map_fst_zip (by have := Array.length_toList (xs := fs); omega)
          have hzr : (fs.toList.zip xs).map (·.2.1) = xs.map (·.1) := by
            have : (fs.toList.zip xs).map (·.2) = xs := List.map_snd_zip (by have := Array.length_toList (xs := fs); omega)
            have h2 : (fs.toList.zip xs).map (·.2.1) = ((fs.toList.zip xs).map (·.2)).map (·.1) := by rw [List.map_map]; rfl
            rw [h2, this]
          obtain ⟨avs, ha, hab⟩ := key (fs.toList.zip xs) 0 es (fun f hf => by
            obtain ⟨i, hi⟩ := List.mem_iff_getElem?.1 hf
            rw [List.getElem?_zip_eq_some] at hi
            have hi' : fs[i]? = some f.1 := by simpa using hi.1
            refine ⟨(hxs i f.1 hi').trans hi.2, fun q hq => hw q ?_⟩
            rw [hx0]
            simp only [DataW.weights, hu]
            exact DataW.weights_mem_each (j := i) (t := f.1.type) (by simp [hi']) (by rw [List.getElem?_map, hi.2]; rfl) q hq) (by rw [hzl]; exact he)
          refine ⟨avs, ?_, ?_⟩
          · rw [List.drop_zero, List.take_of_length_le (by omega)] at ha
            exact ha
          · rw [hzr] at hab
            rw [hx0]
            simp only [Rows.uptoBulk]
            omega
        · cases hk
      · cases hk
    · cases hk

theorem c0a {r : Reach} {b n : Nat} {t : TypeId} {v : Value} {d : DataW H} {p : List MemPlace} {a : AK} (hk : akOf P n t = some a) (hval : Value.okWide P w r b t v) (h : DataW.Trod enc P w 0 sp held t v d p) (hw : ∀ m ∈ d.weights P t, m ≤ reachBytes) : ∃ x, (∀ aks2 xs, OKA aks2 xs → OKA (a :: aks2) (x :: xs)) ∧ VR w (Rd w) nu0 x v ∧ avB x ≤ Rows.uptoBulk d + 1 := by
  obtain ⟨fuel, h⟩ := h
  unfold akOf at hk
  split at hk
  · rename_i fs hu
    split at hk
    · rename_i ks hks
      injection hk with hk; subst hk
      obtain ⟨xs, hx, hxb⟩ := a9g _ _ _ _ _ _ hks h hw
      obtain ⟨cs, rfl, _⟩ := okWide_struct hu hval
      have hx' : OpL w (Rd w) ks cs.toList xs := hx
      exact ⟨.agg xs, fun aks2 ys hr => .agg hx'.ok hr, by simpa using VR.agg (w := w) (I := Rd w) (ν := nu0) xs cs.toList hx'.len.1 fun j x v h1 h2 => .pure (hx'.get j x v h1 h2), by simp only [avB]; have : cellsB xs ≤ Rows.uptoBulk d := hxb; omega⟩
    · cases hk
  · cases hk
  · rename_i h1 h2
    split at hk
    · rename_i k hks
      injection hk with hk; subst hk
      obtain ⟨xs, hx, hxb⟩ := a9g _ _ _ _ _ _ hks h hw
      rw [c1h hval h1 h2 hks] at hx
      cases hx with
      | cons ho hv hr =>
        cases hr
        exact ⟨_, fun aks2 ys hr => .one ho hr, .pure hv, by simp only [cellsB] at hxb; have : _ ≤ Rows.uptoBulk d := hxb; omega⟩
    · cases hk

theorem b7s {r : Reach} {b n : Nat} : ∀ {ts : List TypeId} {aks : List AK} {vs : List Value} {ds : List (DataW H)} {p : List MemPlace}, aksOf P n ts = some aks → (∀ (j : Nat) t v, ts[j]? = some t → vs[j]? = some v → Value.okWide P w r b t v) → DataW.TrodAll enc P w 0 sp held ts vs ds p → (∀ m ∈ DataW.weightsEach P ts ds, m ≤ reachBytes) →
    ∃ xs, OKA aks xs ∧ xs.length = vs.length ∧ ds.length = ts.length ∧ (∀ (j : Nat) x v, xs[j]? = some x → vs[j]? = some v → VR w (Rd w) nu0 x v) ∧ cellsB xs ≤ Rows.uptoBulkAll ds + ts.length := by
  intro ts
  induction ts with
  | nil =>
    intro aks vs ds p hk _ h hw
    injection hk with hk; subst hk
    obtain ⟨rfl, rfl, rfl⟩ := trodAll_nil h
    exact ⟨[], .nil, rfl, rfl, fun j x v h => by simp at h, Nat.le_refl _⟩
  | cons t ts ih =>
    intro aks vs ds p hk hval h hw
    unfold aksOf at hk
    split at hk
    · rename_i a ha
      split at hk
      · rename_i aks2 has
        injection hk with hk; subst hk
        obtain ⟨v, vs, d, ds, p, q, rfl, rfl, rfl, h1, h2⟩ := trodAll_cons h
        obtain ⟨x, hx, hv, hb⟩ := c0a ha (hval 0 t v rfl rfl) h1 (fun m hm => hw m (by simp [DataW.weightsEach, hm]))
        obtain ⟨xs, g1, g2, g4, g3, g5⟩ := ih has (fun j t v h1 h2 => hval (j + 1) t v (by simpa using h1) (by simpa using h2)) h2 (fun m hm => hw m (by simp [DataW.weightsEach, hm]))
        refine ⟨x :: xs, hx _ _ g1, by simp [g2], by simp [g4], fun j y u hy hu => ?_, ?_⟩
        · cases j with
          | zero => simp at hy hu; subst hy; subst hu; exact hv
          | succ j => exact g3 j y u (by simpa using hy) (by simpa using hu)
        · simp only [cellsB, Rows.uptoBulkAll, List.length_cons]; omega
      · cases hk
    · cases hk

theorem b7w {f n : Nat} {fn : Func} {s : ChangeSpec} {W : World} {base : Nat} {args : Array Value} {ds gs : List (DataW H)} {before : List MemPlace} {tb : TypeId} {fresh handsOn : Bool} {aks : List AK}
    (hl : laidOutB P = true) (hts : (fn.params.toList.all fun t => P.readableRec t && decide (t < P.types.size)) = true) (hres : fn.resultTypes = #[tb]) (hb : P.underlying tb = some .bool) (hvars : s.vars = []) (hk : aksOf P n fn.params.toList = some aks)
    (hfn : ∀ ds : List (DataW H), ds.length = fn.params.toList.length → s.fn H ds = { results := [.lit (.bool true)], args := ds })
    (spec : ∀ xs, OKA aks xs → cellsB xs ≤ 1048576 + fn.params.toList.length → PCalls ⟨P, W, W.heap.size, 0⟩ f xs fun rv => rv = .bool true)
    (hval : ∀ (j : Nat) t v, fn.params[j]? = some t → args[j]? = some v → Value.okWide P W .any base t v)
    (hW : DataW.Whole enc P fn.params.toList s.vars false W args.toList ds gs before) (hsz : (DataW.weightsEach P (fn.params.toList ++ s.plain.varTypes P) (ds ++ gs)).all (· ≤ reachBytes) = true) (hup : Rows.uptoSmall H (ds ++ gs) = true) :
    Calls P f args W fun e W' => ∃ v, e = .returned v ∧ s.post enc P fn false fresh handsOn false W args v W' := by
  have hW' := hW
  obtain ⟨p, q, hA, hV, _, _⟩ := hW
  rw [hvars] at hV
  obtain ⟨rfl, rfl⟩ := trodVars_none hV
  have hvt : s.plain.varTypes P = [] := by simp [ChangeSpec.plain, DataSpec.varTypes, hvars]
  rw [hvt, List.append_nil, List.append_nil] at hsz
  rw [List.append_nil] at hup
  have hup' : Rows.uptoBulkAll ds ≤ 1048576 := of_decide_eq_true hup
  have hsz' : ∀ m ∈ DataW.weightsEach P fn.params.toList ds, m ≤ reachBytes := fun m hm => by simpa using List.all_eq_true.1 hsz m hm
  obtain ⟨xs, g1, g2, g4, g3, g5⟩ := b7s hk (fun j t v h1 h2 => hval j t v (by simpa using h1) (by simpa using h2)) hA hsz'
  exact c1j hl (fun t ht => by simpa using List.all_eq_true.1 hts t ht) hres hb hvars hW' (hfn ds g4) ⟨g2, g3⟩ (spec xs g1 (by omega))
end
end Go.Proofs.YtkljmljkiodnpaaGreatDoor.L

namespace Go.Proofs.YtkljmljkiodnpaaGreatDoor.L
open Go Go.RowKit Go.Proofs
attribute [local irreducible] AL QL AWp Thn InB RetQ ACalls LoopQ HL HO HW HQ NoG JmpQ MidQ HF

def rpsY (l : List Rp) : List UInt8 := l.flatMap printY
def goodL (l : List Rp) : List Rp := l.filter mayY
theorem c0l {v : Int} (h0 : 200 ≤ v) (h1 : v ≤ 599) : (Lib.itoa v).length ≤ 20 := by
  have h : ∀ k : Fin 400, (Lib.itoa (((k.1 + 200 : Nat) : Int))).length ≤ 20 := by decide +kernel
  have := h ⟨(v - 200).toNat, by omega⟩
  have e : (((v - 200).toNat + 200 : Nat) : Int) = v := by omega
  rw [e] at this
  exact this
theorem c0k {n : Nat} (h : n ≤ 1048576) : (Lib.itoa (n : Int)).length ≤ 21 := by
  have := Lib.itoa_length_le (n : Int) (by omega) (by omega)
  omega
theorem b8b (fs : Fs) : (fldsY fs).length ≤ 4 * rowsB (fs.map prAV) := by
  induction fs with
  | nil => exact Nat.zero_le _
  | cons p fs ih =>
    rw [fldsY, List.length_append, List.map_cons, rowsB]
    have : cellsB (prAV p) = (p.1.length + 1) + ((p.2.length + 1) + 0) := rfl
    rw [this]
    unfold fldY
    simp only [List.length_append, List.length_cons, List.length_nil]
    omega
theorem b4q {r : Rp} (h : mayY r = true) : (printY r).length ≤ 200 * cellsB (rpC r) := by
  obtain ⟨h1, h2, h3, h4⟩ := a6w h
  have e : cellsB (rpC r) = 1 + ((rowsB (r.fs.map prAV) + 1) + ((r.body.length + 1) + (1 + 0))) := rfl
  rw [e]
  have f1 := b8b r.fs
  have f2 := a8w r.st
  have f3 := c0l h1.1 h1.2
  have f4 := c0k h3
  have e1 : (tx "HTTP/1.1 ").length = 9 := by decide +kernel
  have e2 : (tx "content-length: ").length = 16 := by decide +kernel
  have e3 : (tx "\r\nconnection: ").length = 14 := by decide +kernel
  have e4 : (endW r.cl).length ≤ 10 := by cases r.cl <;> decide +kernel
  unfold printY y1 y3
  simp only [List.length_append, List.length_cons, List.length_nil, e1, e2, e3]
  omega
section
variable {w0 : World} {base : Nat}
end
end Go.Proofs.YtkljmljkiodnpaaGreatDoor.L

namespace Go.Proofs.YtkljmljkiodnpaaGreatDoor.L
open Go Go.RowKit Go.Proofs
attribute [local irreducible] AL QL AWp Thn InB RetQ ACalls LoopQ HL HO HW HQ NoG JmpQ MidQ HF

def getP (l : Fs) (nm : List UInt8) : Option (List UInt8) := match l with
  | [] => none
  | p :: r => if p.1 = nm then some p.2 else getP r nm
def cookP (p : List UInt8) : Fs := if (Lib.cut (Lib.trimS p [32, 9]) [61]).2.2 then [((Lib.cut (Lib.trimS p [32, 9]) [61]).1, (Lib.cut (Lib.trimS p [32, 9]) [61]).2.1)] else []
def cookGo : List (List UInt8) → Fs → Fs
  | [], out => out
  | p :: r, out => if (out ++ cookP p).length < 32 then cookGo r (out ++ cookP p) else out ++ cookP p
def cookies (s : List UInt8) : Fs := cookGo (splitB 59 s) []
def sidS : List UInt8 := [115, 105, 100]
def cookieS : List UInt8 := [99, 111, 111, 107, 105, 101]
def tokGo : List (List UInt8) → List UInt8
  | [] => []
  | v :: r => match getP (cookies v) sidS with
    | some t => t
    | none => tokGo r
def tokenS (h : Hd) : List UInt8 := tokGo (valsOf h.fs cookieS)
def formQ (b : List UInt8) : Fs := if formOk b = true then formP b else []

structure Cn where
  s : List UInt8
  st : Int
  user : Int
  closed : Bool
  lost : Bool
  waits : Bool
  asks : Int
  ends : Bool
  ans : Option Rp
def cn0 : Cn := ⟨[], 0, -1, false, false, false, -1, false, none⟩
structure At where
  kind : Int
  out : List UInt8
  close : Bool
  user : Int
  token : List UInt8
  name : List UInt8
  word : List UInt8
  rq : Option (Hd × List UInt8)
def at0 : At := ⟨0, [], false, 0, [], [], [], none⟩
def plR (st : Int) (cl : Bool) : Rp := ⟨st, [], [], cl⟩
def emitT (r : Rp) : List UInt8 := if mayY r = true then printY r else printY (plR 500 r.cl)
def emitsC (c : Cn) (r : Rp) : Cn × At := ({ c with closed := c.closed || r.cl }, { at0 with kind := 1, out := emitT r, close := r.cl })
def handsC (c : Cn) (cl : Bool) (u : Int) (a : At) : Cn × At := ({ c with waits := true, asks := u, ends := cl }, a)
def userS : List UInt8 := [117, 115, 101, 114]
def wordS : List UInt8 := [119, 111, 114, 100]
def loginC (c : Cn) (h : Hd) (b : List UInt8) : Cn × At := match getP (formQ b) userS, getP (formQ b) wordS with
  | some n, some w => if formOk b = true then (if c.user = -1 then handsC c (closesS h) (-1) { at0 with kind := 2, name := n, word := w } else emitsC c (plR 403 (closesS h))) else emitsC c (plR 400 (closesS h))
  | _, _ => emitsC c (plR 400 (closesS h))
structure DS where
  users : Int
  conns : Int
  asks : Int
  l : List (Int × Cn)
  ss : List (List UInt8 × Int)
def cntC (l : List (Int × Cn)) (u : Int) : Nat := (l.filter fun e => !e.2.closed && decide (e.2.user = u)).length
def cntA (l : List (Int × Cn)) (u : Int) : Nat := (l.filter fun e => e.2.waits && decide (e.2.asks = u)).length
def sget (t : List UInt8) : List (List UInt8 × Int) → Option Int
  | [] => none
  | p :: r => if t = p.1 then some p.2 else sget t r
def lget (at' : Int) : List (Int × Cn) → Option Cn
  | [] => none
  | p :: r => if at' = p.1 then some p.2 else lget at' r
def lset (at' : Int) (c : Cn) : List (Int × Cn) → List (Int × Cn)
  | [] => [(at', c)]
  | p :: r => if at' = p.1 then (p.1, c) :: r else p :: lset at' c r
def postS : List UInt8 := [80, 79, 83, 84]
def loginS : List UInt8 := [47, 108, 111, 103, 105, 110]
def logoutS : List UInt8 := [47, 108, 111, 103, 111, 117, 116]
def requestC (D : DS) (c : Cn) (h : Hd) (b : List UInt8) : Cn × At :=
  if h.m = postS ∧ tgtP h.t = loginS then loginC c h b
  else match sget (tokenS h) D.ss with
    | none => emitsC c (plR 401 (closesS h))
    | some u => if c.user ≠ -1 ∧ c.user ≠ u then emitsC c (plR 403 (closesS h))
      else if c.user = -1 ∧ D.conns ≤ cntC D.l u then emitsC c (plR 503 true)
      else if h.m = postS ∧ tgtP h.t = logoutS then handsC { c with user := u } (closesS h) (-1) { at0 with kind := 3, token := tokenS h, user := u }
      else if D.asks ≤ cntA D.l u then emitsC { c with user := u } (plR 503 (closesS h))
      else handsC { c with user := u } (closesS h) u { at0 with kind := 4, user := u, rq := some (h, b) }
def pickC (D : DS) (c : Cn) : Cn × At := match c.ans with
  | some r => emitsC { c with ans := none } { r with cl := r.cl || c.ends }
  | none => if c.waits then (c, at0) else if c.lost then emitsC c (plR 413 true)
    else if c.st ≠ 0 then emitsC c (plR c.st true) else match nextL c.s with
      | .more => (c, at0)
      | .bad st => emitsC { c with s := [], st := st } (plR st true)
      | .got h b k => requestC D { c with s := c.s.drop k } h b
def inAt (at' : Int) : Prop := 0 ≤ at' ∧ at' < 64
instance (at' : Int) : Decidable (inAt at') := inferInstanceAs (Decidable (_ ∧ _))
def pickD (D : DS) (at' : Int) : DS × At × Int := if inAt at' then (match lget at' D.l with
    | none => (D, at0, 0)
    | some c => if c.closed then (D, at0, 0) else ({ D with l := lset at' (pickC D c).1 D.l }, (pickC D c).2, 0)) else (D, at0, 1)
def takeC (c : Cn) (t : List UInt8) : Cn := { c with s := (feedS c.s c.st t).2, lost := decide ((feedS c.s c.st t).1 = 2) || c.lost }
def arriveD (D : DS) (at' : Int) (t : List UInt8) : DS × Int := if inAt at' ∧ t.length ≤ 65536 then (
    if ((lget at' D.l).getD cn0).closed then (D, 80) else ({ D with l := lset at' (takeC ((lget at' D.l).getD cn0) t) D.l }, 0)) else (D, 1)
def sset (t : List UInt8) (u : Int) : List (List UInt8 × Int) → List (List UInt8 × Int)
  | [] => [(t, u)]
  | p :: r => if t = p.1 then (p.1, u) :: r else p :: sset t u r
def bindD (D : DS) (t : List UInt8) (u : Int) : DS × Int := if 0 ≤ u ∧ u < D.users ∧ t ≠ [] then ({ D with ss := sset t u D.ss }, 0) else (D, 1)
def shutD (D : DS) (at' : Int) : DS × Int := if inAt at' then (match lget at' D.l with
    | none => (D, 3)
    | some c => if c.closed then (D, 3) else ({ D with l := lset at' { c with closed := true } D.l }, 0)) else (D, 1)
def ansC (c : Cn) (r : Rp) : Cn := if c.closed then { c with waits := false, asks := -1 } else { c with waits := false, asks := -1, ans := some r }
def answerD (D : DS) (at' : Int) (r : Rp) : DS × Int := if inAt at' then (match lget at' D.l with
    | none => (D, 3)
    | some c => if c.waits then ({ D with l := lset at' (ansC c r) D.l }, 0) else (D, 3)) else (D, 1)
def userD (D : DS) (at' : Int) : Int := if inAt at' then (match lget at' D.l with
    | none => -1
    | some c => c.user) else -1
def waitsD (D : DS) (at' : Int) : Bool := if inAt at' then (match lget at' D.l with
    | none => false
    | some c => c.waits) else false
def openD (D : DS) (at' : Int) : Bool := match lget at' D.l with
    | none => false
    | some c => !c.closed
def countsD (D : DS) (u : Int) : Nat × Nat := if 0 ≤ u ∧ u < D.users then (cntC D.l u, cntA D.l u) else (0, 0)
end Go.Proofs.YtkljmljkiodnpaaGreatDoor.L

namespace Go.Proofs.YtkljmljkiodnpaaGreatDoor.L
open Go Go.RowKit

def upd (m : Nat → Option (List AV)) (b : Nat) (cs : List AV) : Nat → Option (List AV) := fun k => if k = b then some cs else m k
theorem a2r {m : Nat → Option (List AV)} {b : Nat} {cs : List AV} : upd m b cs b = some cs := if_pos rfl
theorem a2d {m : Nat → Option (List AV)} {b k : Nat} {cs : List AV} (h : k ≠ b) : upd m b cs k = m k := if_neg h
theorem a5v {m : Nat → Option (List AV)} {b : Nat} {cs ds : List AV} : upd (upd m b cs) b ds = upd m b ds := by
  funext k
  unfold upd
  split <;> rfl
section
variable {E : Env} {I : Imm} {ν : Nu} {w : World} {sl : Slots} {H : List AO}
theorem VR.ad_inv {b off : Nat} {v : Value} (h : VR w I ν (.ad b off) v) : v = .pointer (some ⟨b, off, none⟩) := by
  cases h with
  | pure h => cases h; rfl
theorem a6h (hh : HR E I ν H w) {id : Nat} {m : Nat → Option (List AV)} (hH : H[id]? = some (.hp m)) {b : Nat} {cells : List AV} (hm : m b = some cells) :
    E.base ≤ b ∧ (∃ vs ty, w.heap[b]? = some (.cells (List.toArray vs) ty (0, 0)) ∧ cells.length = vs.length ∧ ∀ (j : Nat) x v, cells[j]? = some x → vs[j]? = some v → VP w I x v) ∧ ∀ o, ¬ I b o := by
  cases hh.obj id _ hH with
  | hp _ h => exact h b cells hm
theorem c0n (hh : HR E I ν H w) {id bb oo : Nat} {m : Nat → Option (List AV)} (hH : H[id]? = some (.hp m)) {cells : List AV} (hm : m bb = some cells) {v : Value} (hp : VR w I ν (.ad bb oo) v) {xs : List AV} (h : cells.drop oo = xs) :
    ∃ b off, v = .pointer (some ⟨b, off, none⟩) ∧ ∀ (j : Nat) x, xs[j]? = some x → ∃ u, (w.cell? ⟨b, off + j, none⟩ = some u ∧ VR w I ν x u) ∧ ∀ w', Still ν H I w w' → w'.cell? ⟨b, off + j, none⟩ = some u := by
  obtain ⟨_, ⟨vs, ty, h2, h3, h4⟩, _⟩ := a6h hh hH hm
  refine ⟨bb, oo, hp.ad_inv, fun j x hx => ?_⟩
  rw [← h, List.getElem?_drop] at hx
  have hlt : oo + j < cells.length := (List.getElem?_eq_some_iff.1 hx).1
  have hv2 : vs[oo + j]? = some (vs[oo + j]'(by omega)) := List.getElem?_eq_getElem _
  refine ⟨vs[oo + j]'(by omega), ⟨?_, .pure (h4 _ _ _ hx hv2)⟩, fun w' hw => ?_⟩
  · simp [World.cell?, h2, hv2]
  · have := (hw.obj id _ bb hH ⟨cells, hm⟩).trans h2
    simp [World.cell?, this, hv2]
theorem a2i {t : Nat} {n b : Nat} {z : Value} [ti : TZ E.P t false n b z] {p : Operand} {x : AV} {r cells : List AV} {id bb oo : Nat} {m : Nat → Option (List AV)} (hp : ev sl p = some (.ad bb oo)) (hH : H[id]? = some (.hp m)) (hm : m bb = some cells) (hc : cells.drop oo = x :: r) : OV E sl H (.load t p) x := by
  intro I ν a w hh hs
  obtain ⟨bk, off, hv, hx⟩ := c0n hh hH hm (a2q hs hp) hc
  obtain ⟨u, ⟨hu, hvr⟩, hst⟩ := hx 0 x rfl
  refine ⟨u, hvr, fun o w' ho hb => ?_⟩
  have := hst w' hb
  simp only [Nat.add_zero] at this
  simp [execOp, ho, hv, Instr.loadAt, Instr.sureAddr, loadVar, ti.isAgg, this]

theorem b0k {t : Nat} {n b : Nat} {z : Value} [ti : TZ E.P t true n b z] {p : Operand} {xs cells : List AV} {id bb oo : Nat} {m : Nat → Option (List AV)} (hp : ev sl p = some (.ad bb oo)) (hH : H[id]? = some (.hp m)) (hm : m bb = some cells) (hc : cells.drop oo = xs) (hn : Nat.ble n xs.length = true) : OV E sl H (.load t p) (.agg (xs.take n)) := by
  intro I ν a w hh hs
  obtain ⟨bk, off, hv, hx⟩ := c0n hh hH hm (a2q hs hp) hc
  have hn' : n ≤ xs.length := Nat.le_of_ble_eq_true hn
  have hch : ∃ us : List Value, us.length = n ∧ ∀ (j : Nat) x u, (xs.take n)[j]? = some x → us[j]? = some u → (w.cell? ⟨bk, off + j, none⟩ = some u ∧ VR w I ν x u) ∧ ∀ w', Still ν H I w w' → w'.cell? ⟨bk, off + j, none⟩ = some u := by
    clear hn hc hp hv ti hm
    induction n with
    | zero => exact ⟨[], rfl, fun j x u h => by simp at h⟩
    | succ n ih =>
      obtain ⟨us, h1, h2⟩ := ih (by omega)
      obtain ⟨u, ⟨hu, hvr⟩, hst⟩ := hx n xs[n] (List.getElem?_eq_getElem (by omega))
      refine ⟨us ++ [u], by simp [h1], fun j x u' hj hu' => ?_⟩
      by_cases hjn : j < n
      · rw [List.getElem?_append_left (by omega)] at hu'
        rw [List.getElem?_take_of_lt (by omega)] at hj
        exact h2 j x u' (by rw [List.getElem?_take_of_lt hjn]; exact hj) hu'
      · have hj2 : j = n := by
          have := (List.getElem?_eq_some_iff.1 hu').1
          simp [h1] at this
          omega
        subst hj2
        rw [List.getElem?_append_right (by omega), h1] at hu'
        simp at hu'
        subst hu'
        rw [List.getElem?_take_of_lt (by omega), List.getElem?_eq_getElem (by omega)] at hj
        injection hj with hj
        subst hj
        exact ⟨⟨hu, hvr⟩, hst⟩
  obtain ⟨us, h1, h2⟩ := hch
  have htl : (xs.take n).length = n := by simp; omega
  refine ⟨.agg us.toArray, .agg _ us (by omega) (fun j x v hj hv => (h2 j x v hj hv).1.2), fun o w' ho hb => ?_⟩
  have hl := b2u (P := E.P) (w := w') bk off us (fun j u hu => (by
    have hjn : j < n := by have := (List.getElem?_eq_some_iff.1 hu).1; omega
    exact (h2 j _ u (List.getElem?_eq_getElem (by omega)) hu).2 w' hb))
  rw [h1] at hl
  simp [execOp, ho, hv, Instr.loadAt, Instr.sureAddr, loadVar, ti.isAgg, ti.size, hl]


end
section
variable {E : Env} {N : Nat} {ops : Array Oper} {Q : Exit → St → Prop} {rest : List Oper} {sl : Slots} {H H' : List AO}
theorem a4e {t : Nat} {dd : Bool} {n b : Nat} {z : Value} [ti : TZ E.P t dd n b z] {p x : Operand} {id bk off : Nat} {m : Nat → Option (List AV)} {xv : AV} {cs cells cells' : List AV} {ty : TypeId} {pos : String} {after : Array Edge} (hp : ev sl p = some (.ad bk off)) (hx : ev sl x = some xv) (hc : xv.cells = cs) (ha : allPu cs = true) (ha' : allCell cs = true) (hn : cs.length = n)
    (hU : Upd id H (.hp m) (.hp (upd m bk cells')) H') (hm : m bk = some cells) (hP : PutN off cells cs cells')
    (h : AL E N ops Q rest ⟨sl, H'⟩) : AL E N ops Q (⟨none, .store t p x, ty, pos, after, none⟩ :: rest) ⟨sl, H⟩ := by
  obtain ⟨hid, hset⟩ := hU.eq
  subst hset
  obtain ⟨hpl, hpe⟩ := hP.eq
  refine b2j (fun I ν a w hh hs => ?_) h
  obtain ⟨vs, hv, hl, hxx, hone⟩ := (a2q hs hx).cells_ok hc ha'
  have hpv := (a2q hs hp).ad_inv
  obtain ⟨hb', ⟨us, ty', hheap, hl', hx'⟩, hI'⟩ := a6h hh hid hm
  have hst := run_storeCells_at E.P bk off ty' vs 0 us.toArray w hheap (by simp; omega) hone
  simp only [Nat.add_zero] at hst
  obtain ⟨us', hus⟩ : ∃ us', us' = us.take off ++ vs ++ us.drop (off + vs.length) := ⟨_, rfl⟩
  rw [show (us.toArray.toList.take off ++ vs ++ us.toArray.toList.drop (off + vs.length)).toArray = us'.toArray by simp [hus]] at hst
  obtain ⟨w', hw'⟩ : ∃ w', w' = w.setRow bk us'.toArray := ⟨_, rfl⟩
  rw [← hw'] at hst
  have hheap' : w'.heap[bk]? = some (.cells us'.toArray ty' (0, 0)) := by rw [hw']; exact setRow_heap w bk _ _ ty' _ hheap
  have hfar : ∀ k, k ≠ bk → w'.heap[k]? = w.heap[k]? := fun k hk => by rw [hw']; exact setRow_other w bk k _ hk
  have hI : ImmLe w I w' I := ImmLe.heap hh fun k _ ⟨o, ho⟩ => hfar k (fun e => hI' o (e ▸ ho))
  have hbel : Below E.base E.w0 w' := by
    rw [hw']
    refine hh.below.trans ⟨rfl, rfl, rfl, by simp [World.setRow], fun k hk => ?_⟩
    exact setRow_other w bk k _ (by omega)
  have hobj : OR E w' I ν id (.hp (upd m bk cells')) := by
    refine .hp _ fun b2 cells2 h2 => ?_
    by_cases e : b2 = bk
    · subst e
      rw [a2r] at h2
      injection h2 with h2
      subst h2
      refine ⟨hb', ⟨us', ty', hheap', by rw [hpe, hus]; simp; omega, fun j y u h1 h2 => ?_⟩, hI'⟩
      rw [hpe] at h1
      rw [hus] at h2
      by_cases c1 : j < off
      · rw [List.append_assoc, List.getElem?_append_left (by simp; omega), List.getElem?_take_of_lt c1] at h1 h2
        exact (hx' j y u h1 h2).mono hI
      · by_cases c2 : j < off + cs.length
        · rw [List.append_assoc, List.getElem?_append_right (by simp; omega), List.getElem?_append_left (by simp; omega)] at h1 h2
          simp only [List.length_take, Nat.min_eq_left (show off ≤ cells.length by omega), Nat.min_eq_left (show off ≤ us.length by omega)] at h1 h2
          exact ((hxx _ y u h1 h2).pu (a7e ha _ y h1)).mono hI
        · rw [List.getElem?_append_right (by simp; omega)] at h1 h2
          simp only [List.length_append, List.length_take, Nat.min_eq_left (show off ≤ cells.length by omega), Nat.min_eq_left (show off ≤ us.length by omega), List.getElem?_drop] at h1 h2
          rw [← hl] at h2
          exact (hx' _ y u h1 h2).mono hI
    · rw [a2d e] at h2
      obtain ⟨k1, ⟨vs2, ty2, k2, k3, k4⟩, k5⟩ := a6h hh hid h2
      exact ⟨k1, ⟨vs2, ty2, (hfar b2 e).trans k2, k3, fun j y u g1 g2 => (k4 j y u g1 g2).mono hI⟩, k5⟩
  have := hh.set (o' := .hp (upd m bk cells')) (w' := w') hid (fun e => by cases e) (Nu.le.refl ν) rfl (fun _ _ => rfl) hbel (by rw [hw']; simp [World.setRow])
    (fun k _ hk => hfar k (fun e => hk (by rw [e]; exact ⟨cells, hm⟩))) hI hobj
    (fun b2 ⟨c2, h2⟩ => .inl (by
      by_cases e : b2 = bk
      · rw [e]; exact ⟨cells, hm⟩
      · rw [a2d e] at h2; exact ⟨c2, h2⟩))
  refine ⟨w', ν, fun o ho => ?_, this.1, this.2, Nu.le.refl ν⟩
  simp [execOp, ho, Instr.storeAt, Instr.sureAddr, hpv, storeVar, hv, ti.size, show vs.length = n by omega, hst]
theorem a3g {t : Nat} {dd : Bool} {n b : Nat} {z : Value} [ti : TZ E.P t dd n b z] {p x : Operand} {id bk off : Nat} {m : Nat → Option (List AV)} {xv : AV} {cs cells cells' : List AV} {ty : TypeId} {pos : String} {after : Array Edge} (hp : ev sl p = some (.ad bk off)) (hx : ev sl x = some xv) (hc : xv.cells = cs) (ha : allPu cs = true) (ha' : allCell cs = true) (hn : cs.length = n)
    (hH : H[id]? = some (.hp m)) (hm : m bk = some cells) (hP : PutN off cells cs cells') (hU : Upd id H (.hp m) (.hp (upd m bk cells')) H')
    (h : AL E N ops Q rest ⟨sl, H'⟩) : AL E N ops Q (⟨none, .store t p x, ty, pos, after, none⟩ :: rest) ⟨sl, H⟩ := a4e hp hx hc ha ha' hn hU hm hP h
theorem Wkn.hp0 {H1 : List AO} (hH : Snoc H (.hp fun _ => none) H1) : Wkn E N ⟨sl, H⟩ ⟨sl, H1⟩ := fun I ν a w hs => by
  rw [hH.eq]
  obtain ⟨h1, h2, h3⟩ := hs.hr.push (o := .hp fun _ => none) (t := 0) (f := fun _ => .bool false) (w' := w) hs.hr.below (Nat.le_refl _) (fun _ _ => rfl) (.hp _ fun b c h => by cases h) (fun b ⟨c, h⟩ => by cases h)
  exact ⟨I, _, ⟨h1, fun t x hx => (hs.sl t x hx).mono h3 (ν.add_le _ _), hs.df, hs.nt⟩, h2⟩
theorem c5q {I : Imm} {ν : Nu} {a : Act} {w : World} {t id j : Nat} {cells : List AV} {m : Nat → Option (List AV)} {H1 : List AO} {H2 : Nat → List AO} (hs : SR E N I ν ⟨sl, H⟩ a w) (ht : lk sl t = some (.op id 0)) (hU : Upd id H (.box cells none) .gone H1) (hV : ∀ b, Upd j H1 (.hp m) (.hp (upd m b cells)) (H2 b)) (hp : allPu cells = true) :
    ∃ b, m b = none ∧ SR E N I ν ⟨(t, .ad b 0) :: sl, H2 b⟩ a w ∧ FR E.k w I ν H w I ν (H2 b) := by
  obtain ⟨hid, hset⟩ := hU.eq
  have hh := hs.hr
  have hs' := hs.sl t _ ht
  cases hh.obj id _ hid with
  | box _ _ b vs ty hv hb hheap hl hx hI hty =>
  obtain ⟨v, hvv⟩ : ∃ v, a.tmps.getD t undef = v := ⟨_, rfl⟩
  rw [hvv] at hs'
  cases hs' with
  | pure hs' => cases hs'
  | op _ _ b' hi hval =>
  obtain rfl : b' = b := by
    rw [hv] at hval
    injection hval with e; injection e with e; injection e with e
    exact e.symm
  obtain ⟨hj1, hset2⟩ := (hV b').eq
  have hOB : OB ν id (.box cells none) b' := by simp only [OB, OB1, hv]
  have hlt : id < H.length := (List.getElem?_eq_some_iff.1 hid).1
  have hne : j ≠ id := fun e => by
    subst e
    rw [hset, List.getElem?_set_self hlt] at hj1
    cases hj1
  have hj : H[j]? = some (.hp m) := by rw [hset, List.getElem?_set_ne (Ne.symm hne)] at hj1; exact hj1
  have hjlt : j < H.length := (List.getElem?_eq_some_iff.1 hj).1
  have hmb : m b' = none := by
    cases hq : m b' with
    | none => rfl
    | some c => exact absurd (hh.disj j id _ _ b' hj hid ⟨c, hq⟩ hOB) hne
  refine ⟨b', hmb, ?_⟩
  rw [hset2, hset]
  have hold : ∀ (k : Nat) q, ((H.set id .gone).set j (.hp (upd m b' cells)))[k]? = some q → (k ≠ id ∧ k ≠ j ∧ H[k]? = some q) ∨ (k = id ∧ q = .gone) ∨ (k = j ∧ q = .hp (upd m b' cells)) := by
    intro k q h
    by_cases e : k = j
    · subst e
      rw [List.getElem?_set_self (by simpa using hjlt)] at h
      exact .inr (.inr ⟨rfl, by simpa using h.symm⟩)
    · rw [List.getElem?_set_ne (Ne.symm e)] at h
      by_cases e2 : k = id
      · subst e2
        rw [List.getElem?_set_self hlt] at h
        exact .inr (.inl ⟨rfl, by simpa using h.symm⟩)
      · rw [List.getElem?_set_ne (Ne.symm e2)] at h
        exact .inl ⟨e2, e, h⟩
  have hupd : ∀ b2, (∃ c, upd m b' cells b2 = some c) → b2 = b' ∨ ∃ c, m b2 = some c := fun b2 ⟨c, hc⟩ => by
    by_cases e : b2 = b'
    · exact .inl e
    · rw [a2d e] at hc; exact .inr ⟨c, hc⟩
  have hFB : ∀ c, FB ν ((H.set id .gone).set j (.hp (upd m b' cells))) c → FB ν H c := by
    rintro c ⟨k, q, h1, h2⟩
    rcases hold k q h1 with ⟨_, _, h4⟩ | ⟨rfl, rfl⟩ | ⟨rfl, rfl⟩
    · exact ⟨k, q, h4, h2⟩
    · exact h2.elim
    · rcases hupd c h2 with rfl | h3
      · exact ⟨id, _, hid, hOB⟩
      · exact ⟨k, _, hj, h3⟩
  refine ⟨⟨⟨by rw [hh.n]; simp, hh.below, hh.base, hh.imm, fun k q h => ?_, ?_⟩, fun t' x hx' => ?_, hs.df, hs.nt⟩, ⟨ImmLe.refl _ _, Nat.le_refl _, fun _ _ h => .inl h, fun _ _ _ => rfl, fun c h => .inl (hFB c h), (Nu.le.refl ν).ag _, fun k _ h => ⟨rfl, ?_⟩⟩⟩
  · rcases hold k q h with ⟨_, _, h4⟩ | ⟨rfl, rfl⟩ | ⟨rfl, rfl⟩
    · exact hh.obj k q h4
    · exact .gone
    · refine .hp _ fun b2 c2 h2 => ?_
      by_cases e : b2 = b'
      · subst e
        rw [a2r] at h2
        injection h2 with h2
        subst h2
        exact ⟨hb, ⟨vs, ty, hheap, hl, fun i x u g1 g2 => (hx i x u g1 g2).pu (a7e hp i x g1)⟩, hI⟩
      · rw [a2d e] at h2
        exact a6h hh hj h2
  · intro i k o1 o2 c h1 h2 e1 e2
    rcases hold i o1 h1 with ⟨n1, n2, h4⟩ | ⟨rfl, rfl⟩ | ⟨rfl, rfl⟩
    · rcases hold k o2 h2 with ⟨_, _, h5⟩ | ⟨rfl, rfl⟩ | ⟨rfl, rfl⟩
      · exact hh.disj i k o1 o2 c h4 h5 e1 e2
      · exact e2.elim
      · rcases hupd c e2 with rfl | h3
        · exact absurd (hh.disj i id o1 _ _ h4 hid e1 hOB) n1
        · exact absurd (hh.disj i _ o1 _ _ h4 hj e1 h3) n2
    · exact e1.elim
    · rcases hold k o2 h2 with ⟨n1, n2, h5⟩ | ⟨rfl, rfl⟩ | ⟨rfl, rfl⟩
      · rcases hupd c e1 with rfl | h3
        · exact absurd (hh.disj k id o2 _ _ h5 hid e2 hOB) n1
        · exact absurd (hh.disj k _ o2 _ _ h5 hj e2 h3) n2
      · exact e2.elim
      · rfl
  · rw [a4x] at hx'
    by_cases et : t = t'
    · subst et
      rw [if_pos rfl] at hx'
      obtain rfl : AV.ad b' 0 = x := by simpa using hx'
      show VR w I ν (.ad b' 0) (a.tmps.getD t undef)
      rw [hvv]
      exact .pure (.ad b' 0)
    · rw [if_neg et] at hx'
      exact hs.sl t' x hx'
  · rw [List.getElem?_set_ne (fun e => by subst e; rw [hj] at h; cases h), List.getElem?_set_ne (fun e => by subst e; rw [hid] at h; cases h)]
    exact h
theorem b5w {l : List Oper} (t : Nat) {id j : Nat} {cells : List AV} {m : Nat → Option (List AV)} {H1 : List AO} {H2 : Nat → List AO} (ht : lk sl t = some (.op id 0)) (hU : Upd id H (.box cells none) .gone H1) (hV : ∀ b, Upd j H1 (.hp m) (.hp (upd m b cells)) (H2 b)) (hp : allPu cells = true)
    (h : ∀ b, m b = none → AL E N ops Q l ⟨(t, .ad b 0) :: sl, H2 b⟩) : AL E N ops Q l ⟨sl, H⟩ := by
  intro I ν a w hs w0 I0 ν0 o0 hf
  obtain ⟨b, h1, h2, h3⟩ := c5q hs ht hU hV hp
  exact h b h1 I ν a w h2 w0 I0 ν0 o0 (hf.trans h3)
end
theorem b4i {E : Env} {f : Nat} {args cells : List AV} {m : Nat → Option (List AV)} {b : Nat} {R : AV → List AO → Prop} (spec : ACalls (E.at 0) f (.op 0 0 :: args) [.box cells none] R) (hm : m b = some cells) (hc : clL 0 args = true) (hR : ∀ rv os, R rv os → ∃ cells', os = [.box cells' none] ∧ allPu cells' = true ∧ clB 0 rv = true) :
    ACalls E f (.ad b 0 :: args) [.hp m] fun rv os => ∃ cells', R rv [.box cells' none] ∧ os = [.hp (upd m b cells')] := by
  intro I ν w vs hh hlen hv
  obtain ⟨v0, vs', rfl⟩ : ∃ v0 vs', vs = v0 :: vs' := by
    cases vs with
    | nil => simp at hlen
    | cons v0 vs' => exact ⟨v0, vs', rfl⟩
  have hv0 := (hv 0 _ v0 rfl rfl).ad_inv
  obtain ⟨hb, ⟨us, ty, hheap, hl, hx⟩, hI⟩ := a6h hh (id := 0) rfl hm
  have hfb : ∀ c, FB (⟨1, fun _ => 0, fun _ _ => .pointer (some ⟨b, 0, none⟩)⟩ : Nu) [.box cells none] c → c = b := by
    rintro c ⟨k, q, h1, h2⟩
    cases k with
    | succ k => simp at h1
    | zero =>
      simp at h1
      subst h1
      simp only [OB, OB1, Option.some.injEq] at h2
      exact h2.symm
  have hh1 : HR (E.at 0) I ⟨1, fun _ => 0, fun _ _ => .pointer (some ⟨b, 0, none⟩)⟩ [.box cells none] w := by
    refine ⟨rfl, hh.below, hh.base, hh.imm, fun k q h => ?_, fun i k o1 o2 c h1 h2 _ _ => ?_⟩
    · cases k with
      | succ k => simp at h
      | zero =>
        simp at h
        subst h
        exact .box cells none b us ty rfl hb hheap hl (fun j x v h1 h2 => .pure (hx j x v h1 h2)) hI (fun t h => by cases h)
    · have l1 := (List.getElem?_eq_some_iff.1 h1).1
      have l2 := (List.getElem?_eq_some_iff.1 h2).1
      simp at l1 l2
      omega
  have hcut : ∀ {w' : World} {I' : Imm} {ν1 ν2 : Nu} {x : AV} {v : Value}, VR w' I' ν1 x v → clB 0 x = true → VR w' I' ν2 x v := fun h k => h.cut (k := 0) ⟨Nat.zero_le _, fun _ h => absurd h (Nat.not_lt_zero _), fun _ _ h => absurd h (Nat.not_lt_zero _)⟩ k
  refine (spec I _ w (v0 :: vs') hh1 hlen fun j x v h1 h2 => ?_).mono fun e w' ⟨rv, os, I', ν', v, h1, h2, h3, h4, h5⟩ => ?_
  · cases j with
    | zero =>
      simp at h1 h2
      subst h1; subst h2
      rw [hv0]
      exact .op 0 0 b Nat.zero_lt_one rfl
    | succ j => exact hcut (hv (j + 1) x v (by simpa using h1) h2) (a6o hc j x (by simpa using h1))
  · obtain ⟨cells', rfl, hpu, hcl⟩ := hR rv os h1
    have hag := h5.ag 0 (by simp) Nat.zero_lt_one
    have hval : ν'.val 0 0 = .pointer (some ⟨b, 0, none⟩) := hag.2.2 0 (Nat.zero_le _)
    have hbsz : b < w.heap.size := (Array.getElem?_eq_some_iff.1 hheap).1
    have hobj : OR E w' I' ν 0 (.hp (upd m b cells')) := by
      refine .hp _ fun b2 c2 g => ?_
      by_cases e : b2 = b
      · subst e
        rw [a2r] at g
        injection g with g
        subst g
        cases h4.obj 0 _ rfl with
        | box _ _ b3 vs3 ty3 k1 k2 k3 k4 k5 k6 k7 =>
        rw [hval] at k1
        injection k1 with k1; injection k1 with k1; injection k1 with k1
        subst k1
        exact ⟨k2, ⟨vs3, ty3, k3, k4, fun j x u g1 g2 => (k5 j x u g1 g2).pu (a7e hpu j x g1)⟩, k6⟩
      · rw [a2d e] at g
        obtain ⟨k1, ⟨vs2, ty2, k2, k3, k4⟩, k5⟩ := a6h hh (id := 0) rfl g
        have hlt2 : b2 < w.heap.size := (Array.getElem?_eq_some_iff.1 k2).1
        refine ⟨k1, ⟨vs2, ty2, (h5.keep b2 hlt2 fun hf => e (hfb b2 hf)).trans k2, k3, fun j x u g1 g2 => (k4 j x u g1 g2).mono h5.imm⟩, fun o ho => ?_⟩
        rcases h5.new b2 o ho with h | h | h
        · exact k5 o h
        · exact e (hfb b2 h)
        · omega
    have hn : ν.n = 1 := hh.n
    refine ⟨rv, _, I', ν, v, ⟨cells', h1, rfl⟩, h2, hcut h3 hcl, ⟨hn, h4.below, h4.base, h4.imm, fun k q h => ?_, fun i k o1 o2 c g1 g2 _ _ => ?_⟩, ⟨h5.imm, h5.size, fun c o h => ?_, fun c hc1 hc2 => ?_, fun c hc1 => ?_, (Nu.le.refl ν).ag _, fun k _ h => ?_⟩⟩
    · cases k with
      | succ k => simp at h
      | zero => simp at h; subst h; exact hobj
    · have l1 := (List.getElem?_eq_some_iff.1 g1).1
      have l2 := (List.getElem?_eq_some_iff.1 g2).1
      simp at l1 l2
      omega
    · rcases h5.new c o h with h | h | h
      · exact .inl h
      · exact .inr (.inl ⟨0, _, rfl, by rw [hfb c h]; exact ⟨cells, hm⟩⟩)
      · exact .inr (.inr h)
    · exact h5.keep c hc1 fun hf => hc2 ⟨0, _, rfl, by rw [hfb c hf]; exact ⟨cells, hm⟩⟩
    · obtain ⟨k, q, g1, g2⟩ := hc1
      cases k with
      | succ k => simp at g1
      | zero =>
        simp at g1
        subst g1
        obtain ⟨c2, g2⟩ := g2
        by_cases e : c = b
        · exact .inl ⟨0, _, rfl, by rw [e]; exact ⟨cells, hm⟩⟩
        · rw [a2d e] at g2; exact .inl ⟨0, _, rfl, c2, g2⟩
    · cases k with
      | succ k => simp at h
      | zero => simp at h
end Go.Proofs.YtkljmljkiodnpaaGreatDoor.L

namespace Go.Proofs.YtkljmljkiodnpaaGreatDoor.L
open Go Go.RowKit Go.Proofs
attribute [local irreducible] AL QL AWp Thn InB RetQ ACalls LoopQ HL HO HW HQ NoG JmpQ MidQ HF

section
variable {w0 : World} {base : Nat}
set_option maxHeartbeats 2000000 in
theorem c5l {s : List UInt8} (hs : s.length ≤ 65536) (hG : Glob w0 base) : PCalls (EE w0 base) 87 [.str s] fun rv => ∃ e k, rv = .tup [.rs ((formQ s).map prAV), .int .i64 e, .int .i64 k] ∧ (e = 0 ↔ formOk s = true) := by
  refine a1s Tryz.func87 rfl rfl rfl (.cons .nil) ?_
  have hbad : formOk s ≠ true → formQ s = [] := fun h => if_neg h
  repeat' (first|(first|refine a0b (a5e rfl) rfl ?_|(refine a4j (.adoptBox (id := 0) (k := 0) (e := 90) (sz := 2) rfl rfl (by decide) rfl rfl rfl) ?_;refine a0v [0,1,2,3] rfl rfl (c1s hs hG) (by repeat constructor) (by repeat constructor) rfl rfl ?_;rintro _ _ ⟨ver',e,k,xs',rfl,rfl,h1,h2,h3,h4,h5⟩;refine ⟨_,_,by repeat constructor,by repeat constructor,?_⟩))|(refine a2k ?_;first|refine a0b (a0l rfl) rfl ?_|(refine k_g ?_;first|refine a1j rfl rfl (by with_reducible rfl) ?_|refine a1w rfl rfl (by with_reducible rfl) rfl ?_|(refine a1z rfl rfl (fun hc => ?_) (fun hc => ?_) <;> (try (exfalso;omega))))|(refine a1g ?_;first|refine a0b (a0w rfl rfl) rfl ?_)|(refine a1a ?_;first|refine a0b (a1h rfl rfl rfl) rfl ?_)|(refine a1i ?_;first|refine a0b (a0j rfl (by with_reducible rfl) rfl) rfl ?_|refine a0b (a0i rfl (by with_reducible rfl) rfl) rfl ?_)|refine a0b (a0e rfl) rfl ?_|(refine a0d ?_;first|refine a0b (a3m rfl rfl rfl) rfl ?_)|refine a0u ?_|refine a0z rfl rfl rfl (by first|exact ln0|exact ln1|exact ln2) (by repeat constructor) rfl ?_|refine a1c rfl rfl rfl rfl rfl (by repeat constructor) (by repeat constructor) ?_)|(first|refine a1n ?_|(refine a1o ?_;first|refine a0c (a0a ?_)|refine a0c ?_|refine a0a ?_|(refine a0x ?_;first|refine a0h rfl (by with_reducible rfl) ?_|(refine a0r rfl (fun hc => ?_) (fun hc => ?_) <;> (try (exfalso;omega))))|refine a0o ?_|refine a0k ?_)|refine a0t ?_)|refine a7c (by kernel_rfl) (by kernel_rfl) ?_|(first|refine a4c (a0l rfl) rfl ?_|refine a4c (a0e rfl) rfl ?_|refine a4c (a0w rfl rfl) rfl ?_|refine a4c (a1h rfl rfl rfl) rfl ?_|refine a4c (a0j rfl (by with_reducible rfl) rfl) rfl ?_|refine a4c (a0i rfl (by with_reducible rfl) rfl) rfl ?_|refine b0u ?_))
  · refine a2m (.nil 2 rfl) ?_
    refine ret3 (by first | exact .inr rfl | exact .inl rfl) rfl rfl rfl rfl ?_
    have h6 := congrArg List.length (h5 ‹_›)
    rw [a6z] at h6
    have hno : formOk s ≠ true := fun h => by
      rw [formOk, Bool.and_eq_true, decide_eq_true_eq] at h
      omega
    refine ⟨⟨_, _, by rw [hbad hno]; rfl, ⟨fun h => absurd h (by decide), fun h => absurd h hno⟩⟩, rfl⟩
  · refine a2m (.freeze 2 rfl (by repeat constructor)) ?_
    refine ret3 (by first | exact .inr rfl | exact .inl rfl) rfl rfl rfl rfl ?_
    have he : e = 0 := ‹_›
    have h6 := congrArg List.length (h5 he)
    rw [a6z] at h6
    have hok : formOk s = true := by
      rw [formOk, Bool.and_eq_true, decide_eq_true_eq]
      exact ⟨h4.1 he, by omega⟩
    refine ⟨⟨_, _, by rw [h5 he, show formQ s = formP s from if_pos hok], ⟨fun _ => hok, fun _ => rfl⟩⟩, rfl⟩
  · refine a2m (.nil 2 rfl) ?_
    refine ret3 (by first | exact .inr rfl | exact .inl rfl) rfl rfl rfl rfl ?_
    have hno : formOk s ≠ true := fun h => by
      rw [formOk, Bool.and_eq_true] at h
      exact absurd (h4.2 h.1) ‹_›
    refine ⟨⟨_, _, by rw [hbad hno]; rfl, ⟨fun h => absurd h ‹_›, fun h => absurd h hno⟩⟩, rfl⟩
theorem c0t {l : Fs} {i : Nat} {p : List UInt8 × List UInt8} {nm : List UInt8} (h : l[i]? = some p) : getP (l.drop i) nm = if p.1 = nm then some p.2 else getP (l.drop (i + 1)) nm := by
  have hlt := (List.getElem?_eq_some_iff.1 h).1
  rw [List.drop_eq_getElem_cons hlt, getP, (List.getElem?_eq_some_iff.1 h).2]
abbrev getV (l : Fs) (nm : List UInt8) : AV := .tup [.str ((getP l nm).getD []), .bool (getP l nm).isSome]
set_option maxHeartbeats 2000000 in
theorem c5k {l : Fs} {nm : List UInt8} (hl : l.length ≤ 140737488351232) : PCalls (EE w0 base) 91 [.rs (l.map prAV), .str nm] fun rv => rv = getV l nm := by
  have hlen : (l.map prAV).length = l.length := List.length_map _
  refine a1s Tryz.func91 rfl rfl rfl (.cons (.cons .nil)) ?_
  obtain ⟨T, hT⟩ : ∃ T, T = getP l nm := ⟨_, rfl⟩
  unfold getV
  rw [← hT]
  repeat' (first|((refine a0d ?_;refine a0b (a3p l.length rfl hlen) rfl ?_))|(refine a2k ?_;first|refine a0b (a0l rfl) rfl ?_|refine a0b (a0f rfl rfl) rfl ?_|(refine a1g ?_;first|refine a0b (a0w rfl rfl) rfl ?_|refine a0b (a0m rfl rfl rfl) rfl ?_)|(refine a1a ?_;first|refine a0b (a1p rfl rfl (by (first|exact w64 (by omega) (by omega)|rfl))) rfl ?_)|refine a0b (a0e rfl) rfl ?_|refine a0u ?_|refine a0z rfl rfl rfl (by first|exact ln0) (by repeat constructor) rfl ?_|refine a1c rfl rfl rfl rfl rfl (by repeat constructor) (by repeat constructor) ?_)|(first|refine a1n ?_|(refine a1o ?_;first|refine a0c (a0a ?_)|refine a0c ?_|refine a0a ?_|(refine a0x ?_;first|refine a0g rfl (by with_reducible rfl) ?_|refine a0h rfl (by with_reducible rfl) ?_)|refine a0n ?_|refine a0o ?_|refine a0k ?_|refine a1f ?_)|refine a0t ?_|refine a1q ?_|refine a2b ?_|refine a1d ?_|refine a1v ?_|refine a1b ?_|refine a1e ?_))
  refine a2o (fun k : Nat => ⟨[(1, .str nm), (8, .rs (l.map prAV)), (9, .int .i64 l.length), (10, .int .i64 k)], []⟩) (fun k => k ≤ l.length ∧ T = getP (l.drop k) nm) (fun k => l.length - k) 0 (.of (.same (by repeat constructor))) ⟨Nat.zero_le _, hT⟩ ?_
  rintro k ⟨hk, hTk⟩
  try dsimp only
  by_cases hlt : k < l.length
  · obtain ⟨p, hp⟩ : ∃ p, l[k]? = some p := ⟨_, List.getElem?_eq_getElem hlt⟩
    have hrow := a6e hp
    rw [c0t hp] at hTk
    by_cases hn : p.1 = nm
    · rw [if_pos hn] at hTk
      repeat' (first|(first|refine a0b (a2j rfl rfl (by omega) hrow rfl) rfl ?_|(refine a1a ?_;first|refine a0b (a1l rfl rfl rfl (by omega)) rfl ?_|refine a0b (a1m rfl rfl rfl (by omega)) rfl ?_|refine a0b (a2h hn rfl rfl) rfl ?_))|(refine a2k ?_;first|refine a0b (a0l rfl) rfl ?_|refine a0b (a0f rfl rfl) rfl ?_|(refine a1g ?_;first|refine a0b (a0w rfl rfl) rfl ?_|refine a0b (a0m rfl rfl rfl) rfl ?_)|(refine a1a ?_;first|refine a0b (a1p rfl rfl (by (first|exact w64 (by omega) (by omega)|rfl))) rfl ?_)|refine a0b (a0e rfl) rfl ?_|refine a0u ?_|refine a0z rfl rfl rfl (by first|exact ln0) (by repeat constructor) rfl ?_|refine a1c rfl rfl rfl rfl rfl (by repeat constructor) (by repeat constructor) ?_)|(first|refine a1n ?_|(refine a1o ?_;first|refine a0c (a0a ?_)|refine a0c ?_|refine a0a ?_|(refine a0x ?_;first|refine a0g rfl (by with_reducible rfl) ?_|refine a0h rfl (by with_reducible rfl) ?_)|refine a0n ?_|refine a0o ?_|refine a0k ?_|refine a1f ?_)|refine a0t ?_|refine a1q ?_|refine a2b ?_|refine a1d ?_|refine a1v ?_|refine a1b ?_|refine a1e ?_))
      refine ret2 (by first | exact .inr rfl | exact .inl rfl) rfl rfl rfl ?_
      exact ⟨by rw [hTk]; rfl, rfl⟩
    · rw [if_neg hn] at hTk
      repeat' (first|(first|refine a0b (a2j rfl rfl (by omega) hrow rfl) rfl ?_|(refine a1a ?_;first|refine a0b (a1l rfl rfl rfl (by omega)) rfl ?_|refine a0b (a1m rfl rfl rfl (by omega)) rfl ?_|refine a0b (a2l hn rfl rfl) rfl ?_))|(refine a2k ?_;first|refine a0b (a0l rfl) rfl ?_|refine a0b (a0f rfl rfl) rfl ?_|(refine a1g ?_;first|refine a0b (a0w rfl rfl) rfl ?_|refine a0b (a0m rfl rfl rfl) rfl ?_)|(refine a1a ?_;first|refine a0b (a1p rfl rfl (by (first|exact w64 (by omega) (by omega)|rfl))) rfl ?_)|refine a0b (a0e rfl) rfl ?_|refine a0u ?_|refine a0z rfl rfl rfl (by first|exact ln0) (by repeat constructor) rfl ?_|refine a1c rfl rfl rfl rfl rfl (by repeat constructor) (by repeat constructor) ?_)|(first|refine a1n ?_|(refine a1o ?_;first|refine a0c (a0a ?_)|refine a0c ?_|refine a0a ?_|(refine a0x ?_;first|refine a0g rfl (by with_reducible rfl) ?_|refine a0h rfl (by with_reducible rfl) ?_)|refine a0n ?_|refine a0o ?_|refine a0k ?_|refine a1f ?_)|refine a0t ?_|refine a1q ?_|refine a2b ?_|refine a1d ?_|refine a1v ?_|refine a1b ?_|refine a1e ?_))
      refine a1y (k + 1) (.of (a2n [_] rfl (by repeat constructor) rfl (by repeat constructor) rfl)) ?_ ?_
      · exact ⟨by omega, hTk⟩
      · omega
  · rw [List.drop_eq_nil_of_le (by omega), getP] at hTk
    repeat' (first|((refine a1a ?_;first|refine a0b (a1l rfl rfl rfl (by omega)) rfl ?_|refine a0b (a1m rfl rfl rfl (by omega)) rfl ?_))|(refine a2k ?_;first|refine a0b (a0l rfl) rfl ?_|refine a0b (a0f rfl rfl) rfl ?_|(refine a1g ?_;first|refine a0b (a0w rfl rfl) rfl ?_|refine a0b (a0m rfl rfl rfl) rfl ?_)|(refine a1a ?_;first|refine a0b (a1p rfl rfl (by (first|exact w64 (by omega) (by omega)|rfl))) rfl ?_)|refine a0b (a0e rfl) rfl ?_|refine a0u ?_|refine a0z rfl rfl rfl (by first|exact ln0) (by repeat constructor) rfl ?_|refine a1c rfl rfl rfl rfl rfl (by repeat constructor) (by repeat constructor) ?_)|(first|refine a1n ?_|(refine a1o ?_;first|refine a0c (a0a ?_)|refine a0c ?_|refine a0a ?_|(refine a0x ?_;first|refine a0g rfl (by with_reducible rfl) ?_|refine a0h rfl (by with_reducible rfl) ?_)|refine a0n ?_|refine a0o ?_|refine a0k ?_|refine a1f ?_)|refine a0t ?_|refine a1q ?_|refine a2b ?_|refine a1d ?_|refine a1v ?_|refine a1b ?_|refine a1e ?_))
    refine ret2 (by first | exact .inr rfl | exact .inl rfl) rfl rfl rfl ?_
    exact ⟨by rw [hTk]; rfl, rfl⟩
abbrev cooO (ver : Nat) (xs : List (List AV)) : List AO := [.box [.os 1 ver], .row 90 2 ver 0 xs]
theorem b3v (p : List UInt8) : (cookP p).length ≤ 1 := by unfold cookP; split <;> simp
set_option maxHeartbeats 2000000 in
theorem c1w {p : List UInt8} {at' : Int} {ver : Nat} {xs : List (List AV)} (hG : Glob w0 base) (hp : p.length ≤ 65536) (hx : xs.length ≤ 65536) :
    ACalls (EE w0 base) 139 [.str p, .int .i64 at', .op 0 0] (cooO ver xs) fun rv os => ∃ ver', rv = .bool (decide ((xs ++ (cookP p).map prAV).length < 32)) ∧ os = cooO ver' (xs ++ (cookP p).map prAV) := by
  have hT : PCalls (EE w0 base) 89 [.str p, .str [32, 9]] fun rv => rv = .str (Lib.trimS p [32, 9]) := b6h (by omega)
  have htl := a8l p
  have hC := b4n (w0 := w0) (base := base) (s := Lib.trimS p [32, 9]) (p := [61]) hG (by omega)
  obtain ⟨k, v, e, hc⟩ : ∃ k v e, Lib.cut (Lib.trimS p [32, 9]) [61] = (k, v, e) := ⟨_, _, _, rfl⟩
  have hck : cookP p = if e = true then [(k, v)] else [] := by unfold cookP; rw [hc]
  rw [hc] at hC
  dsimp only at hC
  refine a1s Tryz.func139 rfl rfl rfl (.cons (.cons (.cons .nil))) ?_
  cases e with
  | true =>
    rw [if_pos rfl] at hck
    rw [hck]
    by_cases h32 : (xs ++ [prAV (k, v)]).length < 32
    · have hl := h32
      rw [List.length_append, List.length_singleton] at hl
      repeat' (first|(first|(refine a0d ?_;refine a0q rfl rfl rfl rfl hT ?_;rintro _ rfl)|(refine a0d ?_;refine a0q rfl rfl rfl rfl hC ?_;rintro _ rfl)|(refine a0d ?_;refine a4d rfl rfl (by repeat constructor) (a6q rfl rfl) rfl (by decide) (by simp only [List.length_cons,List.length_nil];omega) rfl ?_)|(refine a1a ?_;first|refine a0b (a1l rfl rfl rfl (by simp only [List.length_append,List.length_cons,List.length_nil];omega)) rfl ?_))|(refine a2k ?_;first|refine a0b (a0l rfl) rfl ?_|(refine a1g ?_;first|refine a0b (a0w rfl rfl) rfl ?_)|refine a0b (a0e rfl) rfl ?_|(refine a0d ?_;first|refine a0b (a3m rfl rfl rfl) rfl ?_)|refine a0b (a0s rfl rfl) rfl ?_|refine a0u ?_|refine a1c rfl rfl rfl rfl rfl (by repeat constructor) (by repeat constructor) ?_|refine a0b (a1x rfl rfl rfl (by repeat constructor)) rfl ?_|refine a2e (by rfl) (by rfl) (by rfl) (by rfl) (by decide) (by decide) (by rfl) (by rfl) (by repeat constructor) (by rfl) (by repeat constructor) (by rfl) (by first|exact ln2) (by repeat constructor) rfl ?_)|(first|refine a1n ?_|(refine a1o ?_;first|refine a0c (a0a ?_)|refine a0c ?_|refine a0a ?_|(refine a0x ?_;first|refine a0g rfl (by with_reducible rfl) ?_|refine a0h rfl (by with_reducible rfl) ?_)|refine a0o ?_|refine a0k ?_)))
      refine a2m (.of (Wk'.drop (H := [_, _]) (sl' := [(5, _)]) (ex := [_]) (.cons rfl .nil) rfl (by repeat constructor) rfl)) ?_
      refine ret1 (by first | exact .inr rfl | exact .inl rfl) rfl rfl ?_
      exact ⟨ver + 1, congrArg AV.bool (decide_eq_true h32).symm, rfl⟩
    · have hl := h32
      rw [List.length_append, List.length_singleton] at hl
      repeat' (first|(first|(refine a0d ?_;refine a0q rfl rfl rfl rfl hT ?_;rintro _ rfl)|(refine a0d ?_;refine a0q rfl rfl rfl rfl hC ?_;rintro _ rfl)|(refine a0d ?_;refine a4d rfl rfl (by repeat constructor) (a6q rfl rfl) rfl (by decide) (by simp only [List.length_cons,List.length_nil];omega) rfl ?_)|(refine a1a ?_;first|refine a0b (a1m rfl rfl rfl (by simp only [List.length_append,List.length_cons,List.length_nil];omega)) rfl ?_))|(refine a2k ?_;first|refine a0b (a0l rfl) rfl ?_|(refine a1g ?_;first|refine a0b (a0w rfl rfl) rfl ?_)|refine a0b (a0e rfl) rfl ?_|(refine a0d ?_;first|refine a0b (a3m rfl rfl rfl) rfl ?_)|refine a0b (a0s rfl rfl) rfl ?_|refine a0u ?_|refine a1c rfl rfl rfl rfl rfl (by repeat constructor) (by repeat constructor) ?_|refine a0b (a1x rfl rfl rfl (by repeat constructor)) rfl ?_|refine a2e (by rfl) (by rfl) (by rfl) (by rfl) (by decide) (by decide) (by rfl) (by rfl) (by repeat constructor) (by rfl) (by repeat constructor) (by rfl) (by first|exact ln2) (by repeat constructor) rfl ?_)|(first|refine a1n ?_|(refine a1o ?_;first|refine a0c (a0a ?_)|refine a0c ?_|refine a0a ?_|(refine a0x ?_;first|refine a0g rfl (by with_reducible rfl) ?_|refine a0h rfl (by with_reducible rfl) ?_)|refine a0o ?_|refine a0k ?_)))
      refine a2m (.of (Wk'.drop (H := [_, _]) (sl' := [(5, _)]) (ex := [_]) (.cons rfl .nil) rfl (by repeat constructor) rfl)) ?_
      refine ret1 (by first | exact .inr rfl | exact .inl rfl) rfl rfl ?_
      exact ⟨ver + 1, congrArg AV.bool (decide_eq_false h32).symm, rfl⟩
  | false =>
    rw [if_neg (by decide)] at hck
    rw [hck, List.map_nil, List.append_nil]
    by_cases h32 : xs.length < 32
    · repeat' (first|(first|(refine a0d ?_;refine a0q rfl rfl rfl rfl hT ?_;rintro _ rfl)|(refine a0d ?_;refine a0q rfl rfl rfl rfl hC ?_;rintro _ rfl)|(refine a1a ?_;first|refine a0b (a1l rfl rfl rfl (by omega)) rfl ?_))|(refine a2k ?_;first|refine a0b (a0l rfl) rfl ?_|(refine a1g ?_;first|refine a0b (a0w rfl rfl) rfl ?_)|refine a0b (a0e rfl) rfl ?_|(refine a0d ?_;first|refine a0b (a3m rfl rfl rfl) rfl ?_)|refine a0b (a0s rfl rfl) rfl ?_|refine a0u ?_|refine a1c rfl rfl rfl rfl rfl (by repeat constructor) (by repeat constructor) ?_|refine a0b (a1x rfl rfl rfl (by repeat constructor)) rfl ?_|refine a2e (by rfl) (by rfl) (by rfl) (by rfl) (by decide) (by decide) (by rfl) (by rfl) (by repeat constructor) (by rfl) (by repeat constructor) (by rfl) (by first|exact ln2) (by repeat constructor) rfl ?_)|(first|refine a1n ?_|(refine a1o ?_;first|refine a0c (a0a ?_)|refine a0c ?_|refine a0a ?_|(refine a0x ?_;first|refine a0g rfl (by with_reducible rfl) ?_|refine a0h rfl (by with_reducible rfl) ?_)|refine a0o ?_|refine a0k ?_)))
      refine ret1 (by first | exact .inr rfl | exact .inl rfl) rfl rfl ?_
      exact ⟨ver, by rw [decide_eq_true h32], rfl⟩
    · repeat' (first|(first|(refine a0d ?_;refine a0q rfl rfl rfl rfl hT ?_;rintro _ rfl)|(refine a0d ?_;refine a0q rfl rfl rfl rfl hC ?_;rintro _ rfl)|(refine a1a ?_;first|refine a0b (a1m rfl rfl rfl (by omega)) rfl ?_))|(refine a2k ?_;first|refine a0b (a0l rfl) rfl ?_|(refine a1g ?_;first|refine a0b (a0w rfl rfl) rfl ?_)|refine a0b (a0e rfl) rfl ?_|(refine a0d ?_;first|refine a0b (a3m rfl rfl rfl) rfl ?_)|refine a0b (a0s rfl rfl) rfl ?_|refine a0u ?_|refine a1c rfl rfl rfl rfl rfl (by repeat constructor) (by repeat constructor) ?_|refine a0b (a1x rfl rfl rfl (by repeat constructor)) rfl ?_|refine a2e (by rfl) (by rfl) (by rfl) (by rfl) (by decide) (by decide) (by rfl) (by rfl) (by repeat constructor) (by rfl) (by repeat constructor) (by rfl) (by first|exact ln2) (by repeat constructor) rfl ?_)|(first|refine a1n ?_|(refine a1o ?_;first|refine a0c (a0a ?_)|refine a0c ?_|refine a0a ?_|(refine a0x ?_;first|refine a0g rfl (by with_reducible rfl) ?_|refine a0h rfl (by with_reducible rfl) ?_)|refine a0o ?_|refine a0k ?_)))
      refine ret1 (by first | exact .inr rfl | exact .inl rfl) rfl rfl ?_
      exact ⟨ver, by rw [decide_eq_false h32], rfl⟩
set_option maxHeartbeats 2000000 in
theorem c3z {s : List UInt8} (hs : s.length ≤ 65536) (hG : Glob w0 base) :
    ACalls (EE w0 base) 128 [.str s, .int .u8 59, .fn 139 [.op 0 0]] (cooO 0 []) fun rv os => ∃ ver', rv = .tup [] ∧ os = cooO ver' ((cookies s).map prAV) := by
  refine a1s Tryz.func128 rfl rfl rfl (.cons (.cons (.cons .nil))) ?_
  obtain ⟨T, hT⟩ : ∃ T, T = cookies s := ⟨_, rfl⟩
  rw [← hT]
  repeat' (first|(refine a2k ?_;first|refine a0b (a0l rfl) rfl ?_|(refine a1a ?_;first|refine a0b (a1h rfl rfl rfl) rfl ?_|refine a0b (a1p rfl rfl (by (first|exact w64 (by omega) (by omega)|rfl))) rfl ?_)|refine a0b (a0e rfl) rfl ?_|refine a0u ?_|refine a0b (a0y rfl (by with_reducible rfl)) rfl ?_|refine a0b (a1r rfl (by with_reducible rfl)) rfl ?_)|(first|refine a1n ?_|(refine a1o ?_;first|refine a0c (a0a ?_)|refine a0c ?_|refine a0a ?_|(refine a0x ?_;first|refine a0g rfl (by with_reducible rfl) ?_|refine a0h rfl (by with_reducible rfl) ?_|(refine a0r rfl (fun hc => ?_) (fun hc => ?_) <;> (try (exfalso;omega))))|refine a0n ?_|refine a0o ?_|refine a0k ?_)|refine a0t ?_|refine a2b ?_|refine a1v ?_|refine a1b ?_))
  refine a2o (fun p : Nat × Nat × Fs × List (List AV) => ⟨[(0, .str s), (1, .int .u8 59), (2, .fn 139 [.op 0 0]), (6, .int .i64 p.1)], cooO p.2.1 p.2.2.2⟩)
    (fun p => p.1 ≤ s.length ∧ p.2.2.1.length ≤ 31 ∧ p.2.2.2 = p.2.2.1.map prAV ∧ T = cookGo (splitB 59 (s.drop p.1)) p.2.2.1) (fun p => s.length - p.1) (0, 0, [], []) (.of (.same (by repeat constructor))) ⟨Nat.zero_le _, Nat.zero_le _, rfl, hT⟩ ?_
  rintro ⟨i, ver, out, xs⟩ ⟨hi, hx, hxs, hTi⟩
  dsimp only at hi hx hxs hTi ⊢
  subst hxs
  have hol : (out.map prAV).length = out.length := List.length_map _
  have hdl : (s.drop i).length = s.length - i := List.length_drop
  have hib : PCalls (EE w0 base) 147 [.str (s.drop (i : Int).toNat), .int .u8 59] fun rv => rv = .int .i64 (Lib.indexByte (s.drop i) 59) := a4n (c := 59)
  have hge := Lib.indexByte_ge (s.drop i) 59
  have hmap : ∀ q, out.map prAV ++ (cookP q).map prAV = (out ++ cookP q).map prAV := fun q => by rw [List.map_append]
  by_cases hneg : Lib.indexByte (s.drop i) 59 = -1
  · rw [hneg] at hib
    have hno : (59 : UInt8) ∉ s.drop i := fun hm => by
      obtain ⟨j, hj, he⟩ := a7m hm
      exact Lib.indexByte_none hneg j he
    rw [a6r hno, cookGo] at hTi
    have hTq : T = out ++ cookP (s.drop i) := by
      rw [hTi]
      split
      · rfl
      · rfl
    repeat' (first|(first|(refine a0d ?_;refine a0q rfl rfl rfl rfl hib ?_;rintro _ rfl)|refine a0b (a2u rfl rfl (by omega) (by omega)) rfl ?_|(refine a0d ?_;refine a0v [0,1] rfl rfl (c1w (p := s.drop i) (at' := i) (ver := ver) (xs := out.map prAV) hG (by omega) (by omega)) (by repeat constructor) (by repeat constructor) rfl rfl ?_;rintro _ _ ⟨ver',rfl,rfl⟩;refine ⟨_,_,by repeat constructor,by repeat constructor,?_⟩))|(refine a2k ?_;first|refine a0b (a0l rfl) rfl ?_|(refine a1a ?_;first|refine a0b (a1h rfl rfl rfl) rfl ?_|refine a0b (a1p rfl rfl (by (first|exact w64 (by omega) (by omega)|rfl))) rfl ?_)|refine a0b (a0e rfl) rfl ?_|refine a0u ?_|refine a0b (a0y rfl (by with_reducible rfl)) rfl ?_|refine a0b (a1r rfl (by with_reducible rfl)) rfl ?_)|(first|refine a1n ?_|(refine a1o ?_;first|refine a0c (a0a ?_)|refine a0c ?_|refine a0a ?_|(refine a0x ?_;first|refine a0g rfl (by with_reducible rfl) ?_|refine a0h rfl (by with_reducible rfl) ?_|(refine a0r rfl (fun hc => ?_) (fun hc => ?_) <;> (try (exfalso;omega))))|refine a0n ?_|refine a0o ?_|refine a0k ?_)|refine a0t ?_|refine a2b ?_|refine a1v ?_|refine a1b ?_))
    refine ret0 (by first | exact .inr rfl | exact .inl rfl) rfl ⟨ver', rfl, by rw [hTq, hmap]; rfl⟩
  · obtain ⟨o, ho⟩ : ∃ o : Nat, Lib.indexByte (s.drop i) 59 = o := ⟨(Lib.indexByte (s.drop i) 59).toNat, by omega⟩
    rw [ho] at hib
    obtain ⟨g1, g2⟩ := Lib.indexByte_some ho
    rw [List.getElem?_drop] at g1
    have hio : i + o < s.length := (List.getElem?_eq_some_iff.1 g1).1
    have hni : (59 : UInt8) ∉ (s.take (i + o)).drop i := a9h fun j h1 h2 hj => g2 (j - i) (by omega) (by rw [List.getElem?_drop, show i + (j - i) = j by omega]; exact hj)
    have hpl : ((s.take (i + o)).drop i).length = o := by simp; omega
    rw [b6n (by omega) g1, a6s hni, cookGo] at hTi
    have hcl := b3v ((s.take (i + o)).drop i)
    by_cases h32 : (out ++ cookP ((s.take (i + o)).drop i)).length < 32
    · rw [if_pos h32] at hTi
      have hdec : decide ((out.map prAV ++ (cookP ((s.take (i + o)).drop i)).map prAV).length < 32) = true := decide_eq_true (by rw [hmap, List.length_map]; exact h32)
      repeat' (first|(first|(refine a0d ?_;refine a0q rfl rfl rfl rfl hib ?_;rintro _ rfl)|refine a0b (a2u rfl rfl (by omega) (by omega)) rfl ?_|refine a0b (a6g rfl rfl rfl (by omega) (by omega) (by omega)) rfl ?_|(refine a0d ?_;refine a0v [0,1] rfl rfl (c1w (p := (s.take (i + o)).drop i) (at' := i) (ver := ver) (xs := out.map prAV) hG (by omega) (by omega)) (by repeat constructor) (by repeat constructor) rfl rfl ?_;rintro _ _ ⟨ver',rfl,rfl⟩;rw [hdec];refine ⟨_,_,by repeat constructor,by repeat constructor,?_⟩))|(refine a2k ?_;first|refine a0b (a0l rfl) rfl ?_|(refine a1a ?_;first|refine a0b (a1h rfl rfl rfl) rfl ?_|refine a0b (a1p rfl rfl (by (first|exact w64 (by omega) (by omega)|rfl))) rfl ?_)|refine a0b (a0e rfl) rfl ?_|refine a0u ?_|refine a0b (a0y rfl (by with_reducible rfl)) rfl ?_|refine a0b (a1r rfl (by with_reducible rfl)) rfl ?_)|(first|refine a1n ?_|(refine a1o ?_;first|refine a0c (a0a ?_)|refine a0c ?_|refine a0a ?_|(refine a0x ?_;first|refine a0g rfl (by with_reducible rfl) ?_|refine a0h rfl (by with_reducible rfl) ?_|(refine a0r rfl (fun hc => ?_) (fun hc => ?_) <;> (try (exfalso;omega))))|refine a0n ?_|refine a0o ?_|refine a0k ?_)|refine a0t ?_|refine a2b ?_|refine a1v ?_|refine a1b ?_))
      first | refine a1y (i + (o + 1), ver', out ++ cookP ((s.take (i + o)).drop i), _) (.of (.same (by repeat constructor))) ?_ ?_ | fail
      · exact ⟨by dsimp only; omega, by dsimp only; omega, hmap _, hTi⟩
      · dsimp only; omega
    · rw [if_neg h32] at hTi
      have hdec : decide ((out.map prAV ++ (cookP ((s.take (i + o)).drop i)).map prAV).length < 32) = false := decide_eq_false (by rw [hmap, List.length_map]; exact h32)
      repeat' (first|(first|(refine a0d ?_;refine a0q rfl rfl rfl rfl hib ?_;rintro _ rfl)|refine a0b (a2u rfl rfl (by omega) (by omega)) rfl ?_|refine a0b (a6g rfl rfl rfl (by omega) (by omega) (by omega)) rfl ?_|(refine a0d ?_;refine a0v [0,1] rfl rfl (c1w (p := (s.take (i + o)).drop i) (at' := i) (ver := ver) (xs := out.map prAV) hG (by omega) (by omega)) (by repeat constructor) (by repeat constructor) rfl rfl ?_;rintro _ _ ⟨ver',rfl,rfl⟩;rw [hdec];refine ⟨_,_,by repeat constructor,by repeat constructor,?_⟩))|(refine a2k ?_;first|refine a0b (a0l rfl) rfl ?_|(refine a1a ?_;first|refine a0b (a1h rfl rfl rfl) rfl ?_|refine a0b (a1p rfl rfl (by (first|exact w64 (by omega) (by omega)|rfl))) rfl ?_)|refine a0b (a0e rfl) rfl ?_|refine a0u ?_|refine a0b (a0y rfl (by with_reducible rfl)) rfl ?_|refine a0b (a1r rfl (by with_reducible rfl)) rfl ?_)|(first|refine a1n ?_|(refine a1o ?_;first|refine a0c (a0a ?_)|refine a0c ?_|refine a0a ?_|(refine a0x ?_;first|refine a0g rfl (by with_reducible rfl) ?_|refine a0h rfl (by with_reducible rfl) ?_|(refine a0r rfl (fun hc => ?_) (fun hc => ?_) <;> (try (exfalso;omega))))|refine a0n ?_|refine a0o ?_|refine a0k ?_)|refine a0t ?_|refine a2b ?_|refine a1v ?_|refine a1b ?_))
      refine ret0 (by first | exact .inr rfl | exact .inl rfl) rfl ⟨ver', rfl, by rw [hTi, hmap]; rfl⟩
theorem b9g {s : List UInt8} (hs : s.length ≤ 65536) (hG : Glob w0 base) : PCalls (EE w0 base) 92 [.str s] fun rv => rv = .rs ((cookies s).map prAV) := by
  refine a1s Tryz.func92 rfl rfl rfl (.cons .nil) ?_
  repeat' (first|(first|refine a0b (a5e rfl) rfl ?_|(refine a4j (.adoptBox (id := 0) (k := 0) (e := 90) (sz := 2) rfl rfl (by decide) rfl rfl rfl) ?_;refine a0v [0,1] rfl rfl (c3z hs hG) (by repeat constructor) (by repeat constructor) rfl rfl ?_;rintro _ _ ⟨ver',rfl,rfl⟩;refine ⟨_,_,by repeat constructor,by repeat constructor,?_⟩))|(refine a2k ?_;first|refine a0b (a0l rfl) rfl ?_|(refine a1g ?_;first|refine a0b (a0w rfl rfl) rfl ?_)|refine a0b (a0e rfl) rfl ?_|refine a0u ?_|refine a0z rfl rfl rfl (by first|exact ln0) (by repeat constructor) rfl ?_)|(first|refine a1n ?_|(refine a1o ?_;first|refine a0c (a0a ?_)|refine a0c ?_|refine a0a ?_|refine a0o ?_)))
  refine a2m (.freeze 2 rfl (by repeat constructor)) ?_
  refine ret1 (by first | exact .inr rfl | exact .inl rfl) rfl rfl ?_
  exact ⟨rfl, rfl⟩
end
end Go.Proofs.YtkljmljkiodnpaaGreatDoor.L

namespace Go.Proofs.YtkljmljkiodnpaaGreatDoor.L
open Go Go.RowKit Go.Proofs
attribute [local irreducible] AL QL AWp Thn InB RetQ ACalls LoopQ HL HO HW HQ NoG JmpQ MidQ HF

abbrev reqAV (h : Hd) (b : List UInt8) : AV := .agg [.str h.m, .str h.t, .int .i64 h.v, .rs (h.fs.map prAV), .str (tgtP h.t), .rs ((tgtQ h.t).map prAV), .str b, .bool (closesS h)]
def nextR (s : List UInt8) (st : Int) : AV := if st ≠ 0 then .tup [.agg [.str s, .int .i64 st], req0, .bool false, .int .i64 st] else match nextL s with
  | .more => .tup [.agg [.str s, .int .i64 0], req0, .bool false, .int .i64 0]
  | .bad st => .tup [.agg [.str [], .int .i64 st], req0, .bool false, .int .i64 st]
  | .got h b k => .tup [.agg [.str (s.drop k), .int .i64 0], reqAV h b, .bool true, .int .i64 0]
section
variable {w0 : World} {base : Nat}
end
end Go.Proofs.YtkljmljkiodnpaaGreatDoor.L

namespace Go.Proofs.YtkljmljkiodnpaaGreatDoor.L
open Go Go.RowKit Go.Proofs
attribute [local irreducible] AL QL AWp Thn InB RetQ ACalls LoopQ HL HO HW HQ NoG JmpQ MidQ HF

def nextV (s : List UInt8) (st : Int) : AV × List UInt8 × Int := if st ≠ 0 then (.tup [req0, .bool false, .int .i64 st], s, st) else match nextL s with
  | .more => (.tup [req0, .bool false, .int .i64 0], s, 0)
  | .bad st => (.tup [req0, .bool false, .int .i64 st], [], st)
  | .got h b k => (.tup [reqAV h b, .bool true, .int .i64 0], s.drop k, 0)
section
variable {w0 : World} {base : Nat}
set_option maxHeartbeats 8000000 in
theorem c6t {s : List UInt8} {st : Int} (hG : Glob w0 base) (hs : s.length ≤ 4294967200) : ACalls (EE w0 base) 32 [.op 0 0] [parO true s st] fun rv os => rv = (nextV s st).1 ∧ ∃ ex, os = parO true (nextV s st).2.1 (nextV s st).2.2 :: ex := by
  refine a1s Tryz.func32 rfl rfl rfl (.cons .nil) ?_
  unfold nextV
  by_cases hst : st = 0
  · rw [if_neg (fun k => k hst)]
    subst hst
    have hI := c5j (w0 := w0) (base := base) (s := s) (p := crlf2) hG (by omega)
    unfold nextL
    rcases b2b s with hx | ⟨i, hx, hi4⟩
    · rw [hx] at hI
      rw [hx, if_pos (by decide)]
      by_cases hbig : 4096 < s.length
      · rw [if_pos hbig]
        repeat' (first|(first|(refine a0d ?_;refine a0v [0] rfl rfl (a4f (is := true) (s := s) (st := 0)) (by repeat constructor) (by repeat constructor) rfl rfl ?_;rintro _ _ ⟨rfl,rfl⟩;refine ⟨_,_,by repeat constructor,by repeat constructor,?_⟩)|refine a0b (a1k (n := 0) rfl rfl) rfl ?_|(refine a0d ?_;refine a0q rfl rfl rfl rfl hI ?_;rintro _ rfl)|(refine a0d ?_;refine a0v [0] rfl rfl (a8u (s := s) (st := 0) (st' := 431)) (by repeat constructor) (by repeat constructor) rfl rfl ?_;rintro _ _ ⟨rfl,rfl⟩;refine ⟨_,_,by repeat constructor,by repeat constructor,?_⟩))|(refine a2k ?_;first|refine a0b (a0l rfl) rfl ?_|(refine k_g ?_;first|refine a1j rfl rfl (by with_reducible rfl) ?_)|refine a0b (a0f rfl rfl) rfl ?_|(refine a1g ?_;first|refine a0b (a0w rfl rfl) rfl ?_|refine a0b (a0m rfl rfl rfl) rfl ?_)|(refine a1a ?_;first|refine a0b (a1h rfl rfl rfl) rfl ?_|refine a0b (a1p rfl rfl (by (first|exact w64 (by omega) (by omega)|rfl))) rfl ?_)|(refine a1i ?_;first|refine a0b (a0i rfl (by with_reducible rfl) rfl) rfl ?_)|refine a0b (a0e rfl) rfl ?_|(refine a0d ?_;first|refine a0b (a0p rfl) rfl ?_)|refine a0b (a0s rfl rfl) rfl ?_|refine a0u ?_|refine a0z rfl rfl rfl (by first|exact ln1|exact ln2) (by repeat constructor) rfl ?_|refine a1c rfl rfl rfl rfl rfl (by repeat constructor) (by repeat constructor) ?_|refine a0b (a1x rfl rfl rfl (by repeat constructor)) rfl ?_|refine a0b (a0y rfl (by with_reducible rfl)) rfl ?_|refine a0b (a3h rfl) rfl ?_)|(first|refine a1n ?_|(refine a1o ?_;first|refine a0c (a0a ?_)|refine a0c ?_|refine a0a ?_|(refine a0x ?_;first|refine a0g rfl (by with_reducible rfl) ?_|refine a0h rfl (by with_reducible rfl) ?_|(refine a0r rfl (fun hc => ?_) (fun hc => ?_) <;> (try (exfalso;omega))))|refine a0n ?_|refine a0o ?_|refine a0k ?_)|refine a0t ?_|refine a1v ?_|refine a1b ?_))
        refine retc2 (by first | exact .inr rfl | exact .inl rfl) rfl rfl rfl rfl rfl rfl ?_
        exact ⟨rfl, _, rfl⟩
      · rw [if_neg hbig]
        repeat' (first|(first|(refine a0d ?_;refine a0v [0] rfl rfl (a4f (is := true) (s := s) (st := 0)) (by repeat constructor) (by repeat constructor) rfl rfl ?_;rintro _ _ ⟨rfl,rfl⟩;refine ⟨_,_,by repeat constructor,by repeat constructor,?_⟩)|refine a0b (a1k (n := 0) rfl rfl) rfl ?_|(refine a0d ?_;refine a0q rfl rfl rfl rfl hI ?_;rintro _ rfl))|(refine a2k ?_;first|refine a0b (a0l rfl) rfl ?_|(refine k_g ?_;first|refine a1j rfl rfl (by with_reducible rfl) ?_)|refine a0b (a0f rfl rfl) rfl ?_|(refine a1g ?_;first|refine a0b (a0w rfl rfl) rfl ?_|refine a0b (a0m rfl rfl rfl) rfl ?_)|(refine a1a ?_;first|refine a0b (a1h rfl rfl rfl) rfl ?_|refine a0b (a1p rfl rfl (by (first|exact w64 (by omega) (by omega)|rfl))) rfl ?_)|(refine a1i ?_;first|refine a0b (a0i rfl (by with_reducible rfl) rfl) rfl ?_)|refine a0b (a0e rfl) rfl ?_|(refine a0d ?_;first|refine a0b (a0p rfl) rfl ?_)|refine a0b (a0s rfl rfl) rfl ?_|refine a0u ?_|refine a0z rfl rfl rfl (by first|exact ln1|exact ln2) (by repeat constructor) rfl ?_|refine a1c rfl rfl rfl rfl rfl (by repeat constructor) (by repeat constructor) ?_|refine a0b (a1x rfl rfl rfl (by repeat constructor)) rfl ?_|refine a0b (a0y rfl (by with_reducible rfl)) rfl ?_|refine a0b (a3h rfl) rfl ?_)|(first|refine a1n ?_|(refine a1o ?_;first|refine a0c (a0a ?_)|refine a0c ?_|refine a0a ?_|(refine a0x ?_;first|refine a0g rfl (by with_reducible rfl) ?_|refine a0h rfl (by with_reducible rfl) ?_|(refine a0r rfl (fun hc => ?_) (fun hc => ?_) <;> (try (exfalso;omega))))|refine a0n ?_|refine a0o ?_|refine a0k ?_)|refine a0t ?_|refine a1v ?_|refine a1b ?_))
        refine a2m (.boxLe (id := 1) [.str [], .str [], .int .i64 0, .rs [], .str [], .rs [], .str [], .bool false] rfl (.cons (.refl _) (.cons (.refl _) (.cons (.refl _) (.cons .nil (.cons (.refl _) (.cons .nil (.cons (.refl _) (.cons (.refl _) .nil)))))))) rfl) ?_
        refine retc2 (by first | exact .inr rfl | exact .inl rfl) rfl rfl rfl rfl rfl rfl ?_
        exact ⟨rfl, _, rfl⟩
    · rw [hx] at hI
      rw [hx, if_neg (by omega), Int.toNat_natCast]
      have hP := c5f (w0 := w0) (base := base) (s := s.take (i + 4)) hG
      have hg : (headParse (s.take (i + 4))).2.1 = 0 → GoodH (headParse (s.take (i + 4))).1 := a6k
      unfold prR at hP
      revert hP hg
      generalize headParse (s.take (i + 4)) = r
      intro hP hg
      obtain ⟨h, st, fl⟩ := r
      dsimp only at hP hg ⊢
      by_cases hst : st = 0
      · rw [if_neg (fun k => k hst)]
        subst hst
        have hg := hg rfl
        have hrg := a9x h
        have hB := c7c (w0 := w0) (base := base) hg.tiny
        have hC := c2l (w0 := w0) (base := base) (s := s) (at' := i + 4) hi4 (by omega)
        have hcf := a5q s (s.length + 1) [] (i + 4) hi4
        have hT := b6i (w0 := w0) (base := base) (s := h.t) (by have := hg.tlen; omega) hG
        have hCl := c2k (w0 := w0) (base := base) hG hg.tiny
        unfold bodyAt
        unfold bodR at hB
        revert hB hrg
        obtain ⟨k, n, st⟩ := bodyS h
        dsimp only
        intro hrg hB
        obtain ⟨n, rfl⟩ : ∃ m : Nat, n = m := ⟨n.toNat, by omega⟩
        rw [Int.toNat_natCast]
        by_cases h1 : st = 0
        · rw [if_neg (fun k => k h1)]
          by_cases h2 : k = 1
          · rw [if_pos h2]
            by_cases h3 : s.length < i + 4 + n
            · rw [if_pos h3]
              repeat' (first|(first|(refine a0d ?_;refine a0v [0] rfl rfl (a4f (is := true) (s := s) (st := 0)) (by repeat constructor) (by repeat constructor) rfl rfl ?_;rintro _ _ ⟨rfl,rfl⟩;refine ⟨_,_,by repeat constructor,by repeat constructor,?_⟩)|refine a0b (a1k (n := 0) rfl rfl) rfl ?_|(refine a0d ?_;refine a0q rfl rfl rfl rfl hI ?_;rintro _ rfl)|refine a0b (a3t rfl rfl (by omega) (by omega)) rfl ?_|(refine a0d ?_;refine a0q rfl rfl rfl rfl hP ?_;rintro _ rfl)|(refine a0d ?_;refine a0q rfl rfl rfl rfl hB ?_;rintro _ rfl))|(refine a2k ?_;first|refine a0b (a0l rfl) rfl ?_|(refine k_g ?_;first|refine a1j rfl rfl (by with_reducible rfl) ?_)|refine a0b (a0f rfl rfl) rfl ?_|(refine a1g ?_;first|refine a0b (a0w rfl rfl) rfl ?_|refine a0b (a0m rfl rfl rfl) rfl ?_)|(refine a1a ?_;first|refine a0b (a1h rfl rfl rfl) rfl ?_|refine a0b (a1p rfl rfl (by (first|exact w64 (by omega) (by omega)|rfl))) rfl ?_)|(refine a1i ?_;first|refine a0b (a0i rfl (by with_reducible rfl) rfl) rfl ?_)|refine a0b (a0e rfl) rfl ?_|(refine a0d ?_;first|refine a0b (a0p rfl) rfl ?_)|refine a0b (a0s rfl rfl) rfl ?_|refine a0u ?_|refine a0z rfl rfl rfl (by first|exact ln1|exact ln2) (by repeat constructor) rfl ?_|refine a1c rfl rfl rfl rfl rfl (by repeat constructor) (by repeat constructor) ?_|refine a0b (a1x rfl rfl rfl (by repeat constructor)) rfl ?_|refine a0b (a0y rfl (by with_reducible rfl)) rfl ?_|refine a0b (a3h rfl) rfl ?_)|(first|refine a1n ?_|(refine a1o ?_;first|refine a0c (a0a ?_)|refine a0c ?_|refine a0a ?_|(refine a0x ?_;first|refine a0g rfl (by with_reducible rfl) ?_|refine a0h rfl (by with_reducible rfl) ?_|(refine a0r rfl (fun hc => ?_) (fun hc => ?_) <;> (try (exfalso;omega))))|refine a0n ?_|refine a0o ?_|refine a0k ?_)|refine a0t ?_|refine a1v ?_|refine a1b ?_))
              refine a2m (.boxLe (id := 1) [.str [], .str [], .int .i64 0, .rs [], .str [], .rs [], .str [], .bool false] rfl (.cons (.refl _) (.cons (.refl _) (.cons (.refl _) (.cons .nil (.cons (.refl _) (.cons .nil (.cons (.refl _) (.cons (.refl _) .nil)))))))) rfl) ?_
              refine retc2 (by first | exact .inr rfl | exact .inl rfl) rfl rfl rfl rfl rfl rfl ?_
              exact ⟨rfl, _, rfl⟩
            · rw [if_neg h3]
              repeat' (first|(first|(refine a0d ?_;refine a0v [0] rfl rfl (a4f (is := true) (s := s) (st := 0)) (by repeat constructor) (by repeat constructor) rfl rfl ?_;rintro _ _ ⟨rfl,rfl⟩;refine ⟨_,_,by repeat constructor,by repeat constructor,?_⟩)|refine a0b (a1k (n := 0) rfl rfl) rfl ?_|(refine a0d ?_;refine a0q rfl rfl rfl rfl hI ?_;rintro _ rfl)|refine a0b (a3t rfl rfl (by omega) (by omega)) rfl ?_|(refine a0d ?_;refine a0q rfl rfl rfl rfl hP ?_;rintro _ rfl)|(refine a0d ?_;refine a0q rfl rfl rfl rfl hB ?_;rintro _ rfl)|refine a3b (id := 29) [(7,[1])] [⟨0,true,[],bl 10 62⟩,⟨1,true,[],bl 10 61⟩,⟨2,true,[],bl 10 59⟩,⟨3,true,[],bl 10 55⟩,⟨4,true,[],bl 10 15⟩,⟨5,false,[],[]⟩,⟨6,true,[],bl 10 63⟩,⟨7,false,[],[]⟩,⟨8,true,[],bl 10 255⟩,⟨9,true,[],bl 10 511⟩] (by kernel_rfl) (by kernel_rfl) rfl (by kernel_rfl) ?_|(refine a0d ?_;refine a0q rfl rfl rfl rfl hT ?_;rintro _ ⟨tp,tq,te,tk,rfl,he,hpq⟩;obtain rfl := he.2 hg.t;obtain ⟨rfl,rfl⟩ := hpq rfl)|(refine a0d ?_;refine a0q rfl rfl rfl rfl hCl ?_;rintro _ rfl)|refine a0b (a5d (i := i + 4) (j := i + 4 + n) rfl rfl rfl rfl (by omega) (by omega) (by omega) (by omega)) rfl ?_|refine a0b (a2u rfl rfl (by omega) (by omega)) rfl ?_)|(refine a2k ?_;first|refine a0b (a0l rfl) rfl ?_|(refine k_g ?_;first|refine a1j rfl rfl (by with_reducible rfl) ?_)|refine a0b (a0f rfl rfl) rfl ?_|(refine a1g ?_;first|refine a0b (a0w rfl rfl) rfl ?_|refine a0b (a0m rfl rfl rfl) rfl ?_)|(refine a1a ?_;first|refine a0b (a1h rfl rfl rfl) rfl ?_|refine a0b (a1p rfl rfl (by (first|exact w64 (by omega) (by omega)|rfl))) rfl ?_)|(refine a1i ?_;first|refine a0b (a0i rfl (by with_reducible rfl) rfl) rfl ?_)|refine a0b (a0e rfl) rfl ?_|(refine a0d ?_;first|refine a0b (a0p rfl) rfl ?_)|refine a0b (a0s rfl rfl) rfl ?_|refine a0u ?_|refine a0z rfl rfl rfl (by first|exact ln1|exact ln2) (by repeat constructor) rfl ?_|refine a1c rfl rfl rfl rfl rfl (by repeat constructor) (by repeat constructor) ?_|refine a0b (a1x rfl rfl rfl (by repeat constructor)) rfl ?_|refine a0b (a0y rfl (by with_reducible rfl)) rfl ?_|refine a0b (a3h rfl) rfl ?_)|(first|refine a1n ?_|(refine a1o ?_;first|refine a0c (a0a ?_)|refine a0c ?_|refine a0a ?_|(refine a0x ?_;first|refine a0g rfl (by with_reducible rfl) ?_|refine a0h rfl (by with_reducible rfl) ?_|(refine a0r rfl (fun hc => ?_) (fun hc => ?_) <;> (try (exfalso;omega))))|refine a0n ?_|refine a0o ?_|refine a0k ?_)|refine a0t ?_|refine a1v ?_|refine a1b ?_)|(first|(refine a7n ?_;first|refine a7p rfl ?_|refine a2c (a0l rfl) rfl ?_|refine a2c (a0e rfl) rfl ?_|refine a2c (a0f rfl rfl) rfl ?_|refine a2c (a0w rfl rfl) rfl ?_|refine a2c (a0m rfl rfl rfl) rfl ?_|refine a2c (a1h rfl rfl rfl) rfl ?_|refine a2c (a0i rfl (by with_reducible rfl) rfl) rfl ?_|refine a2c (a0p rfl) rfl ?_|refine a2c (a0s rfl rfl) rfl ?_|refine a2c (a1p rfl rfl (by (first|exact w64 (by omega) (by omega)|rfl))) rfl ?_|refine a2c (a0y rfl (by with_reducible rfl)) rfl ?_|refine a2c (a3h rfl) rfl ?_|refine a2c (a1x rfl rfl rfl (by repeat constructor)) rfl ?_)|refine a4o rfl ?_|(refine a7o ?_;first|refine a7q ?_)|refine a3r ?_|refine a3j ?_))
              refine retc2 (by first | exact .inr rfl | exact .inl rfl) rfl rfl rfl rfl rfl rfl ?_
              exact ⟨rfl, _, rfl⟩
          · rw [if_neg h2]
            by_cases h3 : k = 2
            · rw [if_pos h3]
              change CFacts s (i + 4) (chunksS s (i + 4)) at hcf
              revert hC hcf
              generalize chunksS s (i + 4) = z
              intro hC hcf
              cases z with
              | more =>
                repeat' (first|(first|(refine a0d ?_;refine a0v [0] rfl rfl (a4f (is := true) (s := s) (st := 0)) (by repeat constructor) (by repeat constructor) rfl rfl ?_;rintro _ _ ⟨rfl,rfl⟩;refine ⟨_,_,by repeat constructor,by repeat constructor,?_⟩)|refine a0b (a1k (n := 0) rfl rfl) rfl ?_|(refine a0d ?_;refine a0q rfl rfl rfl rfl hI ?_;rintro _ rfl)|refine a0b (a3t rfl rfl (by omega) (by omega)) rfl ?_|(refine a0d ?_;refine a0q rfl rfl rfl rfl hP ?_;rintro _ rfl)|(refine a0d ?_;refine a0q rfl rfl rfl rfl hB ?_;rintro _ rfl)|(refine a0d ?_;refine a0q rfl rfl rfl rfl hC ?_;rintro _ rfl))|(refine a2k ?_;first|refine a0b (a0l rfl) rfl ?_|(refine k_g ?_;first|refine a1j rfl rfl (by with_reducible rfl) ?_)|refine a0b (a0f rfl rfl) rfl ?_|(refine a1g ?_;first|refine a0b (a0w rfl rfl) rfl ?_|refine a0b (a0m rfl rfl rfl) rfl ?_)|(refine a1a ?_;first|refine a0b (a1h rfl rfl rfl) rfl ?_|refine a0b (a1p rfl rfl (by (first|exact w64 (by omega) (by omega)|rfl))) rfl ?_)|(refine a1i ?_;first|refine a0b (a0i rfl (by with_reducible rfl) rfl) rfl ?_)|refine a0b (a0e rfl) rfl ?_|(refine a0d ?_;first|refine a0b (a0p rfl) rfl ?_)|refine a0b (a0s rfl rfl) rfl ?_|refine a0u ?_|refine a0z rfl rfl rfl (by first|exact ln1|exact ln2) (by repeat constructor) rfl ?_|refine a1c rfl rfl rfl rfl rfl (by repeat constructor) (by repeat constructor) ?_|refine a0b (a1x rfl rfl rfl (by repeat constructor)) rfl ?_|refine a0b (a0y rfl (by with_reducible rfl)) rfl ?_|refine a0b (a3h rfl) rfl ?_)|(first|refine a1n ?_|(refine a1o ?_;first|refine a0c (a0a ?_)|refine a0c ?_|refine a0a ?_|(refine a0x ?_;first|refine a0g rfl (by with_reducible rfl) ?_|refine a0h rfl (by with_reducible rfl) ?_|(refine a0r rfl (fun hc => ?_) (fun hc => ?_) <;> (try (exfalso;omega))))|refine a0n ?_|refine a0o ?_|refine a0k ?_)|refine a0t ?_|refine a1v ?_|refine a1b ?_))
                refine a2m (.boxLe (id := 1) [.str [], .str [], .int .i64 0, .rs [], .str [], .rs [], .str [], .bool false] rfl (.cons (.refl _) (.cons (.refl _) (.cons (.refl _) (.cons .nil (.cons (.refl _) (.cons .nil (.cons (.refl _) (.cons (.refl _) .nil)))))))) rfl) ?_
                refine retc2 (by first | exact .inr rfl | exact .inl rfl) rfl rfl rfl rfl rfl rfl ?_
                exact ⟨rfl, _, rfl⟩
              | bad st' =>
                have hne : st' ≠ 0 := by rcases hcf with rfl | rfl <;> decide
                repeat' (first|(first|(refine a0d ?_;refine a0v [0] rfl rfl (a4f (is := true) (s := s) (st := 0)) (by repeat constructor) (by repeat constructor) rfl rfl ?_;rintro _ _ ⟨rfl,rfl⟩;refine ⟨_,_,by repeat constructor,by repeat constructor,?_⟩)|refine a0b (a1k (n := 0) rfl rfl) rfl ?_|(refine a0d ?_;refine a0q rfl rfl rfl rfl hI ?_;rintro _ rfl)|refine a0b (a3t rfl rfl (by omega) (by omega)) rfl ?_|(refine a0d ?_;refine a0q rfl rfl rfl rfl hP ?_;rintro _ rfl)|(refine a0d ?_;refine a0q rfl rfl rfl rfl hB ?_;rintro _ rfl)|(refine a0d ?_;refine a0q rfl rfl rfl rfl hC ?_;rintro _ rfl)|(refine a0d ?_;refine a0v [0] rfl rfl (a8u (s := s) (st := 0) (st' := st')) (by repeat constructor) (by repeat constructor) rfl rfl ?_;rintro _ _ ⟨rfl,rfl⟩;refine ⟨_,_,by repeat constructor,by repeat constructor,?_⟩))|(refine a2k ?_;first|refine a0b (a0l rfl) rfl ?_|(refine k_g ?_;first|refine a1j rfl rfl (by with_reducible rfl) ?_)|refine a0b (a0f rfl rfl) rfl ?_|(refine a1g ?_;first|refine a0b (a0w rfl rfl) rfl ?_|refine a0b (a0m rfl rfl rfl) rfl ?_)|(refine a1a ?_;first|refine a0b (a1h rfl rfl rfl) rfl ?_|refine a0b (a1p rfl rfl (by (first|exact w64 (by omega) (by omega)|rfl))) rfl ?_)|(refine a1i ?_;first|refine a0b (a0i rfl (by with_reducible rfl) rfl) rfl ?_)|refine a0b (a0e rfl) rfl ?_|(refine a0d ?_;first|refine a0b (a0p rfl) rfl ?_)|refine a0b (a0s rfl rfl) rfl ?_|refine a0u ?_|refine a0z rfl rfl rfl (by first|exact ln1|exact ln2) (by repeat constructor) rfl ?_|refine a1c rfl rfl rfl rfl rfl (by repeat constructor) (by repeat constructor) ?_|refine a0b (a1x rfl rfl rfl (by repeat constructor)) rfl ?_|refine a0b (a0y rfl (by with_reducible rfl)) rfl ?_|refine a0b (a3h rfl) rfl ?_)|(first|refine a1n ?_|(refine a1o ?_;first|refine a0c (a0a ?_)|refine a0c ?_|refine a0a ?_|(refine a0x ?_;first|refine a0g rfl (by with_reducible rfl) ?_|refine a0h rfl (by with_reducible rfl) ?_|(refine a0r rfl (fun hc => ?_) (fun hc => ?_) <;> (try (exfalso;omega))))|refine a0n ?_|refine a0o ?_|refine a0k ?_)|refine a0t ?_|refine a1v ?_|refine a1b ?_))
                refine retc2 (by first | exact .inr rfl | exact .inl rfl) rfl rfl rfl rfl rfl rfl ?_
                exact ⟨rfl, _, rfl⟩
              | got b e =>
                obtain ⟨hk1, hk2, _⟩ := hcf
                repeat' (first|(first|(refine a0d ?_;refine a0v [0] rfl rfl (a4f (is := true) (s := s) (st := 0)) (by repeat constructor) (by repeat constructor) rfl rfl ?_;rintro _ _ ⟨rfl,rfl⟩;refine ⟨_,_,by repeat constructor,by repeat constructor,?_⟩)|refine a0b (a1k (n := 0) rfl rfl) rfl ?_|(refine a0d ?_;refine a0q rfl rfl rfl rfl hI ?_;rintro _ rfl)|refine a0b (a3t rfl rfl (by omega) (by omega)) rfl ?_|(refine a0d ?_;refine a0q rfl rfl rfl rfl hP ?_;rintro _ rfl)|(refine a0d ?_;refine a0q rfl rfl rfl rfl hB ?_;rintro _ rfl)|(refine a0d ?_;refine a0q rfl rfl rfl rfl hC ?_;rintro _ rfl)|refine a3b (id := 29) [(7,[1])] [⟨0,true,[],bl 10 62⟩,⟨1,true,[],bl 10 61⟩,⟨2,true,[],bl 10 59⟩,⟨3,true,[],bl 10 55⟩,⟨4,true,[],bl 10 15⟩,⟨5,false,[],[]⟩,⟨6,true,[],bl 10 63⟩,⟨7,false,[],[]⟩,⟨8,true,[],bl 10 255⟩,⟨9,true,[],bl 10 511⟩] (by kernel_rfl) (by kernel_rfl) rfl (by kernel_rfl) ?_|(refine a0d ?_;refine a0q rfl rfl rfl rfl hT ?_;rintro _ ⟨tp,tq,te,tk,rfl,he,hpq⟩;obtain rfl := he.2 hg.t;obtain ⟨rfl,rfl⟩ := hpq rfl)|(refine a0d ?_;refine a0q rfl rfl rfl rfl hCl ?_;rintro _ rfl)|refine a0b (a2u rfl rfl (by omega) (by omega)) rfl ?_)|(refine a2k ?_;first|refine a0b (a0l rfl) rfl ?_|(refine k_g ?_;first|refine a1j rfl rfl (by with_reducible rfl) ?_)|refine a0b (a0f rfl rfl) rfl ?_|(refine a1g ?_;first|refine a0b (a0w rfl rfl) rfl ?_|refine a0b (a0m rfl rfl rfl) rfl ?_)|(refine a1a ?_;first|refine a0b (a1h rfl rfl rfl) rfl ?_|refine a0b (a1p rfl rfl (by (first|exact w64 (by omega) (by omega)|rfl))) rfl ?_)|(refine a1i ?_;first|refine a0b (a0i rfl (by with_reducible rfl) rfl) rfl ?_)|refine a0b (a0e rfl) rfl ?_|(refine a0d ?_;first|refine a0b (a0p rfl) rfl ?_)|refine a0b (a0s rfl rfl) rfl ?_|refine a0u ?_|refine a0z rfl rfl rfl (by first|exact ln1|exact ln2) (by repeat constructor) rfl ?_|refine a1c rfl rfl rfl rfl rfl (by repeat constructor) (by repeat constructor) ?_|refine a0b (a1x rfl rfl rfl (by repeat constructor)) rfl ?_|refine a0b (a0y rfl (by with_reducible rfl)) rfl ?_|refine a0b (a3h rfl) rfl ?_)|(first|refine a1n ?_|(refine a1o ?_;first|refine a0c (a0a ?_)|refine a0c ?_|refine a0a ?_|(refine a0x ?_;first|refine a0g rfl (by with_reducible rfl) ?_|refine a0h rfl (by with_reducible rfl) ?_|(refine a0r rfl (fun hc => ?_) (fun hc => ?_) <;> (try (exfalso;omega))))|refine a0n ?_|refine a0o ?_|refine a0k ?_)|refine a0t ?_|refine a1v ?_|refine a1b ?_)|(first|(refine a7n ?_;first|refine a7p rfl ?_|refine a2c (a0l rfl) rfl ?_|refine a2c (a0e rfl) rfl ?_|refine a2c (a0f rfl rfl) rfl ?_|refine a2c (a0w rfl rfl) rfl ?_|refine a2c (a0m rfl rfl rfl) rfl ?_|refine a2c (a1h rfl rfl rfl) rfl ?_|refine a2c (a0i rfl (by with_reducible rfl) rfl) rfl ?_|refine a2c (a0p rfl) rfl ?_|refine a2c (a0s rfl rfl) rfl ?_|refine a2c (a1p rfl rfl (by (first|exact w64 (by omega) (by omega)|rfl))) rfl ?_|refine a2c (a0y rfl (by with_reducible rfl)) rfl ?_|refine a2c (a3h rfl) rfl ?_|refine a2c (a1x rfl rfl rfl (by repeat constructor)) rfl ?_)|refine a4o rfl ?_|(refine a7o ?_;first|refine a7q ?_)|refine a3r ?_|refine a3j ?_))
                refine retc2 (by first | exact .inr rfl | exact .inl rfl) rfl rfl rfl rfl rfl rfl ?_
                exact ⟨rfl, _, rfl⟩
            · rw [if_neg h3]
              repeat' (first|(first|(refine a0d ?_;refine a0v [0] rfl rfl (a4f (is := true) (s := s) (st := 0)) (by repeat constructor) (by repeat constructor) rfl rfl ?_;rintro _ _ ⟨rfl,rfl⟩;refine ⟨_,_,by repeat constructor,by repeat constructor,?_⟩)|refine a0b (a1k (n := 0) rfl rfl) rfl ?_|(refine a0d ?_;refine a0q rfl rfl rfl rfl hI ?_;rintro _ rfl)|refine a0b (a3t rfl rfl (by omega) (by omega)) rfl ?_|(refine a0d ?_;refine a0q rfl rfl rfl rfl hP ?_;rintro _ rfl)|(refine a0d ?_;refine a0q rfl rfl rfl rfl hB ?_;rintro _ rfl)|refine a3b (id := 29) [(7,[1])] [⟨0,true,[],bl 10 62⟩,⟨1,true,[],bl 10 61⟩,⟨2,true,[],bl 10 59⟩,⟨3,true,[],bl 10 55⟩,⟨4,true,[],bl 10 15⟩,⟨5,false,[],[]⟩,⟨6,true,[],bl 10 63⟩,⟨7,false,[],[]⟩,⟨8,true,[],bl 10 255⟩,⟨9,true,[],bl 10 511⟩] (by kernel_rfl) (by kernel_rfl) rfl (by kernel_rfl) ?_|(refine a0d ?_;refine a0q rfl rfl rfl rfl hT ?_;rintro _ ⟨tp,tq,te,tk,rfl,he,hpq⟩;obtain rfl := he.2 hg.t;obtain ⟨rfl,rfl⟩ := hpq rfl)|(refine a0d ?_;refine a0q rfl rfl rfl rfl hCl ?_;rintro _ rfl)|refine a0b (a2u rfl rfl (by omega) (by omega)) rfl ?_)|(refine a2k ?_;first|refine a0b (a0l rfl) rfl ?_|(refine k_g ?_;first|refine a1j rfl rfl (by with_reducible rfl) ?_)|refine a0b (a0f rfl rfl) rfl ?_|(refine a1g ?_;first|refine a0b (a0w rfl rfl) rfl ?_|refine a0b (a0m rfl rfl rfl) rfl ?_)|(refine a1a ?_;first|refine a0b (a1h rfl rfl rfl) rfl ?_|refine a0b (a1p rfl rfl (by (first|exact w64 (by omega) (by omega)|rfl))) rfl ?_)|(refine a1i ?_;first|refine a0b (a0i rfl (by with_reducible rfl) rfl) rfl ?_)|refine a0b (a0e rfl) rfl ?_|(refine a0d ?_;first|refine a0b (a0p rfl) rfl ?_)|refine a0b (a0s rfl rfl) rfl ?_|refine a0u ?_|refine a0z rfl rfl rfl (by first|exact ln1|exact ln2) (by repeat constructor) rfl ?_|refine a1c rfl rfl rfl rfl rfl (by repeat constructor) (by repeat constructor) ?_|refine a0b (a1x rfl rfl rfl (by repeat constructor)) rfl ?_|refine a0b (a0y rfl (by with_reducible rfl)) rfl ?_|refine a0b (a3h rfl) rfl ?_)|(first|refine a1n ?_|(refine a1o ?_;first|refine a0c (a0a ?_)|refine a0c ?_|refine a0a ?_|(refine a0x ?_;first|refine a0g rfl (by with_reducible rfl) ?_|refine a0h rfl (by with_reducible rfl) ?_|(refine a0r rfl (fun hc => ?_) (fun hc => ?_) <;> (try (exfalso;omega))))|refine a0n ?_|refine a0o ?_|refine a0k ?_)|refine a0t ?_|refine a1v ?_|refine a1b ?_)|(first|(refine a7n ?_;first|refine a7p rfl ?_|refine a2c (a0l rfl) rfl ?_|refine a2c (a0e rfl) rfl ?_|refine a2c (a0f rfl rfl) rfl ?_|refine a2c (a0w rfl rfl) rfl ?_|refine a2c (a0m rfl rfl rfl) rfl ?_|refine a2c (a1h rfl rfl rfl) rfl ?_|refine a2c (a0i rfl (by with_reducible rfl) rfl) rfl ?_|refine a2c (a0p rfl) rfl ?_|refine a2c (a0s rfl rfl) rfl ?_|refine a2c (a1p rfl rfl (by (first|exact w64 (by omega) (by omega)|rfl))) rfl ?_|refine a2c (a0y rfl (by with_reducible rfl)) rfl ?_|refine a2c (a3h rfl) rfl ?_|refine a2c (a1x rfl rfl rfl (by repeat constructor)) rfl ?_)|refine a4o rfl ?_|(refine a7o ?_;first|refine a7q ?_)|refine a3r ?_|refine a3j ?_))
              refine retc2 (by first | exact .inr rfl | exact .inl rfl) rfl rfl rfl rfl rfl rfl ?_
              exact ⟨rfl, _, rfl⟩
        · rw [if_pos h1]
          repeat' (first|(first|(refine a0d ?_;refine a0v [0] rfl rfl (a4f (is := true) (s := s) (st := 0)) (by repeat constructor) (by repeat constructor) rfl rfl ?_;rintro _ _ ⟨rfl,rfl⟩;refine ⟨_,_,by repeat constructor,by repeat constructor,?_⟩)|refine a0b (a1k (n := 0) rfl rfl) rfl ?_|(refine a0d ?_;refine a0q rfl rfl rfl rfl hI ?_;rintro _ rfl)|refine a0b (a3t rfl rfl (by omega) (by omega)) rfl ?_|(refine a0d ?_;refine a0q rfl rfl rfl rfl hP ?_;rintro _ rfl)|(refine a0d ?_;refine a0q rfl rfl rfl rfl hB ?_;rintro _ rfl)|(refine a0d ?_;refine a0v [0] rfl rfl (a8u (s := s) (st := 0) (st' := st)) (by repeat constructor) (by repeat constructor) rfl rfl ?_;rintro _ _ ⟨rfl,rfl⟩;refine ⟨_,_,by repeat constructor,by repeat constructor,?_⟩))|(refine a2k ?_;first|refine a0b (a0l rfl) rfl ?_|(refine k_g ?_;first|refine a1j rfl rfl (by with_reducible rfl) ?_)|refine a0b (a0f rfl rfl) rfl ?_|(refine a1g ?_;first|refine a0b (a0w rfl rfl) rfl ?_|refine a0b (a0m rfl rfl rfl) rfl ?_)|(refine a1a ?_;first|refine a0b (a1h rfl rfl rfl) rfl ?_|refine a0b (a1p rfl rfl (by (first|exact w64 (by omega) (by omega)|rfl))) rfl ?_)|(refine a1i ?_;first|refine a0b (a0i rfl (by with_reducible rfl) rfl) rfl ?_)|refine a0b (a0e rfl) rfl ?_|(refine a0d ?_;first|refine a0b (a0p rfl) rfl ?_)|refine a0b (a0s rfl rfl) rfl ?_|refine a0u ?_|refine a0z rfl rfl rfl (by first|exact ln1|exact ln2) (by repeat constructor) rfl ?_|refine a1c rfl rfl rfl rfl rfl (by repeat constructor) (by repeat constructor) ?_|refine a0b (a1x rfl rfl rfl (by repeat constructor)) rfl ?_|refine a0b (a0y rfl (by with_reducible rfl)) rfl ?_|refine a0b (a3h rfl) rfl ?_)|(first|refine a1n ?_|(refine a1o ?_;first|refine a0c (a0a ?_)|refine a0c ?_|refine a0a ?_|(refine a0x ?_;first|refine a0g rfl (by with_reducible rfl) ?_|refine a0h rfl (by with_reducible rfl) ?_|(refine a0r rfl (fun hc => ?_) (fun hc => ?_) <;> (try (exfalso;omega))))|refine a0n ?_|refine a0o ?_|refine a0k ?_)|refine a0t ?_|refine a1v ?_|refine a1b ?_))
          refine retc2 (by first | exact .inr rfl | exact .inl rfl) rfl rfl rfl rfl rfl rfl ?_
          exact ⟨rfl, _, rfl⟩
      · rw [if_pos hst]
        repeat' (first|(first|(refine a0d ?_;refine a0v [0] rfl rfl (a4f (is := true) (s := s) (st := 0)) (by repeat constructor) (by repeat constructor) rfl rfl ?_;rintro _ _ ⟨rfl,rfl⟩;refine ⟨_,_,by repeat constructor,by repeat constructor,?_⟩)|refine a0b (a1k (n := 0) rfl rfl) rfl ?_|(refine a0d ?_;refine a0q rfl rfl rfl rfl hI ?_;rintro _ rfl)|refine a0b (a3t rfl rfl (by omega) (by omega)) rfl ?_|(refine a0d ?_;refine a0q rfl rfl rfl rfl hP ?_;rintro _ rfl)|(refine a0d ?_;refine a0v [0] rfl rfl (a8u (s := s) (st := 0) (st' := st)) (by repeat constructor) (by repeat constructor) rfl rfl ?_;rintro _ _ ⟨rfl,rfl⟩;refine ⟨_,_,by repeat constructor,by repeat constructor,?_⟩))|(refine a2k ?_;first|refine a0b (a0l rfl) rfl ?_|(refine k_g ?_;first|refine a1j rfl rfl (by with_reducible rfl) ?_)|refine a0b (a0f rfl rfl) rfl ?_|(refine a1g ?_;first|refine a0b (a0w rfl rfl) rfl ?_|refine a0b (a0m rfl rfl rfl) rfl ?_)|(refine a1a ?_;first|refine a0b (a1h rfl rfl rfl) rfl ?_|refine a0b (a1p rfl rfl (by (first|exact w64 (by omega) (by omega)|rfl))) rfl ?_)|(refine a1i ?_;first|refine a0b (a0i rfl (by with_reducible rfl) rfl) rfl ?_)|refine a0b (a0e rfl) rfl ?_|(refine a0d ?_;first|refine a0b (a0p rfl) rfl ?_)|refine a0b (a0s rfl rfl) rfl ?_|refine a0u ?_|refine a0z rfl rfl rfl (by first|exact ln1|exact ln2) (by repeat constructor) rfl ?_|refine a1c rfl rfl rfl rfl rfl (by repeat constructor) (by repeat constructor) ?_|refine a0b (a1x rfl rfl rfl (by repeat constructor)) rfl ?_|refine a0b (a0y rfl (by with_reducible rfl)) rfl ?_|refine a0b (a3h rfl) rfl ?_)|(first|refine a1n ?_|(refine a1o ?_;first|refine a0c (a0a ?_)|refine a0c ?_|refine a0a ?_|(refine a0x ?_;first|refine a0g rfl (by with_reducible rfl) ?_|refine a0h rfl (by with_reducible rfl) ?_|(refine a0r rfl (fun hc => ?_) (fun hc => ?_) <;> (try (exfalso;omega))))|refine a0n ?_|refine a0o ?_|refine a0k ?_)|refine a0t ?_|refine a1v ?_|refine a1b ?_))
        refine retc2 (by first | exact .inr rfl | exact .inl rfl) rfl rfl rfl rfl rfl rfl ?_
        exact ⟨rfl, _, rfl⟩
  · rw [if_pos hst]
    repeat' (first|(first|(refine a0d ?_;refine a0v [0] rfl rfl (a4f (is := true) (s := s) (st := st)) (by repeat constructor) (by repeat constructor) rfl rfl ?_;rintro _ _ ⟨rfl,rfl⟩;refine ⟨_,_,by repeat constructor,by repeat constructor,?_⟩)|refine a0b (a1k (n := 0) rfl rfl) rfl ?_|(refine a0d ?_;refine a0v [0] rfl rfl (c1x (s := s) (st := st)) (by repeat constructor) (by repeat constructor) rfl rfl ?_;rintro _ _ ⟨rfl,rfl⟩;refine ⟨_,_,by repeat constructor,by repeat constructor,?_⟩))|(refine a2k ?_;first|refine a0b (a0l rfl) rfl ?_|(refine k_g ?_;first|refine a1j rfl rfl (by with_reducible rfl) ?_)|refine a0b (a0f rfl rfl) rfl ?_|(refine a1g ?_;first|refine a0b (a0w rfl rfl) rfl ?_|refine a0b (a0m rfl rfl rfl) rfl ?_)|(refine a1a ?_;first|refine a0b (a1h rfl rfl rfl) rfl ?_|refine a0b (a1p rfl rfl (by (first|exact w64 (by omega) (by omega)|rfl))) rfl ?_)|(refine a1i ?_;first|refine a0b (a0i rfl (by with_reducible rfl) rfl) rfl ?_)|refine a0b (a0e rfl) rfl ?_|(refine a0d ?_;first|refine a0b (a0p rfl) rfl ?_)|refine a0b (a0s rfl rfl) rfl ?_|refine a0u ?_|refine a0z rfl rfl rfl (by first|exact ln1|exact ln2) (by repeat constructor) rfl ?_|refine a1c rfl rfl rfl rfl rfl (by repeat constructor) (by repeat constructor) ?_|refine a0b (a1x rfl rfl rfl (by repeat constructor)) rfl ?_|refine a0b (a0y rfl (by with_reducible rfl)) rfl ?_|refine a0b (a3h rfl) rfl ?_)|(first|refine a1n ?_|(refine a1o ?_;first|refine a0c (a0a ?_)|refine a0c ?_|refine a0a ?_|(refine a0x ?_;first|refine a0g rfl (by with_reducible rfl) ?_|refine a0h rfl (by with_reducible rfl) ?_|(refine a0r rfl (fun hc => ?_) (fun hc => ?_) <;> (try (exfalso;omega))))|refine a0n ?_|refine a0o ?_|refine a0k ?_)|refine a0t ?_|refine a1v ?_|refine a1b ?_))
    refine a2m (.boxLe (id := 1) [.str [], .str [], .int .i64 0, .rs [], .str [], .rs [], .str [], .bool false] rfl (.cons (.refl _) (.cons (.refl _) (.cons (.refl _) (.cons .nil (.cons (.refl _) (.cons .nil (.cons (.refl _) (.cons (.refl _) .nil)))))))) rfl) ?_
    refine retc2 (by first | exact .inr rfl | exact .inl rfl) rfl rfl rfl rfl rfl rfl ?_
    exact ⟨rfl, _, rfl⟩
end
end Go.Proofs.YtkljmljkiodnpaaGreatDoor.L

namespace Go.Proofs.YtkljmljkiodnpaaGreatDoor.L
open Go Go.RowKit Go.Proofs
attribute [local irreducible] AL QL AWp Thn InB RetQ ACalls LoopQ HL HO HW HQ NoG JmpQ MidQ HF

section
variable {w0 : World} {base : Nat}
theorem c8a {s : List UInt8} {st : Int} (hG : Glob w0 base) (hs : s.length ≤ 4294967200) : ACalls (EE w0 base) 32 [.op 0 0] [parO true s st] fun rv os => rv = (nextV s st).1 ∧ os = [parO true (nextV s st).2.1 (nextV s st).2.2] := by
  refine a3u (c6t hG hs) ?_
  rintro rv os ⟨rfl, ex, rfl⟩
  refine ⟨[_], ex, rfl, ⟨rfl, rfl⟩, ?_, by repeat constructor, Nat.le_refl _⟩
  unfold nextV
  split
  · rfl
  · split <;> rfl
theorem c8t : ACalls (EE w0 base) 27 [] [] fun rv os => rv = .op 0 0 ∧ os = [parO true [] 0] := by
  refine a1s Tryz.func27 rfl rfl rfl .nil ?_
  repeat' (first | (refine a2k ?_; first | (refine a0b (a0e rfl) rfl ?_) | (refine a0u ?_) | (refine a2g rfl rfl rfl (by first | exact ln0) (by repeat constructor) rfl ?_) | (refine a0b (a1x rfl rfl rfl (by repeat constructor)) rfl ?_)) | (first | (refine a1n ?_) | (refine a1o ?_; first | (refine a0c (a0a ?_)) | (refine a0c ?_) | (refine a0a ?_) | (refine a0o ?_))))
  refine ret1 (by first | exact .inr rfl | exact .inl rfl) rfl rfl ?_
  exact ⟨rfl, rfl⟩
end
end Go.Proofs.YtkljmljkiodnpaaGreatDoor.L

namespace Go.Proofs.YtkljmljkiodnpaaGreatDoor.L
open Go Go.RowKit Go.Proofs
attribute [local irreducible] AL QL AWp Thn InB RetQ ACalls LoopQ HL HO HW HQ NoG JmpQ MidQ HF

structure Rq where
  h : Hd
  p : List UInt8
  q : Fs
  b : List UInt8
  c : Bool
def rqC (r : Rq) : List AV := [.str r.h.m, .str r.h.t, .int .i64 r.h.v, .rs (r.h.fs.map prAV), .str r.p, .rs (r.q.map prAV), .str r.b, .bool r.c]
def rq0 : Rq := ⟨hd0, [], [], [], false⟩
def rqOf (h : Hd) (b : List UInt8) : Rq := ⟨h, tgtP h.t, tgtQ h.t, b, closesS h⟩
def rqSame (x y : Rq) : Bool := decide ((x.h.m = y.h.m ∧ x.h.t = y.h.t ∧ x.h.v = y.h.v ∧ x.h.fs = y.h.fs) ∧ x.p = y.p ∧ x.q = y.q ∧ x.b = y.b ∧ x.c = y.c)
section
variable {w0 : World} {base : Nat}
end
end Go.Proofs.YtkljmljkiodnpaaGreatDoor.L

namespace Go.Proofs.YtkljmljkiodnpaaGreatDoor.L
open Go Go.RowKit Go.Proofs
attribute [local irreducible] AL QL AWp Thn InB RetQ ACalls LoopQ HL HO HW HQ NoG JmpQ MidQ HF

def RqB (x : Rq) : Prop := x.h.fs.length * 16 ≤ 140737488351232 ∧ x.q.length * 16 ≤ 140737488351232
section
variable {w0 : World} {base : Nat}
end
end Go.Proofs.YtkljmljkiodnpaaGreatDoor.L

namespace Go.Proofs.YtkljmljkiodnpaaGreatDoor.L
open Go Go.RowKit Go.Proofs

def drainF : Nat → List UInt8 → List Rq → List Rq × List UInt8 × Int
  | 0, s, out => (out, s, 0)
  | f + 1, s, out => match nextL s with
    | .more => (out, s, 0)
    | .bad st => (out, [], st)
    | .got h b k => drainF f (s.drop k) (out ++ [rqOf h b])
def allF : List UInt8 → List UInt8 → List Rq → List Rq × Int
  | [], w, out => (out, 0)
  | c :: r, w, out => if 65536 < w.length + 1 then (out, 413)
    else if (drainF (w.length + 2) (w ++ [c]) out).2.2 ≠ 0 then ((drainF (w.length + 2) (w ++ [c]) out).1, (drainF (w.length + 2) (w ++ [c]) out).2.2)
    else allF r (drainF (w.length + 2) (w ++ [c]) out).2.1 (drainF (w.length + 2) (w ++ [c]) out).1
def allS (s : List UInt8) : List Rq × Int := allF s [] []
def getS : List UInt8 := "GET /x HTTP/1.1\r\nHost: a\r\n\r\n".toUTF8.data.toList
def chS1 : List UInt8 := "3\r\nabc\r\n0\r\n\r\n".toUTF8.data.toList
end Go.Proofs.YtkljmljkiodnpaaGreatDoor.L

namespace Go.Proofs.YtkljmljkiodnpaaGreatDoor.L
open Go Go.RowKit Go.Proofs

theorem b7o (l : List UInt8) : reqSt l = 0 ∨ reqSt l = 400 ∨ reqSt l = 505 := by
  unfold reqSt stR
  split
  · split
    · simp
    · split <;> simp
  · simp
theorem c2v (s : List UInt8) : ∀ (f at' : Nat) (o : Option Hd), (pGo s f at' o).2.1 = 0 ∨ (pGo s f at' o).2.1 = 400 ∨ (pGo s f at' o).2.1 = 431 ∨ (pGo s f at' o).2.1 = 505 := by
  intro f
  induction f with
  | zero => intro at' o; exact .inl rfl
  | succ f ih =>
    intro at' o
    rw [b1u]
    split
    · simp
    split
    · simp
    cases o with
    | none =>
      dsimp only
      split
      · exact ih _ _
      · rcases b7o (lineAt s at').1 with h | h | h
        · simp [h]
        · simp [h]
        · simp [h]
    | some h =>
      dsimp only
      split
      · split
        · simp
        · split <;> simp
      · split
        · simp
        · split
          · exact ih _ _
          · simp
theorem b0l (s : List UInt8) : (headParse s).2.1 = 0 ∨ (headParse s).2.1 = 400 ∨ (headParse s).2.1 = 431 ∨ (headParse s).2.1 = 505 := by
  unfold headParse
  split
  · simp
  · exact c2v _ _ _ _
def NFacts (s : List UInt8) : NX → Prop
  | .more => True
  | .bad st => st = 400 ∨ st = 413 ∨ st = 431 ∨ st = 505
  | .got h b k => GoodH h ∧ 4 ≤ k ∧ k ≤ s.length
theorem a9k (s : List UInt8) : NFacts s (nextL s) := by
  unfold nextL
  rcases b2b s with hx | ⟨i, hx, hi4⟩
  · rw [hx, if_pos (by decide)]
    split
    · exact .inr (.inr (.inl rfl))
    · exact trivial
  · rw [hx, if_neg (by omega), Int.toNat_natCast]
    have hk := b0l (s.take (i + 4))
    have hg : (headParse (s.take (i + 4))).2.1 = 0 → GoodH (headParse (s.take (i + 4))).1 := a6k
    revert hk hg
    generalize headParse (s.take (i + 4)) = r
    intro hk hg
    split
    · rename_i h0
      rcases hk with hk | hk | hk | hk
      · exact absurd hk h0
      · exact .inl hk
      · exact .inr (.inr (.inl hk))
      · exact .inr (.inr (.inr hk))
    · rename_i h0
      have h0 : r.2.1 = 0 := Classical.not_not.1 h0
      have hb := b4a (s := s) (at' := i + 4) (h := r.1) hi4
      revert hb
      generalize bodyAt s (i + 4) r.1 = z
      intro hb
      cases z with
      | more => exact trivial
      | bad st =>
        rcases hb with hb | hb
        · exact .inl hb
        · exact .inr (.inl hb)
      | got b k => exact ⟨hg h0, by have := hb.1; omega, hb.2⟩
end Go.Proofs.YtkljmljkiodnpaaGreatDoor.L

namespace Go.Proofs.YtkljmljkiodnpaaGreatDoor.L
open Go Go.RowKit Go.Proofs
attribute [local irreducible] AL QL AWp Thn InB RetQ ACalls LoopQ HL HO HW HQ NoG JmpQ MidQ HF

section
variable {w0 : World} {base : Nat}
end
end Go.Proofs.YtkljmljkiodnpaaGreatDoor.L

namespace Go.Proofs.YtkljmljkiodnpaaGreatDoor.L
open Go Go.RowKit Go.Proofs
attribute [local irreducible] AL QL AWp Thn InB RetQ ACalls LoopQ HL HO HW HQ NoG JmpQ MidQ HF

section
variable {w0 : World} {base : Nat}
end
end Go.Proofs.YtkljmljkiodnpaaGreatDoor.L

namespace Go.Proofs.YtkljmljkiodnpaaGreatDoor.L
open Go Go.RowKit Go.Proofs
attribute [local irreducible] AL QL AWp Thn InB RetQ ACalls LoopQ HL HO HW HQ NoG JmpQ MidQ HF

section
variable {w0 : World} {base : Nat}
end
end Go.Proofs.YtkljmljkiodnpaaGreatDoor.L

namespace Go.Proofs.YtkljmljkiodnpaaGreatDoor.L
open Go Go.RowKit Go.Proofs

end Go.Proofs.YtkljmljkiodnpaaGreatDoor.L

namespace Go.Proofs.YtkljmljkiodnpaaGreatDoor.L
open Go Go.RowKit Go.Proofs
attribute [local irreducible] AL QL AWp Thn InB RetQ ACalls LoopQ HL HO HW HQ NoG JmpQ MidQ HF

theorem b7h {l : List (List UInt8)} {i : Nat} {v : List UInt8} (h : l[i]? = some v) : tokGo (l.drop i) = match getP (cookies v) sidS with
    | some t => t
    | none => tokGo (l.drop (i + 1)) := by
  have hlt := (List.getElem?_eq_some_iff.1 h).1
  rw [List.drop_eq_getElem_cons hlt, tokGo, (List.getElem?_eq_some_iff.1 h).2]
  all_goals (cases getP (cookies v) sidS <;> rfl)
theorem b8f : ∀ (l : List (List UInt8)) (out : Fs), out.length ≤ 31 → (cookGo l out).length ≤ 32 := by
  intro l
  induction l with
  | nil => intro out h; rw [cookGo]; omega
  | cons p l ih =>
    intro out h
    rw [cookGo]
    have := b3v p
    split
    · rename_i h2; exact ih _ (by omega)
    · rw [List.length_append]; omega
theorem b5r (s : List UInt8) : (cookies s).length ≤ 32 := b8f _ [] (Nat.zero_le _)
abbrev rqC0 : List AV := [.str [], .str [], .int .i64 0, .rs [], .str [], .rs [], .str [], .bool false]
abbrev rqCs (h : Hd) (b : List UInt8) : List AV := [.str h.m, .str h.t, .int .i64 h.v, .rs (h.fs.map prAV), .str (tgtP h.t), .rs ((tgtQ h.t).map prAV), .str b, .bool (closesS h)]
def rqO : Option (Hd × List UInt8) → List AV
  | none => rqC0
  | some (h, b) => rqCs h b
abbrev atC (a : At) : List AV := .int .i64 a.kind :: .str a.out :: .bool a.close :: .int .i64 a.user :: .str a.token :: .str a.name :: .str a.word :: rqO a.rq
abbrev cnC (bp : Nat) (pa : AV) (c : Cn) : List AV := [.ad bp 0, .int .i64 c.user, .bool c.closed, .bool c.lost, .bool c.waits, .int .i64 c.asks, .bool c.ends, pa]
section
variable {w0 : World} {base : Nat}
set_option maxHeartbeats 2000000 in
theorem b9a {h : Hd} {b : List UInt8} (hG : Glob w0 base) (hg : GoodH h) : PCalls (EE w0 base) 52 [.agg (rqCs h b)] fun rv => rv = .str (tokenS h) := by
  have hV := a6t (w0 := w0) (base := base) (m := h.m) (t := h.t) (v := h.v) (fs := h.fs) (name := cookieS) (by decide) (by have := hg.f; omega)
  obtain ⟨L, hL⟩ : ∃ L, L = valsOf h.fs cookieS := ⟨_, rfl⟩
  have hLl : L.length ≤ 32 := by rw [hL]; exact Nat.le_trans (a5k _ _) hg.f
  have hLv : ∀ v ∈ L, v.length ≤ 1024 := fun v hv => by
    rw [hL] at hv
    unfold valsOf at hv
    obtain ⟨p, hp, rfl⟩ := List.mem_map.1 hv
    exact hg.v p (List.mem_filter.1 hp).1
  unfold tokenS
  rw [← hL] at hV ⊢
  have hlen : (strAV L).length = L.length := List.length_map _
  obtain ⟨T, hT⟩ : ∃ T, T = tokGo L := ⟨_, rfl⟩
  rw [← hT]
  refine a1s Tryz.func52 rfl rfl rfl (.cons .nil) ?_
  repeat' (first|(first|(refine a0d ?_;refine a0q rfl rfl rfl rfl hV ?_;rintro _ rfl)|(refine a0d ?_;refine a0b (a3p L.length rfl hlen) rfl ?_))|(refine a2k ?_;first|refine a0b (a0l rfl) rfl ?_|refine a0b (a0f rfl rfl) rfl ?_|(refine a1g ?_;first|refine a0b (a0w rfl rfl) rfl ?_|refine a0b (a0m rfl rfl rfl) rfl ?_)|(refine a1a ?_;first|refine a0b (a1p rfl rfl (by (first|exact w64 (by omega) (by omega)|rfl))) rfl ?_)|refine a0b (a0e rfl) rfl ?_|refine a0b (a0s rfl rfl) rfl ?_|refine a0u ?_|refine a2g rfl rfl rfl (by first|exact ln0) (by repeat constructor) rfl ?_)|(first|refine a1n ?_|(refine a1o ?_;first|refine a0c (a0a ?_)|refine a0c ?_|refine a0a ?_|(refine a0x ?_;first|refine a0g rfl (by with_reducible rfl) ?_|refine a0h rfl (by with_reducible rfl) ?_)|refine a0n ?_|refine a0o ?_|refine a0k ?_|refine a1f ?_)|refine a0t ?_|refine a1q ?_|refine a2b ?_|refine a1d ?_|refine a1v ?_|refine a1b ?_|refine a1e ?_))
  refine a2o (fun k : Nat => ⟨[(9, .rs (strAV L)), (10, .int .i64 L.length), (11, .int .i64 k)], []⟩) (fun k => k ≤ L.length ∧ T = tokGo (L.drop k)) (fun k => L.length - k) 0 (.of (a2n [_] rfl (by repeat constructor) rfl (by repeat constructor) rfl)) ⟨Nat.zero_le _, hT⟩ ?_
  rintro k ⟨hk, hTk⟩
  try dsimp only
  by_cases hlt : k < L.length
  · obtain ⟨v, hv⟩ : ∃ v, L[k]? = some v := ⟨_, List.getElem?_eq_getElem hlt⟩
    have hrow : (strAV L)[((k : Nat) : Int).toNat]? = some [.str v] := by
      have : ((k : Nat) : Int).toNat = k := rfl
      unfold strAV
      rw [this, List.getElem?_map, hv]
      rfl
    have hC := b9g (w0 := w0) (base := base) (s := v) (by have := hLv v (List.mem_of_getElem? hv); omega) hG
    have hGe := c5k (w0 := w0) (base := base) (l := cookies v) (nm := sidS) (by have := b5r v; omega)
    rw [b7h hv] at hTk
    unfold getV at hGe
    cases hq : getP (cookies v) sidS with
    | some t =>
      rw [hq] at hTk hGe
      simp only [Option.getD_some, Option.isSome_some] at hGe
      dsimp only at hTk
      repeat' (first|(first|refine a0b (a2j rfl rfl (by omega) hrow rfl) rfl ?_|(refine a0d ?_;refine a0q rfl rfl rfl rfl hC ?_;rintro _ rfl)|(refine a0d ?_;refine a0q rfl rfl rfl rfl hGe ?_;rintro _ rfl)|(refine a1a ?_;first|refine a0b (a1l rfl rfl rfl (by omega)) rfl ?_|refine a0b (a1m rfl rfl rfl (by omega)) rfl ?_))|(refine a2k ?_;first|refine a0b (a0l rfl) rfl ?_|refine a0b (a0f rfl rfl) rfl ?_|(refine a1g ?_;first|refine a0b (a0w rfl rfl) rfl ?_|refine a0b (a0m rfl rfl rfl) rfl ?_)|(refine a1a ?_;first|refine a0b (a1p rfl rfl (by (first|exact w64 (by omega) (by omega)|rfl))) rfl ?_)|refine a0b (a0e rfl) rfl ?_|refine a0b (a0s rfl rfl) rfl ?_|refine a0u ?_|refine a2g rfl rfl rfl (by first|exact ln0) (by repeat constructor) rfl ?_)|(first|refine a1n ?_|(refine a1o ?_;first|refine a0c (a0a ?_)|refine a0c ?_|refine a0a ?_|(refine a0x ?_;first|refine a0g rfl (by with_reducible rfl) ?_|refine a0h rfl (by with_reducible rfl) ?_)|refine a0n ?_|refine a0o ?_|refine a0k ?_|refine a1f ?_)|refine a0t ?_|refine a1q ?_|refine a2b ?_|refine a1d ?_|refine a1v ?_|refine a1b ?_|refine a1e ?_))
      refine ret1 (by first | exact .inr rfl | exact .inl rfl) rfl rfl ?_
      exact ⟨by rw [hTk], rfl⟩
    | none =>
      rw [hq] at hTk hGe
      simp only [Option.getD_none, Option.isSome_none] at hGe
      dsimp only at hTk
      repeat' (first|(first|refine a0b (a2j rfl rfl (by omega) hrow rfl) rfl ?_|(refine a0d ?_;refine a0q rfl rfl rfl rfl hC ?_;rintro _ rfl)|(refine a0d ?_;refine a0q rfl rfl rfl rfl hGe ?_;rintro _ rfl)|(refine a1a ?_;first|refine a0b (a1l rfl rfl rfl (by omega)) rfl ?_|refine a0b (a1m rfl rfl rfl (by omega)) rfl ?_))|(refine a2k ?_;first|refine a0b (a0l rfl) rfl ?_|refine a0b (a0f rfl rfl) rfl ?_|(refine a1g ?_;first|refine a0b (a0w rfl rfl) rfl ?_|refine a0b (a0m rfl rfl rfl) rfl ?_)|(refine a1a ?_;first|refine a0b (a1p rfl rfl (by (first|exact w64 (by omega) (by omega)|rfl))) rfl ?_)|refine a0b (a0e rfl) rfl ?_|refine a0b (a0s rfl rfl) rfl ?_|refine a0u ?_|refine a2g rfl rfl rfl (by first|exact ln0) (by repeat constructor) rfl ?_)|(first|refine a1n ?_|(refine a1o ?_;first|refine a0c (a0a ?_)|refine a0c ?_|refine a0a ?_|(refine a0x ?_;first|refine a0g rfl (by with_reducible rfl) ?_|refine a0h rfl (by with_reducible rfl) ?_)|refine a0n ?_|refine a0o ?_|refine a0k ?_|refine a1f ?_)|refine a0t ?_|refine a1q ?_|refine a2b ?_|refine a1d ?_|refine a1v ?_|refine a1b ?_|refine a1e ?_))
      refine a1y (k + 1) (.of (.same (by repeat constructor))) ?_ ?_
      · exact ⟨by omega, hTk⟩
      · omega
  · rw [List.drop_eq_nil_of_le (by omega), tokGo] at hTk
    repeat' (first|((refine a1a ?_;first|refine a0b (a1l rfl rfl rfl (by omega)) rfl ?_|refine a0b (a1m rfl rfl rfl (by omega)) rfl ?_))|(refine a2k ?_;first|refine a0b (a0l rfl) rfl ?_|refine a0b (a0f rfl rfl) rfl ?_|(refine a1g ?_;first|refine a0b (a0w rfl rfl) rfl ?_|refine a0b (a0m rfl rfl rfl) rfl ?_)|(refine a1a ?_;first|refine a0b (a1p rfl rfl (by (first|exact w64 (by omega) (by omega)|rfl))) rfl ?_)|refine a0b (a0e rfl) rfl ?_|refine a0b (a0s rfl rfl) rfl ?_|refine a0u ?_|refine a2g rfl rfl rfl (by first|exact ln0) (by repeat constructor) rfl ?_)|(first|refine a1n ?_|(refine a1o ?_;first|refine a0c (a0a ?_)|refine a0c ?_|refine a0a ?_|(refine a0x ?_;first|refine a0g rfl (by with_reducible rfl) ?_|refine a0h rfl (by with_reducible rfl) ?_)|refine a0n ?_|refine a0o ?_|refine a0k ?_|refine a1f ?_)|refine a0t ?_|refine a1q ?_|refine a2b ?_|refine a1d ?_|refine a1v ?_|refine a1b ?_|refine a1e ?_))
    refine ret1 (by first | exact .inr rfl | exact .inl rfl) rfl rfl ?_
    exact ⟨by rw [hTk], rfl⟩
theorem a4k (st : Int) (cl : Bool) : RpFit (plR st cl) := ⟨by simp [plR], (fun p h => by cases h), by simp [plR]⟩
theorem may500 (cl : Bool) : mayY (plR 500 cl) = true := by cases cl <;> decide +kernel
set_option maxHeartbeats 4000000 in
theorem c4c {m : Nat → Option (List AV)} {bc bp : Nat} {pa : AV} {c : Cn} {r : Rp} (hG : Tabs w0 base) (hr : RpFit r) (hm : m bc = some (cnC bp pa c)) :
    ACalls (EE w0 base) 30 [.ad bc 0, .agg (rpC r)] [.hp m] fun rv os => rv = .agg (atC (emitsC c r).2) ∧ ∃ ex, os = .hp (upd m bc (cnC bp pa (emitsC c r).1)) :: ex := by
  have hP := b6j (w0 := w0) (base := base) hG hr
  have hPl := a4p (w0 := w0) (base := base) (st := 500) (b := []) (cl := r.cl)
  have hP5 := b6j (w0 := w0) (base := base) hG (a4k 500 r.cl)
  have hP6 : PCalls (EE w0 base) 42 [.agg (rpC ⟨500, [], [], r.cl⟩)] fun rv => rv = .tup [.str (printY (plR 500 r.cl)), .int .i64 0] := a2w hP5 fun rv os h => ⟨by rw [h.1]; unfold prnY; rw [may500]; rfl, h.2⟩
  obtain ⟨rst, rfs, rb, rcl⟩ := r
  obtain ⟨s, st, user, closed, lost, waits, asks, ends, ans⟩ := c
  dsimp only at hPl hP6
  refine a1s Tryz.func30 rfl rfl rfl (.cons (.cons .nil)) ?_
  cases hmay : mayY ⟨rst, rfs, rb, rcl⟩ with
  | true =>
    have hP1 : PCalls (EE w0 base) 42 [.agg (rpC ⟨rst, rfs, rb, rcl⟩)] fun rv => rv = .tup [.str (printY ⟨rst, rfs, rb, rcl⟩), .int .i64 0] := a2w hP fun rv os h => ⟨by rw [h.1]; unfold prnY; rw [hmay]; rfl, h.2⟩
    have hem : emitT ⟨rst, rfs, rb, rcl⟩ = printY ⟨rst, rfs, rb, rcl⟩ := if_pos hmay
    obtain ⟨out, ho⟩ : ∃ out, out = printY ⟨rst, rfs, rb, rcl⟩ := ⟨_, rfl⟩
    rw [← ho] at hP1 hem
    unfold emitsC
    rw [hem]
    cases closed
    all_goals
      repeat' (first|(first|(refine a0d ?_;refine a0q rfl rfl rfl rfl hP1 ?_;rintro _ rfl)|(refine a1a ?_;first|refine a0b (a1l rfl rfl rfl (by omega)) rfl ?_|refine a0b (a1m rfl rfl rfl (by omega)) rfl ?_)|refine a0b (a1k (n := 0) rfl rfl) rfl ?_|(refine a1g ?_;refine a0b (a2i (id := 0) rfl rfl hm rfl) rfl ?_)|refine a4e (id := 0) rfl rfl rfl rfl rfl rfl (by repeat constructor) hm (by repeat constructor) ?_)|(refine a2k ?_;first|refine a0b (a0l rfl) rfl ?_|(refine k_g ?_;first|refine a1j rfl rfl (by with_reducible rfl) ?_|refine a1t rfl rfl (by with_reducible rfl) rfl ?_)|refine a0b (a0f rfl rfl) rfl ?_|(refine a1g ?_;first|refine a0b (a0w rfl rfl) rfl ?_|refine a0b (a0m rfl rfl rfl) rfl ?_)|(refine a1i ?_;first|refine a0b (a0j rfl (by with_reducible rfl) rfl) rfl ?_|refine a0b (a0i rfl (by with_reducible rfl) rfl) rfl ?_)|refine a0b (a0e rfl) rfl ?_|refine a0b (a0s rfl rfl) rfl ?_|refine a0u ?_|refine a2g rfl rfl rfl (by first|exact ln1|exact ln2) (by repeat constructor) rfl ?_|refine a0z rfl rfl rfl (by first|exact ln1|exact ln2) (by repeat constructor) rfl ?_|refine a1c rfl rfl rfl rfl rfl (by repeat constructor) (by repeat constructor) ?_|refine a0b (a1x rfl rfl rfl (by repeat constructor)) rfl ?_)|(first|refine a1n ?_|(refine a1o ?_;first|refine a0c (a0a ?_)|refine a0c ?_|refine a0a ?_|(refine a0x ?_;first|refine a0g rfl (by with_reducible rfl) ?_|refine a0h rfl (by with_reducible rfl) ?_)|refine a0o ?_|refine a0k ?_)))
      refine a2m (.boxLe (id := 2) [.int .i64 1, .str out, .bool rcl, .int .i64 0, .str [], .str [], .str [], .str [], .str [], .int .i64 0, .rs [], .str [], .rs [], .str [], .bool false] rfl (by repeat (first | exact .nil | refine .cons .nil ?_ | refine .cons (.refl _) ?_)) rfl) ?_
      refine retc0 (by first | exact .inr rfl | exact .inl rfl) rfl rfl rfl rfl ?_
      exact ⟨rfl, _, rfl⟩
  | false =>
    have hP1 : PCalls (EE w0 base) 42 [.agg (rpC ⟨rst, rfs, rb, rcl⟩)] fun rv => rv = .tup [.str [], .int .i64 90] := a2w hP fun rv os h => ⟨by rw [h.1]; unfold prnY; rw [hmay]; rfl, h.2⟩
    have hem : emitT ⟨rst, rfs, rb, rcl⟩ = printY (plR 500 rcl) := if_neg (by rw [hmay]; decide)
    obtain ⟨out, ho⟩ : ∃ out, out = printY (plR 500 rcl) := ⟨_, rfl⟩
    rw [← ho] at hP6 hem
    unfold emitsC
    rw [hem]
    cases closed
    all_goals
      repeat' (first|(first|(refine a0d ?_;refine a0q rfl rfl rfl rfl hP1 ?_;rintro _ rfl)|(refine a0d ?_;refine a0q rfl rfl rfl rfl hPl ?_;rintro _ rfl)|(refine a0d ?_;refine a0q rfl rfl rfl rfl hP6 ?_;rintro _ rfl)|(refine a1a ?_;first|refine a0b (a1l rfl rfl rfl (by omega)) rfl ?_|refine a0b (a1m rfl rfl rfl (by omega)) rfl ?_)|refine a0b (a1k (n := 0) rfl rfl) rfl ?_|(refine a1g ?_;refine a0b (a2i (id := 0) rfl rfl hm rfl) rfl ?_)|refine a4e (id := 0) rfl rfl rfl rfl rfl rfl (by repeat constructor) hm (by repeat constructor) ?_)|(refine a2k ?_;first|refine a0b (a0l rfl) rfl ?_|(refine k_g ?_;first|refine a1j rfl rfl (by with_reducible rfl) ?_|refine a1t rfl rfl (by with_reducible rfl) rfl ?_)|refine a0b (a0f rfl rfl) rfl ?_|(refine a1g ?_;first|refine a0b (a0w rfl rfl) rfl ?_|refine a0b (a0m rfl rfl rfl) rfl ?_)|(refine a1i ?_;first|refine a0b (a0j rfl (by with_reducible rfl) rfl) rfl ?_|refine a0b (a0i rfl (by with_reducible rfl) rfl) rfl ?_)|refine a0b (a0e rfl) rfl ?_|refine a0b (a0s rfl rfl) rfl ?_|refine a0u ?_|refine a2g rfl rfl rfl (by first|exact ln1|exact ln2) (by repeat constructor) rfl ?_|refine a0z rfl rfl rfl (by first|exact ln1|exact ln2) (by repeat constructor) rfl ?_|refine a1c rfl rfl rfl rfl rfl (by repeat constructor) (by repeat constructor) ?_|refine a0b (a1x rfl rfl rfl (by repeat constructor)) rfl ?_)|(first|refine a1n ?_|(refine a1o ?_;first|refine a0c (a0a ?_)|refine a0c ?_|refine a0a ?_|(refine a0x ?_;first|refine a0g rfl (by with_reducible rfl) ?_|refine a0h rfl (by with_reducible rfl) ?_)|refine a0o ?_|refine a0k ?_)))
      refine a2m (.boxLe (id := 2) [.int .i64 1, .str out, .bool rcl, .int .i64 0, .str [], .str [], .str [], .str [], .str [], .int .i64 0, .rs [], .str [], .rs [], .str [], .bool false] rfl (by repeat (first | exact .nil | refine .cons .nil ?_ | refine .cons (.refl _) ?_)) rfl) ?_
      refine retc0 (by first | exact .inr rfl | exact .inl rfl) rfl rfl rfl rfl ?_
      exact ⟨rfl, _, rfl⟩
theorem c3q (k0 : Nat) (a : At) : clB k0 (.agg (atC a)) = true := by
  obtain ⟨k, o, cl, u, t, n, w, rq⟩ := a
  match rq with
  | none => rfl
  | some (h, b) => rfl
theorem a4l {m : Nat → Option (List AV)} {bc bp : Nat} {pa : AV} {c : Cn} {r : Rp} (hG : Tabs w0 base) (hr : RpFit r) (hm : m bc = some (cnC bp pa c)) :
    ACalls (EE w0 base) 30 [.ad bc 0, .agg (rpC r)] [.hp m] fun rv os => rv = .agg (atC (emitsC c r).2) ∧ os = [.hp (upd m bc (cnC bp pa (emitsC c r).1))] := by
  refine a3u (c4c hG hr hm) ?_
  rintro rv os ⟨rfl, ex, rfl⟩
  exact ⟨[_], ex, rfl, ⟨rfl, rfl⟩, c3q _ _, by repeat constructor, Nat.le_refl _⟩
end
end Go.Proofs.YtkljmljkiodnpaaGreatDoor.L
