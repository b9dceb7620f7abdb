/- The bound of a configuration grows with each of its parts (statement MeterMore), for every three integers. No condition. -/
import Derived.Test.YtibmabidjacjlaaPMeterMorex3
namespace Go.Proofs.Ytibmabidjacjlaa.Pure
open Go.RowKit Go.Proofs.Ytibmabidjacjlaa.PMeterMore Go.Proofs.YtibmabidjacjlaaW.PrintWords Go.Proofs.YtibmabidjacjlaaW.PrintLast

theorem and_mask (x : Int) (m : Nat) (hm : m < 9223372036854775808) : 0 ≤ Go.bits .and .i64 x (m : Int) ∧ Go.bits .and .i64 x (m : Int) ≤ m := by
  have h1 : (BitVec.ofInt (IntKind.bits .i64) x &&& BitVec.ofInt (IntKind.bits .i64) (m : Int)).toNat ≤ m := by
    rw [BitVec.toNat_and, BitVec.ofInt_natCast, BitVec.toNat_ofNat]
    refine Nat.le_trans Nat.and_le_right ?_
    exact Nat.mod_le _ _
  show 0 ≤ IntKind.i64.wrap ((BitVec.ofInt (IntKind.bits .i64) x &&& BitVec.ofInt (IntKind.bits .i64) (m : Int)).toNat : Int) ∧ IntKind.i64.wrap ((BitVec.ofInt (IntKind.bits .i64) x &&& BitVec.ofInt (IntKind.bits .i64) (m : Int)).toNat : Int) ≤ m
  generalize (BitVec.ofInt (IntKind.bits .i64) x &&& BitVec.ofInt (IntKind.bits .i64) (m : Int)).toNat = n at *
  rw [IntKind.wrap_i64]
  omega

theorem bound_some (l : List S133) (b : List Int) (c : List S135) (d : ByteArray) (e : List S140) (x7 asks x8 fuel within ahead : Int)
    (h1 : 1 ≤ l.length) (h2 : l.length ≤ 16) (h3 : 1 ≤ fuel) (h4 : fuel ≤ 1024) (h5 : 1 ≤ asks) (h6 : asks ≤ 5) (h7 : 0 ≤ within) (h8 : within ≤ 18) (h9 : 0 ≤ ahead) (h10 : ahead ≤ 256) :
    meter_Bound.f l b c d e x7 asks x8 fuel within ahead = some ((ahead + 1) * within * (asks * (2 * fuel + 2) + 3), 0) := by
  have hm : meter_may.f l b c d e x7 asks x8 fuel = some true := by
    unfold meter_may.f
    rw [if_pos (by omega), if_pos (by omega), if_pos (by omega), if_pos (by omega), if_pos (by omega)]
    congr 1
    exact decide_eq_true (by omega)
  unfold meter_Bound.f
  rw [hm]
  simp only [Option.bind_some, if_true]
  rw [if_neg (by omega), if_neg (by omega), if_neg (by omega), if_neg (by omega)]
  have a1 : wrap64 (ahead + 1) = ahead + 1 := by unfold wrap64; omega
  have b1 : 0 ≤ (ahead + 1) * within := Int.mul_nonneg (by omega) h7
  have b2 : (ahead + 1) * within ≤ 257 * 18 := Int.mul_le_mul (by omega) h8 h7 (by omega)
  have a2 : wrap64 ((ahead + 1) * within) = (ahead + 1) * within := by unfold wrap64; omega
  have a3 : wrap64 (2 * fuel) = 2 * fuel := by unfold wrap64; omega
  have a4 : wrap64 (2 * fuel + 2) = 2 * fuel + 2 := by unfold wrap64; omega
  have b3 : 0 ≤ asks * (2 * fuel + 2) := Int.mul_nonneg (by omega) (by omega)
  have b4 : asks * (2 * fuel + 2) ≤ 5 * 2050 := Int.mul_le_mul h6 (by omega) (by omega) (by omega)
  have a5 : wrap64 (asks * (2 * fuel + 2)) = asks * (2 * fuel + 2) := by unfold wrap64; omega
  have a6 : wrap64 (asks * (2 * fuel + 2) + 3) = asks * (2 * fuel + 2) + 3 := by unfold wrap64; omega
  have b5 : 0 ≤ (ahead + 1) * within * (asks * (2 * fuel + 2) + 3) := Int.mul_nonneg b1 (by omega)
  have b6 : (ahead + 1) * within * (asks * (2 * fuel + 2) + 3) ≤ (257 * 18) * (5 * 2050 + 3) := Int.mul_le_mul b2 (by omega) (by omega) (by omega)
  have a7 : wrap64 ((ahead + 1) * within * (asks * (2 * fuel + 2) + 3)) = (ahead + 1) * within * (asks * (2 * fuel + 2) + 3) := by unfold wrap64; omega
  rw [a1, a2, a3, a4, a5, a6, a7]

theorem awake_true : cloisterlaw21_awake.f 9 = some true := by decide +kernel

theorem MeterMore : cloisterlaw21_MeterMore.Pure := by
  intro a0 a1 a2 _ _ _
  have u : 0 ≤ Go.bits .and .i64 a0 7 ∧ Go.bits .and .i64 a0 7 ≤ 7 := and_mask a0 7 (by omega)
  have v : 0 ≤ Go.bits .and .i64 a0 3 ∧ Go.bits .and .i64 a0 3 ≤ 3 := and_mask a0 3 (by omega)
  have f : 0 ≤ Go.bits .and .i64 a1 1023 ∧ Go.bits .and .i64 a1 1023 ≤ 1023 := and_mask a1 1023 (by omega)
  have g : 0 ≤ Go.bits .and .i64 a2 255 ∧ Go.bits .and .i64 a2 255 ≤ 255 := and_mask a2 255 (by omega)
  refine ⟨9, ?_⟩
  unfold cloisterlaw21_MeterMore.f
  generalize Go.bits .and .i64 a0 7 = u' at *
  generalize Go.bits .and .i64 a0 3 = v' at *
  generalize Go.bits .and .i64 a1 1023 = f' at *
  generalize Go.bits .and .i64 a2 255 = g' at *
  have w1 : wrap64 (1 + u') = 1 + u' := by unfold wrap64; omega
  have w2 : wrap64 (1 + v') = 1 + v' := by unfold wrap64; omega
  have w3 : wrap64 (1 + f') = 1 + f' := by unfold wrap64; omega
  have w4 : wrap64 (1 + v' + 1) = 1 + v' + 1 := by unfold wrap64; omega
  have w5 : wrap64 (g' + 1) = g' + 1 := by unfold wrap64; omega
  rw [w1, w2, w3, w4, w5, if_pos (by omega), if_pos (by omega)]
  simp only [Option.bind_some]
  rw [bound_some _ _ _ _ _ 0 (1 + v') 0 (1 + f') 9 g' (by rw [List.length_replicate]; omega) (by rw [List.length_replicate]; omega) (by omega) (by omega) (by omega) (by omega) (by omega) (by omega) (by omega) (by omega),
    bound_some _ _ _ _ _ 0 (1 + v') 0 (1 + f') 9 (g' + 1) (by rw [List.length_replicate]; omega) (by rw [List.length_replicate]; omega) (by omega) (by omega) (by omega) (by omega) (by omega) (by omega) (by omega) (by omega),
    bound_some _ _ _ _ _ 0 (1 + v') 0 (1 + f') 18 g' (by rw [List.length_replicate]; omega) (by rw [List.length_replicate]; omega) (by omega) (by omega) (by omega) (by omega) (by omega) (by omega) (by omega) (by omega),
    bound_some _ _ _ _ _ 0 (1 + v' + 1) 0 (1 + f') 9 g' (by rw [List.length_replicate]; omega) (by rw [List.length_replicate]; omega) (by omega) (by omega) (by omega) (by omega) (by omega) (by omega) (by omega) (by omega)]
  simp only [Option.bind_some]
  have q0 : 0 < (1 + v') * (2 * (1 + f') + 2) + 3 := by
    have := Int.mul_nonneg (a := 1 + v') (b := 2 * (1 + f') + 2) (by omega) (by omega)
    omega
  have q1 : (1 + v') * (2 * (1 + f') + 2) + 3 ≤ 4 * 2050 + 3 := by
    have := Int.mul_le_mul (a := 1 + v') (b := 2 * (1 + f') + 2) (c := 4) (d := 2050) (by omega) (by omega) (by omega) (by omega)
    omega
  have q2 : (1 + v' + 1) * (2 * (1 + f') + 2) + 3 = ((1 + v') * (2 * (1 + f') + 2) + 3) + (2 * (1 + f') + 2) := by
    rw [Int.add_mul (1 + v') 1, Int.one_mul]
    omega
  rw [q2]
  generalize (1 + v') * (2 * (1 + f') + 2) + 3 = q at *
  have r0 : 0 ≤ (g' + 1) * 9 * q := Int.mul_nonneg (by omega) (by omega)
  have r1 : (g' + 1) * 9 * q ≤ (256 * 9) * (4 * 2050 + 3) := Int.mul_le_mul (by omega) (by omega) (by omega) (by omega)
  have r2 : (g' + 1 + 1) * 9 * q = (g' + 1) * 9 * q + 9 * q := by
    rw [show (g' + 1 + 1) * 9 = (g' + 1) * 9 + 9 from by omega, Int.add_mul]
  have r3 : (g' + 1) * 18 * q = 2 * ((g' + 1) * 9 * q) := by
    rw [show (g' + 1) * 18 = 2 * ((g' + 1) * 9) from by omega, Int.mul_assoc]
  have r4 : (g' + 1) * 9 * (q + (2 * (1 + f') + 2)) = (g' + 1) * 9 * q + (g' + 1) * 9 * (2 * (1 + f') + 2) := Int.mul_add _ _ _
  have r5 : 0 < (g' + 1) * 9 * (2 * (1 + f') + 2) := Int.mul_pos (by omega) (by omega)
  have r6 : g' = 0 → (g' + 1) * 9 * q = 9 * q := by
    intro h
    rw [h]
    omega
  have r7 : wrap64 (2 * ((g' + 1) * 9 * q)) = 2 * ((g' + 1) * 9 * q) := by unfold wrap64; omega
  rw [r2, r3, r4, r7]
  rw [if_pos trivial, if_pos trivial, if_pos trivial, if_pos trivial, if_pos (by omega), if_pos rfl, if_pos (by omega)]
  rw [awake_true]
  simp only [Option.bind_some]
  by_cases h : g' = 0
  · rw [if_pos h, if_pos (by have := r6 h; omega)]
  · rw [if_neg h]

end Go.Proofs.Ytibmabidjacjlaa.Pure
