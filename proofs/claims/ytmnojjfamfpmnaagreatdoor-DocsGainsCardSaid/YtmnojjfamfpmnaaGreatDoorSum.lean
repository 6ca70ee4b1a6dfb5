/- num.Sum and its reference twin: the exact sum of a few numbers, and whether it fits. -/
import Derived.Test.YtmnojjfamfpmnaaGreatDoorNum
import Derived.Laws.Externs
set_option linter.unusedVariables false
set_option linter.unusedSimpArgs false
set_option linter.unusedSectionVars false
set_option linter.unnecessarySimpa false
namespace Go.Proofs.YtmnojjfamfpmnaaGreatDoor
open Go Go.RowKit
set_option maxRecDepth 100000
theorem add64 (x y c : Int) (hx : 0 ≤ x) (hy : 0 ≤ y) (hc0 : 0 ≤ c) (hc : c ≤ 1) (w : World) : (callFunc 149 #[.int .u64 x, .int .u64 y, .int .u64 c]).run Tryz.prog w =
    .ok (.value (.tuple #[.int .u64 ((x + y + c) % 18446744073709551616), .int .u64 ((x + y + c) / 18446744073709551616)])) w := by
  rw [run_callFunc_extern Tryz.func149 (by kernel_rfl) (by kernel_rfl) (by kernel_rfl) (e := add64Entry) (by kernel_rfl), run_add64 x y c hx hy hc0 hc]
  rfl
def psum (z : Nat → Int) : Nat → Int
  | 0 => 0
  | k + 1 => psum z k + z k
theorem psum_le (z : Nat → Int) (len : Nat) (hz : ∀ k, k < len → In64 (z k)) : ∀ k, k ≤ len → -(9223372036854775808 * (k : Int)) ≤ psum z k ∧ psum z k ≤ 9223372036854775808 * (k : Int) := by
  intro k
  induction k with
  | zero => intro _; simp [psum]
  | succ k ih =>
    intro h
    have h1 := ih (by omega)
    obtain ⟨h2, h3⟩ := hz k (by omega)
    simp only [psum]
    omega
def sumB (z : Nat → Int) (len : Nat) : Bool := decide (-9223372036854775808 ≤ psum z len) && decide (psum z len ≤ 9223372036854775807)
def sumI (z : Nat → Int) (len : Nat) : Int := if sumB z len then psum z len else 0
theorem sum_ok (b off len cap : Nat) (z : Nat → Int) (h0 : 0 < len) (hl : len ≤ 1000) (hz : ∀ k, k < len → In64 (z k)) (w : World) (hc : ∀ k, k < len → w.cell? ⟨b, off + k, none⟩ = some (.int .i64 (z k))) :
    Calls Tryz.prog 134 #[.slice (some ⟨b, off, none⟩) len cap] w fun e w' => e = .returned (.tuple #[.int .i64 (sumI z len), .bool (sumB z len)]) ∧ Below w.heap.size w w' := by
  go_enter Tryz.func134, Tryz.ntmps134
  go_wp2
  go_loop [4, 5, 11] (fun hi lo i => ∃ k : Nat, k ≤ len ∧ i = .int .i64 k ∧ lo = .int .u64 (psum z k % 18446744073709551616) ∧ hi = .int .u64 (psum z k / 18446744073709551616 % 18446744073709551616)) (fun _ _ i => len - (intOf i).toNat)
  case atStart => exact ⟨0, Nat.zero_le _, rfl, rfl, rfl⟩
  case round =>
    obtain ⟨k, hk, rfl, rfl, rfl⟩ := hrel
    by_cases hlt : k < len
    · have hck := hc k hlt
      obtain ⟨hz0, hz1⟩ := hz k hlt
      have hps := psum_le z len hz k hk
      have hk2 : (k : Int) ≤ 1000 := by omega
      clear hc hz
      obtain ⟨c, hcc⟩ : ∃ c : Int, c = (psum z k % 18446744073709551616 + z k % 18446744073709551616) / 18446744073709551616 := ⟨_, rfl⟩
      have hw1 : IntKind.u64.wrap (z k) = z k % 18446744073709551616 := IntKind.wrap_u64 _
      have hadd1 : ∀ w : World, (callFunc 149 #[.int .u64 (psum z k % 18446744073709551616), .int .u64 (z k % 18446744073709551616), .int .u64 0]).run Tryz.prog w = .ok (.value (.tuple #[.int .u64 (psum z (k + 1) % 18446744073709551616), .int .u64 c])) w := by
        intro w
        rw [add64 _ _ _ (by omega) (by omega) (by omega) (by omega), hcc]
        congr 6
        · simp only [psum]
          omega
        · simp
      rcases Int.lt_or_le (z k) 0 with hneg | hpos
      · have hs : z k / 9223372036854775808 = -1 := by omega
        have hm1 : IntKind.u64.wrap (-1) = 18446744073709551615 := by decide
        obtain ⟨c2, hc2⟩ : ∃ c2 : Int, c2 = (psum z k / 18446744073709551616 % 18446744073709551616 + 18446744073709551615 + c) / 18446744073709551616 := ⟨_, rfl⟩
        have hadd2 : ∀ w : World, (callFunc 149 #[.int .u64 (psum z k / 18446744073709551616 % 18446744073709551616), .int .u64 18446744073709551615, .int .u64 c]).run Tryz.prog w = .ok (.value (.tuple #[.int .u64 (psum z (k + 1) / 18446744073709551616 % 18446744073709551616), .int .u64 c2])) w := by
          intro w
          rw [add64 _ _ _ (by omega) (by omega) (by omega) (by omega), hc2]
          congr 6
          simp only [psum]
          omega
        clear hcc hc2 hps hz0 hz1
        go_wp2
        go_round
        case rel => exact ⟨k + 1, hlt, by go_num, rfl, rfl⟩
        case measure => simp [intOf]; omega
      · have hs : z k / 9223372036854775808 = 0 := by omega
        obtain ⟨c2, hc2⟩ : ∃ c2 : Int, c2 = (psum z k / 18446744073709551616 % 18446744073709551616 + 0 + c) / 18446744073709551616 := ⟨_, rfl⟩
        have hadd2 : ∀ w : World, (callFunc 149 #[.int .u64 (psum z k / 18446744073709551616 % 18446744073709551616), .int .u64 0, .int .u64 c]).run Tryz.prog w = .ok (.value (.tuple #[.int .u64 (psum z (k + 1) / 18446744073709551616 % 18446744073709551616), .int .u64 c2])) w := by
          intro w
          rw [add64 _ _ _ (by omega) (by omega) (by omega) (by omega), hc2]
          congr 6
          simp only [psum]
          omega
        clear hcc hc2 hps hz0 hz1
        go_wp2
        go_round
        case rel => exact ⟨k + 1, hlt, by go_num, rfl, rfl⟩
        case measure => simp [intOf]; omega
    · obtain rfl : k = len := by omega
      have hps := psum_le z k hz k hk
      have hk2 : (k : Int) ≤ 1000 := by omega
      clear hc hz hlt
      by_cases hin : -9223372036854775808 ≤ psum z k ∧ psum z k ≤ 9223372036854775807
      · have hbS : sumB z k = true := by simp [sumB, hin]
        have hiS : sumI z k = psum z k := by simp [sumI, hbS]
        obtain ⟨hi1, hi2⟩ := hin
        have hw1 : IntKind.i64.wrap (psum z k % 18446744073709551616) = psum z k := by simp only [IntKind.wrap_i64]; omega
        rcases Int.lt_or_le (psum z k) 0 with hneg | hpos
        · have h1 : psum z k / 18446744073709551616 % 18446744073709551616 = 18446744073709551615 := by omega
          have hs : psum z k / 9223372036854775808 = -1 := by omega
          have hm1 : IntKind.u64.wrap (-1) = 18446744073709551615 := by decide
          go_wp2
          go_ret2
          first | exact ⟨rfl, Below.refl _ _⟩ | (rw [hbS, hiS]; exact ⟨rfl, Below.refl _ _⟩)
        · have h1 : psum z k / 18446744073709551616 % 18446744073709551616 = 0 := by omega
          have hs : psum z k / 9223372036854775808 = 0 := by omega
          go_wp2
          go_ret2
          first | exact ⟨rfl, Below.refl _ _⟩ | (rw [hbS, hiS]; exact ⟨rfl, Below.refl _ _⟩)
      · have hbS : sumB z k = false := by rw [Bool.eq_false_iff]; simpa [sumB] using hin
        have hiS : sumI z k = 0 := by simp [sumI, hbS]
        obtain ⟨n, hn⟩ : ∃ n, n = IntKind.i64.wrap (psum z k % 18446744073709551616) := ⟨_, rfl⟩
        obtain ⟨hi, hhi⟩ : ∃ hi, hi = psum z k / 18446744073709551616 % 18446744073709551616 := ⟨_, rfl⟩
        have hn2 := hn
        rw [IntKind.wrap_i64] at hn2
        have hm1 : IntKind.u64.wrap (-1) = 18446744073709551615 := by decide
        rw [← hhi]
        have hw1 := hn.symm
        rcases Int.lt_or_le n 0 with hneg | hpos
        · have hs : n / 9223372036854775808 = -1 := by omega
          have hne : ¬ (18446744073709551615 : Int) = hi := by omega
          clear hn hn2 hhi hps hin
          go_wp2
          go_ret2
          first | exact ⟨rfl, Below.refl _ _⟩ | (rw [hbS, hiS]; exact ⟨rfl, Below.refl _ _⟩)
        · have hs : n / 9223372036854775808 = 0 := by omega
          have hne : ¬ (0 : Int) = hi := by omega
          clear hn hn2 hhi hps hin
          go_wp2
          go_ret2
          first | exact ⟨rfl, Below.refl _ _⟩ | (rw [hbS, hiS]; exact ⟨rfl, Below.refl _ _⟩)
theorem mask32 (n : Int) : bits .and .i64 n 4294967295 = n % 4294967296 := by
  have h127 : (BitVec.ofInt 64 4294967295).toNat = 2 ^ 32 - 1 := by decide
  have key : (BitVec.ofInt 64 n &&& BitVec.ofInt 64 4294967295).toNat = (n % ((2 ^ 64 : Nat) : Int)).toNat % 2 ^ 32 := by
    rw [BitVec.toNat_and, BitVec.toNat_ofInt, h127, Nat.and_two_pow_sub_one_eq_mod]
  show IntKind.i64.wrap ((BitVec.ofInt 64 n &&& BitVec.ofInt 64 4294967295).toNat : Nat) = n % 4294967296
  rw [key, IntKind.wrap_i64]
  omega
theorem sum1_ok (b off len cap : Nat) (z : Nat → Int) (h0 : 0 < len) (hl : len ≤ 1000) (hz : ∀ k, k < len → In64 (z k)) (w : World) (hc : ∀ k, k < len → w.cell? ⟨b, off + k, none⟩ = some (.int .i64 (z k))) :
    Calls Tryz.prog 68 #[.slice (some ⟨b, off, none⟩) len cap] w fun e w' => e = .returned (.tuple #[.int .i64 (sumI z len), .bool (sumB z len)]) ∧ Below w.heap.size w w' := by
  go_enter Tryz.func68, Tryz.ntmps68
  go_wp2
  go_loop [4, 5, 6] (fun hi lo i => ∃ (k : Nat) (h l : Int), k ≤ len ∧ i = .int .i64 k ∧ lo = .int .i64 l ∧ hi = .int .i64 h ∧ h * 4294967296 + l = psum z k ∧ 0 ≤ l ∧ l ≤ 4294967296 * (k : Int) ∧ -(2147483648 * (k : Int)) ≤ h ∧ h ≤ 2147483648 * (k : Int)) (fun _ _ i => len - (intOf i).toNat)
  case atStart => exact ⟨0, 0, 0, Nat.zero_le _, rfl, rfl, rfl, rfl, by decide, by decide, by decide, by decide⟩
  case round =>
    obtain ⟨k, h, l, hk, rfl, rfl, rfl, hs, hl0, hl1, hh0, hh1⟩ := hrel
    have hk2 : (k : Int) ≤ 1000 := by omega
    by_cases hlt : k < len
    · have hck := hc k hlt
      obtain ⟨hz0, hz1⟩ := hz k hlt
      clear hc hz
      have hd : -2147483648 ≤ z k / 4294967296 ∧ z k / 4294967296 ≤ 2147483648 := by omega
      have hm := mask32 (z k)
      go_wp2
      go_round
      case rel => exact ⟨k + 1, h + z k / 4294967296, l + z k % 4294967296, hlt, by go_num, rfl, rfl, by simp only [psum]; omega, by omega, by omega, by omega, by omega⟩
      case measure => simp [intOf]; omega
    · obtain rfl : k = len := by omega
      have hps := psum_le z k hz k hk
      clear hc hz hlt
      have hm := mask32 l
      by_cases hin : -9223372036854775808 ≤ psum z k ∧ psum z k ≤ 9223372036854775807
      · have hbS : sumB z k = true := by simp [sumB, hin]
        have hiS : sumI z k = psum z k := by simp [sumI, hbS]
        have hq : -2147483648 ≤ h + l / 4294967296 ∧ h + l / 4294967296 ≤ 2147483647 := by omega
        have he : (h + l / 4294967296) * 4294967296 + l % 4294967296 = psum z k := by omega
        go_wp2
        go_ret2
        first | exact ⟨rfl, Below.refl _ _⟩ | (rw [hbS, hiS]; exact ⟨rfl, Below.refl _ _⟩)
      · have hbS : sumB z k = false := by rw [Bool.eq_false_iff]; simpa [sumB] using hin
        have hiS : sumI z k = 0 := by simp [sumI, hbS]
        rcases Int.lt_or_le (h + l / 4294967296) (-2147483648) with hq | hq
        · go_wp2
          all_goals first
            | (go_ret2; first | exact ⟨rfl, Below.refl _ _⟩ | (rw [hbS, hiS]; exact ⟨rfl, Below.refl _ _⟩))
            | (exfalso; simp at *; omega)
        · have hq2 : 2147483647 < h + l / 4294967296 := by omega
          go_wp2
          all_goals first
            | (go_ret2; first | exact ⟨rfl, Below.refl _ _⟩ | (rw [hbS, hiS]; exact ⟨rfl, Below.refl _ _⟩))
            | (exfalso; simp at *; omega)
end Go.Proofs.YtmnojjfamfpmnaaGreatDoor
