/- What the small number functions of the Docs seat answer: num.Sub, negated, optional codes, days of the reference. -/
import Derived.Test.YtmnojjfamfpmnaaGreatDoorStr
import Derived.Laws.Externs
set_option linter.unusedVariables false
set_option linter.unusedSimpArgs false
set_option linter.unusedSectionVars false
set_option linter.unnecessarySimpa false
namespace Go.Proofs.YtmnojjfamfpmnaaGreatDoor
open Go Go.RowKit
set_option maxRecDepth 100000
def fitsB (a b : Int) : Bool := decide (-9223372036854775808 ≤ a - b) && decide (a - b ≤ 9223372036854775807)
def diffI (a b : Int) : Int := if fitsB a b then a - b else 0
def negI (d : Int) : Int := if d = -9223372036854775808 then d else -d
def dayB (n : Int) : Bool := decide (0 ≤ n) && decide (n ≤ 109572)
def optB (s : ByteArray) : Bool := decide (s.size = 0) || codeB s
abbrev In64 (n : Int) : Prop := -9223372036854775808 ≤ n ∧ n ≤ 9223372036854775807

theorem sub_ok (a b : Int) (ha : In64 a) (hb : In64 b) (w : World) : Calls Tryz.prog 28 #[.int .i64 a, .int .i64 b] w fun e w' => e = .returned (.tuple #[.int .i64 (diffI a b), .bool (fitsB a b)]) ∧ w' = w := by
  obtain ⟨ha0, ha1⟩ := ha
  obtain ⟨hb0, hb1⟩ := hb
  by_cases hf : -9223372036854775808 ≤ a - b ∧ a - b ≤ 9223372036854775807
  · obtain ⟨h1, h2⟩ := hf
    have hf : fitsB a b = true := by simp [fitsB, h1, h2]
    have hd : diffI a b = a - b := by simp [diffI, hf]
    rw [hd, hf]
    clear hd hf
    go_enter Tryz.func28, Tryz.ntmps28
    go_wp2
    all_goals first
      | (go_ret2; exact ⟨rfl, rfl⟩)
      | (exfalso; simp at *; omega)
  · have hf2 : fitsB a b = false := by simp [fitsB]; omega
    have hd : diffI a b = 0 := by simp [diffI, hf2]
    rw [hd, hf2]
    clear hd hf2
    rcases Int.lt_or_le (a - b) 0 with hlt | hge
    · have hw : wrap64 (a - b) = a - b + 18446744073709551616 := by unfold wrap64; omega
      have hb2 : 0 < b := by omega
      go_enter Tryz.func28, Tryz.ntmps28
      go_wp2
      all_goals first
        | (go_ret2; exact ⟨rfl, rfl⟩)
        | (exfalso; simp at *; omega)
    · have hw : wrap64 (a - b) = a - b - 18446744073709551616 := by unfold wrap64; omega
      have hb2 : b < 0 := by omega
      go_enter Tryz.func28, Tryz.ntmps28
      go_wp2
      all_goals first
        | (go_ret2; exact ⟨rfl, rfl⟩)
        | (exfalso; simp at *; omega)
theorem sub1_ok (a b : Int) (ha : In64 a) (hb : In64 b) (w : World) : Calls Tryz.prog 32 #[.int .i64 a, .int .i64 b] w fun e w' => e = .returned (.tuple #[.int .i64 (diffI a b), .bool (fitsB a b)]) ∧ w' = w := by
  obtain ⟨ha0, ha1⟩ := ha
  obtain ⟨hb0, hb1⟩ := hb
  by_cases hf : -9223372036854775808 ≤ a - b ∧ a - b ≤ 9223372036854775807
  · obtain ⟨h1, h2⟩ := hf
    have hf : fitsB a b = true := by simp [fitsB, h1, h2]
    have hd : diffI a b = a - b := by simp [diffI, hf]
    rw [hd, hf]
    clear hd hf
    go_enter Tryz.func32, Tryz.ntmps32
    go_wp2
    all_goals first
      | (go_ret2; exact ⟨rfl, rfl⟩)
      | (exfalso; simp at *; omega)
  · have hf2 : fitsB a b = false := by simp [fitsB]; omega
    have hd : diffI a b = 0 := by simp [diffI, hf2]
    rw [hd, hf2]
    clear hd hf2
    rcases Int.lt_or_le (a - b) 0 with hlt | hge
    · have hw : wrap64 (a - b) = a - b + 18446744073709551616 := by unfold wrap64; omega
      have hb2 : 0 < b := by omega
      go_enter Tryz.func32, Tryz.ntmps32
      go_wp2
      all_goals first
        | (go_ret2; exact ⟨rfl, rfl⟩)
        | (exfalso; simp at *; omega)
    · have hw : wrap64 (a - b) = a - b - 18446744073709551616 := by unfold wrap64; omega
      have hb2 : b < 0 := by omega
      go_enter Tryz.func32, Tryz.ntmps32
      go_wp2
      all_goals first
        | (go_ret2; exact ⟨rfl, rfl⟩)
        | (exfalso; simp at *; omega)
theorem neg_ok (d : Int) (hd : In64 d) (w : World) : Calls Tryz.prog 61 #[.int .i64 d] w fun e w' => e = .returned (.tuple #[.int .i64 (diffI 0 d), .bool (fitsB 0 d)]) ∧ w' = w := by
  have h0 : In64 0 := ⟨by decide, by decide⟩
  go_enter Tryz.func61, Tryz.ntmps61
  go_wp2_with (go_at_call 28; refine (sub_ok 0 d h0 hd _).mono ?_; rintro e w' ⟨rfl, rfl⟩)
  go_ret2
  exact ⟨rfl, rfl⟩
theorem negated_ok (d : Int) (hd : In64 d) (w : World) : Calls Tryz.prog 29 #[.int .i64 d] w fun e w' => e = .returned (.int .i64 (negI d)) ∧ w' = w := by
  have hneg := neg_ok d hd w
  by_cases hm : d = -9223372036854775808
  · have hf : fitsB 0 d = false := by subst hm; decide
    have hi : diffI 0 d = 0 := by simp [diffI, hf]
    have hn : negI d = d := by simp [negI, hm]
    rw [hn]
    rw [hf, hi] at hneg
    clear hf hi hn hm hd
    go_enter Tryz.func29, Tryz.ntmps29
    go_wp2_with (go_at_call 61; refine hneg.mono ?_; rintro e w' ⟨rfl, rfl⟩)
    go_ret
    exact ⟨rfl, rfl⟩
  · have hf : fitsB 0 d = true := by
      obtain ⟨h1, h2⟩ := hd
      simp [fitsB]; omega
    have hi : diffI 0 d = -d := by simp [diffI, hf]
    have hn : negI d = -d := by simp [negI, hm]
    rw [hn]
    rw [hf, hi] at hneg
    clear hf hi hn hm hd
    go_enter Tryz.func29, Tryz.ntmps29
    go_wp2_with (go_at_call 61; refine hneg.mono ?_; rintro e w' ⟨rfl, rfl⟩)
    go_ret
    exact ⟨rfl, rfl⟩
theorem day12_ok (n : Int) (w : World) : Calls Tryz.prog 101 #[.int .i64 n] w fun e w' => e = .returned (.bool (dayB n)) ∧ w' = w := by
  go_enter Tryz.func101, Tryz.ntmps101
  go_wp2
  all_goals (go_ret; refine ⟨?_, rfl⟩; simp [dayB]; try (first | omega | rfl | (rw [Bool.eq_iff_iff]; simp; omega)))
theorem opt_ok (s : ByteArray) (hs : s.size ≤ 9223372036854775807) (w : World) : Calls Tryz.prog 93 #[.string s] w fun e w' => e = .returned (.bool (optB s)) ∧ w' = w := by
  go_enter Tryz.func93, Tryz.ntmps93
  go_wp2_with (go_at_call 27; refine (words_code s hs _).mono ?_; rintro e w' ⟨rfl, rfl⟩)
  all_goals (go_ret; refine ⟨?_, rfl⟩)
  · have h1 : s.size = 0 := (nil_size s).1 ‹_›
    simp [optB, h1]
  · have h1 : ¬ s.size = 0 := mt (nil_size s).2 ‹_›
    have h2 : ¬ s.toList = [] := ‹_›
    simp [optB, h1, h2]
theorem opt12_ok (s : ByteArray) (hs : s.size ≤ 9223372036854775807) (w : World) : Calls Tryz.prog 103 #[.string s] w fun e w' => e = .returned (.bool (optB s)) ∧ w' = w := by
  go_enter Tryz.func103, Tryz.ntmps103
  go_wp2_with (go_at_call 31; refine (ref6_code s hs _).mono ?_; rintro e w' ⟨rfl, rfl⟩)
  all_goals (go_ret; refine ⟨?_, rfl⟩)
  · have h1 : s.size = 0 := (nil_size s).1 ‹_›
    simp [optB, h1]
  · have h1 : ¬ s.size = 0 := mt (nil_size s).2 ‹_›
    have h2 : ¬ s.toList = [] := ‹_›
    simp [optB, h1, h2]
end Go.Proofs.YtmnojjfamfpmnaaGreatDoor
