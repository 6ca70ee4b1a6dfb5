/- What the day functions of the Docs seat answer: days.Date ends, entry.isDay. -/
import Derived.Test.YtmnojjfamfpmnaaGreatDoorStr
set_option linter.unusedVariables false
set_option linter.unusedSimpArgs false
set_option linter.unusedSectionVars false
set_option linter.unnecessarySimpa false
namespace Go.Proofs.YtmnojjfamfpmnaaGreatDoor
open Go Go.RowKit
set_option maxRecDepth 100000
def bef (y : Int) : Int := 365 * (y - 1900) + (y - 1) / 4 - (y - 1) / 100 + (y - 1) / 400 - 460
def leapB (y : Int) : Bool := decide (y % 4 = 0) && !decide (y % 100 = 0) || decide (y % 400 = 0)
def tab : Nat → Int
  | 0 => 31
  | 1 => 28
  | 2 => 31
  | 3 => 30
  | 4 => 31
  | 5 => 30
  | 6 => 31
  | 7 => 31
  | 8 => 30
  | 9 => 31
  | 10 => 30
  | 11 => 31
  | _ => 0
def lenI (y : Int) (m : Nat) : Int := if m = 2 ∧ leapB y = true then 29 else tab (m - 1)
/-- The table of the months' lengths lies at its place. -/
def Laid0 (w : World) : Prop := ∀ j : Nat, j < 12 → w.cell? ⟨0, j, none⟩ = some (.int .i64 (tab j))

theorem before_ok (y : Int) (h0 : 1900 ≤ y) (h1 : y ≤ 2200) (w : World) : Calls Tryz.prog 77 #[.int .i64 y] w fun e w' => e = .returned (.int .i64 (bef y)) ∧ w' = w := by
  go_enter Tryz.func77, Tryz.ntmps77
  go_wp2
  go_ret
  refine ⟨?_, rfl⟩
  simp [bef]
  omega
theorem leap_ok (y : Int) (h0 : 1900 ≤ y) (h1 : y ≤ 2200) (w : World) : Calls Tryz.prog 108 #[.int .i64 y] w fun e w' => e = .returned (.bool (leapB y)) ∧ w' = w := by
  go_enter Tryz.func108, Tryz.ntmps108
  go_wp2
  all_goals (go_ret; refine ⟨?_, rfl⟩; simp_all [leapB]; try (first | omega | rfl | (rw [Bool.eq_iff_iff]; simp; omega)))
theorem length_ok (y : Int) (m : Nat) (h0 : 1900 ≤ y) (h1 : y ≤ 2200) (hm : 1 ≤ m) (hm2 : m ≤ 12) (w : World) (hg : Laid0 w) : Calls Tryz.prog 78 #[.int .i64 y, .int .i64 m] w fun e w' => e = .returned (.int .i64 (lenI y m)) ∧ w' = w := by
  obtain rfl | rfl | rfl | rfl | rfl | rfl | rfl | rfl | rfl | rfl | rfl | rfl : m = 1 ∨ m = 2 ∨ m = 3 ∨ m = 4 ∨ m = 5 ∨ m = 6 ∨ m = 7 ∨ m = 8 ∨ m = 9 ∨ m = 10 ∨ m = 11 ∨ m = 12 := by omega
  case inr.inl =>
    have hc := hg 1 (by decide)
    simp only [tab] at hc
    clear hg
    cases hl : leapB y
    · go_enter Tryz.func78, Tryz.ntmps78
      go_wp2_with (go_at_call 108; refine (leap_ok _ h0 h1 _).mono ?_; rintro e w' ⟨rfl, rfl⟩)
      all_goals (go_ret; simp [lenI, tab, hl])
    · go_enter Tryz.func78, Tryz.ntmps78
      go_wp2_with (go_at_call 108; refine (leap_ok _ h0 h1 _).mono ?_; rintro e w' ⟨rfl, rfl⟩)
      all_goals (go_ret; simp [lenI, tab, hl])
  all_goals
    have hc0 := hg 0 (by decide)
    have hc2 := hg 2 (by decide)
    have hc3 := hg 3 (by decide)
    have hc4 := hg 4 (by decide)
    have hc5 := hg 5 (by decide)
    have hc6 := hg 6 (by decide)
    have hc7 := hg 7 (by decide)
    have hc8 := hg 8 (by decide)
    have hc9 := hg 9 (by decide)
    have hc10 := hg 10 (by decide)
    have hc11 := hg 11 (by decide)
    simp only [tab] at hc0 hc2 hc3 hc4 hc5 hc6 hc7 hc8 hc9 hc10 hc11
    clear hg
    go_enter Tryz.func78, Tryz.ntmps78
    go_wp2
    go_ret
    simp [lenI, tab]
def restI (y : Int) (m : Nat) : Int := match m with
  | 1 => if leapB y = true then 366 else 365
  | 2 => if leapB y = true then 335 else 334
  | 3 => 306
  | 4 => 275
  | 5 => 245
  | 6 => 214
  | 7 => 184
  | 8 => 153
  | 9 => 122
  | 10 => 92
  | 11 => 61
  | 12 => 31
  | _ => 0
theorem rest_step (y : Int) (m : Nat) (hm : 1 ≤ m) (hm2 : m ≤ 12) : restI y m = lenI y m + restI y (m + 1) ∧ 0 < lenI y m ∧ lenI y m ≤ 31 := by
  obtain rfl | rfl | rfl | rfl | rfl | rfl | rfl | rfl | rfl | rfl | rfl | rfl : m = 1 ∨ m = 2 ∨ m = 3 ∨ m = 4 ∨ m = 5 ∨ m = 6 ∨ m = 7 ∨ m = 8 ∨ m = 9 ∨ m = 10 ∨ m = 11 ∨ m = 12 := by omega
  all_goals (cases h : leapB y <;> simp [restI, lenI, tab, h])
theorem rest_end (y : Int) (m : Nat) (hm : 13 ≤ m) : restI y m = 0 := by
  unfold restI
  split <;> first | rfl | omega
theorem rest_le (y : Int) (m : Nat) : restI y m ≤ 366 := by
  unfold restI
  split <;> first | omega | (split <;> omega)
theorem Laid0.alloc {w : World} (h : Laid0 w) (o : Obj) : Laid0 (w.alloc o) := by
  intro j hj
  have h1 := h j hj
  have hlt := World.block_lt_of_cell? _ _ h1
  rw [← h1]
  exact World.cell?_alloc_past _ _ _ hlt

def cellI (w : World) (b j : Nat) : Int := match w.cell? ⟨b, j, none⟩ with
  | some (.int _ n) => n
  | _ => 0
theorem date_ok (n : Int) (h0 : 0 ≤ n) (h1 : n ≤ 109572) (w : World) (hg : Laid0 w) : Calls Tryz.prog 45 #[.int .i64 n] w fun e w' => ∃ a b c, e = .returned (.tuple #[.agg #[.int .i64 a, .int .i64 b, .int .i64 c], .int .i64 0]) ∧ Below w.heap.size w w' := by
  go_enter Tryz.func45, Tryz.ntmps45
  go_wp2
  go_loopw [12] (fun _ wr => ∃ y : Int, 1900 ≤ y ∧ y ≤ 2199 ∧ bef y ≤ n ∧ wr = w.alloc (.cells #[.int .i64 y, .int .i64 0, .int .i64 0] 103)) (fun _ wr => (2199 - cellI wr w.heap.size 0).toNat)
  case atStart => exact ⟨1900 + n / 366, by omega, by omega, by unfold bef; omega, rfl⟩
  case round =>
    obtain ⟨y, hy0, hy1, hb, rfl⟩ := hrel
    by_cases hy : y < 2199 ∧ bef (y + 1) ≤ n
    · obtain ⟨hy, hc⟩ := hy
      go_wp2_with (go_at_call 77; refine (before_ok _ (by omega) (by omega) _).mono ?_; rintro e w' ⟨rfl, rfl⟩)
      go_roundw
      case rel => first | exact ⟨y + 1, by omega, by omega, hc, rfl⟩ | ((repeat apply Exists.intro); exact ⟨⟨y + 1, by omega, by omega, hc, rfl⟩, rfl⟩)
      case measure => simp [cellI]; omega
    · have hlt : n < bef (y + 1) := by
        unfold bef at *
        omega
      have hb0 : 0 ≤ bef y := by unfold bef; omega
      have hb1 : bef (y + 1) - bef y = 365 + (if leapB y then 1 else 0) := by
        unfold bef leapB
        split
        · rename_i h; simp at h; omega
        · rename_i h; simp at h; omega
      clear hy
      go_wp2_with (go_at_call 77; refine (before_ok _ (by omega) (by omega) _).mono ?_; rintro e w' ⟨rfl, rfl⟩)
      all_goals
        go_loopw [0] (fun v wr => ∃ (m : Nat) (r : Int), 1 ≤ m ∧ m ≤ 12 ∧ 0 ≤ r ∧ r < restI y m ∧ v = .int .i64 r ∧ wr = w.alloc (.cells #[.int .i64 y, .int .i64 m, .int .i64 0] 103)) (fun _ wr => (13 - cellI wr w.heap.size 1).toNat)
        case atStart =>
          refine ⟨1, n - bef y, by omega, by omega, by omega, ?_, rfl, rfl⟩
          simp only [restI]
          split at hb1 <;> rename_i hl <;> simp [hl] <;> omega
        case round =>
          obtain ⟨m, r, hm, hm2, hr0, hr1, rfl, rfl⟩ := hrel
          obtain ⟨hs1, hs2, hs3⟩ := rest_step y m hm hm2
          have hle := rest_le y m
          by_cases hlen : lenI y m ≤ r
          · have hm3 : m + 1 ≤ 12 := by
              rcases Nat.lt_or_ge m 12 with h | h
              · omega
              · rw [rest_end y (m + 1) (by omega)] at hs1; omega
            go_wp2_with (go_at_call 78; refine (length_ok _ _ (by omega) (by omega) hm hm2 _ (hg.alloc _)).mono ?_; rintro e w' ⟨rfl, rfl⟩)
            go_roundw
            case rel => first | exact ⟨m + 1, r - lenI y m, by omega, hm3, by omega, by omega, rfl, by simp⟩ | ((repeat apply Exists.intro); exact ⟨⟨m + 1, r - lenI y m, by omega, hm3, by omega, by omega, rfl, by simp⟩, rfl⟩)
            case measure => simp [cellI]; omega
          · go_wp2_with (go_at_call 78; refine (length_ok _ _ (by omega) (by omega) hm hm2 _ (hg.alloc _)).mono ?_; rintro e w' ⟨rfl, rfl⟩)
            refine bodyPost_ret (v := .tuple #[.agg #[.int .i64 y, .int .i64 m, .int .i64 (r + 1)], .int .i64 0]) ?_ rfl ?_
            · rw [results_cell_tmp (p := 2) (u := 3) (ty := 103) rfl]
              simp [go_sem]
            · exact ⟨_, _, _, rfl, (Below.refl _ _).alloc (Nat.le_refl _) _⟩
theorem is_ok (n : Int) (w : World) : Calls Tryz.prog 76 #[.int .i64 n] w fun e w' => e = .returned (.bool (decide (0 ≤ n) && decide (n ≤ 109572))) ∧ w' = w := by
  go_enter Tryz.func76, Tryz.ntmps76
  go_wp2
  all_goals (go_ret; refine ⟨?_, rfl⟩; simp; try (first | omega | rfl | (rw [Bool.eq_iff_iff]; simp; omega)))
theorem date_not (n : Int) (hn : ¬ (0 ≤ n ∧ n ≤ 109572)) (w : World) : Calls Tryz.prog 45 #[.int .i64 n] w fun e w' => e = .returned (.tuple #[.agg #[.int .i64 0, .int .i64 0, .int .i64 0], .int .i64 11]) ∧ Below w.heap.size w w' := by
  have hb : (decide (0 ≤ n) && decide (n ≤ 109572)) = false := by
    rw [Bool.eq_false_iff]; simpa using hn
  generalize hbb : (decide (0 ≤ n) && decide (n ≤ 109572)) = bb at hb
  go_enter Tryz.func45, Tryz.ntmps45
  go_wp2_with (go_at_call 76; refine (is_ok n _).mono ?_; rintro e w' ⟨rfl, rfl⟩; rw [hbb, hb])
  refine bodyPost_ret (v := .tuple #[.agg #[.int .i64 0, .int .i64 0, .int .i64 0], .int .i64 11]) ?_ rfl ?_
  · rw [results_cell_tmp (p := 2) (u := 3) (ty := 103) rfl]
    simp [go_sem]
  · exact ⟨rfl, (Below.refl _ _).alloc (Nat.le_refl _) _⟩
theorem isDay_ok (n : Int) (w : World) (hg : Laid0 w) : Calls Tryz.prog 91 #[.int .i64 n] w fun e w' => e = .returned (.bool (decide (0 ≤ n) && decide (n ≤ 109572))) ∧ Below w.heap.size w w' := by
  by_cases h : 0 ≤ n ∧ n ≤ 109572
  · have hb : (decide (0 ≤ n) && decide (n ≤ 109572)) = true := by simp [h.1, h.2]
    rw [hb]
    have hd := date_ok n h.1 h.2 w hg
    clear hb h
    go_enter Tryz.func91, Tryz.ntmps91
    go_wp2_with (go_at_call 45; refine hd.mono ?_; rintro e w1 ⟨a, b, c, rfl, hb1⟩)
    go_ret
    exact ⟨rfl, hb1.alloc hb1.size _⟩
  · have hb : (decide (0 ≤ n) && decide (n ≤ 109572)) = false := by
      rw [Bool.eq_false_iff]; simpa using h
    rw [hb]
    have hd := date_not n h w
    clear hb h
    go_enter Tryz.func91, Tryz.ntmps91
    go_wp2_with (go_at_call 45; refine hd.mono ?_; rintro e w1 ⟨rfl, hb1⟩)
    go_ret
    exact ⟨rfl, hb1.alloc hb1.size _⟩
end Go.Proofs.YtmnojjfamfpmnaaGreatDoor
