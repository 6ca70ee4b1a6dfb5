/- What the string functions of the Docs seat answer: words.Code, words.Plain, money.Code and their reference twins. -/
import Derived.WalkKit
import Derived.ProofKit
import Derived.Laws.RangeAny
import Derived.StillTactics
import Derived.BigQuiet
import Derived.Deep.QuietTactic
import Derived.RegionTactic
import Derived.ChangeAlike
import Derived.KernelRfl
import Derived.Test.YtmnojjfamfpmnaaGreatDoorProg
set_option linter.unusedVariables false
set_option linter.unusedSimpArgs false
set_option linter.unusedSectionVars false
set_option linter.unnecessarySimpa false
namespace Go.Proofs.YtmnojjfamfpmnaaGreatDoor
open Go Go.RowKit
set_option maxRecDepth 100000

def letB (c : UInt8) : Bool := (decide (97 ≤ c.toNat) && decide (c.toNat ≤ 122)) || (decide (65 ≤ c.toNat) && decide (c.toNat ≤ 90)) || decide (c.toNat = 95)
def digB (c : UInt8) : Bool := decide (48 ≤ c.toNat) && decide (c.toNat ≤ 57)
def alnum (c : UInt8) : Bool := letB c || digB c
def prin (c : UInt8) : Bool := decide (32 ≤ c.toNat) && decide (c.toNat ≤ 126)
def upp (c : UInt8) : Bool := decide (65 ≤ c.toNat) && decide (c.toNat ≤ 90)

def allB (p : UInt8 → Bool) (s : ByteArray) : Bool := s.data.toList.all p
def allTo (p : UInt8 → Bool) (s : ByteArray) (k : Nat) : Bool := (s.data.toList.take k).all p
theorem allTo_zero (p : UInt8 → Bool) (s : ByteArray) : allTo p s 0 = true := rfl
theorem allTo_succ {p : UInt8 → Bool} {s : ByteArray} {k : Nat} (h : k < s.size) (ha : allTo p s k = true) (hp : p s[k] = true) : allTo p s (k + 1) = true := by
  have hl : k < s.data.toList.length := by simpa using h
  unfold allTo at *
  rw [List.take_add_one, List.getElem?_eq_getElem hl, List.all_append, ha]
  simp
  exact hp
theorem allB_at {p : UInt8 → Bool} {s : ByteArray} {k : Nat} (h : k < s.size) (hp : p s[k] = false) : allB p s = false := by
  unfold allB
  have hl : k < s.data.toList.length := by simpa using h
  rw [List.all_eq_false]
  refine ⟨s[k], ?_, by simpa using hp⟩
  have : s.data.toList[k]'hl ∈ s.data.toList := List.getElem_mem hl
  exact this
theorem allB_end {p : UInt8 → Bool} {s : ByteArray} {k : Nat} (h : ¬ k < s.size) (hp : allTo p s k = true) : allB p s = true := by
  unfold allTo at hp
  unfold allB
  rwa [List.take_of_length_le (by simp; simpa using h)] at hp

theorem code1 (c : UInt8) (w : World) : Calls Tryz.prog 58 #[.int .u8 c.toNat] w fun e w' => e = .returned (.bool (alnum c)) ∧ w' = w := by
  have hc := c.toNat_lt
  go_enter Tryz.func58, Tryz.ntmps58
  go_wp2
  all_goals (go_ret; refine ⟨?_, rfl⟩; (try simp [alnum, letB, digB]); (try (first | omega | (rw [Bool.eq_iff_iff]; simp; omega))))

theorem let6 (c : UInt8) (w : World) : Calls Tryz.prog 64 #[.int .u8 c.toNat] w fun e w' => e = .returned (.bool (letB c)) ∧ w' = w := by
  have hc := c.toNat_lt
  go_enter Tryz.func64, Tryz.ntmps64
  go_wp2
  all_goals (go_ret; refine ⟨?_, rfl⟩; (try simp [letB, letB, digB]); (try (first | omega | (rw [Bool.eq_iff_iff]; simp; omega))))

theorem dig6 (c : UInt8) (w : World) : Calls Tryz.prog 65 #[.int .u8 c.toNat] w fun e w' => e = .returned (.bool (digB c)) ∧ w' = w := by
  have hc := c.toNat_lt
  go_enter Tryz.func65, Tryz.ntmps65
  go_wp2
  all_goals (go_ret; refine ⟨?_, rfl⟩; (try simp [digB, letB, digB]); (try (first | omega | (rw [Bool.eq_iff_iff]; simp; omega))))

theorem prin1 (c : UInt8) (w : World) : Calls Tryz.prog 121 #[.int .u8 c.toNat] w fun e w' => e = .returned (.bool (prin c)) ∧ w' = w := by
  have hc := c.toNat_lt
  go_enter Tryz.func121, Tryz.ntmps121
  go_wp2
  all_goals (go_ret; refine ⟨?_, rfl⟩; (try simp [prin, letB, digB]); (try (first | omega | (rw [Bool.eq_iff_iff]; simp; omega))))

theorem every_code (s : ByteArray) (hs : s.size ≤ 9223372036854775807) (w : World) : Calls Tryz.prog 57 #[.string s, .func (.func 58) #[] #[]] w fun e w' => e = .returned (.bool (allB alnum s)) ∧ w' = w := by
  go_enter Tryz.func57, Tryz.ntmps57
  go_wp2
  go_loop [8] (fun i => ∃ k : Nat, k ≤ s.size ∧ i = .int .i64 k ∧ allTo alnum s k = true) (fun i => s.size - (intOf i).toNat)
  case atStart => exact ⟨0, Nat.zero_le _, rfl, allTo_zero _ _⟩
  case round =>
    obtain ⟨k, hk, rfl, ha⟩ := hrel
    by_cases hlt : k < s.size
    · cases hp : alnum s[k]
      · have hall := allB_at hlt hp
        go_wp2_with (go_at_call 58; refine (code1 _ _).mono ?_; rintro e w' ⟨rfl, rfl⟩)
        go_ret
        first | exact ⟨rfl, rfl⟩ | (rw [hall]; exact ⟨rfl, rfl⟩)
      · have hall := allTo_succ hlt ha hp
        go_wp2_with (go_at_call 58; refine (code1 _ _).mono ?_; rintro e w' ⟨rfl, rfl⟩)
        go_round
        case rel => exact ⟨k + 1, hlt, by go_num, hall⟩
        case measure => simp [intOf]; omega
    · have hall := allB_end hlt ha
      go_wp2
      go_ret
      first | exact ⟨rfl, rfl⟩ | (rw [hall]; exact ⟨rfl, rfl⟩)

theorem every_prin (s : ByteArray) (hs : s.size ≤ 9223372036854775807) (w : World) : Calls Tryz.prog 57 #[.string s, .func (.func 121) #[] #[]] w fun e w' => e = .returned (.bool (allB prin s)) ∧ w' = w := by
  go_enter Tryz.func57, Tryz.ntmps57
  go_wp2
  go_loop [8] (fun i => ∃ k : Nat, k ≤ s.size ∧ i = .int .i64 k ∧ allTo prin s k = true) (fun i => s.size - (intOf i).toNat)
  case atStart => exact ⟨0, Nat.zero_le _, rfl, allTo_zero _ _⟩
  case round =>
    obtain ⟨k, hk, rfl, ha⟩ := hrel
    by_cases hlt : k < s.size
    · cases hp : prin s[k]
      · have hall := allB_at hlt hp
        go_wp2_with (go_at_call 121; refine (prin1 _ _).mono ?_; rintro e w' ⟨rfl, rfl⟩)
        go_ret
        first | exact ⟨rfl, rfl⟩ | (rw [hall]; exact ⟨rfl, rfl⟩)
      · have hall := allTo_succ hlt ha hp
        go_wp2_with (go_at_call 121; refine (prin1 _ _).mono ?_; rintro e w' ⟨rfl, rfl⟩)
        go_round
        case rel => exact ⟨k + 1, hlt, by go_num, hall⟩
        case measure => simp [intOf]; omega
    · have hall := allB_end hlt ha
      go_wp2
      go_ret
      first | exact ⟨rfl, rfl⟩ | (rw [hall]; exact ⟨rfl, rfl⟩)
def codeB (s : ByteArray) : Bool := decide (1 ≤ s.size) && decide (s.size ≤ 12) && allB alnum s
def plainS (s : ByteArray) : Bool := decide (s.size ≤ 60) && allB prin s
def curB (s : ByteArray) : Bool := decide (s.size = 3) && allB upp s
theorem nil_size (s : ByteArray) : s.toList = [] ↔ s.size = 0 := by
  have h1 : s = ByteArray.empty ↔ s.size = 0 := by
    constructor
    · rintro rfl; rfl
    · intro h
      cases s with
      | mk a => exact congrArg ByteArray.mk (Array.size_eq_zero_iff.1 h)
  have h2 := decide_eq_emptyBytes s
  rw [← h1]
  rw [← List.isEmpty_iff, ← h2]
  simp

theorem words_code (s : ByteArray) (hs : s.size ≤ 9223372036854775807) (w : World) : Calls Tryz.prog 27 #[.string s] w fun e w' => e = .returned (.bool (codeB s)) ∧ w' = w := by
  go_enter Tryz.func27, Tryz.ntmps27
  go_wp2_with (go_at_call 57; refine (every_code _ hs _).mono ?_; rintro e w' ⟨rfl, rfl⟩)
  all_goals (go_ret; refine ⟨?_, rfl⟩)
  · have h1 : ¬ 1 ≤ s.size := by have := (nil_size s).1 ‹_›; omega
    simp [codeB, h1]
  · have h1 : 1 ≤ s.size := by have := mt (nil_size s).2 ‹_›; omega
    have h2 : s.size ≤ 12 := by omega
    have h3 : ¬ s.toList = [] := ‹_›
    simp [codeB, h1, h2, h3]
  · have h2 : ¬ s.size ≤ 12 := by omega
    simp [codeB, h2]
theorem words_plain (s : ByteArray) (hs : s.size ≤ 9223372036854775807) (w : World) : Calls Tryz.prog 92 #[.string s] w fun e w' => e = .returned (.bool (plainS s)) ∧ w' = w := by
  go_enter Tryz.func92, Tryz.ntmps92
  go_wp2_with (go_at_call 57; refine (every_prin _ hs _).mono ?_; rintro e w' ⟨rfl, rfl⟩)
  all_goals (go_ret; refine ⟨?_, rfl⟩)
  · have h2 : s.size ≤ 60 := by omega
    simp [plainS, h2]
  · have h2 : ¬ s.size ≤ 60 := by omega
    simp [plainS, h2]
theorem ref6_code (s : ByteArray) (hs : s.size ≤ 9223372036854775807) (w : World) : Calls Tryz.prog 31 #[.string s] w fun e w' => e = .returned (.bool (codeB s)) ∧ w' = w := by
  go_enter Tryz.func31, Tryz.ntmps31
  go_wp2
  go_loop [3] (fun i => ∃ k : Nat, k ≤ s.size ∧ i = .int .i64 k ∧ allTo alnum s k = true) (fun i => s.size - (intOf i).toNat)
  case atStart => exact ⟨0, Nat.zero_le _, rfl, allTo_zero _ _⟩
  case round =>
    obtain ⟨k, hk, rfl, ha⟩ := hrel
    by_cases hlt : k < s.size
    · cases hl : letB s[k]
      · cases hd : digB s[k]
        · have hall : allB alnum s = false := allB_at hlt (by simp [alnum, hl, hd])
          go_wp2_with (first | (go_at_call 64; refine (let6 _ _).mono ?_; rintro e w' ⟨rfl, rfl⟩) | (go_at_call 65; refine (dig6 _ _).mono ?_; rintro e w' ⟨rfl, rfl⟩))
          go_ret
          simp [codeB, hall]
        · have hall : allTo alnum s (k + 1) = true := allTo_succ hlt ha (by simp [alnum, hl, hd])
          go_wp2_with (first | (go_at_call 64; refine (let6 _ _).mono ?_; rintro e w' ⟨rfl, rfl⟩) | (go_at_call 65; refine (dig6 _ _).mono ?_; rintro e w' ⟨rfl, rfl⟩))
          go_round
          case rel => exact ⟨k + 1, hlt, by go_num, hall⟩
          case measure => simp [intOf]; omega
      · have hall : allTo alnum s (k + 1) = true := allTo_succ hlt ha (by simp [alnum, hl])
        go_wp2_with (first | (go_at_call 64; refine (let6 _ _).mono ?_; rintro e w' ⟨rfl, rfl⟩) | (go_at_call 65; refine (dig6 _ _).mono ?_; rintro e w' ⟨rfl, rfl⟩))
        go_round
        case rel => exact ⟨k + 1, hlt, by go_num, hall⟩
        case measure => simp [intOf]; omega
    · have hall := allB_end hlt ha
      go_wp2
      all_goals (go_ret; refine ⟨?_, rfl⟩)
      all_goals (simp [codeB, hall]; try (first | omega | (rw [Bool.eq_iff_iff]; simp; omega)))
theorem ref6_plain (s : ByteArray) (hs : s.size ≤ 9223372036854775807) (w : World) : Calls Tryz.prog 102 #[.string s] w fun e w' => e = .returned (.bool (plainS s)) ∧ w' = w := by
  go_enter Tryz.func102, Tryz.ntmps102
  go_wp2
  go_loop [3] (fun i => ∃ k : Nat, k ≤ s.size ∧ i = .int .i64 k ∧ allTo prin s k = true) (fun i => s.size - (intOf i).toNat)
  case atStart => exact ⟨0, Nat.zero_le _, rfl, allTo_zero _ _⟩
  case round =>
    obtain ⟨k, hk, rfl, ha⟩ := hrel
    by_cases hlt : k < s.size
    · have hc := s[k].toNat_lt
      cases hp : prin s[k]
      · have hall := allB_at hlt hp
        simp [prin] at hp
        go_wp2
        all_goals first
          | (exfalso; omega)
          | (go_ret; simp [plainS, hall])
      · have hall := allTo_succ hlt ha hp
        simp [prin] at hp
        go_wp2
        all_goals first
          | (exfalso; omega)
          | (go_round
             case rel => exact ⟨k + 1, hlt, by go_num, hall⟩
             case measure => simp [intOf]; omega)
    · have hall := allB_end hlt ha
      go_wp2
      all_goals (go_ret; refine ⟨?_, rfl⟩)
      all_goals (simp [plainS, hall]; try (first | omega | (rw [Bool.eq_iff_iff]; simp; omega)))

theorem ref7_code (s : ByteArray) (w : World) : Calls Tryz.prog 62 #[.string s] w fun e w' => e = .returned (.bool (curB s)) ∧ w' = w := by
  go_enter Tryz.func62, Tryz.ntmps62
  by_cases h3 : s.size = 3
  · go_wp2
    go_loop [3] (fun i => ∃ k : Nat, k ≤ 3 ∧ i = .int .i64 k ∧ allTo upp s k = true) (fun i => 3 - (intOf i).toNat)
    case atStart => exact ⟨0, Nat.zero_le _, rfl, allTo_zero _ _⟩
    case round =>
      obtain ⟨k, hk, rfl, ha⟩ := hrel
      by_cases hlt : k < 3
      · have hlt2 : k < s.size := by omega
        have hc := s[k].toNat_lt
        cases hp : upp s[k]
        · have hall := allB_at hlt2 hp
          simp [upp] at hp
          go_wp2
          all_goals first
            | (exfalso; omega)
            | (go_ret; simp [curB, hall])
        · have hall := allTo_succ hlt2 ha hp
          simp [upp] at hp
          go_wp2
          all_goals first
            | (exfalso; omega)
            | (go_round
               case rel => exact ⟨k + 1, hlt, by go_num, hall⟩
               case measure => simp [intOf]; omega)
      · have hall := allB_end (p := upp) (by omega) ha
        go_wp2
        all_goals (go_ret; simp [curB, hall, h3])
  · go_wp2
    all_goals first | (go_ret; simp [curB, h3]; done) | (exfalso; simp_all; omega)

theorem range_code (s : ByteArray) (hs : s.size ≤ 9223372036854775807) (w : World) : Calls Tryz.prog 15 #[.string s] w fun e w' => e = .returned (.bool (curB s)) ∧ Below w.heap.size w w' := by
  go_enter Tryz.func15, Tryz.ntmps15
  go_wp2
  go_loopw [3] (fun n w' => ∃ pos : Nat, w' = w.iter s pos ∧ pos ≤ s.size ∧ n = .int .i64 pos ∧ allTo upp s pos = true) (fun _ w' => s.size - w'.iterPos w.heap.size)
  case atStart => exact ⟨0, rfl, Nat.zero_le _, rfl, allTo_zero _ _⟩
  case round =>
    obtain ⟨pos, rfl, hle, rfl, ha⟩ := hrel
    have hbel : ∀ p, Below w.heap.size w (w.iter s p) := fun p => (Below.refl _ _).alloc (Nat.le_refl _) _
    by_cases hp : pos < s.size
    · have hnx : ∀ ty, (Instr.next (.pointer (some ⟨w.heap.size, 0, none⟩)) true ty).run Tryz.prog (w.iter s pos) = _ := fun ty => run_next_any w s pos ty hp
      by_cases hasc : (s[pos]'hp).toNat < 128
      · rw [decode_ascii s pos hp hasc] at hnx
        cases hu : upp s[pos]
        · have hall := allB_at hp hu
          simp [upp] at hu
          go_wp2
          all_goals first
            | (exfalso; omega)
            | (go_ret; refine ⟨?_, hbel _⟩; simp [curB, hall])
        · have hall := allTo_succ hp ha hu
          simp [upp] at hu
          go_wp2
          all_goals first
            | (exfalso; omega)
            | (go_roundw
               case rel => exact ⟨pos + 1, rfl, hp, by go_num, hall⟩
               case measure => simp; omega)
      · have hd := (decode_high s pos hp (by omega)).1
        have hdl := decode_le s pos
        have hu : upp s[pos] = false := by simp [upp]; omega
        have hall := allB_at hp hu
        generalize Utf8.decode s pos = dd at hnx hd hdl
        obtain ⟨d1, d2⟩ := dd
        simp only at hnx hd hdl
        go_wp2
        all_goals first
          | (exfalso; omega)
          | (go_ret; refine ⟨?_, hbel _⟩; simp [curB, hall])
    · have hnx : ∀ ty, (Instr.next (.pointer (some ⟨w.heap.size, 0, none⟩)) true ty).run Tryz.prog (w.iter s pos) = _ := fun ty => run_next_end w s pos ty hp
      have hall := allB_end hp ha
      go_wp2
      go_ret
      refine ⟨?_, hbel _⟩
      have he : pos = s.size := by omega
      subst he
      simp [curB, hall]
      try (first | omega | (rw [Bool.eq_iff_iff]; simp; omega))

end Go.Proofs.YtmnojjfamfpmnaaGreatDoor
