/-
  Why the paths of the Docs laws that answer false cannot be.
-/
import Derived.Test.YtmnojjfamfpmnaaGreatDoorWalk
set_option linter.unusedVariables false
set_option linter.unusedSimpArgs false
set_option linter.unusedSectionVars false
set_option linter.unnecessarySimpa false
namespace Go.Proofs.YtmnojjfamfpmnaaGreatDoor
open Go
set_option maxRecDepth 100000
/-- Is it in the path? -/
def memB (e : Value) (b : Bool) (q : List (Value × Bool)) : Bool := q.any fun x => Ev.veq 60 x.1 e && x.2 == b
theorem memB_mem {e : Value} {b : Bool} {q : List (Value × Bool)} (h : memB e b q = true) : (e, b) ∈ q := by
  obtain ⟨x, hx, h⟩ := List.any_eq_true.1 h
  simp only [Bool.and_eq_true, beq_iff_eq] at h
  have h1 := Ev.veq_eq _ _ _ h.1
  obtain ⟨y, c⟩ := x
  simp only at h1 h
  rw [← h1, ← h.2]
  exact hx

/-- Terms reckoned out. -/
theorem dn_un [Ev.Eta] {n f : Nat} {x v : Value} (h : Ev.dn n x = some v) : Ev.dn (n + 1) (Ev.term f [x]) = Ev.sOp f [v] := by
  show (match Ev.dnL (Ev.dn n) [x] with
      | some l => Ev.sOp f l
      | none => none) = _
  simp only [Ev.dnL, h]
theorem dn_bin [Ev.Eta] {n f : Nat} {x y u v : Value} (h1 : Ev.dn n x = some u) (h2 : Ev.dn n y = some v) : Ev.dn (n + 1) (Ev.term f [x, y]) = Ev.sOp f [u, v] := by
  show (match Ev.dnL (Ev.dn n) [x, y] with
      | some l => Ev.sOp f l
      | none => none) = _
  simp only [Ev.dnL, h1, h2]

section
variable {cs : List Value} {bc : Bool} {a b : Int}
def dT : Value := Ev.term 110 [Lw.x 14, Lw.x 13]
def nT : Value := Ev.term 111 [dT]
theorem x_dn (i n : Nat) : @Ev.dn (etaL cs bc) (n + 1) (Lw.x i) = some (cs.getD i undef) := rfl
theorem i_dn (n : Nat) (m : Int) : @Ev.dn (etaL cs bc) (n + 1) (.int .i64 m) = some (.int .i64 m) := rfl
theorem d_dn (e13 : cs.getD 13 undef = .int .i64 a) (e14 : cs.getD 14 undef = .int .i64 b) (n : Nat) : @Ev.dn (etaL cs bc) (n + 2) dT = some (.int .i64 (diffI b a)) := by
  letI : Ev.Eta := etaL cs bc
  exact (dn_bin ((x_dn 14 n).trans (by rw [e14])) ((x_dn 13 n).trans (by rw [e13]))).trans rfl
theorem n_dn (e13 : cs.getD 13 undef = .int .i64 a) (e14 : cs.getD 14 undef = .int .i64 b) (n : Nat) : @Ev.dn (etaL cs bc) (n + 3) nT = some (.int .i64 (negI (diffI b a))) := by
  letI : Ev.Eta := etaL cs bc
  refine (dn_un (d_dn e13 e14 n)).trans ?_
  have h := diff_in b a
  have hb : In64b (diffI b a) = true := by simpa [In64b] using h
  exact if_pos hb
theorem bool_at {e : Value} {x c : Bool} {q : List (Value × Bool)} (hp : @Ev.PathOk (etaL cs bc) q) (hm : memB e c q = true) (hd : @Ev.dn (etaL cs bc) 40 e = some (.bool x)) : x = c := by
  letI : Ev.Eta := etaL cs bc
  exact hp.at 40 (memB_mem hm) hd

theorem fits_dn (e13 : cs.getD 13 undef = .int .i64 a) (e14 : cs.getD 14 undef = .int .i64 b) : @Ev.dn (etaL cs bc) 40 (Ev.term 109 [Lw.x 14, Lw.x 13]) = some (.bool (fitsB b a)) := by
  letI : Ev.Eta := etaL cs bc
  exact (dn_bin ((x_dn 14 38).trans (by rw [e14])) ((x_dn 13 38).trans (by rw [e13]))).trans rfl
theorem eql_dn [Ev.Eta] {x y : Value} {m n : Int} (h1 : Ev.dn 39 x = some (.int .i64 m)) (h2 : Ev.dn 39 y = some (.int .i64 n)) : Ev.dn 40 (Ev.term 1 [x, y]) = some (.bool (m == n)) := (dn_bin h1 h2).trans rfl
theorem lss_dn [Ev.Eta] {x y : Value} {m n : Int} (h1 : Ev.dn 39 x = some (.int .i64 m)) (h2 : Ev.dn 39 y = some (.int .i64 n)) : Ev.dn 40 (Ev.term 2 [x, y]) = some (.bool (decide (m < n))) := (dn_bin h1 h2).trans rfl
theorem add_dn [Ev.Eta] {k : Nat} {x y : Value} {m n : Int} (h1 : Ev.dn k x = some (.int .i64 m)) (h2 : Ev.dn k y = some (.int .i64 n)) : Ev.dn (k + 1) (Ev.term 10 [x, y]) = some (.int .i64 (IntKind.i64.wrap (m + n))) := (dn_bin h1 h2).trans rfl
theorem sub_dn [Ev.Eta] {k : Nat} {x y : Value} {m n : Int} (h1 : Ev.dn k x = some (.int .i64 m)) (h2 : Ev.dn k y = some (.int .i64 n)) : Ev.dn (k + 1) (Ev.term 11 [x, y]) = some (.int .i64 (IntKind.i64.wrap (m - n))) := (dn_bin h1 h2).trans rfl
theorem sum_dn (e13 : cs.getD 13 undef = .int .i64 a) (e14 : cs.getD 14 undef = .int .i64 b) : @Ev.dn (etaL cs bc) 39 (Ev.term 107 [dT, nT]) = some (.int .i64 (sumI (nth [diffI b a, negI (diffI b a)]) 2)) := by
  letI : Ev.Eta := etaL cs bc
  exact (dn_bin (d_dn e13 e14 36) (n_dn e13 e14 35)).trans rfl

def qF : Value := Ev.term 109 [Lw.x 14, Lw.x 13]
def q0d : Value := Ev.term 1 [dT, .int .i64 0]
def qPN : Value := Ev.term 1 [Lw.x 13, Lw.x 14]
def qB : Value := Ev.term 1 [Ev.term 10 [Ev.term 11 [Lw.x 13, Lw.x 14], dT], .int .i64 0]
def qC : Value := Ev.term 1 [Ev.term 10 [dT, nT], .int .i64 0]
def qS : Value := Ev.term 1 [Ev.term 107 [dT, nT], .int .i64 0]
def qLo : Value := Ev.term 2 [dT, .int .i64 (-1000000000000)]
def qHi : Value := Ev.term 2 [.int .i64 1000000000000, dT]
/-- Why a path cannot be. -/
def badB (q : List (Value × Bool)) : Bool :=
  (memB qF true q && memB q0d true q && memB qPN false q) || (memB qF true q && memB qB false q) || (memB qLo false q && memB qHi false q && (memB qC false q || memB qS false q))

theorem bad_not (e13 : cs.getD 13 undef = .int .i64 a) (e14 : cs.getD 14 undef = .int .i64 b) (ha : In64 a) (hb : In64 b) {q : List (Value × Bool)} (h : badB q = true) : ¬ @Ev.PathOk (etaL cs bc) q := by
  letI : Ev.Eta := etaL cs bc
  intro hp
  obtain ⟨ha0, ha1⟩ := ha
  obtain ⟨hb0, hb1⟩ := hb
  have hd : ∀ n, Ev.dn (n + 2) dT = some (.int .i64 (diffI b a)) := fun n => d_dn e13 e14 n
  have hn : ∀ n, Ev.dn (n + 3) nT = some (.int .i64 (negI (diffI b a))) := fun n => n_dn e13 e14 n
  have hx13 : ∀ n, Ev.dn (n + 1) (Lw.x 13) = some (.int .i64 a) := fun n => (x_dn 13 n).trans (by rw [e13])
  have hx14 : ∀ n, Ev.dn (n + 1) (Lw.x 14) = some (.int .i64 b) := fun n => (x_dn 14 n).trans (by rw [e14])
  have hi : ∀ n m, Ev.dn (n + 1) (.int .i64 m) = some (.int .i64 m) := fun n m => rfl
  have hfit : fitsB b a = true → diffI b a = b - a ∧ -9223372036854775808 ≤ b - a ∧ b - a ≤ 9223372036854775807 := by
    intro hf
    exact ⟨by simp [diffI, hf], by simpa [fitsB] using hf⟩
  unfold badB at h
  simp only [Bool.or_eq_true, Bool.and_eq_true] at h
  rcases h with (⟨⟨h1, h2⟩, h3⟩ | ⟨h1, h2⟩) | ⟨⟨h1, h2⟩, h3⟩
  · have k1 := bool_at hp h1 (fits_dn e13 e14)
    have k2 := bool_at hp h2 (eql_dn (hd 37) (hi 38 0))
    have k3 := bool_at hp h3 (eql_dn (hx13 38) (hx14 38))
    obtain ⟨f1, f2, f3⟩ := hfit k1
    rw [f1] at k2
    simp at k2 k3
    omega
  · have k1 := bool_at hp h1 (fits_dn e13 e14)
    obtain ⟨f1, f2, f3⟩ := hfit k1
    have k2 := bool_at hp h2 (eql_dn (add_dn (sub_dn (hx13 36) (hx14 36)) (hd 36)) (hi 38 0))
    rw [f1] at k2
    simp only [IntKind.wrap_i64] at k2
    simp at k2
    omega
  · have k1 := bool_at hp h1 (lss_dn (hd 37) (hi 38 _))
    have k2 := bool_at hp h2 (lss_dn (hi 38 _) (hd 37))
    simp at k1 k2
    have hneg : negI (diffI b a) = -(diffI b a) := by
      unfold negI
      rw [if_neg (by omega)]
    rcases h3 with h3 | h3
    · have k3 := bool_at hp h3 (eql_dn (add_dn (hd 36) (hn 35)) (hi 38 0))
      rw [hneg] at k3
      simp only [IntKind.wrap_i64] at k3
      simp at k3
      omega
    · have k3 := bool_at hp h3 (eql_dn (sum_dn e13 e14) (hi 38 0))
      rw [hneg] at k3
      have hs : psum (nth [diffI b a, -(diffI b a)]) 2 = 0 := by
        show 0 + diffI b a + -(diffI b a) = 0
        omega
      have : sumI (nth [diffI b a, -(diffI b a)]) 2 = 0 := by
        unfold sumI
        rw [hs]
        split <;> rfl
      rw [this] at k3
      simp at k3
end
end Go.Proofs.YtmnojjfamfpmnaaGreatDoor
