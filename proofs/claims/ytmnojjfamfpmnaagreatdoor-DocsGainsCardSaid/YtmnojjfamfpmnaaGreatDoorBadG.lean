/-
  Why the paths of DocsGains that are cut cannot be.
-/
import Derived.Test.YtmnojjfamfpmnaaGreatDoorBad
set_option linter.unusedVariables false
set_option linter.unusedSimpArgs false
set_option linter.unusedSectionVars false
set_option linter.unnecessarySimpa false
namespace Go.Proofs.YtmnojjfamfpmnaaGreatDoor
open Go
set_option maxRecDepth 100000
def mT : Value := Ev.term 110 [.int .i64 0, dT]
def zN : Value := .int .i64 0
def loN : Value := .int .i64 (-1000000000000)
def hiN : Value := .int .i64 1000000000000
/-- What cannot be where the difference is small. -/
def notG : List (Value × Bool) := [(Ev.term 2 [Ev.term 107 [dT, nT], zN], true), (Ev.term 2 [zN, Ev.term 107 [dT, nT]], true), (Ev.term 109 [zN, dT], false), (Ev.term 2 [nT, loN], true), (Ev.term 2 [hiN, nT], true), (Ev.term 2 [mT, loN], true), (Ev.term 2 [hiN, mT], true),
  (Ev.term 1 [Ev.term 107 [dT, mT], zN], false), (Ev.term 1 [Ev.term 107 [dT, nT], zN], false), (Ev.term 108 [dT, mT], false), (Ev.term 108 [dT, nT], false), (Ev.term 1 [nT, mT], false)]
/-- Nor these, where it is not 0. -/
def notZ : List (Value × Bool) := [(Ev.term 1 [mT, zN], true), (Ev.term 1 [nT, zN], true)]
def badG (q : List (Value × Bool)) : Bool := badB q || (memB qLo false q && memB qHi false q && (notG.any (fun x => memB x.1 x.2 q) || (memB q0d false q && notZ.any (fun x => memB x.1 x.2 q))))

section
variable {cs : List Value} {bc : Bool} {a b : Int}
theorem bin39 [Ev.Eta] {f : Nat} {x y u v : Value} {r : Option Value} (h1 : Ev.dn 39 x = some u) (h2 : Ev.dn 39 y = some v) (h : Ev.sOp f [u, v] = r) : Ev.dn 40 (Ev.term f [x, y]) = r := (dn_bin h1 h2).trans h
theorem bin38 [Ev.Eta] {f : Nat} {x y u v : Value} {r : Option Value} (h1 : Ev.dn 38 x = some u) (h2 : Ev.dn 38 y = some v) (h : Ev.sOp f [u, v] = r) : Ev.dn 39 (Ev.term f [x, y]) = r := (dn_bin h1 h2).trans h
theorem sum2_zero (d : Int) : sumI (nth [d, -d]) 2 = 0 := by
  have hs : psum (nth [d, -d]) 2 = 0 := by
    show 0 + d + -d = 0
    omega
  unfold sumI
  rw [hs]
  split <;> rfl
theorem sum2_fits (d : Int) : sumB (nth [d, -d]) 2 = true := by
  have hs : psum (nth [d, -d]) 2 = 0 := by
    show 0 + d + -d = 0
    omega
  unfold sumB
  rw [hs]
  rfl

theorem badG_not (e13 : cs.getD 13 undef = .int .i64 a) (e14 : cs.getD 14 undef = .int .i64 b) (ha : In64 a) (hb : In64 b) {q : List (Value × Bool)} (h : badG q = true) : ¬ @Ev.PathOk (etaL cs bc) q := by
  letI : Ev.Eta := etaL cs bc
  unfold badG at h
  rw [Bool.or_eq_true] at h
  rcases h with h | h
  · exact bad_not e13 e14 ha hb h
  intro hp
  have hd : ∀ n, Ev.dn (n + 2) dT = some (.int .i64 (diffI b a)) := fun n => d_dn e13 e14 n
  have hn : ∀ n, Ev.dn (n + 3) nT = some (.int .i64 (negI (diffI b a))) := fun n => n_dn e13 e14 n
  have hi : ∀ n m, Ev.dn (n + 1) (.int .i64 m) = some (.int .i64 m) := fun n m => rfl
  simp only [Bool.and_eq_true] at h
  obtain ⟨⟨h1, h2⟩, h⟩ := h
  have k1 := bool_at hp h1 (lss_dn (hd 37) (hi 38 _))
  have k2 := bool_at hp h2 (lss_dn (hi 38 _) (hd 37))
  simp at k1 k2
  have hm0 : ∀ n, Ev.dn (n + 3) mT = some (.int .i64 (diffI 0 (diffI b a))) := fun n => (dn_bin (hi (n + 1) 0) (hd n)).trans rfl
  have hz : ∀ m, Ev.dn 40 (Ev.term 1 [dT, .int .i64 0]) = some (.bool m) → m = (diffI b a == 0) := fun m h => by
    have h' := (eql_dn (hd 37) (hi 38 0)).symm.trans h
    cases h'
    rfl
  have hq0 : memB q0d false q = true → diffI b a ≠ 0 := fun h3 => by
    have k := bool_at hp h3 (eql_dn (hd 37) (hi 38 0))
    simpa using k
  generalize diffI b a = d at *
  have hneg : negI d = -d := by
    unfold negI
    rw [if_neg (by omega)]
  have hfit : fitsB 0 d = true := by
    unfold fitsB
    simp
    omega
  have hm1 : diffI 0 d = -d := by
    unfold diffI
    rw [if_pos hfit]
    omega
  rw [hneg] at hn
  rw [hm1] at hm0
  rw [Bool.or_eq_true] at h
  rcases h with h | h
  · simp only [notG, List.any_cons, List.any_nil, Bool.or_eq_true, Bool.false_eq_true, or_false] at h
    have s1 : Ev.dn 39 (Ev.term 107 [dT, nT]) = some (.int .i64 0) := bin38 (hd 36) (hn 35) ((rfl : _ = some (Value.int .i64 (sumI (nth [d, -d]) 2))).trans (by rw [sum2_zero]))
    have s2 : Ev.dn 39 (Ev.term 107 [dT, mT]) = some (.int .i64 0) := bin38 (hd 36) (hm0 35) ((rfl : _ = some (Value.int .i64 (sumI (nth [d, -d]) 2))).trans (by rw [sum2_zero]))
    rcases h with h | h | h | h | h | h | h | h | h | h | h | h
    · have k := bool_at hp h (lss_dn s1 (hi 38 0))
      simp at k
    · have k := bool_at hp h (lss_dn (hi 38 0) s1)
      simp at k
    · have k := bool_at hp h (bin39 (hi 38 0) (hd 37) (rfl : _ = some (Value.bool (fitsB 0 d))))
      rw [hfit] at k
      cases k
    · have k := bool_at hp h (lss_dn (hn 36) (hi 38 _))
      simp at k
      omega
    · have k := bool_at hp h (lss_dn (hi 38 _) (hn 36))
      simp at k
      omega
    · have k := bool_at hp h (lss_dn (hm0 36) (hi 38 _))
      simp at k
      omega
    · have k := bool_at hp h (lss_dn (hi 38 _) (hm0 36))
      simp at k
      omega
    · have k := bool_at hp h (eql_dn s2 (hi 38 0))
      simp at k
    · have k := bool_at hp h (eql_dn s1 (hi 38 0))
      simp at k
    · have k := bool_at hp h (bin39 (hd 37) (hm0 36) (rfl : _ = some (Value.bool (sumB (nth [d, -d]) 2))))
      rw [sum2_fits] at k
      cases k
    · have k := bool_at hp h (bin39 (hd 37) (hn 36) (rfl : _ = some (Value.bool (sumB (nth [d, -d]) 2))))
      rw [sum2_fits] at k
      cases k
    · have k := bool_at hp h (eql_dn (hn 36) (hm0 36))
      simp at k
  · rw [Bool.and_eq_true] at h
    obtain ⟨h3, h⟩ := h
    have hnz := hq0 h3
    simp only [notZ, List.any_cons, List.any_nil, Bool.or_eq_true, Bool.false_eq_true, or_false] at h
    rcases h with h | h
    · have k := bool_at hp h (eql_dn (hm0 36) (hi 38 0))
      simp at k
      exact hnz k
    · have k := bool_at hp h (eql_dn (hn 36) (hi 38 0))
      simp at k
      exact hnz k
end
end Go.Proofs.YtmnojjfamfpmnaaGreatDoor
