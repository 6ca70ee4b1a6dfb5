/-
  The memory in which a call of a row begins: one global, a row of plain cells.
-/
import Derived.Test.YtmnojjfamfpmnaaGreatDoorEvxU
set_option linter.unusedVariables false
set_option linter.unusedSimpArgs false
set_option linter.unusedSectionVars false
set_option linter.unnecessarySimpa false
set_option linter.unusedSectionVars false
namespace Go.Ev
open Go.RowKit

def st1 (cells : List Value) : St := ⟨.n .e (some (.row cells false false 0)) .e, 1, [], []⟩
def rho1 (n : Nat) : Rho := fun β => if β = 0 then some ⟨0, 0, false, 0, n⟩ else none

theorem st1_get {cells : List Value} {β : Nat} {b : Blk} (h : (st1 cells).heap.get β = some b) : β = 0 ∧ b = .row cells false false 0 := by
  unfold st1 at h
  cases β with
  | zero => simp [PT.get] at h; exact ⟨rfl, h.symm⟩
  | succ k =>
    simp only [PT.get] at h
    split at h <;> cases h

section
variable [Eta]
variable {P : Program} {W : World}

theorem first_sim (hg : P.globals.size = 1) {cells : List Value} (hp : cells.all plainB = true) {el : TypeId} {fz : Nat × Nat} (hc : W.heap[0]? = some (.cells cells.toArray el fz))
    (hm : ∀ b o v, Eta.mem b o = some v → b < W.heap.size ∧ W.cell? ⟨b, o, none⟩ = some v) :
    Sim P W.heap.size W (rho1 cells.length) (st1 cells) W := by
  have h0 : 0 < W.heap.size := by
    rcases Nat.eq_zero_or_pos W.heap.size with h | h
    · rw [Array.getElem?_eq_none (by omega)] at hc; cases hc
    · exact h
  refine ⟨Below.refl _ _, Nat.le_refl _, by rw [hg]; exact Nat.le_refl _, ?_, ?_, ?_, ?_, hm⟩
  · intro β b hb
    obtain ⟨rfl, rfl⟩ := st1_get hb
    refine ⟨⟨0, 0, false, 0, cells.length⟩, rfl, h0, ?_, fun x => by cases x⟩
    refine ⟨cells.toArray, el, fz, hc, by simp, rfl, fun x => (by cases x), by simp, fun i v hv => ⟨v, by simpa using hv, plainB_rel ((List.all_eq_true.1 hp) v (List.mem_of_getElem? hv))⟩, fun x => by cases x⟩
  · intro β γ b c L K hne hb hc' _ _ _
    obtain ⟨rfl, _⟩ := st1_get hb
    obtain ⟨rfl, _⟩ := st1_get hc'
    exact absurd rfl hne
  · intro β hβ
    unfold rho1
    split
    · rename_i e
      subst e
      simp [st1, PT.get] at hβ
    · rfl
  · intro g hgl L hL
    unfold rho1 at hL
    split at hL
    · rename_i e
      cases hL
      exact ⟨e.symm, rfl⟩
    · cases hL
end

/-- A function that only reads the global row, run alone: a summary. -/
def sumAlone (cells : List Value) (v : Value) (l : List Value) : M Value := do
  let (cs, rw, g, sz) ← rowOf 0
  guardM (l.isEmpty && !rw && !g && sz == 0 && veqL (veq 3) cs cells)
  pure v

section
variable [Eta]
variable {P : Program} {B : Nat} {w0 : World}

theorem Lcl.sumAlone [Orc] (cells : List Value) (v : Value) (l : List Value) : @Lcl Value (sumAlone cells v l) := by
  unfold Ev.sumAlone
  exact Lcl.bind (Lcl.rowOf _) fun _ => Lcl.bind (Lcl.guardM _) fun _ => Lcl.pure _

theorem sumAlone_ok (hNG : NoGoroutines P) (hm : P.follows .mixedOrders = true) (hg : P.globals.size = 1) {n : Nat} {f : FuncId} {cells : List Value} {v : Value} (hrun : (@ev O0 P n f [] (st1 cells)).map (·.1) = some v) (hv : plainB v = true) (hp : cells.all plainB = true)
    (ρ : Rho) (st : St) (w : World) (l l' : List Value) (u : Value) (st' : St) (hS : Sim P B w0 ρ st w) (hl : LRel ρ l l') (h : sumAlone cells v l st = some (u, st')) :
    Calls P f l'.toArray w fun e w' => ∃ v' ρ', e = .returned v' ∧ ρ.le ρ' ∧ Sim P B w0 ρ' st' w' ∧ VRel ρ' u v' := by
  unfold sumAlone at h
  obtain ⟨x, s1, h1, h⟩ := bind_some.1 h
  obtain ⟨cs, rw', g, sz, hb, e1⟩ := rowOf_some.1 h1
  cases e1
  simp only at h
  obtain ⟨_, s2, h2, h⟩ := bind_some.1 h
  obtain ⟨hgd, e2⟩ := guardM_some.1 h2
  cases e2
  cases (pure_some.1 h)
  simp only [Bool.and_eq_true, Bool.not_eq_true', beq_iff_eq] at hgd
  obtain ⟨⟨⟨⟨he, hrw⟩, hgf⟩, hsz⟩, hcs⟩ := hgd
  have := veqL_eq (veq_eq 3) hcs
  subst this
  subst hrw
  subst hgf
  subst hsz
  have : l = [] := by simpa using he
  subst this
  have := hl.nil_left
  subst this
  obtain ⟨⟨v1, s'⟩, hr, hv1⟩ := Option.map_eq_some_iff.1 hrun
  cases hv1
  refine Calls.mono (alone_ok hNG hm hr hv rfl hS (fun β b hb1 => ?_) (by rw [hg]; exact Nat.le_refl _)) ?_
  · obtain ⟨rfl, rfl⟩ := st1_get hb1
    exact ⟨hb, cs, false, 0, rfl, hp⟩
  · intro e w' ⟨he, hbl⟩
    exact ⟨_, ρ, he, ρ.le_refl, (hS.grow hbl).logs rfl hS.nextOk, plainB_rel hv⟩
end
end Go.Ev
