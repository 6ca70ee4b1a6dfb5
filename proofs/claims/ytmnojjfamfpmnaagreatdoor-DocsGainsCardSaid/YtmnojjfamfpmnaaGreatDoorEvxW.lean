/-
  The meaning of a term, reckoned out; a path whose terms are so reckoned; a pure function as a summary.
-/
import Derived.Test.YtmnojjfamfpmnaaGreatDoorEvxV
set_option linter.unusedVariables false
set_option linter.unusedSimpArgs false
set_option linter.unusedSectionVars false
set_option linter.unnecessarySimpa false
set_option linter.unusedSectionVars false
namespace Go.Ev
open Go.RowKit

section
variable [Eta]

def dnL (f : Value → Option Value) : List Value → Option (List Value)
  | [] => some []
  | a :: r => match f a, dnL f r with
    | some v, some l => some (v :: l)
    | _, _ => none
/-- What a term comes to. -/
def dn : Nat → Value → Option Value
  | 0, _ => none
  | n + 1, e => match e with
    | .bool b => some (.bool b)
    | .int k m => some (.int k m)
    | .string s => some (.string s)
    | .chan (some i) => some (Eta.var i)
    | .func (.func f) a c => if c.size = 0 then (match dnL (dn n) a.toList with
      | some l => sOp f l
      | none => none) else none
    | _ => none

theorem dnL_rel {f : Value → Option Value} (hf : ∀ e v, f e = some v → Den e v) : ∀ {l l' : List Value}, dnL f l = some l' → l.length = l'.length ∧ ∀ (i : Nat) (v v' : Value), l[i]? = some v → l'[i]? = some v' → Den v v' := by
  intro l
  induction l with
  | nil => intro l' h; cases h; exact ⟨rfl, fun i v v' h => by simp at h⟩
  | cons a r ih =>
    intro l' h
    unfold dnL at h
    split at h
    · rename_i v q h1 h2
      cases h
      obtain ⟨k1, k2⟩ := ih h2
      refine ⟨by simp [k1], fun i x x' g1 g2 => ?_⟩
      cases i with
      | zero => simp at g1 g2; subst g1; subst g2; exact hf _ _ h1
      | succ i => simp at g1 g2; exact k2 i x x' g1 g2
    · cases h

theorem dn_den : ∀ (n : Nat) (e v : Value), dn n e = some v → Den e v := by
  intro n
  induction n with
  | zero => intro e v h; cases h
  | succ n ih =>
    intro e v h
    unfold dn at h
    split at h
    · cases h; exact .bool _
    · cases h; exact .int _ _
    · cases h; exact .string _
    · cases h; exact .var _
    · rename_i f a c
      split at h
      case isFalse => cases h
      rename_i hc
      have hc : c = #[] := Array.size_eq_zero_iff.1 hc
      subst hc
      split at h
      case h_2 => cases h
      rename_i l hl
      obtain ⟨k1, k2⟩ := dnL_rel (ih) hl
      have := Den.node f k1 k2 h
      simpa [term] using this
    · cases h

/-- Of a path: what a term of it comes to is what the path says. -/
theorem PathOk.at {p : List (Value × Bool)} (hp : PathOk p) {e : Value} {b : Bool} {x : Bool} (n : Nat) (hm : (e, b) ∈ p) (hd : dn n e = some (.bool x)) : x = b := by
  have := hp e b hm _ (dn_den n e _ hd)
  cases this
  rfl

theorem sure_of {e : Value} {b x : Bool} (n : Nat) (hd : dn n e = some (.bool x)) (hx : x = b) : ∀ v, Den e v → v = .bool b := by
  intro v hv
  subst hx
  exact Den.single (dn_den n e _ hd) hv
end

section
variable [Eta]
variable {P : Program} {B : Nat} {w0 : World}

/-- A call that only makes new memory and hands back a plain value or what a term means: a summary. -/
theorem sum_pure {ρ : Rho} {st : St} {w : World} {f : FuncId} {l' : List Value} {u v' : Value} (hS : Sim P B w0 ρ st w) (hv : VRel ρ u v')
    (hc : Calls P f l'.toArray w fun e w' => e = .returned v' ∧ Below w.heap.size w w') :
    Calls P f l'.toArray w fun e w' => ∃ v' ρ', e = .returned v' ∧ ρ.le ρ' ∧ Sim P B w0 ρ' st w' ∧ VRel ρ' u v' :=
  hc.mono fun _ _ ⟨he, hb⟩ => ⟨v', ρ, he, ρ.le_refl, hS.grow hb, hv⟩
end
end Go.Ev
