/-
  A law: the paths of its tree that end in false cannot be.
-/
import Derived.Test.YtmnojjfamfpmnaaGreatDoorEvxZ
set_option linter.unusedVariables false
set_option linter.unusedSimpArgs false
set_option linter.unusedSectionVars false
set_option linter.unnecessarySimpa false
set_option linter.unusedSectionVars false
namespace Go.Ev
open Go.RowKit
section
variable [Eta]
variable {P : Program} {B : Nat} {w0 : World} {ρ : Rho} {st st' : St} {w w' : World}
/-- The paths that end in false. -/
def TrB.bad : TrB → List (Value × Bool) → List (List (Value × Bool))
  | .leaf true, _ => []
  | .leaf false, p => [p]
  | .ask e t u, p => t.bad ((e, true) :: p) ++ u.bad ((e, false) :: p)
theorem TrB.bad_of {q : List (Value × Bool)} : ∀ {t : TrB} {p : List (Value × Bool)}, (q, false) ∈ t.leaves p → q ∈ t.bad p := by
  intro t
  induction t with
  | leaf b =>
    intro p h
    simp only [TrB.leaves, List.mem_singleton, Prod.mk.injEq] at h
    obtain ⟨rfl, rfl⟩ := h
    simp [TrB.bad]
  | ask e t u iht ihu =>
    intro p h
    simp only [TrB.leaves, List.mem_append] at h
    simp only [TrB.bad, List.mem_append]
    rcases h with h | h
    · exact .inl (iht h)
    · exact .inr (ihu h)

/-- A call that answers true along every path that can be: it returns true. What is known at the start: p0. -/
theorem treeB_true (hNG : NoGoroutines P) (hm : P.follows .mixedOrders = true) {sum : FuncId → Option (List Value → M Value)} {bv bf : Nat → Bool} (hbv : ∀ i, bv i = true → ∃ b, Eta.var i = .bool b)
    (hbf : ∀ k l r, bf k = true → Eta.fn k l = some r → ∃ b, r = .bool b) (hsum : ∀ p, @SumOk (pathOrc sum p) _ P B w0) {n : Nat} {f : FuncId} {l l' : List Value} {t : TrB} {p0 : List (Value × Bool)}
    (hchk : chkB P sum bv bf n f l st t p0 = true) (hp0 : PathOk p0) (hbad : ∀ q, q ∈ t.bad p0 → ¬ PathOk q) (hS : Sim P B w0 ρ st w) (hl : LRel ρ l l') :
    Calls P f l'.toArray w fun e w' => e = .returned (.bool true) ∧ Below B w0 w' := by
  obtain ⟨q, b, hqb, hq, hr⟩ := treeB_ok hbv hbf t p0 hchk hp0
  have hb : b = true := by
    cases b with
    | true => rfl
    | false => exact absurd hq (hbad q (TrB.bad_of hqb))
  subst hb
  have ok : @OrcOk (pathOrc sum q) _ := @OrcOk.mk (pathOrc sum q) _ (fun e b v h hd => lookO_ok hq h hd) (fun e ss v h _ => by cases h)
  unfold runB at hr
  split at hr
  case h_2 => cases hr
  rename_i v s hev
  split at hr
  case h_2 => cases hr
  rename_i c s2 hfo
  obtain rfl := Option.some.inj hr
  refine Calls.mono (@ev_ok (pathOrc sum q) _ ok P B w0 hNG hm (hsum q) n ρ st w f l l' v s hS hl hev) ?_
  intro e w' ⟨v', ρ', he, _, hS', hv'⟩
  obtain ⟨_, hb⟩ := @force_ok (pathOrc sum q) _ ok ρ' s s2 v v' true hv' hfo
  rw [hb] at he
  exact ⟨he, hS'.below⟩

end
end Go.Ev
