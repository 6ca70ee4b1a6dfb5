/-
  A law by a tree whose false leaves are cut: nothing is run there; that the path cannot be is asked all the same.
-/
import Derived.Test.YtmnojjfamfpmnaaGreatDoorEvxZa
set_option linter.unusedVariables false
set_option linter.unusedSimpArgs false
set_option linter.unusedSectionVars false
set_option linter.unnecessarySimpa false
set_option linter.unusedSectionVars false
namespace Go.Ev
open Go.RowKit
/-- As chkB, but that a false leaf is cut there. -/
def chkC (P : Program) (sum : FuncId → Option (List Value → M Value)) (bv bf : Nat → Bool) (n : Nat) (f : FuncId) (l : List Value) (st : St) : TrB → List (Value × Bool) → Bool
  | .leaf false, _ => true
  | .leaf true, p => (match @runB (pathOrc sum p) P n f l st with
    | some c => c
    | none => false)
  | .ask e t u, p => isB bv bf e && chkC P sum bv bf n f l st t ((e, true) :: p) && chkC P sum bv bf n f l st u ((e, false) :: p)
theorem chkC_ask {P : Program} {sum : FuncId → Option (List Value → M Value)} {bv bf : Nat → Bool} {n : Nat} {f : FuncId} {l : List Value} {st : St} {e : Value} {t u : TrB} {p : List (Value × Bool)}
    (h1 : isB bv bf e = true) (h2 : chkC P sum bv bf n f l st t ((e, true) :: p) = true) (h3 : chkC P sum bv bf n f l st u ((e, false) :: p) = true) : chkC P sum bv bf n f l st (.ask e t u) p = true := by
  simp only [chkC, Bool.and_eq_true]
  exact ⟨⟨h1, h2⟩, h3⟩
theorem chkC_of {P : Program} {sum : FuncId → Option (List Value → M Value)} {bv bf : Nat → Bool} {n : Nat} {f : FuncId} {l : List Value} {st : St} :
    ∀ (t : TrB) (p : List (Value × Bool)), chkB P sum bv bf n f l st t p = true → chkC P sum bv bf n f l st t p = true := by
  intro t
  induction t with
  | leaf b =>
    intro p h
    cases b with
    | false => rfl
    | true =>
      unfold chkB at h
      unfold chkC
      split at h
      · rename_i c hc
        rw [hc]
        simpa using h
      · cases h
  | ask e t u iht ihu =>
    intro p h
    simp only [chkB, Bool.and_eq_true] at h
    simp only [chkC, Bool.and_eq_true]
    exact ⟨⟨h.1.1, iht _ h.1.2⟩, ihu _ h.2⟩
section
variable [Eta]
variable {P : Program} {B : Nat} {w0 : World} {ρ : Rho} {st st' : St} {w w' : World}
theorem treeC_ok {sum : FuncId → Option (List Value → M Value)} {bv bf : Nat → Bool} (hbv : ∀ i, bv i = true → ∃ b, Eta.var i = .bool b) (hbf : ∀ k l r, bf k = true → Eta.fn k l = some r → ∃ b, r = .bool b)
    {n : Nat} {f : FuncId} {l : List Value} {st : St} : ∀ (t : TrB) (p : List (Value × Bool)), chkC P sum bv bf n f l st t p = true → PathOk p → (∀ q, q ∈ t.bad p → ¬ PathOk q) →
      ∃ q, PathOk q ∧ @runB (pathOrc sum q) P n f l st = some true := by
  intro t
  induction t with
  | leaf b =>
    intro p h hp hbad
    cases b with
    | false => exact absurd hp (hbad p (by simp [TrB.bad]))
    | true =>
      refine ⟨p, hp, ?_⟩
      unfold chkC at h
      split at h
      · rename_i c hc
        rw [hc, h]
      · cases h
  | ask e t u iht ihu =>
    intro p h hp hbad
    simp only [chkC, Bool.and_eq_true] at h
    obtain ⟨⟨h1, h2⟩, h3⟩ := h
    simp only [TrB.bad, List.mem_append] at hbad
    by_cases he : Den e (.bool true)
    · exact iht _ h2 (fun x b hx v hv => by
        rcases List.mem_cons.1 hx with hx | hx
        · cases hx; exact Den.single he hv
        · exact hp x b hx v hv) (fun q hq => hbad q (.inl hq))
    · exact ihu _ h3 (fun x b hx v hv => by
        rcases List.mem_cons.1 hx with hx | hx
        · cases hx
          obtain ⟨b, rfl⟩ := isB_ok hbv hbf h1 hv
          cases b
          · rfl
          · exact absurd hv he
        · exact hp x b hx v hv) (fun q hq => hbad q (.inr hq))

/-- As treeB_true, over chkC. -/
theorem treeC_true (hNG : NoGoroutines P) (hm : P.follows .mixedOrders = true) {sum : FuncId → Option (List Value → M Value)} {bv bf : Nat → Bool} (hbv : ∀ i, bv i = true → ∃ b, Eta.var i = .bool b)
    (hbf : ∀ k l r, bf k = true → Eta.fn k l = some r → ∃ b, r = .bool b) (hsum : ∀ p, @SumOk (pathOrc sum p) _ P B w0) {n : Nat} {f : FuncId} {l l' : List Value} {t : TrB} {p0 : List (Value × Bool)}
    (hchk : chkC P sum bv bf n f l st t p0 = true) (hp0 : PathOk p0) (hbad : ∀ q, q ∈ t.bad p0 → ¬ PathOk q) (hS : Sim P B w0 ρ st w) (hl : LRel ρ l l') :
    Calls P f l'.toArray w fun e w' => e = .returned (.bool true) ∧ Below B w0 w' := by
  obtain ⟨q, hq, hr⟩ := treeC_ok hbv hbf t p0 hchk hp0 hbad
  have ok : @OrcOk (pathOrc sum q) _ := @OrcOk.mk (pathOrc sum q) _ (fun e b v h hd => lookO_ok hq h hd) (fun e ss v h _ => by cases h)
  unfold runB at hr
  split at hr
  case h_2 => cases hr
  rename_i v s hev
  split at hr
  case h_2 => cases hr
  rename_i c s2 hfo
  obtain rfl := Option.some.inj hr
  refine Calls.mono (@ev_ok (pathOrc sum q) _ ok P B w0 hNG hm (hsum q) n ρ st w f l l' v s hS hl hev) ?_
  intro e w' ⟨v', ρ', he, _, hS', hv'⟩
  obtain ⟨_, hb⟩ := @force_ok (pathOrc sum q) _ ok ρ' s s2 v v' true hv' hfo
  rw [hb] at he
  exact ⟨he, hS'.below⟩
end
end Go.Ev
