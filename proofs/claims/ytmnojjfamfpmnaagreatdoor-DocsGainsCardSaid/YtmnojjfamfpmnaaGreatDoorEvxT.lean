/-
  A tree of branches: if the evaluator answers true at each of its leaves, the call returns true in every world.
-/
import Derived.Test.YtmnojjfamfpmnaaGreatDoorEvxS
set_option linter.unusedVariables false
set_option linter.unusedSimpArgs false
set_option linter.unusedSectionVars false
set_option linter.unnecessarySimpa false
set_option linter.unusedSectionVars false
namespace Go.Ev
open Go.RowKit

abbrev pathOrcS (slc : Value → Option (List Nat)) (sum : FuncId → Option (List Value → M Value)) (p : List (Value × Bool)) : Orc := ⟨lookO p, sum, slc⟩
abbrev pathOrc (sum : FuncId → Option (List Value → M Value)) (p : List (Value × Bool)) : Orc := ⟨lookO p, sum, fun _ => none⟩

inductive Tr where
  | leaf
  | ask (e : Value) (t u : Tr)
  | sure (e : Value) (b : Bool) (t : Tr)

/-- Is it a term that means a bool? bv: the variables that do; bf: the functions that do. -/
def isB (bv bf : Nat → Bool) : Value → Bool
  | .chan (some i) => bv i
  | .func (.func f) _ _ => decide (f ≤ 3) || (decide (100 ≤ f) && bf (f - 100))
  | _ => false

def runB [Orc] (P : Program) (n : Nat) (f : FuncId) (l : List Value) (st : St) : Option Bool :=
  match ev P n f l st with
  | some (v, s) => (match forceB v s with
    | some (b, _) => some b
    | none => none)
  | none => none

def chk (P : Program) (sum : FuncId → Option (List Value → M Value)) (bv bf : Nat → Bool) (n : Nat) (f : FuncId) (l : List Value) (st : St) : Tr → List (Value × Bool) → Bool
  | .leaf, p => (match @runB (pathOrc sum p) P n f l st with
    | some true => true
    | _ => false)
  | .ask e t u, p => isB bv bf e && chk P sum bv bf n f l st t ((e, true) :: p) && chk P sum bv bf n f l st u ((e, false) :: p)
  | .sure e b t, p => chk P sum bv bf n f l st t ((e, b) :: p)

section
variable [Eta]
variable {P : Program} {B : Nat} {w0 : World} {ρ : Rho} {st st' : St} {w w' : World}

def PathOk (p : List (Value × Bool)) : Prop := ∀ e b, (e, b) ∈ p → ∀ v, Den e v → v = .bool b

/-- What is left to be shown: the terms that are sure. -/
def Sides : Tr → List (Value × Bool) → Prop
  | .leaf, _ => True
  | .ask e t u, p => Sides t ((e, true) :: p) ∧ Sides u ((e, false) :: p)
  | .sure e b t, p => (PathOk p → ∀ v, Den e v → v = .bool b) ∧ Sides t ((e, b) :: p)

theorem Den.bin_inv {f : Nat} {a b r : Value} (h : Den (term f [a, b]) r) : ∃ va vb, Den a va ∧ Den b vb ∧ sOp f [va, vb] = some r := by
  generalize he : term f [a, b] = e at h
  cases h with
  | node f' hl hp hr =>
    rename_i l l'
    unfold term at he
    injection he with e1 e2 e3
    injection e1 with e1
    subst e1
    have : l = [a, b] := by simpa using (congrArg Array.toList e2).symm
    subst this
    match l', hl, hp, hr with
    | [va, vb], _, hp, hr => exact ⟨va, vb, hp 0 a va rfl rfl, hp 1 b vb rfl rfl, hr⟩
  | _ => unfold term at he; cases he

theorem Den.node_at {f : Nat} {a c : Array Value} {l : List Value} {r : Value} (hl : a.toList = l) (h : Den (.func (.func f) a c) r) : Den (term f l) r := by
  have : c = #[] := by
    cases h with
    | node _ _ _ _ => rfl
  subst this
  subst hl
  exact h

theorem less_self (l : List UInt8) : Op.bytesLess l l = false := by
  induction l with
  | nil => rfl
  | cons a l ih =>
    unfold Op.bytesLess
    simp [ih]

theorem reflO_ok {e v : Value} {b : Bool} (h : reflO e = some b) (hd : Den e v) : v = .bool b := by
  unfold reflO at h
  split at h
  case h_2 => cases h
  rename_i f a c
  split at h
  case h_2 => cases h
  rename_i x y hl
  split at h
  case isFalse => cases h
  rename_i hxy
  obtain rfl := veq_eq _ _ _ hxy
  obtain ⟨va, vb, h1, h2, h3⟩ := Den.bin_inv (Den.node_at hl hd)
  obtain rfl := Den.single h1 h2
  split at h
  · rename_i hf
    subst hf
    cases h
    have h3 : sEql [vb, vb] = some v := h3
    unfold sEql at h3
    split at h3
    · rename_i he
      simp only [List.cons.injEq, and_true] at he
      obtain ⟨e1, e2⟩ := he
      rw [e1] at e2
      cases e2
      simpa using h3.symm
    · rename_i he
      simp only [List.cons.injEq, and_true] at he
      obtain ⟨e1, e2⟩ := he
      rw [e1] at e2
      cases e2
      simpa using h3.symm
    · rename_i he
      simp only [List.cons.injEq, and_true] at he
      obtain ⟨e1, e2⟩ := he
      rw [e1] at e2
      cases e2
      simpa using h3.symm
    · cases h3
  · split at h
    case isFalse => cases h
    rename_i hf
    subst hf
    cases h
    have h3 : sLss [vb, vb] = some v := h3
    unfold sLss at h3
    split at h3
    · rename_i he
      simp only [List.cons.injEq, and_true] at he
      obtain ⟨e1, e2⟩ := he
      rw [e1] at e2
      cases e2
      simpa using h3.symm
    · rename_i he
      simp only [List.cons.injEq, and_true] at he
      obtain ⟨e1, e2⟩ := he
      rw [e1] at e2
      cases e2
      rename_i s _ _
      rw [less_self] at h3
      exact (Option.some.inj h3).symm
    · cases h3

theorem lookO_ok {e v : Value} {b : Bool} : ∀ {p : List (Value × Bool)}, PathOk p → lookO p e = some b → Den e v → v = .bool b := by
  intro p
  induction p with
  | nil => intro _ h hd; exact reflO_ok h hd
  | cons x r ih =>
    intro hp h hd
    obtain ⟨x, c⟩ := x
    unfold lookO at h
    split at h
    · rename_i hx
      obtain rfl := veq_eq _ _ _ hx
      have h := Option.some.inj h
      subst h
      exact hp _ _ (List.mem_cons_self ..) v hd
    · exact ih (fun e b hb => hp e b (by simp [hb])) h hd

theorem isB_ok {bv bf : Nat → Bool} (hbv : ∀ i, bv i = true → ∃ b, Eta.var i = .bool b) (hbf : ∀ k l r, bf k = true → Eta.fn k l = some r → ∃ b, r = .bool b) {e v : Value} (h : isB bv bf e = true) (hd : Den e v) : ∃ b, v = .bool b := by
  cases hd with
  | var i => exact hbv i h
  | node f hl hp hr =>
    rename_i l l'
    have h : (decide (f ≤ 3) || (decide (100 ≤ f) && bf (f - 100))) = true := h
    simp only [Bool.or_eq_true, Bool.and_eq_true, decide_eq_true_eq] at h
    obtain h | ⟨h, hb⟩ := h
    · rcases (show f = 0 ∨ f = 1 ∨ f = 2 ∨ f = 3 by omega) with rfl | rfl | rfl | rfl
      · have hr : sNot l' = some v := hr
        unfold sNot at hr
        split at hr
        · exact ⟨_, (Option.some.inj hr).symm⟩
        · cases hr
      · have hr : sEql l' = some v := hr
        unfold sEql at hr
        split at hr
        · split at hr
          · exact ⟨_, (Option.some.inj hr).symm⟩
          · cases hr
        · exact ⟨_, (Option.some.inj hr).symm⟩
        · exact ⟨_, (Option.some.inj hr).symm⟩
        · cases hr
      · have hr : sLss l' = some v := hr
        unfold sLss at hr
        split at hr
        · split at hr
          · exact ⟨_, (Option.some.inj hr).symm⟩
          · cases hr
        · exact ⟨_, (Option.some.inj hr).symm⟩
        · cases hr
      · have hr : sLeq l' = some v := hr
        unfold sLeq at hr
        split at hr
        · exact ⟨_, (Option.some.inj hr).symm⟩
        · cases hr
    · have hr : sOp f l' = some v := hr
      unfold sOp at hr
      repeat rw [if_neg (by omega)] at hr
      rw [if_pos h] at hr
      exact hbf _ _ _ hb hr
  | _ => simp [isB] at h

theorem tree_ok {sum : FuncId → Option (List Value → M Value)} {bv bf : Nat → Bool} (hbv : ∀ i, bv i = true → ∃ b, Eta.var i = .bool b) (hbf : ∀ k l r, bf k = true → Eta.fn k l = some r → ∃ b, r = .bool b)
    {n : Nat} {f : FuncId} {l : List Value} {st : St} : ∀ (t : Tr) (p : List (Value × Bool)), chk P sum bv bf n f l st t p = true → Sides t p → PathOk p →
      ∃ q, PathOk q ∧ @runB (pathOrc sum q) P n f l st = some true := by
  intro t
  induction t with
  | leaf =>
    intro p h _ hp
    refine ⟨p, hp, ?_⟩
    unfold chk at h
    split at h
    · assumption
    · cases h
  | ask e t u iht ihu =>
    intro p h hs hp
    simp only [chk, Bool.and_eq_true] at h
    obtain ⟨⟨h1, h2⟩, h3⟩ := h
    by_cases he : Den e (.bool true)
    · exact iht _ h2 hs.1 (fun x b hx v hv => by
        rcases List.mem_cons.1 hx with hx | hx
        · cases hx; exact Den.single he hv
        · exact hp x b hx v hv)
    · exact ihu _ h3 hs.2 (fun x b hx v hv => by
        rcases List.mem_cons.1 hx with hx | hx
        · cases hx
          obtain ⟨b, rfl⟩ := isB_ok hbv hbf h1 hv
          cases b
          · rfl
          · exact absurd hv he
        · exact hp x b hx v hv)
  | sure e b t iht =>
    intro p h hs hp
    exact iht _ h hs.2 (fun x c hx v hv => by
      rcases List.mem_cons.1 hx with hx | hx
      · cases hx; exact hs.1 hp v hv
      · exact hp x c hx v hv)

/-- A call that answers true along every path returns true. -/
theorem tree_calls (hNG : NoGoroutines P) (hm : P.follows .mixedOrders = true) {sum : FuncId → Option (List Value → M Value)} {bv bf : Nat → Bool} (hbv : ∀ i, bv i = true → ∃ b, Eta.var i = .bool b)
    (hbf : ∀ k l r, bf k = true → Eta.fn k l = some r → ∃ b, r = .bool b) (hsum : ∀ p, @SumOk (pathOrc sum p) _ P B w0) {n : Nat} {f : FuncId} {l l' : List Value} {t : Tr}
    (hchk : chk P sum bv bf n f l st t [] = true) (hsides : Sides t []) (hS : Sim P B w0 ρ st w) (hl : LRel ρ l l') :
    Calls P f l'.toArray w fun e w' => e = .returned (.bool true) ∧ Below B w0 w' := by
  obtain ⟨q, hq, hr⟩ := tree_ok hbv hbf t [] hchk hsides (fun e b h => by cases h)
  have ok : @OrcOk (pathOrc sum q) _ := @OrcOk.mk (pathOrc sum q) _ (fun e b v h hd => lookO_ok hq h hd) (fun e ss v h _ => by cases h)
  unfold runB at hr
  split at hr
  case h_2 => cases hr
  rename_i v s hev
  split at hr
  case h_2 => cases hr
  rename_i b s2 hfo
  obtain rfl := Option.some.inj hr
  refine Calls.mono (@ev_ok (pathOrc sum q) _ ok P B w0 hNG hm (hsum q) n ρ st w f l l' v s hS hl hev) ?_
  intro e w' ⟨v', ρ', he, _, hS', hv'⟩
  obtain ⟨_, hb⟩ := @force_ok (pathOrc sum q) _ ok ρ' s s2 v v' true hv' hfo
  rw [hb] at he
  exact ⟨he, hS'.below⟩
end
end Go.Ev
