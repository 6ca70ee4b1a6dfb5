/-
  Trees of branches with numbered leaves; frames by their slots; one round of a loop.
-/
import Derived.Test.YtmnojjfamfpmnaaGreatDoorEvxY
set_option linter.unusedVariables false
set_option linter.unusedSimpArgs false
set_option linter.unusedSectionVars false
set_option linter.unnecessarySimpa false
set_option linter.unusedSectionVars false
namespace Go.Ev
open Go.RowKit

inductive TrN where
  | leaf (k : Nat)
  | ask (e : Value) (t u : TrN)

def TrN.chk (bv bf : Nat → Bool) (run : List (Value × Bool) → Nat → Bool) : TrN → List (Value × Bool) → Bool
  | .leaf k, p => run p k
  | .ask e t u, p => isB bv bf e && TrN.chk bv bf run t ((e, true) :: p) && TrN.chk bv bf run u ((e, false) :: p)
def TrN.leaves : TrN → List (Value × Bool) → List (List (Value × Bool) × Nat)
  | .leaf k, p => [(p, k)]
  | .ask e t u, p => t.leaves ((e, true) :: p) ++ u.leaves ((e, false) :: p)

section
variable [Eta]
theorem TrN.ok {bv bf : Nat → Bool} (hbv : ∀ i, bv i = true → ∃ b, Eta.var i = .bool b) (hbf : ∀ k l r, bf k = true → Eta.fn k l = some r → ∃ b, r = .bool b) {run : List (Value × Bool) → Nat → Bool} :
    ∀ (t : TrN) (p : List (Value × Bool)), t.chk bv bf run p = true → PathOk p → ∃ q k, (q, k) ∈ t.leaves p ∧ PathOk q ∧ run q k = true := by
  intro t
  induction t with
  | leaf k => intro p h hp; exact ⟨p, k, by simp [TrN.leaves], hp, h⟩
  | ask e t u iht ihu =>
    intro p h hp
    simp only [TrN.chk, Bool.and_eq_true] at h
    obtain ⟨⟨h1, h2⟩, h3⟩ := h
    by_cases he : Den e (.bool true)
    · obtain ⟨q, b, k1, k2⟩ := iht _ h2 (fun x b hx v hv => by
        rcases List.mem_cons.1 hx with hx | hx
        · cases hx; exact Den.single he hv
        · exact hp x b hx v hv)
      exact ⟨q, b, by simp [TrN.leaves, k1], k2⟩
    · obtain ⟨q, b, k1, k2⟩ := ihu _ h3 (fun x b hx v hv => by
        rcases List.mem_cons.1 hx with hx | hx
        · cases hx
          obtain ⟨b, rfl⟩ := isB_ok hbv hbf h1 hv
          cases b
          · rfl
          · exact absurd hv he
        · exact hp x b hx v hv)
      exact ⟨q, b, by simp [TrN.leaves, k1], k2⟩
end

/-- Are the two the same to the sign, tokens too? -/
def vq (a b : Value) : Bool := match a, b with
  | .iface t x, .iface u y => t == u && veq 60 x y
  | a, b => veq 60 a b
theorem vq_eq {a b : Value} (h : vq a b = true) : a = b := by
  unfold vq at h
  split at h
  · simp only [Bool.and_eq_true, beq_iff_eq] at h
    rw [h.1, veq_eq _ _ _ h.2]
  · exact veq_eq _ _ _ h

/-- A frame by its slots. -/
def frOf (n : Nat) : List (Nat × Value) → Fr
  | [] => ⟨n, .e⟩
  | (t, v) :: r => ⟨n, PT.set v (t + 1) t (frOf n r).t⟩
theorem frOf_get {n : Nat} : ∀ {l : List (Nat × Value)} {t : Nat} {v : Value}, (frOf n l).get t = some v → (t, v) ∈ l := by
  intro l
  induction l with
  | nil => intro t v h; simp [frOf, Fr.get, PT.get] at h
  | cons x r ih =>
    intro t v h
    obtain ⟨s, u⟩ := x
    unfold frOf Fr.get at h
    simp only at h
    by_cases e : t = s
    · subst e
      rw [PT.get_set _ _ _ _ (by omega)] at h
      cases h
      simp
    · rw [PT.get_set_ne _ _ _ _ _ e] at h
      exact List.mem_cons_of_mem _ (ih h)
theorem frOf_n (n : Nat) (l : List (Nat × Value)) : (frOf n l).n = n := by cases l <;> rfl
def hasSlots (fr : Fr) (l : List (Nat × Value)) : Bool := l.all fun p => match fr.get p.1 with
  | some v => vq v p.2
  | none => false

section
variable [Eta]
variable {P : Program} {B : Nat} {w0 : World} {ρ : Rho} {st st' : St} {w w' : World}
theorem frOf_rel {n : Nat} {l : List (Nat × Value)} {a : Act} (hn : a.tmps.size = n) (h : ∀ t v, (t, v) ∈ l → VRel ρ v (a.tmps.getD t undef)) : FrRel ρ (frOf n l) a :=
  ⟨by rw [frOf_n]; exact hn, fun t v hv => h t v (frOf_get hv)⟩
theorem slots_rel {fr : Fr} {l : List (Nat × Value)} {a : Act} (hF : FrRel ρ fr a) (h : hasSlots fr l = true) {t : Nat} {v : Value} (hm : (t, v) ∈ l) : VRel ρ v (a.tmps.getD t undef) := by
  have := List.all_eq_true.1 h _ hm
  simp only at this
  split at this
  · rename_i u hu
    rw [← vq_eq this]
    exact hF.2 t u hu
  · cases this
/-- What a token of an integer stands for. -/
theorem VRel.tok_den {s : Nat} {e v : Value} (h : VRel ρ (.iface (TOK + s) e) v) : Den e v := (tok_at (t := TOK + s) rfl h).2
end

def exq : Ex → Ex → Bool
  | .normal, .normal => true
  | .ret, .ret => true
  | .exit i, .exit j => i == j
  | _, _ => false
theorem exq_eq {a b : Ex} (h : exq a b = true) : a = b := by
  cases a <;> cases b <;> simp_all [exq]

/-- One round: the code's outcome at a leaf is what the table says of its number. -/
def roundB [Orc] (P : Program) (call : FuncId → List Value → M Value) (n : Nat) (x : Code) (fr : Fr) (st : St) (outs : Nat → Ex × List (Nat × Value)) (k : Nat) : Bool :=
  match codeM P call n x fr st with
  | some ((e, fr'), _) => exq e (outs k).1 && hasSlots fr' (outs k).2 && fr'.n == fr.n
  | none => false

section
variable [Orc] [Eta] [OrcOk]
variable {P : Program} {B : Nat} {w0 : World} {ρ : Rho} {st st' : St} {w w' : World}
theorem round_wp (hNG : NoGoroutines P) (hm : P.follows .mixedOrders = true) {call : FuncId → List Value → M Value} (hL : ∀ f l, Lcl (call f l)) (hcall : CallOk P B w0 call) {n : Nat} {x : Code} {fr : Fr} {outs : Nat → Ex × List (Nat × Value)} {k : Nat}
    (h : roundB P call n x fr st outs k = true) {a : Act} (hS : Sim P B w0 ρ st w) (hF : FrRel ρ fr a) {Q : Exit → Act → World → Prop}
    (hQ : ∀ ρ' a' w', Below B w0 w' → a'.tmps.size = a.tmps.size → (∀ t v, (t, v) ∈ (outs k).2 → VRel ρ' v (a'.tmps.getD t undef)) → a'.defers = a.defers → Q (exOf (outs k).1) a' w') : x.wp P Q a w := by
  unfold roundB at h
  split at h
  case h_2 => cases h
  rename_i e fr' st' hc
  simp only [Bool.and_eq_true, beq_iff_eq] at h
  obtain ⟨⟨h1, h2⟩, h3⟩ := h
  obtain rfl := exq_eq h1
  refine code_wp hNG hm hL hcall n x fr fr' _ a ρ st st' w Q hS hF hc ?_
  intro ρ' a' w' _ hS' hF' hd
  exact hQ ρ' a' w' hS'.below (by rw [hF'.1, h3, ← hF.1]) (fun t v hm => slots_rel hF' h2 hm) hd
end
end Go.Ev
