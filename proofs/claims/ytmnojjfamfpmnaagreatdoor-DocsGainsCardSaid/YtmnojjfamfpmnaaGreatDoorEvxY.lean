/-
  A loop over symbols: the code around it run with the loop's outcome given; the loop by its rounds.
-/
import Derived.Test.YtmnojjfamfpmnaaGreatDoorEvxX
set_option linter.unusedVariables false
set_option linter.unusedSimpArgs false
set_option linter.unusedSectionVars false
set_option linter.unnecessarySimpa false
set_option linter.unusedSectionVars false
namespace Go.Ev
open Go.RowKit

/-- Code in which each loop comes to what g says. -/
def codeX [Orc] (P : Program) (call : FuncId → List Value → M Value) (g : Fr → M (Ex × Fr)) : Code → Fr → M (Ex × Fr)
  | .skip, fr => M.pure (.normal, fr)
  | .label _, fr => M.pure (.normal, fr)
  | .exit id, fr => M.pure (.exit id, fr)
  | .ret, fr => M.pure (.ret, fr)
  | .goto l, fr => M.pure (.goto l, fr)
  | .region _ ops false, fr => do
    let fr ← opsM P call ops ops.toList fr
    pure (.normal, fr)
  | .region _ ops true, fr => do
    let fr ← drawM P call ops ops.toList [] fr
    pure (.normal, fr)
  | .seq a b, fr => do
    let (e, fr) ← codeX P call g a fr
    match e with
    | .normal => codeX P call g b fr
    | e => pure (e, fr)
  | .cond c a b, fr => do
    match ← forceB (← opd P fr c) with
    | true => codeX P call g a fr
    | false => codeX P call g b fr
  | .block id b, fr => do
    let (e, fr) ← codeX P call g b fr
    match e with
    | .exit i => if i = id then pure (.normal, fr) else pure (.exit i, fr)
    | e => pure (e, fr)
  | .loop _, fr => g fr
  | _, _ => M.fail

/-- The bodies of the loops. -/
def loopsOf : Code → List Code
  | .seq a b => loopsOf a ++ loopsOf b
  | .cond _ a b => loopsOf a ++ loopsOf b
  | .block _ b => loopsOf b
  | .loop b => [b]
  | _ => []

def bodyX [Orc] (P : Program) (call : FuncId → List Value → M Value) (g : Fr → M (Ex × Fr)) (f : FuncId) (args : List Value) : M Value :=
  match P.funcs[f]? with
  | none => M.fail
  | some fn =>
    match fn.body with
    | none => M.fail
    | some c => do
      let (e, fr) ← codeX P call g c ⟨max fn.ntmps args.length, putAll args 0 .e⟩
      match e with
      | .normal | .ret => do
        let vs ← resultsM P fr fn.results.toList
        match vs with
        | [v] => pure v
        | vs => pure (.tuple vs.toArray)
      | _ => M.fail

section
variable [Orc] [Eta] [OrcOk]
variable {P : Program} {B : Nat} {w0 : World} {ρ : Rho} {st st' : St} {w w' : World}

/-- What is said of a loop is so. -/
def LoopOk (P : Program) (B : Nat) (w0 : World) (g : Fr → M (Ex × Fr)) (x : Code) : Prop :=
  ∀ (fr fr' : Fr) (e : Ex) (a : Act) (ρ : Rho) (st st' : St) (w : World) (Q : Exit → Act → World → Prop), Sim P B w0 ρ st w → FrRel ρ fr a → g fr st = some ((e, fr'), st') →
    (∀ ρ' a' w', ρ.le ρ' → Sim P B w0 ρ' st' w' → FrRel ρ' fr' a' → a'.defers = a.defers → Q (exOf e) a' w') → (Code.loop x).wp P Q a w

theorem codeX_wp (hNG : NoGoroutines P) (hm : P.follows .mixedOrders = true) {call : FuncId → List Value → M Value} (hL : ∀ f l, Lcl (call f l)) (hcall : CallOk P B w0 call) {g : Fr → M (Ex × Fr)} : ∀ (c : Code), (∀ x, x ∈ loopsOf c → LoopOk P B w0 g x) →
    ∀ (fr fr' : Fr) (e : Ex) (a : Act) (ρ : Rho) (st st' : St) (w : World) (Q : Exit → Act → World → Prop),
    Sim P B w0 ρ st w → FrRel ρ fr a → codeX P call g c fr st = some ((e, fr'), st') →
    (∀ ρ' a' w', ρ.le ρ' → Sim P B w0 ρ' st' w' → FrRel ρ' fr' a' → a'.defers = a.defers → Q (exOf e) a' w') → c.wp P Q a w := by
  intro c
  induction c with
  | skip => intro _ fr fr' e a ρ st st' w Q hS hF h hQ; unfold codeX at h; cases (mpure_some.1 h); exact wp_skip (hQ ρ a w ρ.le_refl hS hF rfl)
  | label l => intro _ fr fr' e a ρ st st' w Q hS hF h hQ; unfold codeX at h; cases (mpure_some.1 h); exact wp_label (hQ ρ a w ρ.le_refl hS hF rfl)
  | exit id => intro _ fr fr' e a ρ st st' w Q hS hF h hQ; unfold codeX at h; cases (mpure_some.1 h); exact wp_exit (hQ ρ a w ρ.le_refl hS hF rfl)
  | goto l => intro _ fr fr' e a ρ st st' w Q hS hF h hQ; unfold codeX at h; cases (mpure_some.1 h); exact wp_goto (hQ ρ a w ρ.le_refl hS hF rfl)
  | ret => intro _ fr fr' e a ρ st st' w Q hS hF h hQ; unfold codeX at h; cases (mpure_some.1 h); exact wp_ret (hQ ρ a w ρ.le_refl hS hF rfl)
  | region id ops draw =>
    intro _ fr fr' e a ρ st st' w Q hS hF h hQ
    cases draw with
    | false =>
      unfold codeX at h
      obtain ⟨fr1, s1, h1, h⟩ := bind_some.1 h
      cases (pure_some.1 h)
      refine wp_region ?_
      have := ops_wp hNG hcall (ops := ops) (Q := Q) ops.toList 0 fr fr' a ρ st st' w (by simp) hS hF h1 hQ
      simpa [List.range_eq_range'] using this
    | true =>
      unfold codeX at h
      obtain ⟨fr1, s1, h1, h⟩ := bind_some.1 h
      cases (pure_some.1 h)
      exact draw_wp hNG hm hL hcall hS hF h1 hQ
  | seq x y ihx ihy =>
    intro hl fr fr' e a ρ st st' w Q hS hF h hQ
    unfold codeX at h
    obtain ⟨z, s1, h1, h⟩ := bind_some.1 h
    obtain ⟨e1, fr1⟩ := z
    refine wp_seq (ihx (fun z hz => hl z (by simp [loopsOf, hz])) fr fr1 e1 a ρ st s1 w _ hS hF h1 ?_)
    intro ρ' a' w' hle hS' hF' hd
    cases e1 with
    | normal => exact ihy (fun z hz => hl z (by simp [loopsOf, hz])) fr1 fr' e a' ρ' s1 st' w' Q hS' hF' h (fun ρ2 a2 w2 hl2 hS2 hF2 hd2 => hQ ρ2 a2 w2 (Rho.le_trans hle hl2) hS2 hF2 (hd2.trans hd))
    | exit i => cases (pure_some.1 h); exact hQ ρ' a' w' hle hS' hF' hd
    | ret => cases (pure_some.1 h); exact hQ ρ' a' w' hle hS' hF' hd
    | goto l => cases (pure_some.1 h); exact hQ ρ' a' w' hle hS' hF' hd
  | cond c x y ihx ihy =>
    intro hl fr fr' e a ρ st st' w Q hS hF h hQ
    unfold codeX at h
    obtain ⟨v, s1, h1, h⟩ := bind_some.1 h
    obtain ⟨hv, hS1⟩ := opd_ok hS hF h1
    obtain ⟨q, s2, h2, h⟩ := bind_some.1 h
    obtain ⟨e2, hc⟩ := force_ok hv h2
    subst e2
    cases q with
    | true => exact wp_cond_true hc (ihx (fun z hz => hl z (by simp [loopsOf, hz])) fr fr' e a ρ _ st' w Q hS1 hF h hQ)
    | false => exact wp_cond_false hc (ihy (fun z hz => hl z (by simp [loopsOf, hz])) fr fr' e a ρ _ st' w Q hS1 hF h hQ)
  | block id x ih =>
    intro hl fr fr' e a ρ st st' w Q hS hF h hQ
    unfold codeX at h
    obtain ⟨z, s1, h1, h⟩ := bind_some.1 h
    obtain ⟨e1, fr1⟩ := z
    refine wp_block (ih (fun z hz => hl z (by simpa [loopsOf] using hz)) fr fr1 e1 a ρ st s1 w _ hS hF h1 ?_)
    intro ρ' a' w' hle hS' hF' hd
    cases e1 with
    | normal => cases (pure_some.1 h); exact hQ ρ' a' w' hle hS' hF' hd
    | exit i =>
      simp only at h
      simp only [exOf, Exit.inBlock]
      split at h
      · rename_i hi
        rw [if_pos hi]
        cases (pure_some.1 h); exact hQ ρ' a' w' hle hS' hF' hd
      · rename_i hi
        rw [if_neg hi]
        cases (pure_some.1 h); exact hQ ρ' a' w' hle hS' hF' hd
    | ret => cases (pure_some.1 h); exact hQ ρ' a' w' hle hS' hF' hd
    | goto l => cases (pure_some.1 h); exact hQ ρ' a' w' hle hS' hF' hd
  | loop x ih =>
    intro hl fr fr' e a ρ st st' w Q hS hF h hQ
    unfold codeX at h
    exact hl x (by simp [loopsOf]) fr fr' e a ρ st st' w Q hS hF h hQ
  | _ => intro _ fr fr' e a ρ st st' w Q hS hF h hQ; unfold codeX at h; exact (fail_some.1 h).elim

/-- The call of a function whose loop comes to what g says. -/
theorem bodyX_calls (hNG : NoGoroutines P) (hm : P.follows .mixedOrders = true) {call : FuncId → List Value → M Value} (hL : ∀ f l, Lcl (call f l)) (hcall : CallOk P B w0 call) {g : Fr → M (Ex × Fr)} {f : FuncId} {fn : Func} {c : Code}
    (hfn : P.funcs[f]? = some fn) (hb : fn.body = some c) (hg : ∀ x, x ∈ loopsOf c → LoopOk P B w0 g x) {l l' : List Value} {v : Value} (hS : Sim P B w0 ρ st w) (hl : LRel ρ l l') (h : bodyX P call g f l st = some (v, st')) :
    Calls P f l'.toArray w fun e w' => ∃ v' ρ', e = .returned v' ∧ ρ.le ρ' ∧ Sim P B w0 ρ' st' w' ∧ VRel ρ' v v' := by
  unfold bodyX at h
  rw [hfn] at h
  simp only at h
  rw [hb] at h
  simp only at h
  obtain ⟨z, s1, h1, h⟩ := bind_some.1 h
  obtain ⟨e, fr⟩ := z
  refine calls_of_wp hfn hb ?_
  have hlen : l.length = l'.length := hl.1
  have hF : FrRel ρ ⟨max fn.ntmps l.length, putAll l 0 .e⟩ { tmps := l'.toArray ++ Array.replicate (fn.ntmps - l'.toArray.size) undef, defers := [] } := by
    refine ⟨by simp [hlen]; omega, fun t v hv => ?_⟩
    unfold Fr.get at hv
    simp only at hv
    rw [putAll_get] at hv
    simp only [Nat.zero_le, true_and, Nat.zero_add, Nat.sub_zero, PT.get] at hv
    by_cases ht : t < l.length
    · rw [if_pos ht] at hv
      obtain ⟨v', k1, k2⟩ := hl.get hv
      rw [Array.getD_eq_getD_getElem?, Array.getElem?_append, if_pos (by simp; omega), List.getElem?_toArray, k1]
      exact k2
    · rw [if_neg ht] at hv
      cases hv
  refine codeX_wp hNG hm hL hcall c hg _ fr e _ ρ st s1 w _ hS hF h1 ?_
  intro ρ' a' w' hl' hS' hF' hd
  have fin : (do
      let vs ← resultsM P fr fn.results.toList
      match vs with
      | [v] => pure v
      | vs => pure (.tuple vs.toArray)) s1 = some (v, st') → a'.defers = [] ∧ ∃ v', (results fn a'.tmps).run P w' = .ok v' w' ∧ (∃ v'' ρ'', (Ending.returned v' : Ending) = .returned v'' ∧ ρ.le ρ'' ∧ Sim P B w0 ρ'' st' w' ∧ VRel ρ'' v v'') := by
    intro h
    refine ⟨hd, ?_⟩
    obtain ⟨vs, s2, h2, h⟩ := bind_some.1 h
    obtain ⟨vs', f1, f2, hS2⟩ := results_ok hS' hF' h2
    have hr : (results fn a'.tmps).run P w' = .ok (if h : vs'.toArray.size = 1 then vs'.toArray[0] else .tuple vs'.toArray) w' := by
      unfold results
      rw [Array.mapM_eq_mapM_toList]
      simp only [Sem.run_bind, Sem.run_map, Sem.run_pure]
      exact congrArg (fun r : Result (List Value) => (r.andThen fun a w' => Result.ok a.toArray w').andThen fun (a : Array Value) w' => Result.ok (if h : a.size = 1 then a[0] else Value.tuple a) w') f1
    refine ⟨_, hr, _, ρ', rfl, hl', ?_⟩
    split at h
    · cases (pure_some.1 h)
      obtain ⟨u', r', rfl, g1, g2⟩ := f2.cons_left
      have := g2.nil_left
      subst this
      exact ⟨hS2, g1⟩
    · rename_i hne
      cases (pure_some.1 h)
      refine ⟨hS2, ?_⟩
      have hl1 : vs'.length ≠ 1 := by
        intro h1
        rw [← f2.1] at h1
        obtain ⟨u, hu⟩ := List.length_eq_one_iff.1 h1
        exact hne u hu
      rw [dif_neg (by simpa using hl1)]
      exact VRel.tuple_iff.2 ⟨_, rfl, by simpa using f2⟩
  cases e with
  | normal => exact fin h
  | ret => exact fin h
  | exit i => exact (fail_some.1 h).elim
  | goto g => exact (fail_some.1 h).elim
end

/-- A loop by its rounds: what holds ahead of a round with k left holds, where the round goes on, with less left. -/
theorem wp_loop_inv {P : Program} {x : Code} {Q : Exit → Act → World → Prop} (Inv : Nat → Act → World → Prop)
    (h : ∀ k a w, Inv k a w → x.wp P (Exit.then (fun a' w' => ∃ j, j < k ∧ Inv j a' w') Q) a w) : ∀ k a w, Inv k a w → (Code.loop x).wp P Q a w := by
  have key : ∀ n k a w, k ≤ n → Inv k a w → Code.rounds P x Q (n + 1) a w := by
    intro n
    induction n with
    | zero =>
      intro k a w hk hi
      rw [rounds_succ]
      refine Code.wp_mono ?_ (h k a w hi)
      intro e a' w' hq
      cases e with
      | normal => obtain ⟨j, hj, _⟩ := hq; omega
      | _ => exact hq
    | succ n ih =>
      intro k a w hk hi
      rw [rounds_succ]
      refine Code.wp_mono ?_ (h k a w hi)
      intro e a' w' hq
      cases e with
      | normal => obtain ⟨j, hj, hij⟩ := hq; exact ih j a' w' (by omega) hij
      | _ => exact hq
  intro k a w hi
  exact wp_loop_rounds (k + 1) (key k k a w (Nat.le_refl _) hi)
end Go.Ev
