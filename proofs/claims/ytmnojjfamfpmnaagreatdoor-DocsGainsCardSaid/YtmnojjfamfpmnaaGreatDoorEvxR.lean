/-
  What the evaluator says of a call is what the model does: from any world, in any order, at any capacity.
-/
import Derived.Test.YtmnojjfamfpmnaaGreatDoorEvxQ
import Derived.LoopN
set_option linter.unusedVariables false
set_option linter.unusedSimpArgs false
set_option linter.unusedSectionVars false
set_option linter.unnecessarySimpa false
set_option linter.unusedSectionVars false
namespace Go.Ev
open Go.RowKit
variable [Orc] [Eta] [OrcOk]
section
variable {P : Program} {B : Nat} {w0 : World} {ρ : Rho} {st st' : St} {w w' : World}

def exOf : Ex → Exit
  | .normal => .normal
  | .exit id => .exit id
  | .ret => .ret
  | .goto l => .goto l

theorem draw_wp (hNG : NoGoroutines P) (hm : P.follows .mixedOrders = true) {call : FuncId → List Value → M Value} (hL : ∀ f l, Lcl (call f l)) (hcall : CallOk P B w0 call) {ops : Array Oper} {id : Nat} {fr fr' : Fr} {a : Act}
    (hS : Sim P B w0 ρ st w) (hF : FrRel ρ fr a) (h : drawM P call ops ops.toList [] fr st = some (fr', st')) {Q : Exit → Act → World → Prop}
    (hQ : ∀ ρ' a' w', ρ.le ρ' → Sim P B w0 ρ' st' w' → FrRel ρ' fr' a' → a'.defers = a.defers → Q .normal a' w') : (Code.region id ops true).wp P Q a w := by
  obtain ⟨full, hlen, hc⟩ := chain_of (P := P) (call := call) (ops := ops) (fr0 := fr) (st0 := st) hL ops.toList [] fr fr' st st' .nil (by simp) h
  refine wp_region_any hm ?_
  have hf : ∀ j, (Array.replicate ops.size false).getD j false = false := by
    intro j
    simp only [Array.getD_eq_getD_getElem?, Array.getElem?_replicate]
    split <;> rfl
  refine any_order hNG hL hcall hlen hc hS.nextOk hQ ops.size _ a _ ρ st fr (by simp) ?_ ρ.le_refl hS.drew hF rfl rfl ?_ ?_ ?_
  · unfold leftN
    exact Nat.le_trans (List.length_filter_le _ _) (by simp)
  · intro j o hj; simp only [hf] at hj; cases hj
  · intro β
    clear hlen hc
    induction full with
    | nil => rfl
    | cons x l ih => simp only [cont]; rw [if_neg (by simp [hf])]; exact ih
  · intro τ
    clear hlen hc
    induction full with
    | nil => rfl
    | cons x l ih => simp only [fcont]; rw [if_neg (by simp [hf])]; exact ih

theorem code_wp (hNG : NoGoroutines P) (hm : P.follows .mixedOrders = true) {call : FuncId → List Value → M Value} (hL : ∀ f l, Lcl (call f l)) (hcall : CallOk P B w0 call) : ∀ (n : Nat) (c : Code) (fr fr' : Fr) (e : Ex) (a : Act) (ρ : Rho) (st st' : St) (w : World) (Q : Exit → Act → World → Prop),
    Sim P B w0 ρ st w → FrRel ρ fr a → codeM P call n c fr st = some ((e, fr'), st') →
    (∀ ρ' a' w', ρ.le ρ' → Sim P B w0 ρ' st' w' → FrRel ρ' fr' a' → a'.defers = a.defers → Q (exOf e) a' w') → c.wp P Q a w := by
  intro n
  induction n using Nat.strongRecOn with
  | _ n0 ih =>
   cases n0 with
   | zero => intro c fr fr' e a ρ st st' w Q _ _ h; exact (fail_some.1 h).elim
   | succ n =>
    intro c fr fr' e a ρ st st' w Q hS hF h hQ
    cases c with
    | skip => unfold codeM at h; cases (mpure_some.1 h); exact wp_skip (hQ ρ a w ρ.le_refl hS hF rfl)
    | label l => unfold codeM at h; cases (mpure_some.1 h); exact wp_label (hQ ρ a w ρ.le_refl hS hF rfl)
    | exit id => unfold codeM at h; cases (mpure_some.1 h); exact wp_exit (hQ ρ a w ρ.le_refl hS hF rfl)
    | goto l => unfold codeM at h; cases (mpure_some.1 h); exact wp_goto (hQ ρ a w ρ.le_refl hS hF rfl)
    | ret => unfold codeM at h; cases (mpure_some.1 h); exact wp_ret (hQ ρ a w ρ.le_refl hS hF rfl)
    | region id ops draw =>
      cases draw with
      | false =>
        unfold codeM at h
        simp only at h
        obtain ⟨fr1, s1, h1, h⟩ := bind_some.1 h
        cases (pure_some.1 h)
        refine wp_region ?_
        have := ops_wp hNG hcall (ops := ops) (Q := Q) ops.toList 0 fr fr' a ρ st st' w (by simp) hS hF h1 hQ
        simpa [List.range_eq_range'] using this
      | true =>
        unfold codeM at h
        simp only at h
        obtain ⟨fr1, s1, h1, h⟩ := bind_some.1 h
        cases (pure_some.1 h)
        exact draw_wp hNG hm hL hcall hS hF h1 hQ
    | seq x y =>
      unfold codeM at h
      simp only at h
      obtain ⟨z, s1, h1, h⟩ := bind_some.1 h
      obtain ⟨e1, fr1⟩ := z
      refine wp_seq (ih n (Nat.lt_succ_self n) x fr fr1 e1 a ρ st s1 w _ hS hF h1 ?_)
      intro ρ' a' w' hl hS' hF' hd
      cases e1 with
      | normal => exact ih n (Nat.lt_succ_self n) y fr1 fr' e a' ρ' s1 st' w' Q hS' hF' h (fun ρ2 a2 w2 hl2 hS2 hF2 hd2 => hQ ρ2 a2 w2 (Rho.le_trans hl hl2) hS2 hF2 (hd2.trans hd))
      | exit i => cases (pure_some.1 h); exact hQ ρ' a' w' hl hS' hF' hd
      | ret => cases (pure_some.1 h); exact hQ ρ' a' w' hl hS' hF' hd
      | goto l => cases (pure_some.1 h); exact hQ ρ' a' w' hl hS' hF' hd
    | cond c x y =>
      unfold codeM at h
      simp only at h
      obtain ⟨v, s1, h1, h⟩ := bind_some.1 h
      obtain ⟨hv, hS1⟩ := opd_ok hS hF h1
      obtain ⟨q, s2, h2, h⟩ := bind_some.1 h
      obtain ⟨e2, hc⟩ := force_ok hv h2
      subst e2
      cases q with
      | true => exact wp_cond_true hc (ih n (Nat.lt_succ_self n) x fr fr' e a ρ _ st' w Q hS1 hF h hQ)
      | false => exact wp_cond_false hc (ih n (Nat.lt_succ_self n) y fr fr' e a ρ _ st' w Q hS1 hF h hQ)
    | block id x =>
      unfold codeM at h
      simp only at h
      obtain ⟨z, s1, h1, h⟩ := bind_some.1 h
      obtain ⟨e1, fr1⟩ := z
      refine wp_block (ih n (Nat.lt_succ_self n) x fr fr1 e1 a ρ st s1 w _ hS hF h1 ?_)
      intro ρ' a' w' hl hS' hF' hd
      cases e1 with
      | normal => cases (pure_some.1 h); exact hQ ρ' a' w' hl hS' hF' hd
      | exit i =>
        simp only at h
        simp only [exOf, Exit.inBlock]
        split at h
        · rename_i hi
          rw [if_pos hi]
          cases (pure_some.1 h); exact hQ ρ' a' w' hl hS' hF' hd
        · rename_i hi
          rw [if_neg hi]
          cases (pure_some.1 h); exact hQ ρ' a' w' hl hS' hF' hd
      | ret => cases (pure_some.1 h); exact hQ ρ' a' w' hl hS' hF' hd
      | goto l => cases (pure_some.1 h); exact hQ ρ' a' w' hl hS' hF' hd
    | loop x =>
      have key : ∀ (k : Nat), k ≤ n + 1 → ∀ (fr : Fr) (a2 : Act) (ρ2 : Rho) (st2 : St) (w2 : World), ρ.le ρ2 → Sim P B w0 ρ2 st2 w2 → FrRel ρ2 fr a2 → a2.defers = a.defers → codeM P call k (.loop x) fr st2 = some ((e, fr'), st') → Code.rounds P x Q k a2 w2 := by
        intro k
        induction k with
        | zero => intro _ fr a2 ρ2 st2 w2 _ _ _ _ h; exact (fail_some.1 h).elim
        | succ k ihk =>
          intro hk fr a2 ρ2 st2 w2 hl hS2 hF2 hd2 h
          unfold codeM at h
          simp only at h
          obtain ⟨z, s1, h1, h⟩ := bind_some.1 h
          obtain ⟨e1, fr1⟩ := z
          -- the body's rounds by the outer induction, at most n of them
          rw [rounds_succ]
          refine ih k (by omega) x fr fr1 e1 a2 ρ2 st2 s1 w2 _ hS2 hF2 h1 ?_
          intro ρ' a' w' hl' hS' hF' hd'
          cases e1 with
          | normal => exact ihk (by omega) fr1 a' ρ' s1 w' (Rho.le_trans hl hl') hS' hF' (hd'.trans hd2) h
          | exit i => cases (pure_some.1 h); exact hQ ρ' a' w' (Rho.le_trans hl hl') hS' hF' (hd'.trans hd2)
          | ret => cases (pure_some.1 h); exact hQ ρ' a' w' (Rho.le_trans hl hl') hS' hF' (hd'.trans hd2)
          | goto l => cases (pure_some.1 h); exact hQ ρ' a' w' (Rho.le_trans hl hl') hS' hF' (hd'.trans hd2)
      exact wp_loop_rounds (n + 1) (key (n + 1) (Nat.le_refl _) fr a ρ st w ρ.le_refl hS hF rfl h)
    | scope x =>
      unfold codeM at h
      simp only at h
      obtain ⟨z, s1, h1, h⟩ := bind_some.1 h
      obtain ⟨e1, fr1⟩ := z
      cases e1 with
      | normal =>
        refine wp_scope_straight (ih n (Nat.lt_succ_self n) x fr fr1 .normal a ρ st s1 w _ hS hF h1 ?_)
        intro ρ' a' w' hl hS' hF' hd
        cases (pure_some.1 h); exact hQ ρ' a' w' hl hS' hF' hd
      | exit i =>
        refine wp_scope_straight (ih n (Nat.lt_succ_self n) x fr fr1 (.exit i) a ρ st s1 w _ hS hF h1 ?_)
        intro ρ' a' w' hl hS' hF' hd
        cases (pure_some.1 h); exact hQ ρ' a' w' hl hS' hF' hd
      | ret =>
        refine wp_scope_straight (ih n (Nat.lt_succ_self n) x fr fr1 .ret a ρ st s1 w _ hS hF h1 ?_)
        intro ρ' a' w' hl hS' hF' hd
        cases (pure_some.1 h); exact hQ ρ' a' w' hl hS' hF' hd
      | goto l =>
        simp only at h
        generalize hf : findLabel x l = of at h
        cases of with
        | none => exact (fail_some.1 h).elim
        | some rest =>
          simp only at h
          obtain ⟨z, s2, h2, h⟩ := bind_some.1 h
          obtain ⟨e2, fr2⟩ := z
          refine wp_scope_jumps l (fun a' w' => ∃ ρ', ρ.le ρ' ∧ Sim P B w0 ρ' s1 w' ∧ FrRel ρ' fr1 a' ∧ a'.defers = a.defers) (fun _ _ => 0) hf ?_ ?_
          · refine ih n (Nat.lt_succ_self n) x fr fr1 (.goto l) a ρ st s1 w _ hS hF h1 ?_
            intro ρ' a' w' hl hS' hF' hd
            exact ⟨rfl, ρ', hl, hS', hF', hd⟩
          · rintro a2 w2 ⟨ρ2, hl2, hS2, hF2, hd2⟩
            refine ih n (Nat.lt_succ_self n) rest fr1 fr2 e2 a2 ρ2 s1 s2 w2 _ hS2 hF2 h2 ?_
            intro ρ' a' w' hl hS' hF' hd
            cases e2 with
            | goto l2 => exact (fail_some.1 h).elim
            | normal => cases (pure_some.1 h); exact hQ ρ' a' w' (Rho.le_trans hl2 hl) hS' hF' (hd.trans hd2)
            | exit i => cases (pure_some.1 h); exact hQ ρ' a' w' (Rho.le_trans hl2 hl) hS' hF' (hd.trans hd2)
            | ret => cases (pure_some.1 h); exact hQ ρ' a' w' (Rho.le_trans hl2 hl) hS' hF' (hd.trans hd2)
    | rangeFunc f ps x y => unfold codeM at h; exact (fail_some.1 h).elim
    | refuse why => unfold codeM at h; exact (fail_some.1 h).elim

theorem putAll_get : ∀ (l : List Value) (i : Nat) (t : PT Value) (j : Nat), (putAll l i t).get j = if i ≤ j ∧ j < i + l.length then l[j - i]? else t.get j := by
  intro l
  induction l with
  | nil => intro i t j; simp [putAll]; intro h1 h2; omega
  | cons v r ih =>
    intro i t j
    unfold putAll
    rw [ih]
    by_cases h1 : i + 1 ≤ j ∧ j < i + 1 + r.length
    · rw [if_pos h1, if_pos (by simp; omega)]
      rw [show j - i = (j - (i + 1)) + 1 by omega, List.getElem?_cons_succ]
    · rw [if_neg h1]
      by_cases h2 : j = i
      · subst h2
        rw [PT.get_set _ _ _ _ (by omega), if_pos (by simp)]
        simp
      · rw [PT.get_set_ne _ _ _ _ _ h2, if_neg (by simp; omega)]

theorem result_ok {fr : Fr} {a : Act} {r : ResultVar} {v : Value} (hS : Sim P B w0 ρ st w) (hF : FrRel ρ fr a) (h : resultM P fr r st = some (v, st')) :
    ∃ v', ((match r with | .tmp t => pure (a.tmps.getD t undef) | .cell x t => do loadVar t (← asAddr (a.tmps.getD x undef))) : Sem Value).run P w = .ok v' w ∧ VRel ρ v v' ∧ Sim P B w0 ρ st' w := by
  cases r with
  | tmp t =>
    obtain ⟨_, hu, e⟩ := ofO_some.1 h
    cases e
    exact ⟨_, rfl, hF.2 t _ hu, hS⟩
  | cell x t =>
    obtain ⟨u0, s1, h1, h⟩ := bind_some.1 h
    obtain ⟨_, hu, e⟩ := ofO_some.1 h1
    cases e
    have hx := hF.2 x _ hu
    obtain ⟨v', e1, e2, e3⟩ := load_ok (t := t) hS hx h
    refine ⟨v', ?_, e2, e3⟩
    show (do loadVar t (← asAddr (a.tmps.getD x undef)) : Sem Value).run P w = .ok v' w
    generalize a.tmps.getD x undef = u at e1 hx ⊢
    cases u with
    | pointer p =>
      cases p with
      | none => simp [Instr.loadAt, Instr.sureAddr] at e1
      | some p => simpa [Instr.loadAt, Instr.sureAddr, asAddr] using e1
    | _ => simp [Instr.loadAt, Instr.sureAddr] at e1

theorem results_ok {fr : Fr} {a : Act} : ∀ {l : List ResultVar} {vs : List Value} {st st' : St}, Sim P B w0 ρ st w → FrRel ρ fr a → resultsM P fr l st = some (vs, st') →
    ∃ vs', (l.mapM (m := Sem) fun r => match r with | .tmp t => pure (a.tmps.getD t undef) | .cell x t => do loadVar t (← asAddr (a.tmps.getD x undef))).run P w = .ok vs' w ∧ LRel ρ vs vs' ∧ Sim P B w0 ρ st' w := by
  intro l
  induction l with
  | nil => intro vs st st' hS hF h; cases (mpure_some.1 h); exact ⟨[], by simp, LRel.nil ρ, hS⟩
  | cons r rs ih =>
    intro vs st st' hS hF h
    unfold resultsM at h
    obtain ⟨v, s1, h1, h⟩ := bind_some.1 h
    obtain ⟨v', e1, e2, hS1⟩ := result_ok hS hF h1
    obtain ⟨l, s2, h2, h⟩ := bind_some.1 h
    obtain ⟨l', f1, f2, hS2⟩ := ih hS1 hF h2
    cases (pure_some.1 h)
    refine ⟨v' :: l', ?_, LRel.cons e2 f2, hS2⟩
    rw [List.mapM_cons, Sem.run_bind]
    rw [e1, Result.andThen_ok, Sem.run_bind, f1]
    rfl

theorem body_wp (hNG : NoGoroutines P) (hm : P.follows .mixedOrders = true) {call : FuncId → List Value → M Value} (hL : ∀ f l, Lcl (call f l)) (hcall : CallOk P B w0 call) (n : Nat) : CallOk P B w0 (bodyM P call n) := by
  intro ρ st w f l l' v st' hS hl h
  unfold bodyM at h
  generalize hfn : P.funcs[f]? = ofn at h
  cases ofn with
  | none => exact (fail_some.1 h).elim
  | some fn =>
    simp only at h
    generalize hb : fn.body = ob at h
    cases ob with
    | none => exact (fail_some.1 h).elim
    | some c =>
      simp only at h
      obtain ⟨z, s1, h1, h⟩ := bind_some.1 h
      obtain ⟨e, fr⟩ := z
      refine calls_of_wp hfn hb ?_
      have hlen : l.length = l'.length := hl.1
      have hF : FrRel ρ ⟨max fn.ntmps l.length, putAll l 0 .e⟩ { tmps := l'.toArray ++ Array.replicate (fn.ntmps - l'.toArray.size) undef, defers := [] } := by
        refine ⟨by simp [hlen]; omega, fun t v hv => ?_⟩
        unfold Fr.get at hv
        simp only at hv
        rw [putAll_get] at hv
        simp only [Nat.zero_le, true_and, Nat.zero_add, Nat.sub_zero, PT.get] at hv
        by_cases ht : t < l.length
        · rw [if_pos ht] at hv
          obtain ⟨v', k1, k2⟩ := hl.get hv
          rw [Array.getD_eq_getD_getElem?, Array.getElem?_append, if_pos (by simp; omega), List.getElem?_toArray, k1]
          exact k2
        · rw [if_neg ht] at hv
          cases hv
      refine code_wp hNG hm hL hcall n c _ fr e _ ρ st s1 w _ hS hF h1 ?_
      intro ρ' a' w' hl' hS' hF' hd
      have fin : (do
          let vs ← resultsM P fr fn.results.toList
          match vs with
          | [v] => pure v
          | vs => pure (.tuple vs.toArray)) s1 = some (v, st') → a'.defers = [] ∧ ∃ v', (results fn a'.tmps).run P w' = .ok v' w' ∧ (∃ v'' ρ'', (Ending.returned v' : Ending) = .returned v'' ∧ ρ.le ρ'' ∧ Sim P B w0 ρ'' st' w' ∧ VRel ρ'' v v'') := by
        intro h
        refine ⟨hd, ?_⟩
        obtain ⟨vs, s2, h2, h⟩ := bind_some.1 h
        obtain ⟨vs', f1, f2, hS2⟩ := results_ok hS' hF' h2
        have hr : (results fn a'.tmps).run P w' = .ok (if h : vs'.toArray.size = 1 then vs'.toArray[0] else .tuple vs'.toArray) w' := by
          unfold results
          rw [Array.mapM_eq_mapM_toList]
          simp only [Sem.run_bind, Sem.run_map, Sem.run_pure]
          exact congrArg (fun r : Result (List Value) => (r.andThen fun a w' => Result.ok a.toArray w').andThen fun (a : Array Value) w' => Result.ok (if h : a.size = 1 then a[0] else Value.tuple a) w') f1
        refine ⟨_, hr, _, ρ', rfl, hl', ?_⟩
        split at h
        · cases (pure_some.1 h)
          obtain ⟨u', r', rfl, g1, g2⟩ := f2.cons_left
          have := g2.nil_left
          subst this
          exact ⟨hS2, g1⟩
        · rename_i hne
          cases (pure_some.1 h)
          refine ⟨hS2, ?_⟩
          have hl1 : vs'.length ≠ 1 := by
            intro h1
            rw [← f2.1] at h1
            obtain ⟨u, hu⟩ := List.length_eq_one_iff.1 h1
            exact hne u hu
          rw [dif_neg (by simpa using hl1)]
          exact VRel.tuple_iff.2 ⟨_, rfl, by simpa using f2⟩
      cases e with
      | normal => exact fin h
      | ret => exact fin h
      | exit i => exact (fail_some.1 h).elim
      | goto g => exact (fail_some.1 h).elim

/-- What is said of the functions that are not entered is so. -/
def SumOk (P : Program) (B : Nat) (w0 : World) : Prop :=
  ∀ f g, Orc.sum f = some g → (∀ l, Lcl (g l)) ∧ ∀ (ρ : Rho) (st : St) (w : World) (l l' : List Value) (v : Value) (st' : St), Sim P B w0 ρ st w → LRel ρ l l' → g l st = some (v, st') →
    Calls P f l'.toArray w fun e w' => ∃ v' ρ', e = .returned v' ∧ ρ.le ρ' ∧ Sim P B w0 ρ' st' w' ∧ VRel ρ' v v'

/-- What the evaluator says of a call is what the model does. -/
theorem ev_ok (hNG : NoGoroutines P) (hm : P.follows .mixedOrders = true) (hs : SumOk P B w0) : ∀ n : Nat, CallOk P B w0 (ev P n) := by
  intro n
  induction n with
  | zero => intro ρ st w f l l' v st' _ _ h; exact (fail_some.1 h).elim
  | succ n ih =>
    intro ρ st w f l l' v st' hS hl h
    unfold ev at h
    generalize hg : Orc.sum f = g at h
    cases g with
    | none => exact body_wp hNG hm (Lcl.ev P (fun f g hg => (hs f g hg).1) n) ih n ρ st w f l l' v st' hS hl h
    | some g => exact (hs f g hg).2 ρ st w l l' v st' hS hl h
end
end Go.Ev
