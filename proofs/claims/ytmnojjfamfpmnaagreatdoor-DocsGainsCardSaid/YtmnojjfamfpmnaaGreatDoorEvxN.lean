/-
  One operation of a region: what the evaluator says of it is what the model does.
-/
import Derived.Test.YtmnojjfamfpmnaaGreatDoorEvxM
set_option linter.unusedVariables false
set_option linter.unusedSimpArgs false
set_option linter.unusedSectionVars false
set_option linter.unnecessarySimpa false
set_option linter.unusedSectionVars false
namespace Go.Ev
open Go.RowKit
variable [Orc] [Eta] [OrcOk]
section
variable {P : Program} {B : Nat} {w0 : World} {ρ : Rho} {st st' : St} {w w' : World}

/-- No function with a body bears the one name that the model's call treats apart. -/
def NoGoroutines (P : Program) : Prop := ∀ (f : FuncId) (fn : Func), P.funcs[f]? = some fn → fn.body.isSome = true → (fn.name == "runtime.NumGoroutine") = false

/-- What a call comes to. -/
def CallOk (P : Program) (B : Nat) (w0 : World) (call : FuncId → List Value → M Value) : Prop :=
  ∀ (ρ : Rho) (st : St) (w : World) (f : FuncId) (l l' : List Value) (v : Value) (st' : St), Sim P B w0 ρ st w → LRel ρ l l' → call f l st = some (v, st') →
    Calls P f l'.toArray w fun e w' => ∃ v' ρ', e = .returned v' ∧ ρ.le ρ' ∧ Sim P B w0 ρ' st' w' ∧ VRel ρ' v v'

theorem askN_ok {e v : Value} {b : Bool} (h : askN e = some b) (hd : Den e v) : v = .bool b := by
  unfold askN at h
  generalize hu : un0 e = u at h
  cases u with
  | none => exact OrcOk.ok e b v h hd
  | some x =>
    obtain ⟨b', h1, h2⟩ := un0_inv hu hd
    simp only at h
    cases ha : Orc.ask x with
    | none => rw [ha] at h; cases h
    | some b2 =>
      rw [ha] at h
      have := OrcOk.ok x b2 _ ha h1
      cases this
      cases h
      exact h2

theorem force_ok {v v' : Value} {b : Bool} (hv : VRel ρ v v') (h : forceB v st = some (b, st')) : st' = st ∧ v' = .bool b := by
  unfold forceB at h
  split at h
  · cases hv; cases (mpure_some.1 h); exact ⟨rfl, rfl⟩
  · split at h
    case isFalse => exact (fail_some.1 h).elim
    rename_i ht
    obtain ⟨_, ha, e⟩ := ofO_some.1 h
    cases e
    exact ⟨rfl, askN_ok ha (tok_at (s := 0) ht hv).2⟩
  · exact (fail_some.1 h).elim

def FrRel (ρ : Rho) (fr : Fr) (a : Act) : Prop := a.tmps.size = fr.n ∧ ∀ t v, fr.get t = some v → VRel ρ v (a.tmps.getD t undef)

theorem FrRel.mono {ρ ρ' : Rho} (hl : ρ.le ρ') {fr : Fr} {a : Act} (h : FrRel ρ fr a) : FrRel ρ' fr a := ⟨h.1, fun t v hv => (h.2 t v hv).mono hl⟩

theorem put_get {fr fr' : Fr} {d : Option Nat} {v : Value} (h : fr.put d v st = some (fr', st')) :
    st' = st ∧ fr'.n = fr.n ∧ ∀ t, fr'.get t = if d = some t then some v else fr.get t := by
  unfold Fr.put at h
  cases d with
  | none => cases (mpure_some.1 h); exact ⟨rfl, rfl, fun t => by simp⟩
  | some d =>
    simp only at h
    split at h
    · cases (mpure_some.1 h)
      refine ⟨rfl, rfl, fun t => ?_⟩
      unfold Fr.get
      simp only [Option.some.injEq]
      by_cases e : d = t
      · subst e; rw [PT.get_set _ _ _ _ (by omega)]; simp
      · rw [PT.get_set_ne _ _ _ _ _ (Ne.symm e)]; simp [e]
    · exact (fail_some.1 h).elim
theorem put_in {fr fr' : Fr} {d : Nat} {v : Value} (h : fr.put (some d) v st = some (fr', st')) : d < fr.n := by
  unfold Fr.put at h
  simp only at h
  split at h
  · assumption
  · exact (fail_some.1 h).elim

theorem FrRel.put {fr fr' : Fr} {a : Act} {d : Option Nat} {v v' : Value} (hF : FrRel ρ fr a) (hv : VRel ρ v v') (h : fr.put d v st = some (fr', st')) : FrRel ρ fr' (a.put d v') := by
  obtain ⟨_, hn, hg⟩ := put_get h
  cases d with
  | none => exact ⟨by rw [hn]; exact hF.1, fun t => by rw [hg]; simpa [Act.put] using hF.2 t⟩
  | some d =>
    have hd := put_in h
    refine ⟨by simp [Act.put, hn, hF.1], fun t => ?_⟩
    rw [hg]
    simp only [Act.put, Option.some.injEq, Array.getD_eq_getD_getElem?, Array.getElem?_setIfInBounds]
    by_cases e : d = t
    · subst e
      intro u hu
      rw [if_pos rfl] at hu
      cases hu
      simpa [hF.1, hd] using hv
    · simpa [e, Array.getD_eq_getD_getElem?] using hF.2 t

theorem opd_ok {fr : Fr} {a : Act} {x : Operand} {v : Value} (hS : Sim P B w0 ρ st w) (hF : FrRel ρ fr a) (h : opd P fr x st = some (v, st')) : VRel ρ v (a.eval x) ∧ Sim P B w0 ρ st' w := by
  unfold opd at h
  split at h
  · obtain ⟨_, hg, e⟩ := ofO_some.1 h
    cases e
    exact ⟨hF.2 _ _ hg, hS⟩
  · obtain ⟨hp, e⟩ := plain_some.1 h; cases e; exact ⟨plainB_rel hp, hS⟩
  · rename_i g
    obtain ⟨_, s1, h1, h⟩ := bind_some.1 h
    obtain ⟨hg, e⟩ := guardM_some.1 h1
    cases e
    obtain ⟨b, s1, h1, h⟩ := bind_some.1 h
    obtain ⟨_, hb, e⟩ := getB_some.1 h1
    cases e
    cases (pure_some.1 h)
    obtain ⟨L, hL, _⟩ := hS.blk _ _ hb
    obtain ⟨e1, e2⟩ := hS.glob g (by simpa using hg) L hL
    refine ⟨?_, hS.logs rfl hS.nextOk⟩
    have := VRel.ptr (ρ := ρ) (off := 0) hL
    rw [e1, e2] at this
    exact this
  · cases (mpure_some.1 h)
    exact ⟨VRel.func_iff.2 ⟨#[], #[], rfl, LRel.nil ρ, LRel.nil ρ⟩, hS⟩

theorem opds_ok {fr : Fr} {a : Act} : ∀ {l : List Operand} {vs : List Value} {st st' : St}, Sim P B w0 ρ st w → FrRel ρ fr a → opds P fr l st = some (vs, st') → LRel ρ vs (l.map a.eval) ∧ Sim P B w0 ρ st' w := by
  intro l
  induction l with
  | nil => intro vs st st' hS hF h; cases (mpure_some.1 h); exact ⟨LRel.nil ρ, hS⟩
  | cons x r ih =>
    intro vs st st' hS hF h
    unfold opds at h
    obtain ⟨v, s1, h1, h⟩ := bind_some.1 h
    obtain ⟨hv, hS1⟩ := opd_ok hS hF h1
    obtain ⟨l, s2, h2, h⟩ := bind_some.1 h
    obtain ⟨hl, hS2⟩ := ih hS1 hF h2
    cases (pure_some.1 h)
    exact ⟨LRel.cons hv hl, hS2⟩

theorem opdO_ok {fr : Fr} {a : Act} {x : Option Operand} {v : Option Value} (hS : Sim P B w0 ρ st w) (hF : FrRel ρ fr a) (h : opdO P fr x st = some (v, st')) : ORel ρ v (x.map a.eval) ∧ Sim P B w0 ρ st' w := by
  cases x with
  | none => cases (mpure_some.1 h); exact ⟨⟨rfl, fun _ _ h => by cases h⟩, hS⟩
  | some x =>
    unfold opdO at h
    obtain ⟨u, s1, h1, h⟩ := bind_some.1 h
    obtain ⟨hv, hS1⟩ := opd_ok hS hF h1
    cases (pure_some.1 h)
    exact ⟨⟨rfl, fun _ _ h1 h2 => by cases h1; cases h2; exact hv⟩, hS1⟩

theorem opdP_ok {fr : Fr} {a : Act} : ∀ {l : List (Nat × Operand)} {vs : List (Nat × Value)} {st st' : St}, Sim P B w0 ρ st w → FrRel ρ fr a → opdP P fr l st = some (vs, st') →
    PRel ρ vs (l.map fun x => (x.1, a.eval x.2)) ∧ Sim P B w0 ρ st' w := by
  intro l
  induction l with
  | nil => intro vs st st' hS hF h; cases (mpure_some.1 h); exact ⟨PRel.nil, hS⟩
  | cons x r ih =>
    obtain ⟨i, x⟩ := x
    intro vs st st' hS hF h
    unfold opdP at h
    obtain ⟨v, s1, h1, h⟩ := bind_some.1 h
    obtain ⟨hv, hS1⟩ := opd_ok hS hF h1
    obtain ⟨l, s2, h2, h⟩ := bind_some.1 h
    obtain ⟨hl, hS2⟩ := ih hS1 hF h2
    cases (pure_some.1 h)
    exact ⟨PRel.cons i hv hl, hS2⟩

theorem wp_value {o : Oper} {a : Act} {s : Sem Value} {v : Value} {next : Act → World → Prop} {Q : Exit → Act → World → Prop} (he : execOp a.eval o = (do pure (.value (← s)) : Sem Next)) (hg : Good P B w0 ρ st' v (s.run P w))
    (hnext : ∀ v' w' ρ', ρ.le ρ' → Sim P B w0 ρ' st' w' → VRel ρ' v v' → next (a.put o.dst v') w') : o.wp P a w next Q := by
  obtain ⟨v', w', ρ', e, h1, h2, h3⟩ := hg
  unfold Oper.wp
  rw [he, Sem.run_bind, e]
  exact hnext v' w' ρ' h1 h2 h3
theorem wp_same {o : Oper} {a : Act} {s : Sem Value} {v : Value} {next : Act → World → Prop} {Q : Exit → Act → World → Prop} (he : execOp a.eval o = (do pure (.value (← s)) : Sem Next)) (hS : Sim P B w0 ρ st' w)
    (hg : ∃ v', s.run P w = .ok v' w ∧ VRel ρ v v')
    (hnext : ∀ v' w' ρ', ρ.le ρ' → Sim P B w0 ρ' st' w' → VRel ρ' v v' → next (a.put o.dst v') w') : o.wp P a w next Q := by
  obtain ⟨v', e, h⟩ := hg
  exact wp_value he (Good.same e hS h) hnext
theorem wp_unit {o : Oper} {a : Act} {s : Sem Unit} {v : Value} {next : Act → World → Prop} {Q : Exit → Act → World → Prop} (he : execOp a.eval o = (do s; pure .skip : Sem Next))
    (hg : ∃ w', s.run P w = .ok () w' ∧ v = undef ∧ Sim P B w0 ρ st' w')
    (hnext : ∀ v' w' ρ', ρ.le ρ' → Sim P B w0 ρ' st' w' → VRel ρ' v v' → next (a.put o.dst v') w') : o.wp P a w next Q := by
  obtain ⟨w', e, rfl, h⟩ := hg
  unfold Oper.wp
  rw [he, Sem.run_bind, e]
  exact hnext undef w' ρ ρ.le_refl h (VRel.undef ρ)

theorem bool_inv {b : Bool} {v : Value} (h : VRel ρ (.bool b) v) : v = .bool b := by cases h; rfl
theorem map_pairs (a : Act) (parts : Array (Nat × Operand)) : (parts.map fun (x : Nat × Operand) => (x.1, a.eval x.2)) = (parts.toList.map fun x => (x.1, a.eval x.2)).toArray := by
  apply Array.toList_inj.1
  simp

theorem map_evals (a : Act) (args : Array Operand) : args.map a.eval = (args.toList.map a.eval).toArray := by
  apply Array.toList_inj.1
  simp

set_option maxHeartbeats 2000000 in
theorem Den.four {f : Nat} {a b va vb r : Value} {m n : Int} (ha : Den a va) (hb : Den b vb) (hr : sOp f [va, vb, .int .i64 m, .int .i64 n] = some r) : Den (term f [a, b, .int .i64 m, .int .i64 n]) r :=
  .node f (l := [a, b, .int .i64 m, .int .i64 n]) (l' := [va, vb, .int .i64 m, .int .i64 n]) rfl (fun i v v' h1 h2 => by
    match i with
    | 0 => simp at h1 h2; subst h1; subst h2; exact ha
    | 1 => simp at h1 h2; subst h1; subst h2; exact hb
    | 2 => simp at h1 h2; subst h1; subst h2; exact .int _ _
    | 3 => simp at h1 h2; subst h1; subst h2; exact .int _ _
    | i + 4 => simp at h1) hr

/-- A pointer into a slice that came in, taken apart. -/
theorem ptrOf_den {p v : Value} {q : Value × Value × Nat × Nat} (h : ptrOf p = some q) (hd : Den p v) :
    ∃ va vb b o n c k, Den q.1 va ∧ Den q.2.1 vb ∧ va = .slice (some ⟨b, o, none⟩) n c ∧ (∃ kk, vb = .int kk k) ∧ 0 ≤ k ∧ k < n ∧ v = .pointer (some ⟨b, o + (k.toNat * q.2.2.1 + q.2.2.2), none⟩) := by
  cases hd with
  | node f hl hp hr =>
    rename_i l l'
    unfold ptrOf term at h
    simp only at h
    by_cases hf : f = 40
    case neg => rw [if_neg hf] at h; cases h
    rw [if_pos hf] at h
    subst hf
    generalize hll : l.toArray.toList = ll at h
    have hll : l = ll := by simpa using hll
    subst hll
    split at h
    case h_2 => cases h
    rename_i e i sz off
    cases h
    match l', hl with
    | [va, vb, vc, vd], _ =>
      have h1 := hp 0 e va rfl rfl
      have h2 := hp 1 i vb rfl rfl
      have h3 := hp 2 _ vc rfl rfl
      have h4 := hp 3 _ vd rfl rfl
      cases h3
      cases h4
      have hr : (sPlace [va, vb, .int .i64 sz, .int .i64 off]).map (fun p => Value.pointer (some ⟨p.1, p.2, none⟩)) = some v := hr
      obtain ⟨pp, hpp, rfl⟩ := Option.map_eq_some_iff.1 hr
      unfold sPlace at hpp
      split at hpp
      · rename_i b o n c kk k ks sz' ko off' he
        simp only [List.cons.injEq, Value.int.injEq, and_true] at he
        obtain ⟨e1, e2, ⟨_, e3⟩, _, e4⟩ := he
        subst e1; subst e2; subst e3; subst e4
        split at hpp
        case isFalse => cases hpp
        rename_i hk
        cases hpp
        exact ⟨_, _, b, o, n, c, k, h1, h2, rfl, ⟨kk, rfl⟩, hk.1, hk.2, rfl⟩
      · cases hpp
  | _ => simp [ptrOf] at h

theorem Srt.place {v : Value} (hv : oneCellB v = true) : Srt 12 v :=
  ⟨hv, fun h => absurd h (by decide), fun h => absurd h (by decide), fun k h => absurd h (by cases k <;> decide), fun h => absurd h (by decide)⟩

theorem ptr_den {e i va vb : Value} {b o n c : Nat} {kk : IntKind} {k : Int} {sz off : Nat} (ha : Den e va) (hb : Den i vb) (e1 : va = .slice (some ⟨b, o, none⟩) n c) (e2 : vb = .int kk k) (h0 : 0 ≤ k) (h1 : k < n) :
    Den (ptrT e i sz off) (.pointer (some ⟨b, o + (k.toNat * sz + off), none⟩)) := by
  subst e1; subst e2
  refine Den.four ha hb ?_
  show (sPlace [_, _, _, _]).map _ = _
  simp [sPlace, h0, h1]
theorem cel_den {e i va vb u : Value} {b o n c : Nat} {kk : IntKind} {k : Int} {sz off : Nat} (ha : Den e va) (hb : Den i vb) (e1 : va = .slice (some ⟨b, o, none⟩) n c) (e2 : vb = .int kk k) (h0 : 0 ≤ k) (h1 : k < n)
    (hu : Eta.mem b (o + (k.toNat * sz + off)) = some u) : Den (celT e i sz off) u := by
  subst e1; subst e2
  refine Den.four ha hb ?_
  show (sPlace [_, _, _, _]).bind _ = _
  simp [sPlace, h0, h1, hu]

theorem slcIndex_ok {t : TypeId} {x x' i i' r : Value} (hx : VRel ρ x x') (hi : VRel ρ i i') (h : slcIndex P t x i st = some (r, st')) :
    ∃ r', (Instr.indexAt t x' i').run P w = .ok r' w ∧ VRel ρ r r' ∧ st' = st := by
  unfold slcIndex at h
  generalize hu : P.underlying t = ut at h
  split at h
  case h_2 => exact (fail_some.1 h).elim
  rename_i et tt e
  split at h
  case isFalse => exact (fail_some.1 h).elim
  rename_i hc
  obtain ⟨htt, hsi⟩ := hc
  obtain ⟨hsr, hd⟩ := tok_at htt hx
  obtain ⟨hsi1, hdi⟩ := sort_val hsi hi
  obtain ⟨k, rfl⟩ := hsi1.2.2.2.1 .i64 rfl
  obtain ⟨sz, s1, h1, h⟩ := bind_some.1 h
  obtain ⟨_, hsz, e1⟩ := ofO_some.1 h1
  cases e1
  obtain ⟨ss, s1, h1, h⟩ := bind_some.1 h
  obtain ⟨_, hss, e1⟩ := ofO_some.1 h1
  cases e1
  obtain ⟨_, s1, h1, h⟩ := bind_some.1 h
  obtain ⟨hg, e1⟩ := guardM_some.1 h1
  cases e1
  cases (pure_some.1 h)
  simp only [Bool.and_eq_true, decide_eq_true_eq, beq_iff_eq] at hg
  obtain ⟨⟨hlen, hq1⟩, hq2⟩ := hg
  have hb2 : ∀ m n : Int, sOp 2 [.int .i64 m, .int .i64 n] = some (.bool (decide (m < n))) := fun m n => rfl
  have hk0 := askN_ok hq1 (Den.bin hdi (.int .i64 0) (hb2 _ _))
  obtain ⟨a0, n, c, rfl⟩ := hsr.2.2.2.2 rfl
  have hk1 := askN_ok hq2 (Den.bin hdi (Den.un (f := 30) (r := .int .i64 n) hd rfl) (hb2 _ _))
  have hk0 : ¬ k < 0 := by simpa using hk0
  have hk1 : k < n := by simpa using hk1
  rcases OrcOk.slc e ss _ hss hd with he | ⟨b, o, n', c', he, hcell⟩
  · cases he
    omega
  · cases he
    refine ⟨_, ?_, .tok 12 (ptr_den hd hdi rfl rfl (by omega) hk1) (.place rfl), rfl⟩
    have hg : 0 ≤ k ∧ k < n := ⟨by omega, hk1⟩
    simp [Instr.indexAt, asIntOf, run_underlying hu, run_size hsz, hg, add_off]

theorem slcField_ok {t : TypeId} {x x' r : Value} {f : Nat} (hx : VRel ρ x x') (h : slcField P t x f st = some (r, st')) :
    ∃ r', (Instr.fieldAt t x' f).run P w = .ok r' w ∧ VRel ρ r r' ∧ st' = st := by
  unfold slcField at h
  generalize hu : P.underlying t = ut at h
  split at h
  case h_2 => exact (fail_some.1 h).elim
  rename_i fs tt p
  split at h
  case isFalse => exact (fail_some.1 h).elim
  rename_i htt
  obtain ⟨hsr, hd⟩ := tok_at htt hx
  obtain ⟨q, s1, h1, h⟩ := bind_some.1 h
  obtain ⟨_, hq, e1⟩ := ofO_some.1 h1
  cases e1
  obtain ⟨fd, s1, h1, h⟩ := bind_some.1 h
  obtain ⟨_, hf, e1⟩ := ofO_some.1 h1
  cases e1
  obtain ⟨n, s1, h1, h⟩ := bind_some.1 h
  obtain ⟨_, hn, e1⟩ := ofO_some.1 h1
  cases e1
  obtain ⟨_, s1, h1, h⟩ := bind_some.1 h
  obtain ⟨hg, e1⟩ := guardM_some.1 h1
  cases e1
  cases (pure_some.1 h)
  have hg : n ≠ 0 := by simpa using hg
  obtain ⟨va, vb, b, o, m, c, k, d1, d2, e1, ⟨kk, e2⟩, h0, hlt, rfl⟩ := ptrOf_den hq hd
  refine ⟨_, ?_, .tok 12 (ptr_den d1 d2 e1 e2 h0 hlt) (.place rfl), rfl⟩
  simp [Instr.fieldAt, run_underlying hu, hf, Instr.sureAddr, fieldPlace, run_size hn, hg, add_off]
  omega

theorem slc_cell {e : Value} {ss : List Nat} {va : Value} {b o n c : Nat} (hS : Sim P B w0 ρ st w) (hss : Orc.slc e = some ss) (hd : Den e va) (e1 : va = .slice (some ⟨b, o, none⟩) n c) {i j s : Nat} (hi : i < n) (hj : ss[j]? = some s) :
    ∃ u, Eta.mem b (o + (i * ss.length + j)) = some u ∧ Srt s u ∧ w.cell? ⟨b, o + (i * ss.length + j), none⟩ = some u := by
  rcases OrcOk.slc e ss _ hss hd with he | ⟨b', o', n', c', he, hcell⟩
  · rw [e1] at he; cases he
  · rw [e1] at he
    cases he
    obtain ⟨u, h1, h2⟩ := hcell i j s hi hj
    obtain ⟨h3, h4⟩ := hS.mem _ _ _ h1
    refine ⟨u, h1, h2, ?_⟩
    rw [← h4]
    unfold World.cell?
    rw [hS.below.block _ h3]

theorem slcCells_rel (hS : Sim P B w0 ρ st w) {e i va vb : Value} {b o n c : Nat} {kk : IntKind} {k : Int} {ss0 : List Nat} (hss : Orc.slc e = some ss0) (ha : Den e va) (hb : Den i vb) (e1 : va = .slice (some ⟨b, o, none⟩) n c) (e2 : vb = .int kk k) (h0 : 0 ≤ k) (h1 : k < n) :
    ∀ (l : List Nat) (off : Nat), (∀ j s, l[j]? = some s → ss0[off + j]? = some s) →
      ∃ l', l'.length = l.length ∧ LRel ρ (slcCells e i ss0.length l off) l' ∧ ∀ j v, l'[j]? = some v → w.cell? ⟨b, o + (k.toNat * ss0.length + (off + j)), none⟩ = some v := by
  intro l
  induction l with
  | nil => intro off _; exact ⟨[], rfl, LRel.nil ρ, fun j v h => by simp at h⟩
  | cons s r ih =>
    intro off h
    obtain ⟨u, g1, g2, g3⟩ := slc_cell hS hss ha e1 (i := k.toNat) (by omega) (h 0 s rfl)
    obtain ⟨l', k1, k2, k3⟩ := ih (off + 1) (fun j s' hj => by
      have := h (j + 1) s' (by simpa using hj)
      rwa [show off + (j + 1) = off + 1 + j by omega] at this)
    refine ⟨u :: l', by simp [k1], LRel.cons (.tok s (cel_den ha hb e1 e2 h0 h1 g1) g2) k2, fun j v hj => ?_⟩
    cases j with
    | zero => simp at hj; subst hj; exact g3
    | succ j =>
      have := k3 j v (by simpa using hj)
      rwa [show off + 1 + j = off + (j + 1) by omega] at this

theorem slcLoad_ok {t : TypeId} {a a' v : Value} (hS : Sim P B w0 ρ st w) (ha : VRel ρ a a') (h : slcLoad P t a st = some (v, st')) :
    ∃ v', (Instr.loadAt t a').run P w = .ok v' w ∧ VRel ρ v v' ∧ Sim P B w0 ρ st' w := by
  unfold slcLoad at h
  split at h
  case h_2 => exact (fail_some.1 h).elim
  rename_i tt p
  split at h
  case isFalse => exact (fail_some.1 h).elim
  rename_i htt
  obtain ⟨hsr, hd⟩ := tok_at htt ha
  obtain ⟨q, s1, h1, h⟩ := bind_some.1 h
  obtain ⟨_, hq, e1⟩ := ofO_some.1 h1
  cases e1
  obtain ⟨ss, s1, h1, h⟩ := bind_some.1 h
  obtain ⟨_, hss, e1⟩ := ofO_some.1 h1
  cases e1
  obtain ⟨_, s1, h1, h⟩ := bind_some.1 h
  obtain ⟨hg, e1⟩ := guardM_some.1 h1
  cases e1
  have hg : ss.length = q.2.2.1 := by simpa using hg
  obtain ⟨va, vb, b, o, m, c, k, d1, d2, e1, ⟨kk, e2⟩, h0, hlt, rfl⟩ := ptrOf_den hq hd
  obtain ⟨ag, s2, h2, h⟩ := bind_some.1 h
  obtain ⟨ag', hag, e⟩ := ofO_some.1 h2
  cases e
  cases ag with
  | true =>
    simp only at h
    obtain ⟨n, s3, h3, h⟩ := bind_some.1 h
    obtain ⟨n', hn, e⟩ := ofO_some.1 h3
    cases e
    obtain ⟨_, s4, h4, h⟩ := bind_some.1 h
    obtain ⟨hg2, e⟩ := guardM_some.1 h4
    cases e
    cases (pure_some.1 h)
    have hg2 : q.2.2.2 + n ≤ ss.length := by simpa using hg2
    obtain ⟨l', k1, k2, k3⟩ := slcCells_rel hS hss d1 d2 e1 e2 h0 hlt ((ss.drop q.2.2.2).take n) q.2.2.2 (fun j s hj => by
      rw [List.getElem?_take] at hj
      split at hj
      · rw [List.getElem?_drop] at hj; exact hj
      · cases hj)
    have hlen : l'.length = n := by rw [k1, List.length_take, List.length_drop]; omega
    refine ⟨.agg l'.toArray, ?_, VRel.agg_iff.2 ⟨_, rfl, by rw [hg] at k2; simpa using k2⟩, hS⟩
    have hrun : (loadCells ⟨b, o + (k.toNat * q.2.2.1 + q.2.2.2), none⟩ n).run P w = .ok l'.toArray w := by
      subst hlen
      refine run_loadCells_list w _ l' fun j v hj => ?_
      rw [add_off]
      have := k3 j v hj
      rw [hg] at this
      rwa [show o + (k.toNat * q.2.2.1 + q.2.2.2) + j = o + (k.toNat * q.2.2.1 + (q.2.2.2 + j)) by omega]
    simp [Instr.loadAt, Instr.sureAddr, loadVar, run_agg hag, run_size hn, hrun]
  | false =>
    simp only at h
    obtain ⟨s, s3, h3, h⟩ := bind_some.1 h
    obtain ⟨_, hs, e⟩ := ofO_some.1 h3
    cases e
    cases (pure_some.1 h)
    obtain ⟨u, g1, g2, g3⟩ := slc_cell hS hss d1 e1 (i := k.toNat) (by omega) hs
    rw [hg] at g1 g3
    refine ⟨u, ?_, .tok s (cel_den d1 d2 e1 e2 h0 hlt g1) g2, hS⟩
    simp [Instr.loadAt, Instr.sureAddr, loadVar, run_agg hag, g3]

theorem beq_bytes (a b : ByteArray) : (a == b) = (a.toList == b.toList) := by
  have h : (a == b) = true ↔ a.data = b.data := by
    cases a with
    | mk x => cases b with
      | mk y =>
        show (x == y) = true ↔ x = y
        exact beq_iff_eq
  rw [Bool.eq_iff_iff, h]
  simp [ByteArray.toList_eq]

theorem sameT_ok {a a' b b' : Value} {c : Bool} (ha : VRel ρ a a') (hb : VRel ρ b b') (h : sameT a b = some c) : ∃ x y, a' = .string x ∧ b' = .string y ∧ (x == y) = c := by
  unfold sameT at h
  split at h
  · cases ha; cases hb
    cases h
    exact ⟨_, _, rfl, rfl, beq_bytes _ _⟩
  · split at h
    case isFalse => cases h
    rename_i hs
    obtain ⟨s1, d1⟩ := sort_val hs.1 ha
    obtain ⟨s2, d2⟩ := sort_val hs.2 hb
    obtain ⟨x, rfl⟩ := s1.2.2.1 rfl
    obtain ⟨y, rfl⟩ := s2.2.2.1 rfl
    have := askN_ok h (Den.bin (f := 1) (r := .bool (x.toList == y.toList)) d1 d2 rfl)
    cases this
    exact ⟨x, y, rfl, rfl, beq_bytes x y⟩

theorem findT_ok {k k' : Value} (hk : VRel ρ k k') : ∀ {es es' : List MapEntry} {i : Nat} {r : Option (Nat × Value)}, ERel ρ es es' → findT k es i = some r →
    ∃ r', Instr.findNow .string k' es' i = some r' ∧ FRel ρ r r' ∧ ∀ j u, r' = some (j, u) → i ≤ j ∧ ∃ e x y, es'[j - i]? = some e ∧ e.key = .string x ∧ k' = .string y ∧ (y == x) = true := by
  intro es
  induction es with
  | nil => intro es' i r h hr; rw [h.nil_left]; cases hr; exact ⟨none, rfl, trivial, fun j u h => by cases h⟩
  | cons e r ih =>
    intro es' i q h hr
    obtain ⟨e', r', rfl, ⟨h1, _, h3⟩, h4⟩ := h.cons_left
    unfold findT at hr
    split at hr
    · rename_i hs
      cases hr
      obtain ⟨x, y, rfl, hy, hxy⟩ := sameT_ok hk h1 hs
      refine ⟨some (i, e'.val), ?_, ⟨rfl, h3⟩, fun j u hj => ?_⟩
      · simp only [Instr.findNow, hy, Instr.sameNow, hxy]
      · cases hj
        exact ⟨Nat.le_refl _, e', y, x, by simp, hy, rfl, hxy⟩
    · rename_i hs
      obtain ⟨x, y, rfl, hy, hxy⟩ := sameT_ok hk h1 hs
      obtain ⟨q', g1, g2, g3⟩ := ih h4 hr
      refine ⟨q', ?_, g2, fun j u hj => ?_⟩
      · simp only [Instr.findNow, hy, Instr.sameNow, hxy]
        exact g1
      · obtain ⟨hij, e2, x2, y2, k1, k2, k3, k4⟩ := g3 j u hj
        refine ⟨by omega, e2, x2, y2, ?_, k2, k3, k4⟩
        rw [show j - i = (j - (i + 1)) + 1 by omega, List.getElem?_cons_succ]
        exact k1
    · cases hr

theorem check_str {kt : TypeId} {s : ByteArray} (hu : P.underlying kt = some .string) (emp : Bool) : (Instr.checkKey emp 10000 kt (.string s)).run P w = .ok () w := by
  unfold Instr.checkKey
  simp [run_underlying hu]
theorem find_str {kt : TypeId} {k' : Value} {es' : List MapEntry} {r' : Option (Nat × Value)} (hu : P.underlying kt = some .string) (h : Instr.findNow .string k' es' 0 = some r') : (Instr.findKey kt k' es').run P w = .ok r' w := by
  unfold Instr.findKey
  simp [run_underlying hu, h]

theorem isStrT_ok {kt : TypeId} (h : isStrT P kt = true) : P.underlying kt = some .string := by
  unfold isStrT at h
  split at h
  · assumption
  · cases h

theorem lookupT_ok {t : TypeId} {x x' k k' r : Value} {ok : Bool} (hS : Sim P B w0 ρ st w) (hx : VRel ρ x x') (hk : VRel ρ k k') (h : lookupT P t x k ok st = some (r, st')) :
    Good P B w0 ρ st' r ((Instr.lookup t x' k' ok).run P w) := by
  unfold lookupT at h
  generalize hu : P.underlying t = ut at h
  split at h
  case h_2 => exact (fail_some.1 h).elim
  rename_i kt et β
  cases hx with
  | map hL =>
    rename_i L
    obtain ⟨_, s1, h1, h⟩ := bind_some.1 h
    obtain ⟨hg, e1⟩ := guardM_some.1 h1
    cases e1
    simp only [Bool.and_eq_true, beq_iff_eq] at hg
    have hus := isStrT_ok hg.1
    obtain ⟨s, rfl⟩ := (sort_val hg.2 hk).1.2.2.1 rfl
    obtain ⟨q, s1, h1, h⟩ := bind_some.1 h
    obtain ⟨es, clock, hb, e1⟩ := mapOf_some.1 h1
    cases e1
    obtain ⟨qq, s1, h1, h⟩ := bind_some.1 h
    obtain ⟨_, hfk, e1⟩ := ofO_some.1 h1
    cases e1
    obtain ⟨hlt, ⟨es', hw, hE⟩, hB⟩ := hS.get hb hL
    obtain ⟨q', hq', hF, _⟩ := findT_ok hk hE hfk
    have hnc : ∀ c el fz, (Obj.map es' clock) ≠ .cells c el fz := fun _ _ _ e => by cases e
    have hgo : (getObj L.b).run P w = .ok (.map es' clock) w := run_getObj hw hnc
    have hS1 : Sim P B w0 ρ { st with rd := β :: st.rd } w := hS.logs rfl hS.nextOk
    have hrun : (Instr.lookup t (.map (some L.b)) (.string s) ok).run P w = (match q' with
        | some (_, v) => .ok (if ok then .tuple #[v, .bool true] else v) w
        | none => ((zeroValue et).run P w).andThen fun z w => .ok (if ok then .tuple #[z, .bool false] else z) w) := by
      simp only [Instr.lookup, Sem.run_bind, run_underlying hu, Result.andThen_ok, hgo, Sem.run_pure, check_str hus, find_str hus hq']
      cases q' with
      | none => simp
      | some y => obtain ⟨i, v⟩ := y; simp
    rw [hrun]
    cases qq with
    | some y =>
      obtain ⟨i, v⟩ := y
      cases q' with
      | none => exact hF.elim
      | some y' =>
        obtain ⟨j, v'⟩ := y'
        obtain ⟨_, hv⟩ := hF
        cases (pure_some.1 h)
        refine Good.same (v' := if ok then .tuple #[v', .bool true] else v') rfl hS1 ?_
        cases ok with
        | false => exact hv
        | true => exact VRel.tuple_iff.2 ⟨_, rfl, LRel.cons hv (LRel.single (.bool _))⟩
    | none =>
      cases q' with
      | some y' => obtain ⟨j, v'⟩ := y'; exact hF.elim
      | none =>
        simp only at h
        obtain ⟨z, s4, h4, h⟩ := bind_some.1 h
        obtain ⟨hz, hpl, e1, _⟩ := run_zero h4 w
        cases (pure_some.1 h)
        refine Good.same (w := w) (v' := if ok then .tuple #[z, .bool false] else z) (by simp [hz]) (by rw [← e1]; exact hS1) ?_
        cases ok with
        | false => exact plainB_rel hpl
        | true => exact VRel.tuple_iff.2 ⟨_, rfl, LRel.cons (plainB_rel hpl) (LRel.single (.bool _))⟩

theorem mapUpdateT_ok {t : TypeId} {x x' k k' v v' r : Value} (hS : Sim P B w0 ρ st w) (hx : VRel ρ x x') (hk : VRel ρ k k') (hv : VRel ρ v v') (h : mapUpdateT P t x k v st = some (r, st')) :
    ∃ w', (Instr.mapUpdate t x' k' v').run P w = .ok () w' ∧ r = undef ∧ Sim P B w0 ρ st' w' := by
  unfold mapUpdateT at h
  generalize hu : P.underlying t = ut at h
  split at h
  case h_2 => exact (fail_some.1 h).elim
  rename_i kt et β
  cases hx with
  | map hL =>
    rename_i L
    obtain ⟨_, s1, h1, h⟩ := bind_some.1 h
    obtain ⟨hg, e1⟩ := guardM_some.1 h1
    cases e1
    simp only [Bool.and_eq_true, beq_iff_eq] at hg
    have hus := isStrT_ok hg.1
    obtain ⟨s, rfl⟩ := (sort_val hg.2 hk).1.2.2.1 rfl
    obtain ⟨q, s1, h1, h⟩ := bind_some.1 h
    obtain ⟨es, clock, hb, e1⟩ := mapOf_some.1 h1
    cases e1
    obtain ⟨qq, s1, h1, h⟩ := bind_some.1 h
    obtain ⟨_, hfk, e1⟩ := ofO_some.1 h1
    cases e1
    obtain ⟨hlt, ⟨es', hw, hE⟩, hB⟩ := hS.get hb hL
    obtain ⟨q', hq', hF, hat⟩ := findT_ok hk hE hfk
    have hnc : ∀ c el fz, (Obj.map es' clock) ≠ .cells c el fz := fun _ _ _ e => by cases e
    have hgo : (getObj L.b).run P w = .ok (.map es' clock) w := run_getObj hw hnc
    have hall : ∀ (a : List MapEntry) (c : Nat), ∀ i j, InExt L (.map a c) i j ↔ i = L.b := fun _ _ _ _ => Iff.rfl
    cases qq with
    | some z =>
      obtain ⟨i, u⟩ := z
      cases q' with
      | none => exact hF.elim
      | some z' =>
        obtain ⟨i', u'⟩ := z'
        obtain ⟨rfl, _⟩ := hF
        simp only at h
        obtain ⟨_, s1, h1, h⟩ := bind_some.1 h
        obtain ⟨_, e3⟩ := setB_some.1 h1
        cases e3
        cases (pure_some.1 h)
        obtain ⟨_, e2, y1, y2, g1, g2, g3, g4⟩ := hat i u' rfl
        cases g3
        have hold : ((es'[i]?).map (·.key)).getD (.string s) = .string y1 := by
          rw [Nat.sub_zero, Array.getElem?_toList] at g1
          rw [g1]
          simp [g2]
        have hkts : (Instr.keyThatStays (((es'[i]?).map (·.key)).getD (.string s)) (.string s)).run P w = .ok (.string s) w := by
          rw [hold]
          have : (y1 == s) = true := by
            rw [beq_bytes] at g4 ⊢
            rw [beq_iff_eq] at g4 ⊢
            exact g4.symm
          simp [Instr.keyThatStays, Instr.sameBits, this]
        have hE2 : ERel ρ (es.toArray.modify i fun e => { e with key := k, val := v }).toList (es'.modify i fun e => { e with key := .string s, val := v' }).toList := by
          have := hE.modify i (fun e => { e with key := k, val := v }) (fun e => { e with key := .string s, val := v' }) (fun e e' he => ⟨hk, he.2.1, hv⟩)
          simpa using this
        obtain ⟨r1, r2⟩ := hS.setObj (b' := .map (es.toArray.modify i fun e => { e with key := k, val := v }).toList clock) (o2 := .map (es'.modify i fun e => { e with key := .string s, val := v' }) clock)
          hb hL rfl (hall _ _) (fun _ _ h => h) hw hnc ⟨_, by simp [hlt], hE2⟩ (β :: st.wr)
        refine ⟨_, ?_, rfl, r2.logs rfl r2.nextOk⟩
        simp only [Instr.mapUpdate, Sem.run_bind, run_underlying hu, Result.andThen_ok, hgo, check_str hus, find_str hus hq', hkts, r1]
    | none =>
      cases q' with
      | some z' => obtain ⟨_, _⟩ := z'; exact hF.elim
      | none =>
        simp only at h
        obtain ⟨_, s1, h1, h⟩ := bind_some.1 h
        obtain ⟨_, e3⟩ := setB_some.1 h1
        cases e3
        cases (pure_some.1 h)
        have hE2 : ERel ρ (es ++ [{ key := k, val := v, born := clock }]) (es'.push { key := .string s, val := v', born := clock }).toList := by
          rw [Array.toList_push]
          exact hE.append (ERel.cons ⟨hk, rfl, hv⟩ (ERel.nil ρ))
        obtain ⟨r1, r2⟩ := hS.setObj (b' := .map (es ++ [{ key := k, val := v, born := clock }]) (clock + 1)) (o2 := .map (es'.push { key := .string s, val := v', born := clock }) (clock + 1))
          hb hL rfl (hall _ _) (fun _ _ h => h) hw hnc ⟨_, by simp [hlt], hE2⟩ (β :: st.wr)
        refine ⟨_, ?_, rfl, r2.logs rfl r2.nextOk⟩
        simp only [Instr.mapUpdate, Sem.run_bind, run_underlying hu, Result.andThen_ok, hgo, check_str hus, find_str hus hq', r1]

set_option maxHeartbeats 1600000 in
theorem op_ok (hNG : NoGoroutines P) {call : FuncId → List Value → M Value} (hcall : CallOk P B w0 call) {fr : Fr} {a : Act} {o : Oper} {v : Value} (hS : Sim P B w0 ρ st w) (hF : FrRel ρ fr a)
    (h : opM P call fr o st = some (v, st')) {next : Act → World → Prop} {Q : Exit → Act → World → Prop}
    (hnext : ∀ v' w' ρ', ρ.le ρ' → Sim P B w0 ρ' st' w' → VRel ρ' v v' → next (a.put o.dst v') w') : o.wp P a w next Q := by
  obtain ⟨dst, op, type, pos, after, guard⟩ := o
  unfold opM at h
  cases op with
  | move x =>
    obtain ⟨hv, hS1⟩ := opd_ok hS hF h
    exact hnext _ w ρ ρ.le_refl hS1 hv
  | assign x =>
    obtain ⟨hv, hS1⟩ := opd_ok hS hF h
    exact hnext _ w ρ ρ.le_refl hS1 hv
  | pick c x y =>
    obtain ⟨b, s1, h1, h⟩ := bind_some.1 h
    obtain ⟨hb, hS1⟩ := opd_ok hS hF h1
    obtain ⟨q, s2, h2, h⟩ := bind_some.1 h
    obtain ⟨e2, hc⟩ := force_ok hb h2
    subst e2
    cases q with
    | true =>
      obtain ⟨hv, hS2⟩ := opd_ok hS1 hF h
      refine wp_same (s := do pure (if ← asBool (a.eval c) then a.eval x else a.eval y)) (by simp [execOp]) hS2 ⟨_, by rw [hc]; simp [asBool], hv⟩ hnext
    | false =>
      obtain ⟨hv, hS2⟩ := opd_ok hS1 hF h
      refine wp_same (s := do pure (if ← asBool (a.eval c) then a.eval x else a.eval y)) (by simp [execOp]) hS2 ⟨_, by rw [hc]; simp [asBool], hv⟩ hnext
  | alloc t => exact wp_value (s := Instr.alloc t true (.tuple #[])) rfl (alloc_ok hS h) hnext
  | box t x =>
    obtain ⟨u, s1, h1, h⟩ := bind_some.1 h
    obtain ⟨hu, hS1⟩ := opd_ok hS hF h1
    exact wp_value (s := Instr.box t (a.eval x)) rfl (box_ok hS1 hu h) hnext
  | build t parts =>
    obtain ⟨u, s1, h1, h⟩ := bind_some.1 h
    obtain ⟨hu, hS1⟩ := opdP_ok hS hF h1
    have := build_ok hS1 hu h
    exact wp_value (s := Instr.build t (parts.toList.map fun x => (x.1, a.eval x.2)).toArray) (by
      show (do pure (.value (← Instr.build t (parts.map fun x => (x.1, a.eval x.2)))) : Sem Next) = _
      rw [map_pairs]) this hnext
  | buildSlice t len parts =>
    obtain ⟨u, s1, h1, h⟩ := bind_some.1 h
    obtain ⟨hu, hS1⟩ := opdP_ok hS hF h1
    have := buildSlice_ok hS1 hu h
    exact wp_value (s := Instr.buildSlice t len (parts.toList.map fun x => (x.1, a.eval x.2)).toArray) (by
      show (do pure (.value (← Instr.buildSlice t len (parts.map fun x => (x.1, a.eval x.2)))) : Sem Next) = _
      rw [map_pairs]) this hnext
  | load t x =>
    obtain ⟨u, s1, h1, h⟩ := bind_some.1 h
    obtain ⟨hu, hS1⟩ := opd_ok hS hF h1
    have h : (if isTok u then slcLoad P t u else loadM P t u) s1 = some (v, st') := by
      cases hb : isTok u <;> simp only [hb] at h <;> simpa using h
    split at h
    · obtain ⟨v', e1, e2, e3⟩ := slcLoad_ok hS1 hu h
      exact wp_same (s := Instr.loadAt t (a.eval x)) rfl e3 ⟨v', e1, e2⟩ hnext
    · obtain ⟨v', e1, e2, e3⟩ := load_ok hS1 hu h
      exact wp_same (s := Instr.loadAt t (a.eval x)) rfl e3 ⟨v', e1, e2⟩ hnext
  | store t x y =>
    obtain ⟨u, s1, h1, h⟩ := bind_some.1 h
    obtain ⟨hu, hS1⟩ := opd_ok hS hF h1
    obtain ⟨u2, s2, h2, h⟩ := bind_some.1 h
    obtain ⟨hu2, hS2⟩ := opd_ok hS1 hF h2
    exact wp_unit (s := Instr.storeAt t (a.eval x) (a.eval y)) rfl (store_ok hS2 hu hu2 h) hnext
  | nilCheck x =>
    obtain ⟨u, s1, h1, h⟩ := bind_some.1 h
    obtain ⟨hu, hS1⟩ := opd_ok hS hF h1
    obtain ⟨rfl, rfl, p, hp⟩ := nilCheck_ok hu h
    refine wp_same (s := pure (a.eval x)) ?_ hS1 ⟨_, rfl, hu⟩ hnext
    simp only [execOp]
    rw [hp]
    rfl
  | binOp op t x y yt =>
    obtain ⟨u, s1, h1, h⟩ := bind_some.1 h
    obtain ⟨hu, hS1⟩ := opd_ok hS hF h1
    obtain ⟨u2, s2, h2, h⟩ := bind_some.1 h
    obtain ⟨hu2, hS2⟩ := opd_ok hS1 hF h2
    obtain ⟨r', e1, e2, e3⟩ := binOp_ok (w := w) hu hu2 h
    subst e3
    exact wp_same (s := do eqGuard op t x y (a.eval x) (a.eval y); binOp op t (a.eval x) (a.eval y)) rfl hS2 ⟨r', e1, e2⟩ hnext
  | unOp op t x =>
    obtain ⟨u, s1, h1, h⟩ := bind_some.1 h
    obtain ⟨hu, hS1⟩ := opd_ok hS hF h1
    obtain ⟨r', e1, e2, e3⟩ := unOp_ok (w := w) hu h
    subst e3
    exact wp_same (s := Op.unary op (a.eval x)) rfl hS1 ⟨r', e1, e2⟩ hnext
  | convert src dst' x =>
    obtain ⟨u, s1, h1, h⟩ := bind_some.1 h
    obtain ⟨hu, hS1⟩ := opd_ok hS hF h1
    exact wp_value (s := convert src dst' (a.eval x)) rfl (convert_ok hS1 hu h) hnext
  | makeFunc fn first captured =>
    obtain ⟨l1, s1, h1, h⟩ := bind_some.1 h
    obtain ⟨hl1, hS1⟩ := opds_ok hS hF h1
    obtain ⟨l2, s2, h2, h⟩ := bind_some.1 h
    obtain ⟨hl2, hS2⟩ := opds_ok hS1 hF h2
    cases (pure_some.1 h)
    refine wp_same (s := Instr.makeFunc fn (first.map a.eval) (captured.map a.eval)) rfl hS2 ⟨_, rfl, VRel.func_iff.2 ⟨_, _, rfl, ?_, ?_⟩⟩ hnext
    · simpa using hl1
    · simpa using hl2
  | makeMap t r =>
    obtain ⟨x, s1, h1, h⟩ := bind_some.1 h
    obtain ⟨hx, hS1⟩ := opdO_ok hS hF h1
    obtain ⟨_, s2, h2, h⟩ := bind_some.1 h
    obtain ⟨hg, e⟩ := guardM_some.1 h2
    cases e
    exact wp_value (s := Instr.makeMap t (r.map a.eval)) rfl (makeMap_ok hS1 hx hg h) hnext
  | makeSlice t l c =>
    obtain ⟨u, s1, h1, h⟩ := bind_some.1 h
    obtain ⟨hu, hS1⟩ := opd_ok hS hF h1
    obtain ⟨u2, s2, h2, h⟩ := bind_some.1 h
    obtain ⟨hu2, hS2⟩ := opd_ok hS1 hF h2
    exact wp_value (s := Instr.makeSlice t (a.eval l) (a.eval c)) rfl (makeSlice_ok hS2 hu hu2 h) hnext
  | slice t x lo hi mx =>
    obtain ⟨u, s1, h1, h⟩ := bind_some.1 h
    obtain ⟨hu, hS1⟩ := opd_ok hS hF h1
    obtain ⟨u2, s2, h2, h⟩ := bind_some.1 h
    obtain ⟨hu2, hS2⟩ := opdO_ok hS1 hF h2
    obtain ⟨u3, s3, h3, h⟩ := bind_some.1 h
    obtain ⟨hu3, hS3⟩ := opdO_ok hS2 hF h3
    obtain ⟨u4, s4, h4, h⟩ := bind_some.1 h
    obtain ⟨hu4, hS4⟩ := opdO_ok hS3 hF h4
    exact wp_value (s := Instr.sliceAt t (a.eval x) (lo.map a.eval) (hi.map a.eval) (mx.map a.eval)) rfl (slice_ok hS4 hu hu2 hu3 hu4 h) hnext
  | fieldAddr t x f =>
    obtain ⟨u, s1, h1, h⟩ := bind_some.1 h
    obtain ⟨hu, hS1⟩ := opd_ok hS hF h1
    have h : (if isTok u then slcField P t u f else fieldAddrM P t u f) s1 = some (v, st') := by
      cases hb : isTok u <;> simp only [hb] at h <;> simpa using h
    split at h
    · obtain ⟨r', e1, e2, e3⟩ := slcField_ok (w := w) hu h
      subst e3
      exact wp_same (s := Instr.fieldAt t (a.eval x) f) rfl hS1 ⟨r', e1, e2⟩ hnext
    · obtain ⟨r', e1, e2, e3⟩ := fieldAddr_ok (w := w) hu h
      subst e3
      exact wp_same (s := Instr.fieldAt t (a.eval x) f) rfl hS1 ⟨r', e1, e2⟩ hnext
  | field t x f =>
    obtain ⟨u, s1, h1, h⟩ := bind_some.1 h
    obtain ⟨hu, hS1⟩ := opd_ok hS hF h1
    obtain ⟨r', e1, e2, e3⟩ := field_ok (w := w) hu h
    subst e3
    exact wp_same (s := Instr.field t (a.eval x) f) rfl hS1 ⟨r', e1, e2⟩ hnext
  | indexAddr t x i =>
    obtain ⟨u, s1, h1, h⟩ := bind_some.1 h
    obtain ⟨hu, hS1⟩ := opd_ok hS hF h1
    obtain ⟨u2, s2, h2, h⟩ := bind_some.1 h
    obtain ⟨hu2, hS2⟩ := opd_ok hS1 hF h2
    have h : (if isTok u then slcIndex P t u u2 else indexAddrM P t u u2) s2 = some (v, st') := by
      cases hb : isTok u <;> simp only [hb] at h <;> simpa using h
    split at h
    · obtain ⟨r', e1, e2, e3⟩ := slcIndex_ok (w := w) hu hu2 h
      subst e3
      exact wp_same (s := Instr.indexAt t (a.eval x) (a.eval i)) rfl hS2 ⟨r', e1, e2⟩ hnext
    · obtain ⟨r', e1, e2, e3⟩ := indexAddr_ok (w := w) hu hu2 h
      subst e3
      exact wp_same (s := Instr.indexAt t (a.eval x) (a.eval i)) rfl hS2 ⟨r', e1, e2⟩ hnext
  | index t x i =>
    obtain ⟨u, s1, h1, h⟩ := bind_some.1 h
    obtain ⟨hu, hS1⟩ := opd_ok hS hF h1
    obtain ⟨u2, s2, h2, h⟩ := bind_some.1 h
    obtain ⟨hu2, hS2⟩ := opd_ok hS1 hF h2
    obtain ⟨r', e1, e2, e3⟩ := index_ok (w := w) hu hu2 h
    subst e3
    exact wp_same (s := Instr.index t (a.eval x) (a.eval i)) rfl hS2 ⟨r', e1, e2⟩ hnext
  | lookup t x k ok =>
    obtain ⟨u, s1, h1, h⟩ := bind_some.1 h
    obtain ⟨hu, hS1⟩ := opd_ok hS hF h1
    obtain ⟨u2, s2, h2, h⟩ := bind_some.1 h
    obtain ⟨hu2, hS2⟩ := opd_ok hS1 hF h2
    have h : (if isTok u2 then lookupT P t u u2 ok else lookupM P t u u2 ok) s2 = some (v, st') := by
      cases hb : isTok u2 <;> simp only [hb] at h <;> simpa using h
    split at h
    · exact wp_value (s := Instr.lookup t (a.eval x) (a.eval k) ok) rfl (lookupT_ok hS2 hu hu2 h) hnext
    · exact wp_value (s := Instr.lookup t (a.eval x) (a.eval k) ok) rfl (lookup_ok hS2 hu hu2 h) hnext
  | mapUpdate t m k x =>
    obtain ⟨u, s1, h1, h⟩ := bind_some.1 h
    obtain ⟨hu, hS1⟩ := opd_ok hS hF h1
    obtain ⟨u2, s2, h2, h⟩ := bind_some.1 h
    obtain ⟨hu2, hS2⟩ := opd_ok hS1 hF h2
    obtain ⟨u3, s3, h3, h⟩ := bind_some.1 h
    obtain ⟨hu3, hS3⟩ := opd_ok hS2 hF h3
    have h : (if isTok u2 then mapUpdateT P t u u2 u3 else mapUpdateM P t u u2 u3) s3 = some (v, st') := by
      cases hb : isTok u2 <;> simp only [hb] at h <;> simpa using h
    split at h
    · exact wp_unit (s := Instr.mapUpdate t (a.eval m) (a.eval k) (a.eval x)) rfl (mapUpdateT_ok hS3 hu hu2 hu3 h) hnext
    · exact wp_unit (s := Instr.mapUpdate t (a.eval m) (a.eval k) (a.eval x)) rfl (mapUpdate_ok hS3 hu hu2 hu3 h) hnext
  | insert t m k x =>
    obtain ⟨u, s1, h1, h⟩ := bind_some.1 h
    obtain ⟨hu, hS1⟩ := opd_ok hS hF h1
    obtain ⟨u2, s2, h2, h⟩ := bind_some.1 h
    obtain ⟨hu2, hS2⟩ := opd_ok hS1 hF h2
    obtain ⟨u3, s3, h3, h⟩ := bind_some.1 h
    obtain ⟨hu3, hS3⟩ := opd_ok hS2 hF h3
    have h : (if isTok u2 then mapUpdateT P t u u2 u3 else mapUpdateM P t u u2 u3) s3 = some (v, st') := by
      cases hb : isTok u2 <;> simp only [hb] at h <;> simpa using h
    split at h
    · exact wp_unit (s := Instr.mapUpdate t (a.eval m) (a.eval k) (a.eval x)) rfl (mapUpdateT_ok hS3 hu hu2 hu3 h) hnext
    · exact wp_unit (s := Instr.mapUpdate t (a.eval m) (a.eval k) (a.eval x)) rfl (mapUpdate_ok hS3 hu hu2 hu3 h) hnext
  | range t x =>
    obtain ⟨u, s1, h1, h⟩ := bind_some.1 h
    obtain ⟨hu, hS1⟩ := opd_ok hS hF h1
    exact wp_value (s := Instr.range t (a.eval x)) rfl (range_ok hS1 hu h) hnext
  | next it isString =>
    obtain ⟨u, s1, h1, h⟩ := bind_some.1 h
    obtain ⟨hu, hS1⟩ := opd_ok hS hF h1
    exact wp_value (s := Instr.next (a.eval it) isString type) rfl (next_ok hS1 hu h) hnext
  | entry it =>
    obtain ⟨u, s1, h1, h⟩ := bind_some.1 h
    obtain ⟨hu, hS1⟩ := opd_ok hS hF h1
    exact wp_value (s := Instr.entry (a.eval it)) rfl (entry_ok hS1 hu h) hnext
  | extract x i =>
    obtain ⟨u, s1, h1, h⟩ := bind_some.1 h
    obtain ⟨hu, hS1⟩ := opd_ok hS hF h1
    obtain ⟨r', e1, e2, e3⟩ := extract_ok (w := w) hu h
    subst e3
    exact wp_same (s := Instr.extract (a.eval x) i) rfl hS1 ⟨r', e1, e2⟩ hnext
  | call c =>
    obtain ⟨callee, args, ts⟩ := c
    cases callee with
    | invoke r m => exact (fail_some.1 h).elim
    | builtin b =>
      obtain ⟨vs, s1, h1, h⟩ := bind_some.1 h
      obtain ⟨hvs, hS1⟩ := opds_ok hS hF h1
      obtain ⟨v', w', ρ', e, k1, k2, k3⟩ := builtin_ok (consts := args.map fun | .const _ => true | _ => false) hS1 hvs h
      unfold Oper.wp
      have he : (execOp a.eval ⟨dst, .call ⟨.builtin b, args, ts⟩, type, pos, after, guard⟩) = builtin b ts type (args.map fun | .const _ => true | _ => false) (args.toList.map a.eval).toArray := by
        rw [← map_evals]
        rfl
      rw [he, e]
      exact hnext v' w' ρ' k1 k2 k3
    | value f =>
      obtain ⟨fv, s1, h1, h⟩ := bind_some.1 h
      obtain ⟨hfv, hS1⟩ := opd_ok hS hF h1
      obtain ⟨vs, s2, h2, h⟩ := bind_some.1 h
      obtain ⟨hvs, hS2⟩ := opds_ok hS1 hF h2
      obtain ⟨k, first, captured, rfl⟩ : ∃ k first captured, fv = .func (.func k) first captured := by
        cases fv with
        | func fn first captured =>
          cases fn with
          | func k => exact ⟨k, first, captured, rfl⟩
          | _ => exact (fail_some.1 h).elim
        | _ => exact (fail_some.1 h).elim
      simp only at h
      obtain ⟨first', captured', hfe, hf1, hf2⟩ := VRel.func_iff.1 hfv
      have hargs : LRel ρ (first.toList ++ vs ++ captured.toList) (first'.toList ++ args.toList.map a.eval ++ captured'.toList) := (hf1.append hvs).append hf2
      have he : (execOp a.eval ⟨dst, .call ⟨.value f, args, ts⟩, type, pos, after, guard⟩) = callFunc k (first'.toList ++ args.toList.map a.eval ++ captured'.toList).toArray := by
        have : (first'.toList ++ args.toList.map a.eval ++ captured'.toList).toArray = first' ++ args.map a.eval ++ captured' := by
          apply Array.toList_inj.1
          simp
        rw [this]
        simp only [execOp, resolve, hfe, Deferred.ofValue, pure_bind, invoke]
      unfold Oper.wp
      rw [he]
      unfold callM at h
      generalize hfn : P.funcs[k]? = ofn at h
      cases ofn with
      | none => exact (fail_some.1 h).elim
      | some fn =>
        simp only at h
        generalize hbody : fn.body = ob at h
        cases ob with
        | some c =>
          simp only at h
          have hname := hNG k fn hfn (by rw [hbody]; rfl)
          have hrun : (callFunc k (first'.toList ++ args.toList.map a.eval ++ captured'.toList).toArray).run P w = .ok (.enter k (first'.toList ++ args.toList.map a.eval ++ captured'.toList).toArray) w := by
            unfold callFunc
            simp only [Sem.run_bind, run_program, Result.andThen_ok, hfn, hname, Bool.false_eq_true, if_false, hbody, Option.isNone_some, Sem.run_pure]
          rw [hrun]
          refine Calls.mono (hcall ρ _ w k _ _ v st' hS2 hargs h) ?_
          rintro e w' ⟨v', ρ', rfl, k1, k2, k3⟩
          exact hnext v' w' ρ' k1 k2 k3
        | none =>
          simp only at h
          split at h
          · rename_i hp
            obtain ⟨nx, s3, h3, h⟩ := bind_some.1 h
            obtain ⟨_, hr, e⟩ := ofO_some.1 h3
            cases e
            split at h
            · obtain ⟨hpv, e⟩ := plain_some.1 h
              cases e
              rw [plainL_eq hp hargs, pureRun_run hr w]
              exact hnext _ w ρ ρ.le_refl hS2 (plainB_rel hpv)
            · exact (fail_some.1 h).elim
          · exact (fail_some.1 h).elim
  | _ => exact (fail_some.1 h).elim
end
end Go.Ev
