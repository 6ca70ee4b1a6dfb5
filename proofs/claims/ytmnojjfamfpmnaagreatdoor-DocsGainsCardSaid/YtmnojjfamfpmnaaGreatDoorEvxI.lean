/-
  Each operation of the evaluator does what the model's operation does: fields, elements, maps, strings' letters.
-/
import Derived.Test.YtmnojjfamfpmnaaGreatDoorEvxH
set_option linter.unusedVariables false
set_option linter.unusedSimpArgs false
set_option linter.unusedSectionVars false
set_option linter.unnecessarySimpa false
set_option linter.unusedSectionVars false
namespace Go.Ev
open Go.RowKit
variable [Eta]
section
variable {P : Program} {B : Nat} {w0 : World} {ρ : Rho} {st st' : St} {w w' : World}

theorem fieldAddr_ok {t : TypeId} {x x' r : Value} {f : Nat} (hx : VRel ρ x x') (h : fieldAddrM P t x f st = some (r, st')) :
    ∃ r', (Instr.fieldAt t x' f).run P w = .ok r' w ∧ VRel ρ r r' ∧ st' = st := by
  unfold fieldAddrM at h
  generalize hu : P.underlying t = ut at h
  split at h
  case h_2 => exact (fail_some.1 h).elim
  rename_i fs β off
  cases hx with
  | ptr hL =>
    rename_i L
    generalize hf : fs[f]? = fd at h
    split at h
    case h_2 => exact (fail_some.1 h).elim
    rename_i fd
    generalize hn : sizeO P fd.type = n at h
    split at h
    case h_2 => exact (fail_some.1 h).elim
    rename_i n
    split at h
    · exact (fail_some.1 h).elim
    · rename_i h0
      cases (mpure_some.1 h)
      refine ⟨_, ?_, ptr_add (k := fd.offset) hL, rfl⟩
      simp [Instr.fieldAt, run_underlying hu, hf, Instr.sureAddr, fieldPlace, run_size hn, h0]

theorem field_ok {t : TypeId} {x x' r : Value} {f : Nat} (hx : VRel ρ x x') (h : fieldM P t x f st = some (r, st')) :
    ∃ r', (Instr.field t x' f).run P w = .ok r' w ∧ VRel ρ r r' ∧ st' = st := by
  unfold fieldM at h
  generalize hu : P.underlying t = ut at h
  split at h
  case h_2 => exact (fail_some.1 h).elim
  rename_i fs cs
  obtain ⟨cs', rfl, hcs⟩ := VRel.agg_iff.1 hx
  generalize hf : fs[f]? = fd at h
  split at h
  case h_2 => exact (fail_some.1 h).elim
  rename_i fd
  obtain ⟨v', h1, h2, h3⟩ := part_ok (w := w) hcs h
  exact ⟨v', by simp [Instr.field, run_underlying hu, hf, asAgg, h1], h2, h3⟩

theorem indexAddr_ok {t : TypeId} {x x' i i' r : Value} (hx : VRel ρ x x') (hi : VRel ρ i i') (h : indexAddrM P t x i st = some (r, st')) :
    ∃ r', (Instr.indexAt t x' i').run P w = .ok r' w ∧ VRel ρ r r' ∧ st' = st := by
  unfold indexAddrM at h
  obtain ⟨n, s1, h1, h2⟩ := bind_some.1 h
  obtain ⟨_, hn, e1⟩ := ofO_some.1 h1
  cases e1
  clear h h1
  obtain ⟨k, rfl, rfl⟩ := intO_rel hn hi
  have h := h2
  clear h2
  generalize hu : P.underlying t = ut at h
  split at h
  case h_3 => exact (fail_some.1 h).elim
  · rename_i len e β off
    cases hx with
    | ptr hL =>
      rename_i L
      obtain ⟨sz, s1, h1, h⟩ := bind_some.1 h
      obtain ⟨_, hsz, e1⟩ := ofO_some.1 h1
      cases e1
      obtain ⟨_, s1, h1, h⟩ := bind_some.1 h
      obtain ⟨hg, e1⟩ := guardM_some.1 h1
      cases e1
      cases (pure_some.1 h)
      simp only [decide_eq_true_eq] at hg
      refine ⟨_, ?_, ptr_add (k := n.toNat * sz) hL, rfl⟩
      simp [Instr.indexAt, asIntOf, run_underlying hu, Instr.sureAddr, run_size hsz, hg]
  · rename_i e β off len cap
    cases hx with
    | slice hL hc =>
      rename_i cap' L
      obtain ⟨sz, s1, h1, h⟩ := bind_some.1 h
      obtain ⟨_, hsz, e1⟩ := ofO_some.1 h1
      cases e1
      obtain ⟨_, s1, h1, h⟩ := bind_some.1 h
      obtain ⟨hg, e1⟩ := guardM_some.1 h1
      cases e1
      cases (pure_some.1 h)
      simp only [decide_eq_true_eq] at hg
      refine ⟨_, ?_, ptr_add (k := n.toNat * sz) hL, rfl⟩
      simp [Instr.indexAt, asIntOf, run_underlying hu, run_size hsz, hg]

theorem index_ok {t : TypeId} {x x' i i' r : Value} (hx : VRel ρ x x') (hi : VRel ρ i i') (h : indexM P t x i st = some (r, st')) :
    ∃ r', (Instr.index t x' i').run P w = .ok r' w ∧ VRel ρ r r' ∧ st' = st := by
  unfold indexM at h
  obtain ⟨n, s1, h1, h2⟩ := bind_some.1 h
  obtain ⟨_, hn, e1⟩ := ofO_some.1 h1
  cases e1
  clear h h1
  obtain ⟨k, rfl, rfl⟩ := intO_rel hn hi
  have h := h2
  clear h2
  generalize hu : P.underlying t = ut at h
  split at h
  case h_3 => exact (fail_some.1 h).elim
  · rename_i len e cs
    obtain ⟨cs', rfl, hcs⟩ := VRel.agg_iff.1 hx
    obtain ⟨sz, s1, h1, h⟩ := bind_some.1 h
    obtain ⟨_, hsz, e1⟩ := ofO_some.1 h1
    cases e1
    obtain ⟨_, s1, h1, h⟩ := bind_some.1 h
    obtain ⟨hg, e1⟩ := guardM_some.1 h1
    cases e1
    simp only [decide_eq_true_eq] at hg
    obtain ⟨v', h1, h2, h3⟩ := part_ok (w := w) hcs h
    exact ⟨v', by simp [Instr.index, asIntOf, run_underlying hu, run_size hsz, hg, h1], h2, h3⟩
  · rename_i s
    cases hx
    obtain ⟨_, s1, h1, h⟩ := bind_some.1 h
    obtain ⟨hg, e1⟩ := guardM_some.1 h1
    cases e1
    obtain ⟨b, s1, h1, h⟩ := bind_some.1 h
    obtain ⟨_, hb, e1⟩ := ofO_some.1 h1
    cases e1
    cases (pure_some.1 h)
    simp only [decide_eq_true_eq] at hg
    refine ⟨_, ?_, .int _ _, rfl⟩
    simp [Instr.index, asIntOf, run_underlying hu, hg, hb]

theorem extract_ok {x x' r : Value} {i : Nat} (hx : VRel ρ x x') (h : extractM x i st = some (r, st')) :
    ∃ r', (Instr.extract x' i).run P w = .ok r' w ∧ VRel ρ r r' ∧ st' = st := by
  unfold extractM at h
  split at h
  · obtain ⟨cs', rfl, hcs⟩ := VRel.tuple_iff.1 hx
    obtain ⟨u, hu, e⟩ := ofO_some.1 h
    cases e
    obtain ⟨v', h1, h2⟩ := hcs.get (i := i) (v := r) (by simpa using hu)
    exact ⟨v', by simp [Instr.extract, show cs'[i]? = some v' by simpa using h1], h2, rfl⟩
  · exact (fail_some.1 h).elim

theorem pureRun_bind {α β : Type} (s : Sem α) (f : α → Sem β) : pureRun P (s.bind f) = (pureRun P s).bind fun a => pureRun P (f a) := by
  induction s with
  | pure a => simp [Sem.bind, pureRun]
  | program k ih => simp only [Sem.bind, pureRun]; exact ih P
  | mark m k ih => simp only [Sem.bind, pureRun]; exact ih
  | _ => simp [Sem.bind, pureRun]
theorem pureRun_bind' {α β : Type} (s : Sem α) (f : α → Sem β) : pureRun P (s >>= f) = (pureRun P s).bind fun a => pureRun P (f a) := pureRun_bind s f

/-- The same entry is found among entries of the same keys. -/
def FRel (ρ : Rho) : Option (Nat × Value) → Option (Nat × Value) → Prop
  | none, none => True
  | some (i, v), some (j, u) => i = j ∧ VRel ρ v u
  | _, _ => False

theorem findNow_rel (kind : TypeDesc) (k : Value) : ∀ (es es' : List MapEntry) (i : Nat), keysPlain es = true → ERel ρ es es' →
    (Instr.findNow kind k es i = none ∧ Instr.findNow kind k es' i = none) ∨ ∃ r r', Instr.findNow kind k es i = some r ∧ Instr.findNow kind k es' i = some r' ∧ FRel ρ r r' := by
  intro es
  induction es with
  | nil => intro es' i _ h; rw [h.nil_left]; right; exact ⟨none, none, rfl, rfl, trivial⟩
  | cons e es ih =>
    intro es' i hp h
    obtain ⟨e', r', rfl, ⟨h1, _, h3⟩, h4⟩ := h.cons_left
    simp only [keysPlain, List.all_cons, Bool.and_eq_true] at hp
    have h1 := plainB_eq hp.1 h1
    simp only [Instr.findNow, h1]
    cases Instr.sameNow kind k e.key with
    | none => left; exact ⟨rfl, rfl⟩
    | some b =>
      cases b with
      | true => right; exact ⟨_, _, rfl, rfl, rfl, h3⟩
      | false => exact ih r' (i + 1) hp.2 h4

theorem findAsking_rel (kt : TypeId) (k : Value) : ∀ (es es' : List MapEntry) (i : Nat) (r : Option (Nat × Value)), keysPlain es = true → ERel ρ es es' →
    pureRun P (Instr.findAsking kt k es i) = some r → ∃ r', pureRun P (Instr.findAsking kt k es' i) = some r' ∧ FRel ρ r r' := by
  intro es
  induction es with
  | nil => intro es' i r _ h hr; rw [h.nil_left]; simp only [Instr.findAsking] at hr; cases hr; exact ⟨none, rfl, trivial⟩
  | cons e es ih =>
    intro es' i r hp h hr
    obtain ⟨e', l', rfl, ⟨h1, _, h3⟩, h4⟩ := h.cons_left
    simp only [keysPlain, List.all_cons, Bool.and_eq_true] at hp
    have h1 := plainB_eq hp.1 h1
    simp only [Instr.findAsking] at hr ⊢
    rw [pureRun_bind'] at hr ⊢
    rw [h1]
    cases hq : pureRun P (Op.equal kt k e.key) with
    | none => rw [hq] at hr; simp at hr
    | some b =>
      rw [hq] at hr
      simp only [Option.bind_some] at hr ⊢
      cases b with
      | true => simp only [if_true] at hr ⊢; cases hr; exact ⟨_, rfl, rfl, h3⟩
      | false => simp only [Bool.false_eq_true, if_false] at hr ⊢; exact ih l' (i + 1) r hp.2 h4 hr

theorem findKey_rel (kt : TypeId) (k : Value) {es es' : List MapEntry} {r : Option (Nat × Value)} (hp : keysPlain es = true) (h : ERel ρ es es') (hr : pureRun P (Instr.findKey kt k es) = some r) :
    ∃ r', pureRun P (Instr.findKey kt k es') = some r' ∧ FRel ρ r r' := by
  unfold Instr.findKey at hr ⊢
  rw [pureRun_bind'] at hr ⊢
  cases hu : pureRun P (underlying kt) with
  | none => rw [hu] at hr; simp at hr
  | some d =>
    rw [hu] at hr
    simp only [Option.bind_some] at hr ⊢
    rcases findNow_rel d k es es' 0 hp h with ⟨e1, e2⟩ | ⟨a, a', e1, e2, e3⟩
    · rw [e1] at hr
      rw [e2]
      exact findAsking_rel kt k es es' 0 r hp h hr
    · rw [e1] at hr
      rw [e2]
      cases hr
      exact ⟨_, rfl, e3⟩

theorem lookup_ok {t : TypeId} {x x' k k' r : Value} {ok : Bool} (hS : Sim P B w0 ρ st w) (hx : VRel ρ x x') (hk : VRel ρ k k') (h : lookupM P t x k ok st = some (r, st')) :
    Good P B w0 ρ st' r ((Instr.lookup t x' k' ok).run P w) := by
  unfold lookupM at h
  generalize hu : P.underlying t = ut at h
  split at h
  case h_2 => exact (fail_some.1 h).elim
  rename_i kt et
  obtain ⟨es, s1, h1, h⟩ := bind_some.1 h
  -- the entries
  have hes : ∃ es' : Array MapEntry, (∀ K : Array MapEntry → Sem Value, (∀ s2, s1 = s2 → True) → True) ∧ ERel ρ es es'.toList ∧ Sim P B w0 ρ s1 w ∧
      ((x' = .map none ∧ es' = #[]) ∨ ∃ b cl, x' = .map (some b) ∧ w.heap[b]? = some (.map es' cl)) := by
    split at h1
    · cases hx
      cases (pure_some.1 h1)
      exact ⟨#[], fun _ _ => trivial, ERel.nil ρ, hS, .inl ⟨rfl, rfl⟩⟩
    · rename_i β
      cases hx with
      | map hL =>
        rename_i L
        obtain ⟨y, s2, h2, h1⟩ := bind_some.1 h1
        obtain ⟨es0, cl, hb, e1⟩ := mapOf_some.1 h2
        cases e1
        cases (pure_some.1 h1)
        obtain ⟨_, ⟨es', hw, he⟩, _⟩ := hS.get hb hL
        exact ⟨es', fun _ _ => trivial, he, hS.logs rfl hS.nextOk, .inr ⟨_, _, rfl, hw⟩⟩
    · exact (fail_some.1 h1).elim
  obtain ⟨es', _, hE, hS1, hx'⟩ := hes
  obtain ⟨q, s2, h2, h⟩ := bind_some.1 h
  unfold findM at h2
  obtain ⟨_, s3, h3, h2⟩ := bind_some.1 h2
  obtain ⟨hg, e1⟩ := guardM_some.1 h3
  cases e1
  obtain ⟨_, s3, h3, h2⟩ := bind_some.1 h2
  obtain ⟨_, hck, e1⟩ := ofO_some.1 h3
  cases e1
  obtain ⟨_, hfk, e1⟩ := ofO_some.1 h2
  cases e1
  simp only [Bool.and_eq_true] at hg
  have hkk : k' = k := plainB_eq hg.1 hk
  obtain ⟨q', hq', hF⟩ := findKey_rel kt k hg.2 hE hfk
  have hl : es.length = es'.size := by simpa using hE.1
  have hemp : es'.isEmpty = es.isEmpty := by
    cases es with
    | nil => simp at hl; simp [Array.isEmpty, ← hl]
    | cons a l =>
      simp at hl
      simp only [Array.isEmpty, List.isEmpty, decide_eq_false_iff_not]
      omega
  have hrun : (Instr.lookup t x' k' ok).run P w = (match q' with
      | some (_, v) => .ok (if ok then .tuple #[v, .bool true] else v) w
      | none => ((zeroValue et).run P w).andThen fun z w => .ok (if ok then .tuple #[z, .bool false] else z) w) := by
    have e1 := pureRun_run hck w
    have e2 := pureRun_run hq' w
    rw [hkk]
    rw [← hemp] at e1
    rcases hx' with ⟨rfl, rfl⟩ | ⟨b, cl, rfl, hw⟩
    · simp only [Instr.lookup, Sem.run_bind, run_underlying hu, Result.andThen_ok, Sem.run_pure]
      simp only [e1, Result.andThen_ok, e2]
      cases q' with
      | none => simp
      | some y => obtain ⟨i, v⟩ := y; simp
    · have hgo : (getObj b).run P w = .ok (.map es' cl) w := by simp [getObj, Sem.run, hw]
      simp only [Instr.lookup, Sem.run_bind, run_underlying hu, Result.andThen_ok, hgo, Sem.run_pure, e1, e2]
      cases q' with
      | none => simp
      | some y => obtain ⟨i, v⟩ := y; simp
  rw [hrun]
  cases q with
  | some y =>
    obtain ⟨i, v⟩ := y
    cases q' with
    | none => exact hF.elim
    | some y' =>
      obtain ⟨j, v'⟩ := y'
      obtain ⟨_, hv⟩ := hF
      cases (pure_some.1 h)
      refine Good.same (v' := if ok then .tuple #[v', .bool true] else v') rfl hS1 ?_
      cases ok with
      | false => exact hv
      | true => exact VRel.tuple_iff.2 ⟨_, rfl, LRel.cons hv (LRel.single (.bool _))⟩
  | none =>
    cases q' with
    | some y' => obtain ⟨j, v'⟩ := y'; exact hF.elim
    | none =>
      simp only at h
      obtain ⟨z, s4, h4, h⟩ := bind_some.1 h
      obtain ⟨hz, hpl, e1, _⟩ := run_zero h4 w
      cases (pure_some.1 h)
      refine Good.same (w := w) (v' := if ok then .tuple #[z, .bool false] else z) (by simp [hz]) (by rw [← e1]; exact hS1) ?_
      cases ok with
      | false => exact plainB_rel hpl
      | true => exact VRel.tuple_iff.2 ⟨_, rfl, LRel.cons (plainB_rel hpl) (LRel.single (.bool _))⟩
end
end Go.Ev
