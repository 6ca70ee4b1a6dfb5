/-
  Each operation of the evaluator does what the model's operation does: slices, fields, elements.
-/
import Derived.Test.YtmnojjfamfpmnaaGreatDoorEvxG
set_option linter.unusedVariables false
set_option linter.unusedSimpArgs false
set_option linter.unusedSectionVars false
set_option linter.unnecessarySimpa false
set_option linter.unusedSectionVars false
namespace Go.Ev
open Go.RowKit
variable [Eta]
section
variable {P : Program} {B : Nat} {w0 : World} {ρ : Rho} {st st' : St} {w w' : World}

theorem wrap62 (n : Int) (h0 : 0 ≤ n) (h : n < 2 ^ 62) : IntKind.i64.wrap n = n := by
  unfold IntKind.wrap IntKind.bits IntKind.signed
  simp only [Bool.true_and, decide_eq_true_eq]
  have : n % 2 ^ 64 = n := by omega
  rw [this, if_neg (by omega)]

theorem makeSlice_ok {t : TypeId} {a a' b b' r : Value} (hS : Sim P B w0 ρ st w) (ha : VRel ρ a a') (hb : VRel ρ b b') (h : makeSliceM P t a b st = some (r, st')) :
    Good P B w0 ρ st' r ((Instr.makeSlice t a' b').run P w) := by
  unfold makeSliceM at h
  generalize hu : P.underlying t = ut at h
  split at h
  case h_2 => exact (fail_some.1 h).elim
  rename_i e
  obtain ⟨l, s1, h1, h⟩ := bind_some.1 h
  obtain ⟨_, hl, e1⟩ := ofO_some.1 h1
  cases e1
  obtain ⟨c, s1, h1, h⟩ := bind_some.1 h
  obtain ⟨_, hc, e1⟩ := ofO_some.1 h1
  cases e1
  obtain ⟨n, s1, h1, h⟩ := bind_some.1 h
  obtain ⟨_, hn, e1⟩ := ofO_some.1 h1
  cases e1
  obtain ⟨by', s1, h1, h⟩ := bind_some.1 h
  obtain ⟨_, hby, e1⟩ := ofO_some.1 h1
  cases e1
  obtain ⟨z, s1, h1, h⟩ := bind_some.1 h
  obtain ⟨hz, hpl, e1, i0, hi0, hz0⟩ := run_zero h1 w
  subst e1
  obtain ⟨_, s1, h1, h⟩ := bind_some.1 h
  obtain ⟨hzs, e1⟩ := guardM_some.1 h1
  cases e1
  obtain ⟨_, s1, h1, h⟩ := bind_some.1 h
  obtain ⟨hg, e1⟩ := guardM_some.1 h1
  cases e1
  obtain ⟨β, s1, h1, h⟩ := bind_some.1 h
  obtain ⟨hnew, e1⟩ := newB_some.1 h1
  cases e1
  cases (pure_some.1 h)
  simp only [decide_eq_true_eq] at hg
  obtain ⟨hl0, hlc, hc62, hbytes⟩ := hg
  obtain ⟨ka, rfl, rfl⟩ := intO_rel hl ha
  obtain ⟨kb, rfl, rfl⟩ := intO_rel hc hb
  obtain ⟨i, hi, hib⟩ := run_bytes hby
  rw [hi0] at hi
  cases hi
  have hzn : z.cells.size = n := by simpa using hzs
  subst hzn
  obtain ⟨k1, k2, k3⟩ := hS.newRow (sz := z.cells.size) (el := e) hnew (zerosL_rel hpl c.toNat)
  refine ⟨_, _, _, ?_, k2, by rw [cells_toList]; exact k3, .slice (Rho.upd_same _ _ _) (.inl rfl)⟩
  have wl := wrap62 l hl0 (by omega)
  have wc := wrap62 c (by omega) hc62
  have ht : (decide (c < 0) || decide ((i0.bytes : Int) * c > 2 ^ 48)) = false := by
    rw [hib]
    simp
    omega
  have hnl : (decide (l < 0) || decide (l > c)) = false := by simp; omega
  by_cases h0 : c.toNat * z.cells.size = 0
  · have hz' : zerosL (cellsOf z) c.toNat = [] := by
      apply List.length_eq_zero_iff.1
      rw [zerosL_length, cells_length]
      exact h0
    rw [hz'] at k1 ⊢
    simp only [Instr.makeSlice, Sem.run_bind, run_underlying hu, Result.andThen_ok, asInt, asIntOf, Sem.run_pure, run_info hi0, wl, wc, ht, Bool.false_or, hnl, Bool.false_eq_true, if_false, run_askRoom, run_size hn, h0, if_true]
    have hra : (Array.range 0).map (fun x => (#[] : Array Value)[x % (#[] : Array Value).size]!) = #[] := by simp
    rw [hra]
    simp only [k1, Result.andThen_ok]
  · have harr := array_zeros z.cells c.toNat
    rw [cells_toList] at harr
    simp only [Instr.makeSlice, Sem.run_bind, run_underlying hu, Result.andThen_ok, asInt, asIntOf, Sem.run_pure, run_info hi0, wl, wc, ht, Bool.false_or, hnl, Bool.false_eq_true, if_false, run_askRoom, run_size hn, h0, hz, harr, k1]

theorem bound_run {x x' : Option Value} {d y r : Nat} (hx : x.isSome = x'.isSome ∧ ∀ v v', x = some v → x' = some v' → VRel ρ v v') (h : boundO x d y = some r) :
    (x = none ∧ x' = none ∧ r = d) ∨ (∃ k i, x = some (.int k i) ∧ x' = some (.int k i) ∧ 0 ≤ i ∧ i ≤ y ∧ r = i.toNat) := by
  cases x with
  | none =>
    left
    refine ⟨rfl, ?_, by simpa [boundO] using h.symm⟩
    cases x' with
    | none => rfl
    | some v => simp at hx
  | some v =>
    right
    cases x' with
    | none => simp at hx
    | some v' =>
      have hr := hx.2 v v' rfl rfl
      unfold boundO at h
      split at h
      · cases ‹some _ = none›
      · rename_i k i e
        cases e
        cases hr
        split at h
        · rename_i hc
          exact ⟨_, _, rfl, rfl, hc.1, hc.2, by cases h; rfl⟩
        · cases h
      · cases h

/-- Two options of values. -/
def ORel (ρ : Rho) (x x' : Option Value) : Prop := x.isSome = x'.isSome ∧ ∀ v v', x = some v → x' = some v' → VRel ρ v v'

theorem sliceBound_run {k : IntKind} {i : Int} {y : Nat} {code : BoundsCode} (h0 : 0 ≤ i) (h1 : i ≤ y) : (Instr.sliceBound (.int k i) y code).run P w = .ok i.toNat w := by
  simp [Instr.sliceBound, asIntOf, h0, h1]

/-- The bounds of a slice expression, where the real capacity may be greater. -/
theorem bounds_run {isSlice : Bool} {lo lo' hi hi' mx mx' : Option Value} {len cap cap' l h m : Nat} (hlo : ORel ρ lo lo') (hhi : ORel ρ hi hi') (hmx : ORel ρ mx mx')
    (hcap : cap ≤ cap') (h1 : boundO mx cap cap = some m) (h2 : boundO hi len m = some h) (h3 : boundO lo 0 h = some l) (hm : ((mx.isNone || hi.isSome) && decide (h ≤ m)) = true) :
    (Instr.sliceBounds isSlice len cap' lo' hi' mx').run P w = .ok (l, h, if mx.isNone then cap' else m) w ∧ l ≤ h ∧ h ≤ m := by
  simp only [Bool.and_eq_true, decide_eq_true_eq] at hm
  obtain ⟨hm, hhm⟩ := hm
  rcases bound_run hmx h1 with ⟨rfl, rfl, rfl⟩ | ⟨k, i, rfl, rfl, a1, a2, rfl⟩
  · rcases bound_run hhi h2 with ⟨rfl, rfl, rfl⟩ | ⟨k2, i2, rfl, rfl, b1, b2, rfl⟩
    · rcases bound_run hlo h3 with ⟨rfl, rfl, rfl⟩ | ⟨k3, i3, rfl, rfl, c1, c2, rfl⟩
      · exact ⟨by simp [Instr.sliceBounds], by omega, hhm⟩
      · exact ⟨by simp [Instr.sliceBounds, sliceBound_run c1 c2], by omega, hhm⟩
    · have b2' : i2 ≤ (cap' : Int) := by omega
      rcases bound_run hlo h3 with ⟨rfl, rfl, rfl⟩ | ⟨k3, i3, rfl, rfl, c1, c2, rfl⟩
      · exact ⟨by simp [Instr.sliceBounds, sliceBound_run b1 b2'], by omega, hhm⟩
      · exact ⟨by simp [Instr.sliceBounds, sliceBound_run b1 b2', sliceBound_run c1 c2], by omega, hhm⟩
  · have a2' : i ≤ (cap' : Int) := by omega
    rcases bound_run hhi h2 with ⟨rfl, rfl, rfl⟩ | ⟨k2, i2, rfl, rfl, b1, b2, rfl⟩
    · simp at hm
    · rcases bound_run hlo h3 with ⟨rfl, rfl, rfl⟩ | ⟨k3, i3, rfl, rfl, c1, c2, rfl⟩
      · exact ⟨by simp [Instr.sliceBounds, sliceBound_run a1 a2', sliceBound_run b1 b2], by omega, hhm⟩
      · exact ⟨by simp [Instr.sliceBounds, sliceBound_run a1 a2', sliceBound_run b1 b2, sliceBound_run c1 c2], by omega, hhm⟩

theorem ptr_add {β off k : Nat} {L : Loc} (h : ρ β = some L) : VRel ρ (.pointer (some ⟨β, off + k, none⟩)) (.pointer (some ((⟨L.b, L.o + off, none⟩ : Addr).add k))) := by
  rw [add_off, Nat.add_assoc]
  exact .ptr h

theorem opt_plain {x x' : Option Value} (h : ORel ρ x x') (hp : x.all plainB = true) : x' = x := by
  cases x with
  | none => cases x' with
    | none => rfl
    | some v => have := h.1; simp at this
  | some v => cases x' with
    | none => have := h.1; simp at this
    | some v' => rw [plainB_eq (by simpa using hp) (h.2 v v' rfl rfl)]

theorem slice_ok {t : TypeId} {x x' r : Value} {lo lo' hi hi' mx mx' : Option Value} (hS : Sim P B w0 ρ st w) (hx : VRel ρ x x') (hlo : ORel ρ lo lo') (hhi : ORel ρ hi hi') (hmx : ORel ρ mx mx')
    (h : sliceM P t x lo hi mx st = some (r, st')) : Good P B w0 ρ st' r ((Instr.sliceAt t x' lo' hi' mx').run P w) := by
  unfold sliceM at h
  generalize hu : P.underlying t = ut at h
  split at h
  · -- nil
    rename_i e
    cases hx
    obtain ⟨m, s1, h1, h⟩ := bind_some.1 h
    obtain ⟨_, hm, e1⟩ := ofO_some.1 h1
    cases e1
    obtain ⟨hh, s1, h1, h⟩ := bind_some.1 h
    obtain ⟨_, hh2, e1⟩ := ofO_some.1 h1
    cases e1
    obtain ⟨l, s1, h1, h⟩ := bind_some.1 h
    obtain ⟨_, hl, e1⟩ := ofO_some.1 h1
    cases e1
    obtain ⟨_, s1, h1, h⟩ := bind_some.1 h
    obtain ⟨hg, e1⟩ := guardM_some.1 h1
    cases e1
    obtain ⟨n, s1, h1, h⟩ := bind_some.1 h
    obtain ⟨_, hn, e1⟩ := ofO_some.1 h1
    cases e1
    cases (pure_some.1 h)
    obtain ⟨k1, k2, k3⟩ := bounds_run (P := P) (w := w) (isSlice := true) hlo hhi hmx (Nat.le_refl 0) hm hh2 hl hg
    have hm0 : m = 0 := by
      rcases bound_run hmx hm with ⟨_, _, e⟩ | ⟨_, i, _, _, a, b, e⟩ <;> omega
    have hh0 : hh = 0 := by
      rcases bound_run hhi hh2 with ⟨_, _, e⟩ | ⟨_, i, _, _, a, b, e⟩ <;> omega
    have hl0 : l = 0 := by omega
    subst hm0; subst hh0; subst hl0
    refine Good.same (w := w) (v' := .slice none 0 0) ?_ hS .snil
    simp [Instr.sliceAt, Instr.slice, run_underlying hu, k1, run_size hn]
  · rename_i e β off len cap
    cases hx with
    | slice hL hc =>
      rename_i cap' L
      obtain ⟨x, s1, h1, h⟩ := bind_some.1 h
      obtain ⟨cs, rw', g, sz, hb, e1⟩ := rowOf_some.1 h1
      cases e1
      obtain ⟨_, ⟨c, el, fz, hw, hN, hLg, hgg, _, _, _⟩, _⟩ := hS.get hb hL
      simp only at h
      obtain ⟨n, s1, h1, h⟩ := bind_some.1 h
      obtain ⟨_, hn, e1⟩ := ofO_some.1 h1
      cases e1
      obtain ⟨m, s1, h1, h⟩ := bind_some.1 h
      obtain ⟨_, hm, e1⟩ := ofO_some.1 h1
      cases e1
      obtain ⟨hh, s1, h1, h⟩ := bind_some.1 h
      obtain ⟨_, hh2, e1⟩ := ofO_some.1 h1
      cases e1
      obtain ⟨l, s1, h1, h⟩ := bind_some.1 h
      obtain ⟨_, hl, e1⟩ := ofO_some.1 h1
      cases e1
      obtain ⟨_, s1, h1, h⟩ := bind_some.1 h
      obtain ⟨hg, e1⟩ := guardM_some.1 h1
      cases e1
      obtain ⟨_, s1, h1, h⟩ := bind_some.1 h
      obtain ⟨hg2, e1⟩ := guardM_some.1 h1
      cases e1
      have hcap : cap ≤ cap' := by rcases hc with hc | ⟨_, hc, _⟩ <;> omega
      obtain ⟨k1, k2, k3⟩ := bounds_run (P := P) (w := w) (isSlice := true) hlo hhi hmx hcap hm hh2 hl hg
      have hrun : (Instr.sliceAt t (.slice (some ⟨L.b, L.o + off, none⟩) len cap') lo' hi' mx').run P w =
          .ok (.slice (if (if mx.isNone then cap' else m) = l then some ⟨L.b, L.o + off, none⟩ else some ((⟨L.b, L.o + off, none⟩ : Addr).add (l * n))) (hh - l) ((if mx.isNone then cap' else m) - l)) w := by
        simp only [Instr.sliceAt, Instr.slice, Sem.run_bind, run_underlying hu, Result.andThen_ok, k1, run_size hn, Sem.run_pure, Option.map_some]
      have hSl : Sim P B w0 ρ { st with rd := β :: st.rd } w := hS.logs rfl hS.nextOk
      have hmcap : mx.isNone = true → m = cap := by
        intro hx
        rcases bound_run hmx hm with ⟨_, _, e⟩ | ⟨_, i, e, _⟩
        · exact e
        · rw [e] at hx; simp at hx
      have hm'c : (mx.isNone = true ∧ (if mx.isNone = true then cap' else m) = cap') ∨ (mx.isNone = false ∧ (if mx.isNone = true then cap' else m) = m) := by
        cases mx <;> simp
      generalize (if mx.isNone = true then cap' else m) = m' at hrun hm'c
      split at h
      · rename_i hml
        have hhl : hh - l = 0 := by omega
        split at h
        · cases (pure_some.1 h)
          refine Good.same hrun hSl ?_
          rw [hhl]
          show VRel ρ (.slice (some ⟨0, 0, some 0⟩) 0 0) _
          split <;> exact .semp _ _
        · rename_i hgm
          cases (pure_some.1 h)
          have hm' : m' = l := by
            rcases hm'c with ⟨hx, e⟩ | ⟨hx, e⟩
            · have hgf : g = false := by simpa [hx] using hgm
              rcases hc with hc | ⟨hc, _⟩
              · rw [e, hc, ← hmcap hx]; exact hml
              · rw [hLg, hgf] at hc; cases hc
            · rw [e]; exact hml
          refine Good.same hrun hSl ?_
          rw [hm', if_pos rfl, hhl, Nat.sub_self]
          exact .slice hL (.inl rfl)
      · rename_i hml
        cases (pure_some.1 h)
        refine Good.same hrun hSl ?_
        have hm' : m ≤ m' := by
          rcases hm'c with ⟨hx, e⟩ | ⟨hx, e⟩
          · rw [e, hmcap hx]; exact hcap
          · omega
        rw [if_neg (show ¬ m' = l by omega), add_off, Nat.add_assoc]
        refine .slice hL ?_
        rcases hm'c with ⟨hx, e⟩ | ⟨hx, e⟩
        · rw [e, hmcap hx]
          rcases hc with hc | ⟨c1, c2, c3⟩
          · left; rw [hc]
          · right
            refine ⟨c1, by omega, ?_⟩
            have hsz : L.sz = n := by
              rw [hLg] at c1
              rw [(hgg c1).1]
              simpa [c1] using hg2
            rw [hsz] at c3 ⊢
            have : (cap' - l) * n + l * n = cap' * n := by
              rw [← Nat.add_mul]; congr 1; have := hmcap hx; omega
            omega
        · left; rw [e]
  · rename_i c e β off
    cases hx with
    | ptr hL =>
      rename_i L
      obtain ⟨n, s1, h1, h⟩ := bind_some.1 h
      obtain ⟨_, hn, e1⟩ := ofO_some.1 h1
      cases e1
      obtain ⟨m, s1, h1, h⟩ := bind_some.1 h
      obtain ⟨_, hm, e1⟩ := ofO_some.1 h1
      cases e1
      obtain ⟨hh, s1, h1, h⟩ := bind_some.1 h
      obtain ⟨_, hh2, e1⟩ := ofO_some.1 h1
      cases e1
      obtain ⟨l, s1, h1, h⟩ := bind_some.1 h
      obtain ⟨_, hl, e1⟩ := ofO_some.1 h1
      cases e1
      obtain ⟨x, s1, h1, h⟩ := bind_some.1 h
      obtain ⟨cs, rw', g, sz, hb, e1⟩ := rowOf_some.1 h1
      cases e1
      simp only at h
      obtain ⟨_, s1, h1, h⟩ := bind_some.1 h
      obtain ⟨hg, e1⟩ := guardM_some.1 h1
      cases e1
      obtain ⟨_, s1, h1, h⟩ := bind_some.1 h
      obtain ⟨hg2, e1⟩ := guardM_some.1 h1
      cases e1
      obtain ⟨k1, k2, k3⟩ := bounds_run (P := P) (w := w) (isSlice := false) hlo hhi hmx (Nat.le_refl c) hm hh2 hl hg
      have hm' : (if mx.isNone then c else m) = m := by
        split
        · rename_i hx
          rcases bound_run hmx hm with ⟨_, _, e⟩ | ⟨_, i, e, _⟩
          · exact e.symm
          · rw [e] at hx; simp at hx
        · rfl
      rw [hm'] at k1
      have hSl : Sim P B w0 ρ { st with rd := β :: st.rd } w := hS.logs rfl hS.nextOk
      have hrun : (Instr.sliceAt t (.pointer (some ⟨L.b, L.o + off, none⟩)) lo' hi' mx').run P w =
          .ok (.slice (some (if m = l then ⟨L.b, L.o + off, none⟩ else (⟨L.b, L.o + off, none⟩ : Addr).add (l * n))) (hh - l) (m - l)) w := by
        simp only [Instr.sliceAt, Instr.sureAddr, Sem.run_bind, run_underlying hu, Result.andThen_ok, k1, run_size hn, Sem.run_pure]
      split at h
      · rename_i hml
        cases (pure_some.1 h)
        refine Good.same hrun hSl ?_
        rw [if_pos hml]
        exact .slice hL (.inl rfl)
      · rename_i hml
        cases (pure_some.1 h)
        refine Good.same hrun hSl ?_
        rw [if_neg hml, add_off, Nat.add_assoc]
        exact .slice hL (.inl rfl)
  · rename_i s
    cases hx
    split at h
    · rename_i hp
      simp only [Bool.and_eq_true] at hp
      obtain ⟨v, s1, h1, h⟩ := bind_some.1 h
      obtain ⟨_, hr, e1⟩ := ofO_some.1 h1
      cases e1
      obtain ⟨hv, e1⟩ := plain_some.1 h
      cases e1
      rw [opt_plain hlo hp.1.1, opt_plain hhi hp.1.2, opt_plain hmx hp.2]
      exact Good.same (pureRun_run hr w) hS (plainB_rel hv)
    · exact (fail_some.1 h).elim
  · exact (fail_some.1 h).elim
end
end Go.Ev
