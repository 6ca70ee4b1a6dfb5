/-
  The arguments of a call as tokens: one for each cell.
-/
import Derived.Test.YtmnojjfamfpmnaaGreatDoorEvxT
set_option linter.unusedVariables false
set_option linter.unusedSimpArgs false
set_option linter.unusedSectionVars false
set_option linter.unnecessarySimpa false
set_option linter.unusedSectionVars false
namespace Go.Ev
open Go.RowKit

/-- The sort of a cell of a type. -/
def sortU : Option TypeDesc → Nat
  | some (.int k) => kindNo k
  | some .string => 1
  | some .bool => 0
  | some (.slice _) => 11
  | _ => 10
def sortT (P : Program) (t : TypeId) : Nat := sortU (P.underlying t)

def tokCells (P : Program) : List TypeId → Nat → List Value
  | [], _ => []
  | t :: r, i => tok (sortT P t) (.chan (some i)) :: tokCells P r (i + 1)

def argStep (P : Program) (t : TypeId) (rest : Nat → Option (List Value)) (i : Nat) : Option (List TypeId) → Option Bool → Option (List Value)
  | some ts, some true => if P.cellsOf t = ts.length then (rest (i + ts.length)).map (.agg (tokCells P ts i).toArray :: ·) else none
  | some _, some false => (rest (i + 1)).map (tok (sortT P t) (.chan (some i)) :: ·)
  | _, _ => none

/-- The tokens of arguments of these types; the cells are numbered from i on. -/
def tokArgs (P : Program) : List TypeId → Nat → Option (List Value)
  | [], _ => some []
  | t :: r, i => argStep P t (tokArgs P r) i (P.cellTypes P.depth t) (isAggO P t)

/-- The cells of the arguments. -/
def cellsAll (l : List Value) : List Value := l.flatMap cellsOf

section
variable [Eta]
variable {P : Program} {w : World} {r : Reach} {base : Nat} {ρ : Rho}

theorem Srt.other {v : Value} (hv : oneCellB v = true) : Srt 10 v :=
  ⟨hv, fun h => absurd h (by decide), fun h => absurd h (by decide), fun k h => absurd h (by cases k <;> decide), fun h => absurd h (by decide)⟩
theorem Srt.slice (a : Option Addr) (n c : Nat) : Srt 11 (.slice a n c) :=
  ⟨rfl, fun h => absurd h (by decide), fun h => absurd h (by decide), fun k h => absurd h (by cases k <;> decide), fun _ => ⟨a, n, c, rfl⟩⟩

theorem cellok_srt {t : TypeId} {v : Value} {u : Option TypeDesc} (hu : P.underlying t = u) (h : Cell.ok P w r base t v) : Srt (sortU u) v := by
  unfold Cell.ok at h
  rw [hu] at h
  clear hu
  split at h
  · exact .bool _
  · exact .string _
  · obtain ⟨e, _⟩ := h
    subst e
    exact .int _ _
  · exact .other rfl
  · exact .other rfl
  · exact .other rfl
  · exact .slice _ _ _
  · exact .other rfl
  · exact .slice _ _ _
  · exact h.elim

theorem cell_srt {t : TypeId} {v : Value} (h : Cell.okWide P w r base t v) : Srt (sortT P t) v := by
  unfold sortT
  generalize hu : P.underlying t = u
  unfold Cell.okWide at h
  rw [hu] at h
  split at h
  · exact .other rfl
  · exact .other rfl
  · exact .other rfl
  · exact .other rfl
  · exact .other rfl
  · exact .other rfl
  · exact .other rfl
  · exact cellok_srt hu h

theorem VRel.tokv {i s : Nat} {v : Value} (hv : Eta.var i = v) (hs : Srt s v) : VRel ρ (Ev.tok s (.chan (some i))) v := by
  subst hv
  exact .tok s (.var i) hs

theorem tokCells_rel : ∀ (ts : List TypeId) (cs : List Value) (i : Nat), ts.length = cs.length → (∀ (k : Nat) (u : TypeId) (v : Value), ts[k]? = some u → cs[k]? = some v → Cell.okWide P w r base u v) →
    (∀ (k : Nat) (v : Value), cs[k]? = some v → Eta.var (i + k) = v) → LRel ρ (tokCells P ts i) cs := by
  intro ts
  induction ts with
  | nil =>
    intro cs i hl _ _
    have := List.length_eq_zero_iff.1 hl.symm
    subst this
    exact LRel.nil ρ
  | cons t q ih =>
    intro cs i hl hc hv
    cases cs with
    | nil => cases hl
    | cons c cs =>
      refine LRel.cons (.tokv (hv 0 c rfl) (cell_srt (hc 0 t c rfl rfl))) (ih cs (i + 1) (by simpa using hl) (fun k u v h1 h2 => hc (k + 1) u v (by simpa using h1) (by simpa using h2)) (fun k v h => ?_))
      rw [show i + 1 + k = i + (k + 1) by omega]
      exact hv (k + 1) v (by simpa using h)

/-- The arguments stand for themselves, cell by cell. -/
theorem tokArgs_rel : ∀ (ts : List TypeId) (vs : List Value) (i : Nat) (l : List Value), ts.length = vs.length → (∀ (j : Nat) t v, ts[j]? = some t → vs[j]? = some v → Value.okWide P w r base t v) →
    (∀ (k : Nat) (v : Value), (cellsAll vs)[k]? = some v → Eta.var (i + k) = v) → tokArgs P ts i = some l → LRel ρ l vs := by
  intro ts
  induction ts with
  | nil =>
    intro vs i l hl _ _ h
    have := List.length_eq_zero_iff.1 hl.symm
    subst this
    cases h
    exact LRel.nil ρ
  | cons t q ih =>
    intro vs i l hl hok hv h
    cases vs with
    | nil => cases hl
    | cons v vs =>
      have hv0 := hok 0 t v rfl rfl
      have hq : ∀ (j : Nat) t v, q[j]? = some t → vs[j]? = some v → Value.okWide P w r base t v := fun j t v h1 h2 => hok (j + 1) t v (by simpa using h1) (by simpa using h2)
      unfold tokArgs at h
      unfold isAggO at h
      unfold Value.okWide at hv0
      have hcat : cellsAll (v :: vs) = cellsOf v ++ cellsAll vs := by simp [cellsAll]
      rw [hcat] at hv
      generalize hct : P.cellTypes P.depth t = ct at h
      generalize hu : P.underlying t = u at h hv0
      have agg : (∃ cs, v = .agg cs ∧ cs.size = P.cellsOf t ∧ Row.okWide P w r base t cs) → argStep P t (tokArgs P q) i ct (some true) = some l → LRel ρ l (v :: vs) := by
        rintro ⟨cs, rfl, hsz, ts', e1, _, e3⟩ h
        rw [hct] at e1
        subst e1
        unfold argStep at h
        simp only at h
        split at h
        case isFalse => cases h
        rename_i hlen
        obtain ⟨l', hl', rfl⟩ := Option.map_eq_some_iff.1 h
        have hcl : (cellsOf (.agg cs)) = cs.toList := rfl
        rw [hcl] at hv
        have hsize : cs.toList.length = ts'.length := by simp; omega
        refine LRel.cons (VRel.agg_iff.2 ⟨cs, rfl, ?_⟩) (ih vs (i + ts'.length) l' (by simpa using hl) hq (fun k x hx => ?_) hl')
        · simp only [List.toList_toArray]
          refine tokCells_rel (P := P) (w := w) (r := r) (base := base) ts' cs.toList i hsize.symm (fun k u x h1 h2 => ?_) (fun k x hx => hv k x ?_)
          · obtain ⟨u', g1, g2⟩ := e3 k x (by simpa using h2)
            have hk : k < ts'.length := (List.getElem?_eq_some_iff.1 h1).1
            rw [Nat.mod_eq_of_lt hk, h1] at g1
            cases g1
            exact g2
          · rw [List.getElem?_append_left (by have := (List.getElem?_eq_some_iff.1 hx).1; exact this)]
            exact hx
        · rw [show i + ts'.length + k = i + (ts'.length + k) by omega]
          apply hv
          rw [List.getElem?_append_right (by omega), hsize, Nat.add_sub_cancel_left]
          exact hx
      have one : Cell.okWide P w r base t v → argStep P t (tokArgs P q) i ct (some false) = some l → LRel ρ l (v :: vs) := by
        intro hc h
        cases ct with
        | none => cases h
        | some ts' =>
          unfold argStep at h
          simp only at h
          obtain ⟨l', hl', rfl⟩ := Option.map_eq_some_iff.1 h
          have hs := cell_srt hc
          have hcl : cellsOf v = [v] := by
            have h1 := hs.1
            cases v <;> first | rfl | (unfold oneCellB at h1; cases h1)
          rw [hcl] at hv
          refine LRel.cons (.tokv (hv 0 v rfl) hs) (ih vs (i + 1) l' (by simpa using hl) hq (fun k x hx => ?_) hl')
          rw [show i + 1 + k = i + (k + 1) by omega]
          exact hv (k + 1) x (by simpa using hx)
      cases u with
      | none => cases ct <;> cases h
      | some d =>
        cases d <;> first | exact agg hv0 h | exact one hv0 h
end
end Go.Ev
