/- The arguments of a Docs law as they come in. -/
import Derived.Test.YtmnojjfamfpmnaaGreatDoorReads
import Derived.Test.YtmnojjfamfpmnaaGreatDoorLives
set_option linter.unusedVariables false
set_option linter.unusedSimpArgs false
set_option linter.unusedSectionVars false
set_option linter.unnecessarySimpa false
namespace Go.Proofs.YtmnojjfamfpmnaaGreatDoor
open Go Go.RowKit Go.ChangeShapes Go.WideShapes
set_option maxRecDepth 100000
section
variable {W : World} {base : Nat}
/-- Each cell of the arguments is of a type. -/
theorem cells_typed : ∀ {ts : List TypeId} {vs : List Value}, ts.length = vs.length → (∀ (j : Nat) t v, ts[j]? = some t → vs[j]? = some v → Value.okWide Tryz.prog W .any base t v) →
    ∀ v, v ∈ Ev.cellsAll vs → ∃ u, Cell.okWide Tryz.prog W .any base u v := by
  intro ts
  induction ts with
  | nil => intro vs hl _ v hv; rw [List.length_eq_zero_iff.1 hl.symm] at hv; cases hv
  | cons t q ih =>
    intro vs hl hok v hv
    match vs, hl with
    | x :: r, hl =>
      have hx := hok 0 t x rfl rfl
      have e : Ev.cellsAll (x :: r) = Ev.cellsOf x ++ Ev.cellsAll r := by simp [Ev.cellsAll]
      rw [e, List.mem_append] at hv
      rcases hv with hv | hv
      · unfold Value.okWide at hx
        generalize hu : Tryz.prog.underlying t = u at hx
        have agg : (∃ cs, x = .agg cs ∧ cs.size = Tryz.prog.cellsOf t ∧ Row.okWide Tryz.prog W .any base t cs) → ∃ u, Cell.okWide Tryz.prog W .any base u v := by
          rintro ⟨cs, rfl, _, ts', _, _, h3⟩
          obtain ⟨i, hi⟩ := List.getElem?_of_mem hv
          have hi : cs[i]? = some v := by simpa [Ev.cellsOf] using hi
          obtain ⟨u, _, h⟩ := h3 i v hi
          exact ⟨u, h⟩
        have one : Cell.okWide Tryz.prog W .any base t x → ∃ u, Cell.okWide Tryz.prog W .any base u v := by
          intro h
          letI : Ev.Eta := ⟨fun _ => undef, fun _ _ => none, fun _ _ => none⟩
          have h1 := (Ev.cell_srt h).1
          have : Ev.cellsOf x = [x] := by cases x <;> first | rfl | (unfold Ev.oneCellB at h1; cases h1)
          rw [this] at hv
          rw [List.mem_singleton.1 hv]
          exact ⟨t, h⟩
        cases u with
        | none => exact one hx
        | some d => cases d <;> first | exact agg hx | exact one hx
      · exact ih (by simpa using hl) (fun j t v h1 h2 => hok (j + 1) t v (by simpa using h1) (by simpa using h2)) v hv

theorem typed_str {u : TypeId} {s : ByteArray} (h : Cell.okWide Tryz.prog W .any base u (.string s)) : s.size ≤ 9223372036854775807 := by
  have key : Cell.ok Tryz.prog W .any base u (.string s) → s.size ≤ 9223372036854775807 := by
    intro h
    unfold Cell.ok at h
    split at h <;> first | (exact h.elim) | skip
    all_goals first
      | (rename_i heq; cases heq; done)
      | (rename_i heq; cases heq; simp [IntKind.max, IntKind.signed, IntKind.bits] at h; omega)
  unfold Cell.okWide at h
  split at h <;> first | exact key h | (rename_i heq; cases heq)
theorem typed_int {u : TypeId} {n : Int} (h : Cell.okWide Tryz.prog W .any base u (.int .i64 n)) : In64 n := by
  have key : Cell.ok Tryz.prog W .any base u (.int .i64 n) → In64 n := by
    intro h
    unfold Cell.ok at h
    split at h <;> first | (exact h.elim) | skip
    all_goals first
      | (rename_i heq; cases heq; done)
      | (rename_i heq; cases heq; obtain ⟨rfl, h⟩ := h; simp [IntKind.has, IntKind.min, IntKind.max, IntKind.signed, IntKind.bits] at h; omega)
  unfold Cell.okWide at h
  split at h <;> first | exact key h | (rename_i heq; cases heq)

/-- The table of the months' lengths. -/
theorem laid_of {W : World} {el : TypeId} {fz : Nat × Nat} (h : W.heap[0]? = some (.cells Lw.lens.toArray el fz)) : Laid0 W := by
  intro j hj
  unfold World.cell?
  rw [h]
  obtain rfl | rfl | rfl | rfl | rfl | rfl | rfl | rfl | rfl | rfl | rfl | rfl : j = 0 ∨ j = 1 ∨ j = 2 ∨ j = 3 ∨ j = 4 ∨ j = 5 ∨ j = 6 ∨ j = 7 ∨ j = 8 ∨ j = 9 ∨ j = 10 ∨ j = 11 := by omega
  all_goals rfl

theorem tys24 : Tryz.prog.cellTypes Tryz.prog.depth 24 = some [9, 9, 9, 9, 9, 9, 22, 3, 3] := by kernel_rfl
theorem ok_str {v : Value} (h : Cell.okWide Tryz.prog W .any base 9 v) : ∃ s, v = .string s := by
  letI : Ev.Eta := ⟨fun _ => undef, fun _ _ => none, fun _ _ => none⟩
  have := Ev.cell_srt h
  rw [show Ev.sortT Tryz.prog 9 = 1 by kernel_rfl] at this
  exact this.str
theorem ok_int {v : Value} (h : Cell.okWide Tryz.prog W .any base 3 v) : ∃ n, v = .int .i64 n := by
  letI : Ev.Eta := ⟨fun _ => undef, fun _ _ => none, fun _ _ => none⟩
  have := Ev.cell_srt h
  rw [show Ev.sortT Tryz.prog 3 = 5 by kernel_rfl] at this
  exact this.i64
/-- The setup's cells. -/
theorem setup_of {v0 : Value} {vs : List Value} (h : Value.okWide Tryz.prog W .any base 24 v0) : ∃ cs0 : Array Value, v0 = .agg cs0 ∧ cs0.size = 9 ∧
    (∀ v, cs0.toList[6]? = some v → Cell.okWide Tryz.prog W .any base 22 v) ∧ ∃ e b r p g l way mode, SetupIs (Ev.cellsAll (v0 :: vs)) e b r p g l (cs0.toList.getD 6 undef) way mode := by
  unfold Value.okWide at h
  rw [u24] at h
  obtain ⟨cs0, rfl, hsz, ts, hts, _, h3⟩ := h
  rw [tys24] at hts
  cases hts
  have hsz : cs0.size = 9 := hsz.trans (by kernel_rfl)
  refine ⟨cs0, rfl, hsz, ?_, ?_⟩
  · intro v hv
    obtain ⟨u, h1, h2⟩ := h3 6 v (by simpa using hv)
    cases h1
    exact h2
  · have at_ : ∀ i, i < 9 → (Ev.cellsAll (.agg cs0 :: vs)).getD i undef = cs0.toList.getD i undef := by
      intro i hi
      have e : Ev.cellsAll (.agg cs0 :: vs) = cs0.toList ++ Ev.cellsAll vs := by simp [Ev.cellsAll, Ev.cellsOf]
      rw [e, List.getD_eq_getElem?_getD, List.getD_eq_getElem?_getD, List.getElem?_append_left (by simp; omega)]
    have get : ∀ i, i < 9 → ∃ v, cs0[i]? = some v ∧ cs0.toList.getD i undef = v := by
      intro i hi
      have := Array.getElem?_eq_getElem (xs := cs0) (i := i) (by omega)
      exact ⟨_, this, by rw [List.getD_eq_getElem?_getD, Array.getElem?_toList, this]; rfl⟩
    have str : ∀ i, i < 9 → [9, 9, 9, 9, 9, 9, 22, 3, 3][i % 9]? = some 9 → ∃ s, (Ev.cellsAll (.agg cs0 :: vs)).getD i undef = .string s := by
      intro i hi ht
      obtain ⟨v, h1, h2⟩ := get i hi
      obtain ⟨u, k1, k2⟩ := h3 i v h1
      have k1 : [9, 9, 9, 9, 9, 9, 22, 3, 3][i % 9]? = some u := k1
      rw [ht] at k1
      cases k1
      rw [at_ i hi, h2]
      exact ok_str k2
    have int : ∀ i, i < 9 → [9, 9, 9, 9, 9, 9, 22, 3, 3][i % 9]? = some 3 → ∃ n, (Ev.cellsAll (.agg cs0 :: vs)).getD i undef = .int .i64 n := by
      intro i hi ht
      obtain ⟨v, h1, h2⟩ := get i hi
      obtain ⟨u, k1, k2⟩ := h3 i v h1
      have k1 : [9, 9, 9, 9, 9, 9, 22, 3, 3][i % 9]? = some u := k1
      rw [ht] at k1
      cases k1
      rw [at_ i hi, h2]
      exact ok_int k2
    obtain ⟨s0, e0⟩ := str 0 (by decide) rfl
    obtain ⟨s1, e1⟩ := str 1 (by decide) rfl
    obtain ⟨s2, e2⟩ := str 2 (by decide) rfl
    obtain ⟨s3, e3⟩ := str 3 (by decide) rfl
    obtain ⟨s4, e4⟩ := str 4 (by decide) rfl
    obtain ⟨s5, e5⟩ := str 5 (by decide) rfl
    obtain ⟨n7, e7⟩ := int 7 (by decide) rfl
    obtain ⟨n8, e8⟩ := int 8 (by decide) rfl
    exact ⟨s0, s1, s2, s3, s4, s5, n7, n8, e0, e1, e2, e3, e4, e5, at_ 6 (by decide), e7, e8⟩
end
end Go.Proofs.YtmnojjfamfpmnaaGreatDoor
