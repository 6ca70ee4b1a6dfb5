/-
  Each operation of the evaluator does what the model's operation does: steps of a range, append, copy, len, cap.
-/
import Derived.Test.YtmnojjfamfpmnaaGreatDoorEvxJ
set_option linter.unusedVariables false
set_option linter.unusedSimpArgs false
set_option linter.unusedSectionVars false
set_option linter.unnecessarySimpa false
set_option linter.unusedSectionVars false
namespace Go.Ev
open Go.RowKit
variable [Eta]
section
variable {P : Program} {B : Nat} {w0 : World} {ρ : Rho} {st st' : St} {w w' : World}

theorem next_ok {it it' r : Value} {isString : Bool} {ty : TypeId} (hS : Sim P B w0 ρ st w) (hi : VRel ρ it it') (h : nextM it isString st = some (r, st')) :
    Good P B w0 ρ st' r ((Instr.next it' isString ty).run P w) := by
  unfold nextM at h
  split at h
  case h_2 => exact (fail_some.1 h).elim
  rename_i β
  cases hi with
  | ptr hL =>
  rename_i L
  obtain ⟨b, s1, h1, hq⟩ := bind_some.1 h
  obtain ⟨_, hb, e⟩ := getB_some.1 h1
  cases e
  clear h h1
  have h := hq
  clear hq
  obtain ⟨hlt, hrel, hB⟩ := hS.get hb hL
  have hS1 : Sim P B w0 ρ { st with rd := β :: st.rd } w := hS.logs rfl hS.nextOk
  split at h
  · rename_i s pos
    obtain ⟨h0, hw⟩ := hrel
    have hnc : ∀ c el fz, (Obj.stringIter s pos) ≠ .cells c el fz := fun _ _ _ e => by cases e
    have hgo : (getObj L.b).run P w = .ok (.stringIter s pos) w := run_getObj hw hnc
    split at h
    · rename_i hp
      generalize hd : Utf8.decode s pos = d at h
      obtain ⟨c, width⟩ := d
      simp only at h
      obtain ⟨_, s1, h1, h⟩ := bind_some.1 h
      obtain ⟨_, e3⟩ := setB_some.1 h1
      cases e3
      cases (pure_some.1 h)
      obtain ⟨r1, r2⟩ := hS.setObj (b' := .siter s (pos + width)) (o2 := .stringIter s (pos + width))
        hb hL rfl (fun _ _ => Iff.rfl) (fun _ _ h => h) hw hnc ⟨h0, by simp [hlt]⟩ (β :: st.wr)
      refine Good.same (v' := .tuple #[.bool true, goInt pos, .int .i32 c]) ?_ (r2.logs rfl r2.nextOk) (plainN_rel ρ 12 _ rfl)
      simp [Instr.next, h0, hgo, hp, hd, r1]
    · rename_i hp
      cases (pure_some.1 h)
      refine Good.same (v' := .tuple #[.bool false]) ?_ hS1 (plainN_rel ρ 12 _ rfl)
      simp [Instr.next, h0, hgo, hp]
  · rename_i a b c
    obtain ⟨h0, hw⟩ := hrel
    have hnc : ∀ c' el fz, (Obj.mapIter none a b.toArray c) ≠ .cells c' el fz := fun _ _ _ e => by cases e
    have hgo : (getObj L.b).run P w = .ok (.mapIter none a b.toArray c) w := run_getObj hw hnc
    cases (pure_some.1 h)
    refine Good.same (v' := .tuple #[.bool false]) ?_ hS1 (plainN_rel ρ 12 _ rfl)
    simp [Instr.next, h0, hgo]
  · rename_i m since seen last
    obtain ⟨h0, K, hK, hw⟩ := hrel
    have hnc : ∀ c' el fz, (Obj.mapIter (some K.b) since seen.toArray last) ≠ .cells c' el fz := fun _ _ _ e => by cases e
    have hgo : (getObj L.b).run P w = .ok (.mapIter (some K.b) since seen.toArray last) w := run_getObj hw hnc
    obtain ⟨y, s1, h1, h⟩ := bind_some.1 h
    obtain ⟨es, clock, hbm, e1⟩ := mapOf_some.1 h1
    cases e1
    simp only at h
    obtain ⟨hltm, ⟨es', hwm, hE⟩, hBm⟩ := hS.get hbm hK
    have hncm : ∀ c el fz, (Obj.map es' clock) ≠ .cells c el fz := fun _ _ _ e => by cases e
    have hgom : (getObj K.b).run P w = .ok (.map es' clock) w := run_getObj hwm hncm
    obtain ⟨_, s1, h1, h⟩ := bind_some.1 h
    obtain ⟨hg, e1⟩ := guardM_some.1 h1
    cases e1
    have hS2 : Sim P B w0 ρ { st with rd := m :: β :: st.rd } w := hS.logs rfl hS.nextOk
    -- the entries that are left
    have hleft := hE.filter (fun e => !seen.contains e.born) (fun e e' h => by simp only [h])
    have hold := hleft.filter (fun e => decide (e.born < since)) (fun e e' h => by simp only [h])
    have hnew := hleft.filter (fun e => decide (e.born ≥ since)) (fun e e' h => by simp only [h])
    have hcond : (!seen.toArray.isEmpty && !es'.isEmpty && es'.all (fun e => decide (e.born ≥ last))) = false := by
      have e1 := hE.isEmpty
      have e2 := hE.all (fun e => decide (e.born ≥ last)) (fun e e' h => by simp only [h])
      rw [Array.isEmpty_toList] at e1
      rw [Array.all_toList] at e2
      rw [e1, e2, List.isEmpty_toArray]
      exact (Bool.not_eq_true' _).mp hg
    have hfo : ((es'.filter fun e => !seen.toArray.contains e.born).filter fun e => decide (e.born < since)).toList = (es'.toList.filter fun e => !seen.contains e.born).filter fun e => decide (e.born < since) := by simp
    have hfn : ((es'.filter fun e => !seen.toArray.contains e.born).filter fun e => decide (e.born ≥ since)).toList = (es'.toList.filter fun e => !seen.contains e.born).filter fun e => decide (e.born ≥ since) := by simp
    rw [← hfo] at hold
    rw [← hfn] at hnew
    have hrun : ∀ old' new' : Array MapEntry, ((es'.filter fun e => !seen.toArray.contains e.born).filter fun e => decide (e.born < since)) = old' →
        ((es'.filter fun e => !seen.toArray.contains e.born).filter fun e => decide (e.born ≥ since)) = new' →
        (Instr.next (.pointer (some ⟨L.b, L.o + 0, none⟩)) false ty).run P w =
        ((choose (.mapNext ((if old'.isEmpty then #[none] else #[]) ++ (old' ++ new').map some).size)).run P w).andThen fun i w =>
          match ((if old'.isEmpty then #[none] else #[]) ++ (old' ++ new').map some)[i]? with
          | some (some e) => ((Go.setObj L.b (.mapIter (some K.b) since (seen.toArray.push e.born) clock)).run P w).andThen fun _ w => .ok (.tuple #[.bool true, e.key, e.val]) w
          | some none => .ok (.tuple #[.bool false]) w
          | none => .halt (.stuck "Next: no such candidate") w := by
      intro old' new' ho hn
      simp only [Instr.next, h0, Nat.add_zero, Sem.run_bind, hgo, Result.andThen_ok, hgom, hcond, Bool.false_eq_true, if_false, ho, hn]
      congr 1
      funext i w2
      generalize ((if old'.isEmpty = true then #[none] else #[]) ++ Array.map some (old' ++ new'))[i]? = q
      rcases q with _ | _ | e <;> simp
    generalize ho : ((es'.filter fun e => !seen.toArray.contains e.born).filter fun e => decide (e.born < since)) = old' at hold
    generalize hn : ((es'.filter fun e => !seen.toArray.contains e.born).filter fun e => decide (e.born ≥ since)) = new' at hnew
    have hr := hrun old' new' ho hn
    generalize (List.filter (fun x => decide (x.born < since)) (List.filter (fun e => !seen.contains e.born) es)) = old at h hold
    generalize (List.filter (fun x => decide (x.born ≥ since)) (List.filter (fun e => !seen.contains e.born) es)) = new at h hnew
    split at h
    · have e1 := hold.nil_left
      have e2 := hnew.nil_left
      simp at e1 e2
      subst e1; subst e2
      cases (pure_some.1 h)
      refine Good.same (v' := .tuple #[.bool false]) ?_ hS2 (plainN_rel ρ 12 _ rfl)
      rw [hr]
      simp [Question.forced]
    · rename_i e
      obtain ⟨e', r', he', ⟨k1, k2, k3⟩, k4⟩ := hold.cons_left
      have := k4.nil_left
      subst this
      have e2 := hnew.nil_left
      simp at e2
      have e1 : old' = #[e'] := by apply Array.toList_inj.1; simpa using he'
      subst e1; subst e2
      obtain ⟨_, s1, h1, h⟩ := bind_some.1 h
      obtain ⟨hpk, e1⟩ := guardM_some.1 h1
      cases e1
      obtain ⟨_, s1, h1, h⟩ := bind_some.1 h
      obtain ⟨_, e3⟩ := setB_some.1 h1
      cases e3
      cases (pure_some.1 h)
      obtain ⟨r1, r2⟩ := hS.setObj (b' := .miter (some m) since (seen ++ [e.born]) clock) (o2 := .mapIter (some K.b) since (seen.toArray.push e'.born) clock)
        hb hL rfl (fun _ _ => Iff.rfl) (fun _ _ h => h) hw hnc ⟨h0, K, hK, by simp [hlt, k2]⟩ (β :: st.wr)
      refine Good.same (v' := .tuple #[.bool true, e'.key, e'.val]) ?_ (r2.logs rfl r2.nextOk)
        (VRel.tuple_iff.2 ⟨_, rfl, LRel.cons (.bool _) (LRel.cons k1 (LRel.single k3))⟩)
      rw [hr]
      have r1' := r1
      simp only [List.push_toArray] at r1'
      simp [Question.forced, r1']
    · exact (fail_some.1 h).elim
  · exact (fail_some.1 h).elim

theorem entry_ok {it it' r : Value} (hS : Sim P B w0 ρ st w) (hi : VRel ρ it it') (h : entryM it st = some (r, st')) :
    Good P B w0 ρ st' r ((Instr.entry it').run P w) := by
  unfold entryM at h
  split at h
  case h_2 => exact (fail_some.1 h).elim
  rename_i β
  cases hi with
  | ptr hL =>
  rename_i L
  obtain ⟨b, s1, h1, hq⟩ := bind_some.1 h
  obtain ⟨_, hb, e⟩ := getB_some.1 h1
  cases e
  clear h h1
  have h := hq
  clear hq
  obtain ⟨hlt, hrel, hB⟩ := hS.get hb hL
  split at h
  case h_2 => exact (fail_some.1 h).elim
  rename_i m since seen stepped
  obtain ⟨h0, K, hK, hw⟩ := hrel
  have hnc : ∀ c' el fz, (Obj.mapIter (some K.b) since seen.toArray stepped) ≠ .cells c' el fz := fun _ _ _ e => by cases e
  have hgo : (getObj L.b).run P w = .ok (.mapIter (some K.b) since seen.toArray stepped) w := run_getObj hw hnc
  obtain ⟨stamp, s1, h1, h⟩ := bind_some.1 h
  obtain ⟨_, hst, e1⟩ := ofO_some.1 h1
  cases e1
  obtain ⟨y, s1, h1, h⟩ := bind_some.1 h
  obtain ⟨es, clock, hbm, e1⟩ := mapOf_some.1 h1
  cases e1
  simp only at h
  obtain ⟨hltm, ⟨es', hwm, hE⟩, hBm⟩ := hS.get hbm hK
  have hncm : ∀ c el fz, (Obj.map es' clock) ≠ .cells c el fz := fun _ _ _ e => by cases e
  have hgom : (getObj K.b).run P w = .ok (.map es' clock) w := run_getObj hwm hncm
  obtain ⟨_, s1, h1, h⟩ := bind_some.1 h
  obtain ⟨hg, e1⟩ := guardM_some.1 h1
  cases e1
  generalize hf : es.find? (fun x => x.born == stamp) = q at h
  split at h
  case h_2 => exact (fail_some.1 h).elim
  rename_i e
  obtain ⟨_, s1, h1, h⟩ := bind_some.1 h
  obtain ⟨hpk, e1⟩ := guardM_some.1 h1
  cases e1
  cases (pure_some.1 h)
  obtain ⟨e', k0, k1, k2, k3⟩ := hE.find (fun x => x.born == stamp) (fun e e' h => by simp only [h]) hf
  refine Good.same (v' := .tuple #[e'.key, e'.val]) ?_ (hS.logs rfl hS.nextOk) (VRel.tuple_iff.2 ⟨_, rfl, LRel.cons k1 (LRel.single k3)⟩)
  have hcl : clock = stepped := by simpa using hg
  have hfa : es'.find? (fun x => x.born == stamp) = some e' := by rw [← Array.find?_toList]; exact k0
  simp [Instr.entry, h0, hgo, hst, hgom, hcl, hfa]

theorem len_rel {x x' : Value} {n : Nat} (hx : VRel ρ x x') (h : lenO x = some n) : (Builtin.lenOf x').run P w = .ok n w := by
  unfold lenO at h
  split at h <;> cases h <;> cases hx <;> rfl

theorem bytesV_length (s : ByteArray) : (bytesV s).length = s.size := by simp [bytesV]

theorem first_ok {size n : Nat} {x x' : Value} {l : List Value} (hS : Sim P B w0 ρ st w) (hx : VRel ρ x x') (hn : n ≤ (lenO x).getD 0) (h : firstM size n x st = some (l, st')) :
    ∃ l', (∀ W : World, W.heap = w.heap → (Builtin.firstCells size n x').run P W = .ok l'.toArray W) ∧ LRel ρ l l' ∧ l.length = n * size ∧ Sim P B w0 ρ st' w ∧ st'.heap = st.heap ∧ st'.next = st.next := by
  unfold firstM at h
  split at h
  · split at h
    · rename_i h0
      cases (mpure_some.1 h)
      subst h0
      cases hx
      exact ⟨[], fun _ _ => by simp [Builtin.firstCells], LRel.nil ρ, by simp, hS, rfl, rfl⟩
    · exact (fail_some.1 h).elim
  · split at h
    · rename_i h0
      cases (mpure_some.1 h)
      subst h0
      cases hx with
      | semp a c => exact ⟨[], fun _ _ => by simp [Builtin.firstCells, loadCells, loadCellsFrom], LRel.nil ρ, by simp, hS, rfl, rfl⟩
    · exact (fail_some.1 h).elim
  · rename_i β off len cap
    cases hx with
    | slice hL hc =>
      rename_i cap' L
      obtain ⟨y, s1, h1, h⟩ := bind_some.1 h
      obtain ⟨cs, rw', g, sz, hb, e⟩ := rowOf_some.1 h1
      cases e
      simp only at h
      obtain ⟨_, s4, h4, h⟩ := bind_some.1 h
      obtain ⟨hg, e⟩ := guardM_some.1 h4
      cases e
      cases (pure_some.1 h)
      obtain ⟨_, ⟨c, el, fz, hw, hN, _, _, _, hcc, _⟩, _⟩ := hS.get hb hL
      simp only [decide_eq_true_eq] at hg
      obtain ⟨l', hl, hr, hcl⟩ := row_stretch hcc off (n * size) hg
      exact ⟨l', fun W hW => by simp [Builtin.firstCells, run_cells (w := W) (by rw [hW]; exact hw) l' hl hcl], hr, by simp; omega, hS.logs rfl hS.nextOk, rfl, rfl⟩
  · rename_i s
    cases hx
    obtain ⟨_, s4, h4, h⟩ := bind_some.1 h
    obtain ⟨hg, e⟩ := guardM_some.1 h4
    cases e
    cases (pure_some.1 h)
    have hs1 : size = 1 := by simpa using hg
    subst hs1
    refine ⟨(bytesV s).take n, ?_, (bytesV_rel s).take n, ?_, hS, rfl, rfl⟩
    · intro W _
      simp only [Builtin.firstCells, Sem.run_pure]
      congr 1
      apply Array.toList_inj.1
      simp [bytesV, ByteArray.data_extract]
    · simp only [lenO, Option.getD_some] at hn
      simp [bytesV_length]
      omega
  · exact (fail_some.1 h).elim
end
end Go.Ev
