/-
  Each operation of the evaluator does what the model's operation does: maps written, ranges.
-/
import Derived.Test.YtmnojjfamfpmnaaGreatDoorEvxI
set_option linter.unusedVariables false
set_option linter.unusedSimpArgs false
set_option linter.unusedSectionVars false
set_option linter.unnecessarySimpa false
set_option linter.unusedSectionVars false
namespace Go.Ev
open Go.RowKit
variable [Eta]
section
variable {P : Program} {B : Nat} {w0 : World} {ρ : Rho} {st st' : St} {w w' : World}

theorem run_getObj {r : Nat} {o : Obj} (h : w.heap[r]? = some o) (hn : ∀ c el fz, o ≠ .cells c el fz) : (getObj r).run P w = .ok o w := by
  cases o <;> first | (simp only [getObj, Sem.run, h]; done) | exact absurd rfl (hn _ _ _)
theorem run_setObj {r : Nat} {o o2 : Obj} (h : w.heap[r]? = some o) (hn : ∀ c el fz, o ≠ .cells c el fz) : (setObj r o2).run P w = .ok () { w with heap := w.heap.setIfInBounds r o2 } := by
  cases o <;> first | (simp only [Go.setObj, Sem.run, h]; done) | exact absurd rfl (hn _ _ _)

/-- An own block that is no row is written. -/
theorem Sim.setObj (hS : Sim P B w0 ρ st w) {β : Nat} {b b' : Blk} {L : Loc} {o o2 : Obj} (hb : st.heap.get β = some b) (hL : ρ β = some L)
    (hown : b.own = true) (hall : ∀ i j, InExt L b i j ↔ i = L.b) (hall' : ∀ i j, InExt L b' i j → i = L.b) (ho : w.heap[L.b]? = some o) (hn : ∀ c el fz, o ≠ .cells c el fz)
    (hb' : BlkRel ρ L b' { w with heap := w.heap.setIfInBounds L.b o2 }) (l : List Nat) :
    (Go.setObj L.b o2).run P w = .ok () { w with heap := w.heap.setIfInBounds L.b o2 } ∧
    Sim P B w0 ρ { st with heap := PT.set b' (β + 1) β st.heap, wr := l } { w with heap := w.heap.setIfInBounds L.b o2 } := by
  refine ⟨run_setObj ho hn, hS.upd hb hL hown (fun i j hi => (hall i j).2 (hall' i j hi)) hb' ?_ l⟩
  intro γ c K hne hc hK hKb hrel hsep
  have hx : ∀ j, ¬ InExt K c L.b j := fun j => hsep L.b j ((hall _ _).2 rfl)
  cases c with
  | row ds rw' g' sz' =>
    obtain ⟨c2, el2, fz2, k1, _⟩ := hrel
    rw [hKb, ho] at k1
    exact absurd (Option.some.inj k1) (hn _ _ _)
  | map es clock => exact absurd hKb.symm (hx 0)
  | siter s pos => exact absurd hKb.symm (hx 0)
  | miter m since seen stp => exact absurd hKb.symm (hx 0)
  | dead => trivial

theorem ERel.take {a a' : List MapEntry} (h : ERel ρ a a') (n : Nat) : ERel ρ (a.take n) (a'.take n) := by
  refine ⟨by simp [h.1], fun i v v' h1 h2 => ?_⟩
  rw [List.getElem?_take] at h1 h2
  split at h1
  · rename_i hi
    rw [if_pos hi] at h2
    exact h.2 i v v' h1 h2
  · simp at h1
theorem ERel.drop {a a' : List MapEntry} (h : ERel ρ a a') (n : Nat) : ERel ρ (a.drop n) (a'.drop n) := by
  refine ⟨by simp [h.1], fun i v v' h1 h2 => ?_⟩
  rw [List.getElem?_drop] at h1 h2
  exact h.2 _ v v' h1 h2
theorem ERel.get {a a' : List MapEntry} (h : ERel ρ a a') {i : Nat} {v : MapEntry} (hi : a[i]? = some v) : ∃ v', a'[i]? = some v' ∧ VRel ρ v.key v'.key ∧ v'.born = v.born ∧ VRel ρ v.val v'.val := by
  have hlt : i < a'.length := by
    have := (List.getElem?_eq_some_iff.1 hi).1
    rw [← h.1]; exact this
  exact ⟨a'[i], List.getElem?_eq_getElem hlt, h.2 i v _ hi (List.getElem?_eq_getElem hlt)⟩
theorem ERel.filter {a a' : List MapEntry} (h : ERel ρ a a') (p : MapEntry → Bool) (hp : ∀ e e', e'.born = e.born → p e' = p e) : ERel ρ (a.filter p) (a'.filter p) := by
  induction a generalizing a' with
  | nil => rw [h.nil_left]; exact ERel.nil ρ
  | cons e r ih =>
    obtain ⟨e', r', rfl, h1, h2⟩ := h.cons_left
    simp only [List.filter_cons, hp e e' h1.2.1]
    split
    · exact ERel.cons h1 (ih h2)
    · exact ih h2
theorem ERel.all {a a' : List MapEntry} (h : ERel ρ a a') (p : MapEntry → Bool) (hp : ∀ e e', e'.born = e.born → p e' = p e) : a'.all p = a.all p := by
  induction a generalizing a' with
  | nil => rw [h.nil_left]
  | cons e r ih =>
    obtain ⟨e', r', rfl, h1, h2⟩ := h.cons_left
    simp only [List.all_cons, hp e e' h1.2.1, ih h2]
theorem ERel.find {a a' : List MapEntry} (h : ERel ρ a a') (p : MapEntry → Bool) (hp : ∀ e e', e'.born = e.born → p e' = p e) {e : MapEntry} (hf : a.find? p = some e) :
    ∃ e', a'.find? p = some e' ∧ VRel ρ e.key e'.key ∧ e'.born = e.born ∧ VRel ρ e.val e'.val := by
  induction a generalizing a' with
  | nil => simp at hf
  | cons x r ih =>
    obtain ⟨x', r', rfl, h1, h2⟩ := h.cons_left
    rw [List.find?_cons] at hf ⊢
    rw [hp x x' h1.2.1]
    split at hf
    · cases hf; exact ⟨x', by simp [*], h1⟩
    · obtain ⟨e', k1, k2⟩ := ih h2 hf
      exact ⟨e', by simp [*], k2⟩
theorem ERel.isEmpty {a a' : List MapEntry} (h : ERel ρ a a') : a'.isEmpty = a.isEmpty := by
  cases a with
  | nil => rw [h.nil_left]
  | cons e r => obtain ⟨e', r', rfl, _⟩ := h.cons_left; rfl

theorem ERel.modify {a a' : List MapEntry} (h : ERel ρ a a') (i : Nat) (f f' : MapEntry → MapEntry) (hf : ∀ e e', VRel ρ e.key e'.key ∧ e'.born = e.born ∧ VRel ρ e.val e'.val → VRel ρ (f e).key (f' e').key ∧ (f' e').born = (f e).born ∧ VRel ρ (f e).val (f' e').val) :
    ERel ρ (a.toArray.modify i f).toList (a'.toArray.modify i f').toList := by
  refine ⟨by simp [h.1], fun j v v' h1 h2 => ?_⟩
  rw [Array.getElem?_toList, Array.getElem?_modify, List.getElem?_toArray] at h1 h2
  split at h1
  · rename_i e
    rw [if_pos e] at h2
    cases hx : a[j]? with
    | none => rw [hx] at h1; cases h1
    | some y =>
      obtain ⟨y', hy, hr⟩ := h.get hx
      rw [hx] at h1
      rw [hy] at h2
      cases h1
      cases h2
      exact hf _ _ hr
  · rename_i e
    rw [if_neg e] at h2
    exact h.2 j v v' h1 h2

theorem mapUpdate_ok {t : TypeId} {x x' k k' v v' r : Value} (hS : Sim P B w0 ρ st w) (hx : VRel ρ x x') (hk : VRel ρ k k') (hv : VRel ρ v v') (h : mapUpdateM P t x k v st = some (r, st')) :
    ∃ w', (Instr.mapUpdate t x' k' v').run P w = .ok () w' ∧ r = undef ∧ Sim P B w0 ρ st' w' := by
  unfold mapUpdateM at h
  generalize hu : P.underlying t = ut at h
  split at h
  case h_2 => exact (fail_some.1 h).elim
  rename_i kt et β
  cases hx with
  | map hL =>
    rename_i L
    obtain ⟨y, s1, h1, h⟩ := bind_some.1 h
    obtain ⟨es, clock, hb, e1⟩ := mapOf_some.1 h1
    cases e1
    simp only at h
    obtain ⟨_, s1, h1, h⟩ := bind_some.1 h
    obtain ⟨hg, e1⟩ := guardM_some.1 h1
    cases e1
    obtain ⟨_, s1, h1, h⟩ := bind_some.1 h
    obtain ⟨_, hck, e1⟩ := ofO_some.1 h1
    cases e1
    obtain ⟨q, s1, h1, h⟩ := bind_some.1 h
    obtain ⟨_, hfk, e1⟩ := ofO_some.1 h1
    cases e1
    simp only [Bool.and_eq_true] at hg
    have hkk : k' = k := plainB_eq hg.1 hk
    subst hkk
    obtain ⟨hlt, ⟨es', hw, hE⟩, hB⟩ := hS.get hb hL
    obtain ⟨q', hq', hF⟩ := findKey_rel kt k' hg.2 hE hfk
    have e1 := pureRun_run hck w
    have e2 := pureRun_run hq' w
    have hnc : ∀ c el fz, (Obj.map es' clock) ≠ .cells c el fz := fun _ _ _ e => by cases e
    have hgo : (getObj L.b).run P w = .ok (.map es' clock) w := run_getObj hw hnc
    have hall : ∀ (a : List MapEntry) (c : Nat), ∀ i j, InExt L (.map a c) i j ↔ i = L.b := fun _ _ _ _ => Iff.rfl
    cases q with
    | some z =>
      obtain ⟨i, u⟩ := z
      cases q' with
      | none => exact hF.elim
      | some z' =>
        obtain ⟨i', u'⟩ := z'
        obtain ⟨rfl, _⟩ := hF
        simp only at h
        obtain ⟨_, s1, h1, h⟩ := bind_some.1 h
        obtain ⟨hsb, e3⟩ := guardM_some.1 h1
        cases e3
        obtain ⟨_, s1, h1, h⟩ := bind_some.1 h
        obtain ⟨_, e3⟩ := setB_some.1 h1
        cases e3
        cases (pure_some.1 h)
        have hold : ((es'[i]?).map (·.key)).getD k' = ((es[i]?).map (·.key)).getD k' := by
          cases hx : es[i]? with
          | none =>
            have : es'[i]? = none := by
              rw [Array.getElem?_eq_none_iff]
              have := List.getElem?_eq_none_iff.1 hx
              have := hE.1
              simp at this
              omega
            rw [this]
          | some y =>
            obtain ⟨y', hy, hk2, _⟩ := hE.get hx
            rw [Array.getElem?_toList] at hy
            rw [hy]
            have hpy := List.all_eq_true.1 hg.2 y (List.mem_of_getElem? hx)
            simp [plainB_eq hpy hk2]
        have hkts : (Instr.keyThatStays (((es'[i]?).map (·.key)).getD k') k').run P w = .ok k' w := by
          rw [hold]
          simp [Instr.keyThatStays, hsb]
        have hE2 : ERel ρ (es.toArray.modify i fun e => { e with key := k', val := v }).toList (es'.modify i fun e => { e with key := k', val := v' }).toList := by
          have := hE.modify i (fun e => { e with key := k', val := v }) (fun e => { e with key := k', val := v' }) (fun e e' he => ⟨plainB_rel hg.1, he.2.1, hv⟩)
          simpa using this
        obtain ⟨r1, r2⟩ := hS.setObj (b' := .map (es.toArray.modify i fun e => { e with key := k', val := v }).toList clock) (o2 := .map (es'.modify i fun e => { e with key := k', val := v' }) clock)
          hb hL rfl (hall _ _) (fun _ _ h => h) hw hnc ⟨_, by simp [hlt], hE2⟩ (β :: st.wr)
        refine ⟨_, ?_, rfl, r2.logs rfl r2.nextOk⟩
        simp only [Instr.mapUpdate, Sem.run_bind, run_underlying hu, Result.andThen_ok, hgo, e1, e2, hkts, r1]
    | none =>
      cases q' with
      | some z' => obtain ⟨_, _⟩ := z'; exact hF.elim
      | none =>
        simp only at h
        obtain ⟨_, s1, h1, h⟩ := bind_some.1 h
        obtain ⟨_, e3⟩ := setB_some.1 h1
        cases e3
        cases (pure_some.1 h)
        have hE2 : ERel ρ (es ++ [{ key := k', val := v, born := clock }]) (es'.push { key := k', val := v', born := clock }).toList := by
          rw [Array.toList_push]
          exact hE.append (ERel.cons ⟨plainB_rel hg.1, rfl, hv⟩ (ERel.nil ρ))
        obtain ⟨r1, r2⟩ := hS.setObj (b' := .map (es ++ [{ key := k', val := v, born := clock }]) (clock + 1)) (o2 := .map (es'.push { key := k', val := v', born := clock }) (clock + 1))
          hb hL rfl (hall _ _) (fun _ _ h => h) hw hnc ⟨_, by simp [hlt], hE2⟩ (β :: st.wr)
        refine ⟨_, ?_, rfl, r2.logs rfl r2.nextOk⟩
        simp only [Instr.mapUpdate, Sem.run_bind, run_underlying hu, Result.andThen_ok, hgo, e1, e2, r1]

theorem delete_ok {ts : Array TypeId} {ty : TypeId} {l l' : List Value} {r : Value} (hS : Sim P B w0 ρ st w) (hl : LRel ρ l l') (h : deleteM P ts l st = some (r, st')) :
    Good P B w0 ρ st' r ((Builtin.delete_ ts ty l'.toArray).run P w) := by
  unfold deleteM at h
  generalize ht : ts[0]? = tt at h
  split at h
  case h_2 => exact (fail_some.1 h).elim
  rename_i t x k
  obtain ⟨x', l1, rfl, hx, hl⟩ := hl.cons_left
  obtain ⟨k', l2, rfl, hk, hl⟩ := hl.cons_left
  have := hl.nil_left
  subst this
  generalize hu : P.underlying t = ut at h
  split at h
  case h_2 => exact (fail_some.1 h).elim
  rename_i kt et β
  cases hx with
  | map hL =>
    rename_i L
    obtain ⟨y, s1, h1, h⟩ := bind_some.1 h
    obtain ⟨es, clock, hb, e1⟩ := mapOf_some.1 h1
    cases e1
    simp only at h
    obtain ⟨q, s1, h1, h⟩ := bind_some.1 h
    unfold findM at h1
    obtain ⟨_, s2, h2, h1⟩ := bind_some.1 h1
    obtain ⟨hg, e1⟩ := guardM_some.1 h2
    cases e1
    obtain ⟨_, s2, h2, h1⟩ := bind_some.1 h1
    obtain ⟨_, hck, e1⟩ := ofO_some.1 h2
    cases e1
    obtain ⟨_, hfk, e1⟩ := ofO_some.1 h1
    cases e1
    simp only [Bool.and_eq_true] at hg
    have hkk : k' = k := plainB_eq hg.1 hk
    subst hkk
    obtain ⟨hlt, ⟨es', hw, hE⟩, hB⟩ := hS.get hb hL
    obtain ⟨q', hq', hF⟩ := findKey_rel kt k' hg.2 hE hfk
    have hemp : es'.isEmpty = es.isEmpty := by rw [← hE.isEmpty, Array.isEmpty_toList]
    have e1 := pureRun_run hck w
    rw [← hemp] at e1
    have e2 := pureRun_run hq' w
    have hnc : ∀ c el fz, (Obj.map es' clock) ≠ .cells c el fz := fun _ _ _ e => by cases e
    have hgo : (getObj L.b).run P w = .ok (.map es' clock) w := run_getObj hw hnc
    have hall : ∀ (a : List MapEntry) (c : Nat), ∀ i j, InExt L (.map a c) i j ↔ i = L.b := fun _ _ _ _ => Iff.rfl
    cases q with
    | some z =>
      obtain ⟨i, u⟩ := z
      cases q' with
      | none => exact hF.elim
      | some z' =>
        obtain ⟨i', u'⟩ := z'
        obtain ⟨rfl, _⟩ := hF
        simp only at h
        obtain ⟨_, s1, h1, h⟩ := bind_some.1 h
        obtain ⟨_, e3⟩ := setB_some.1 h1
        cases e3
        cases (pure_some.1 h)
        have hE2 : ERel ρ (es.toArray.eraseIdxIfInBounds i).toList (es'.eraseIdxIfInBounds i).toList := by
          rw [Array.toList_eraseIdxIfInBounds, Array.toList_eraseIdxIfInBounds, List.eraseIdx_eq_take_drop_succ, List.eraseIdx_eq_take_drop_succ]
          exact (hE.take _).append (hE.drop _)
        obtain ⟨r1, r2⟩ := hS.setObj (b' := .map (es.toArray.eraseIdxIfInBounds i).toList clock) (o2 := .map (es'.eraseIdxIfInBounds i) clock)
          hb hL rfl (hall _ _) (fun _ _ h => h) hw hnc ⟨_, by simp [hlt], hE2⟩ (β :: st.wr)
        refine Good.same (v' := .tuple #[]) ?_ (r2.logs rfl r2.nextOk) (VRel.undef ρ)
        simp only [Builtin.delete_, List.getElem?_toArray, List.getElem?_cons_zero, List.getElem?_cons_succ, ht, Sem.run_bind, run_underlying hu, Result.andThen_ok, hgo, e1, e2, r1, Sem.run_pure]
    | none =>
      cases q' with
      | some z' => obtain ⟨_, _⟩ := z'; exact hF.elim
      | none =>
        simp only at h
        obtain ⟨_, s1, h1, h⟩ := bind_some.1 h
        obtain ⟨_, e3⟩ := setB_some.1 h1
        cases e3
        cases (pure_some.1 h)
        obtain ⟨r1, r2⟩ := hS.setObj (b' := .map es clock) (o2 := .map es' clock)
          hb hL rfl (hall _ _) (fun _ _ h => h) hw hnc ⟨_, by simp [hlt], hE⟩ (β :: st.wr)
        refine Good.same (v' := .tuple #[]) ?_ (r2.logs rfl r2.nextOk) (VRel.undef ρ)
        simp only [Builtin.delete_, List.getElem?_toArray, List.getElem?_cons_zero, List.getElem?_cons_succ, ht, Sem.run_bind, run_underlying hu, Result.andThen_ok, hgo, e1, e2, r1, Sem.run_pure]

theorem Sim.newObj (hS : Sim P B w0 ρ st w) {o : Obj} {b : Blk} (hn : st.heap.get st.next = none)
    (hb : BlkRel ρ ⟨w.heap.size, 0, false, 0, 0⟩ b (w.alloc o)) :
    let L : Loc := ⟨w.heap.size, 0, false, 0, 0⟩
    (Go.newObj o).run P w = .ok w.heap.size (w.alloc o) ∧ ρ.le (ρ.upd st.next L) ∧
    Sim P B w0 (ρ.upd st.next L) { st with heap := PT.set b (st.next + 1) st.next st.heap, next := st.next + 1 } (w.alloc o) := by
  intro L
  have hle := Rho.upd_le L (hS.fresh _ hn)
  exact ⟨rfl, hle, hS.alloc hn rfl (hb.mono hle)⟩

theorem heap_new (w : World) (o : Obj) : (w.alloc o).heap[w.heap.size]? = some o := by
  show (w.heap.push o)[w.heap.size]? = _
  simp

theorem makeMap_ok {t : TypeId} {x x' : Option Value} {r : Value} (hS : Sim P B w0 ρ st w) (hx : ORel ρ x x')
    (hg : hintB P t x = true)
    (h : (do let β ← newB (.map [] 0); pure (.map (some β) : Value)) st = some (r, st')) : Good P B w0 ρ st' r ((Instr.makeMap t x').run P w) := by
  obtain ⟨β, s1, h1, h⟩ := bind_some.1 h
  obtain ⟨hn, e⟩ := newB_some.1 h1
  cases e
  cases (pure_some.1 h)
  obtain ⟨k1, k2, k3⟩ := hS.newObj (o := .map #[] 0) (b := .map [] 0) hn ⟨#[], heap_new _ _, ERel.nil ρ⟩
  refine ⟨_, _, _, ?_, k2, k3, .map (Rho.upd_same _ _ _)⟩
  cases x with
  | none =>
    cases x' with
    | none => simp [Instr.makeMap, k1]
    | some v => have := hx.1; simp at this
  | some v0 =>
    cases x' with
    | none => have := hx.1; simp at this
    | some v =>
      have hv := hx.2 _ _ rfl rfl
      cases v0 with
      | int k n =>
        cases hv
        simp only [hintB] at hg
        split at hg
        · rename_i hu
          simp [Instr.makeMap, k1, run_underlying hu, asInt, asIntOf]
        · cases hg
      | _ => cases hg

theorem range_ok {t : TypeId} {x x' r : Value} (hS : Sim P B w0 ρ st w) (hx : VRel ρ x x') (h : rangeM P t x st = some (r, st')) :
    Good P B w0 ρ st' r ((Instr.range t x').run P w) := by
  unfold rangeM at h
  generalize hu : P.underlying t = ut at h
  split at h
  case h_4 => exact (fail_some.1 h).elim
  · rename_i s
    cases hx
    obtain ⟨β, s1, h1, h⟩ := bind_some.1 h
    obtain ⟨hn, e⟩ := newB_some.1 h1
    cases e
    cases (pure_some.1 h)
    obtain ⟨k1, k2, k3⟩ := hS.newObj (o := .stringIter s 0) (b := .siter s 0) hn ⟨rfl, heap_new _ _⟩
    exact ⟨_, _, _, by simp [Instr.range, run_underlying hu, k1], k2, k3, .ptr (L := ⟨w.heap.size, 0, false, 0, 0⟩) (off := 0) (Rho.upd_same _ _ _)⟩
  · cases hx
    obtain ⟨β, s1, h1, h⟩ := bind_some.1 h
    obtain ⟨hn, e⟩ := newB_some.1 h1
    cases e
    cases (pure_some.1 h)
    obtain ⟨k1, k2, k3⟩ := hS.newObj (o := .mapIter none 0 #[] 0) (b := .miter none 0 [] 0) hn ⟨rfl, heap_new _ _⟩
    exact ⟨_, _, _, by simp [Instr.range, run_underlying hu, k1], k2, k3, .ptr (L := ⟨w.heap.size, 0, false, 0, 0⟩) (off := 0) (Rho.upd_same _ _ _)⟩
  · rename_i kt et m
    cases hx with
    | map hL =>
      rename_i L
      obtain ⟨y, s1, h1, h⟩ := bind_some.1 h
      obtain ⟨es, clock, hb, e1⟩ := mapOf_some.1 h1
      cases e1
      simp only at h
      obtain ⟨β, s1, h1, h⟩ := bind_some.1 h
      obtain ⟨hn, e⟩ := newB_some.1 h1
      cases e
      cases (pure_some.1 h)
      obtain ⟨hlt, ⟨es', hw, hE⟩, hB⟩ := hS.get hb hL
      have hnc : ∀ c el fz, (Obj.map es' clock) ≠ .cells c el fz := fun _ _ _ e => by cases e
      have hgo : (getObj L.b).run P w = .ok (.map es' clock) w := run_getObj hw hnc
      have hS1 : Sim P B w0 ρ { st with rd := m :: st.rd } w := hS.logs rfl hS.nextOk
      obtain ⟨k1, k2, k3⟩ := hS1.newObj (o := .mapIter (some L.b) clock #[] clock) (b := .miter (some m) clock [] clock) hn ⟨rfl, L, hL, heap_new _ _⟩
      exact ⟨_, _, _, by simp [Instr.range, run_underlying hu, hgo, k1], k2, k3, .ptr (L := ⟨w.heap.size, 0, false, 0, 0⟩) (off := 0) (Rho.upd_same _ _ _)⟩
end
end Go.Ev
