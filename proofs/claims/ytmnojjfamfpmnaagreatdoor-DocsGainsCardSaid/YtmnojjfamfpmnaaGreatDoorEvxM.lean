/-
  What a computation of the evaluator does not touch, it does not ask: it comes to the same over any memory that agrees where it touches.
-/
import Derived.Test.YtmnojjfamfpmnaaGreatDoorEvxL
set_option linter.unusedVariables false
set_option linter.unusedSimpArgs false
set_option linter.unusedSectionVars false
set_option linter.unnecessarySimpa false
set_option linter.unusedSectionVars false
namespace Go.Ev
variable [Orc] [Eta]

def Fresh (s s' : St) (i : Nat) : Prop := s.next ≤ i ∧ i < s'.next

/-- m over s and over another memory: R is what it reads, W what it writes. -/
structure LclAt {α : Type} (m : M α) (s : St) (a : α) (s' : St) (R W : List Nat) : Prop where
  nextLe : s.next ≤ s'.next
  rdE : s'.rd = R ++ s.rd
  wrE : s'.wr = W ++ s.wr
  isNew : ∀ i, Fresh s s' i → s.heap.get i = none
  isThere : ∀ i, i ∈ W → s'.heap.get i ≠ none
  same : ∀ i, i ∉ W → ¬ Fresh s s' i → s'.heap.get i = s.heap.get i
  other : ∀ t : St, t.next = s.next → (∀ i, i ∈ R ∨ i ∈ W → ¬ Fresh s s' i → t.heap.get i = s.heap.get i) → (∀ i, Fresh s s' i → t.heap.get i = none) →
    ∃ t', m t = some (a, t') ∧ t'.next = s'.next ∧ t'.rd = R ++ t.rd ∧ t'.wr = W ++ t.wr ∧ (∀ i, i ∈ W ∨ Fresh s s' i → t'.heap.get i = s'.heap.get i) ∧
      (∀ i, i ∉ W → ¬ Fresh s s' i → t'.heap.get i = t.heap.get i)

def Lcl {α : Type} (m : M α) : Prop := ∀ s a s', m s = some (a, s') → ∃ R W, LclAt m s a s' R W

theorem LclAt.keeps {α : Type} {m : M α} {s s' : St} {a : α} {R W : List Nat} (h : LclAt m s a s' R W) {i : Nat} (hi : s.heap.get i ≠ none) : s'.heap.get i ≠ none := by
  by_cases hw : i ∈ W
  · exact h.isThere i hw
  · by_cases hf : Fresh s s' i
    · exact absurd (h.isNew i hf) hi
    · rw [h.same i hw hf]; exact hi

theorem Lcl.pure {α : Type} (a : α) : Lcl (Pure.pure a : M α) := by
  intro s b s' h
  cases (pure_some.1 h)
  refine ⟨[], [], Nat.le_refl _, rfl, rfl, fun i h => absurd h.2 (by have := h.1; omega), fun i h => (by cases h), fun _ _ _ => rfl, ?_⟩
  intro t ht _ _
  exact ⟨t, rfl, ht, rfl, rfl, fun i h => (by rcases h with h | h <;> first | (cases h; done) | exact absurd h.2 (by have := h.1; omega)), fun _ _ _ => rfl⟩
theorem Lcl.mpure {α : Type} (a : α) : Lcl (M.pure a) := Lcl.pure a
theorem Lcl.fail {α : Type} : Lcl (M.fail : M α) := by intro s b s' h; exact (fail_some.1 h).elim
theorem Lcl.ofO {α : Type} (o : Option α) : Lcl (Ev.ofO o) := by
  cases o with
  | none => intro s b s' h; cases h
  | some a => exact Lcl.pure a
theorem Lcl.guardM (b : Bool) : Lcl (Ev.guardM b) := by
  cases b with
  | false => exact Lcl.fail
  | true => exact Lcl.pure ()
theorem Lcl.plain (v : Value) : Lcl (Ev.plain v) := by
  unfold Ev.plain
  split
  · exact Lcl.pure v
  · exact Lcl.fail

theorem Lcl.getB (β : Nat) : Lcl (Ev.getB β) := by
  intro s b s' h
  obtain ⟨_, hb, e⟩ := getB_some.1 h
  cases e
  refine ⟨[β], [], Nat.le_refl _, rfl, rfl, fun i h => absurd h.2 (by have := h.1; simp at this ⊢; omega), fun i h => (by cases h), fun _ _ _ => rfl, ?_⟩
  intro t ht hag _
  have : t.heap.get β = some b := by rw [hag β (.inl (by simp)) (fun h => absurd h.2 (by have := h.1; simp at this ⊢; omega))]; exact hb
  exact ⟨_, getB_some.2 ⟨_, this, rfl⟩, ht, rfl, rfl, fun i h => (by rcases h with h | h <;> first | (cases h; done) | exact absurd h.2 (by have := h.1; simp at this ⊢; omega)), fun _ _ _ => rfl⟩

theorem Lcl.setB (β : Nat) (b : Blk) : Lcl (Ev.setB β b) := by
  intro s u s' h
  obtain ⟨⟨b0, hb⟩, e⟩ := setB_some.1 h
  cases e
  refine ⟨[], [β], Nat.le_refl _, rfl, rfl, fun i h => absurd h.2 (by have := h.1; simp at this ⊢; omega), fun i h => ?_, fun i h _ => ?_, ?_⟩
  · obtain rfl : i = β := by simpa using h
    rw [PT.get_set _ _ _ _ (by omega)]; simp
  · rw [PT.get_set_ne _ _ _ _ _ (by simpa using h)]
  · intro t ht hag _
    have : t.heap.get β = some b0 := by rw [hag β (.inr (by simp)) (fun h => absurd h.2 (by have := h.1; simp at this ⊢; omega))]; exact hb
    refine ⟨_, setB_some.2 ⟨⟨_, this⟩, rfl⟩, ht, rfl, rfl, fun i h => ?_, fun i h _ => ?_⟩
    · rcases h with h | h
      · obtain rfl : i = β := by simpa using h
        rw [PT.get_set _ _ _ _ (by omega), PT.get_set _ _ _ _ (by omega)]
      · exact absurd h.2 (by have := h.1; simp at this ⊢; omega)
    · rw [PT.get_set_ne _ _ _ _ _ (by simpa using h)]

theorem Lcl.newB (b : Blk) : Lcl (Ev.newB b) := by
  intro s β s' h
  obtain ⟨hn, e⟩ := newB_some.1 h
  cases e
  refine ⟨[], [], by simp, rfl, rfl, fun i h => ?_, fun i h => (by cases h), fun i _ h => ?_, ?_⟩
  · obtain rfl : i = s.next := by have := h.1; have := h.2; simp at this; omega
    exact hn
  · have : i ≠ s.next := fun e => h (by subst e; exact ⟨Nat.le_refl _, by simp⟩)
    rw [PT.get_set_ne _ _ _ _ _ this]
  · intro t ht _ hf
    have h0 : t.heap.get t.next = none := by rw [ht]; exact hf _ ⟨Nat.le_refl _, by simp⟩
    have h1 := (newB_some (b := b)).2 ⟨h0, rfl⟩
    rw [ht] at h1
    refine ⟨_, h1, rfl, rfl, rfl, fun i h => ?_, fun i _ h => ?_⟩
    · rcases h with h | h
      · cases h
      · obtain rfl : i = s.next := by have := h.1; have := h.2; simp at this; omega
        simp only
        rw [PT.get_set _ _ _ _ (by omega), PT.get_set _ _ _ _ (by omega)]
    · have : i ≠ s.next := fun e => h (by subst e; exact ⟨Nat.le_refl _, by simp⟩)
      simp only
      rw [PT.get_set_ne _ _ _ _ _ this]

theorem Lcl.bind {α β : Type} {m : M α} {f : α → M β} (hm : Lcl m) (hf : ∀ a, Lcl (f a)) : Lcl (m >>= f) := by
  intro s b s2 h
  obtain ⟨a, s1, h1, h2⟩ := bind_some.1 h
  obtain ⟨R1, W1, k1⟩ := hm s a s1 h1
  obtain ⟨R2, W2, k2⟩ := hf a s1 b s2 h2
  have hF : ∀ i, Fresh s s2 i ↔ Fresh s s1 i ∨ Fresh s1 s2 i := by
    intro i
    have := k1.nextLe
    have := k2.nextLe
    unfold Fresh
    omega
  refine ⟨R2 ++ R1, W2 ++ W1, Nat.le_trans k1.nextLe k2.nextLe, by rw [k2.rdE, k1.rdE, List.append_assoc], by rw [k2.wrE, k1.wrE, List.append_assoc], ?_, ?_, ?_, ?_⟩
  · intro i hi
    rcases (hF i).1 hi with h | h
    · exact k1.isNew i h
    · cases hx : s.heap.get i with
      | none => rfl
      | some y => exact absurd (k2.isNew i h) (k1.keeps (by rw [hx]; simp))
  · intro i hi
    rcases List.mem_append.1 hi with h | h
    · exact k2.isThere i h
    · exact k2.keeps (k1.isThere i h)
  · intro i hi hfr
    have h1 : i ∉ W1 := fun h => hi (List.mem_append.2 (.inr h))
    have h2 : i ∉ W2 := fun h => hi (List.mem_append.2 (.inl h))
    rw [k2.same i h2 (fun h => hfr ((hF i).2 (.inr h))), k1.same i h1 (fun h => hfr ((hF i).2 (.inl h)))]
  · intro t ht hag hfr
    obtain ⟨t1, e1, n1, r1, w1, c1, u1⟩ := k1.other t ht
      (fun i hi hn => by
        by_cases h2 : Fresh s1 s2 i
        · rw [hfr i ((hF i).2 (.inr h2))]
          cases hx : s.heap.get i with
          | none => rfl
          | some y => exact absurd (k2.isNew i h2) (k1.keeps (by rw [hx]; simp))
        · exact hag i (hi.elim (fun h => .inl (List.mem_append.2 (.inr h))) (fun h => .inr (List.mem_append.2 (.inr h)))) (fun h => ((hF i).1 h).elim hn h2))
      (fun i hi => hfr i ((hF i).2 (.inl hi)))
    have hsame : ∀ i, i ∉ W1 → ¬ Fresh s s1 i → t.heap.get i = s.heap.get i → t1.heap.get i = s1.heap.get i := fun i a b c => by
      rw [u1 i a b, k1.same i a b, c]
    obtain ⟨t2, e2, n2, r2, w2, c2, u2⟩ := k2.other t1 n1
      (fun i hi hn => by
        by_cases hw : i ∈ W1 ∨ Fresh s s1 i
        · exact c1 i hw
        · have hw1 : i ∉ W1 := fun h => hw (.inl h)
          have hw2 : ¬ Fresh s s1 i := fun h => hw (.inr h)
          exact hsame i hw1 hw2 (hag i (hi.elim (fun h => .inl (List.mem_append.2 (.inl h))) (fun h => .inr (List.mem_append.2 (.inl h)))) (fun h => ((hF i).1 h).elim hw2 hn)))
      (fun i hi => by
        by_cases hw : i ∈ W1 ∨ Fresh s s1 i
        · rw [c1 i hw]; exact k2.isNew i hi
        · rw [u1 i (fun h => hw (.inl h)) (fun h => hw (.inr h))]
          exact hfr i ((hF i).2 (.inr hi)))
    refine ⟨t2, bind_some.2 ⟨a, t1, e1, e2⟩, n2, by rw [r2, r1, List.append_assoc], by rw [w2, w1, List.append_assoc], ?_, ?_⟩
    · intro i hi
      by_cases hw : i ∈ W2 ∨ Fresh s1 s2 i
      · exact c2 i hw
      · have hw1 : i ∉ W2 := fun h => hw (.inl h)
        have hw2 : ¬ Fresh s1 s2 i := fun h => hw (.inr h)
        rw [u2 i hw1 hw2, k2.same i hw1 hw2]
        refine c1 i ?_
        rcases hi with h | h
        · exact .inl ((List.mem_append.1 h).resolve_left hw1)
        · exact .inr (((hF i).1 h).resolve_right hw2)
    · intro i hi hfr2
      have h1 : i ∉ W1 := fun h => hi (List.mem_append.2 (.inr h))
      have h2 : i ∉ W2 := fun h => hi (List.mem_append.2 (.inl h))
      rw [u2 i h2 (fun h => hfr2 ((hF i).2 (.inr h))), u1 i h1 (fun h => hfr2 ((hF i).2 (.inl h)))]

/-- With its footprint. -/
theorem Lcl.footM {α : Type} {m : M α} (hm : Lcl m) : Lcl (Ev.footM m) := by
  intro s x s' h
  unfold Ev.footM at h
  cases h1 : m { s with rd := [], wr := [] } with
  | none => rw [h1] at h; cases h
  | some y =>
    obtain ⟨a, s1⟩ := y
    rw [h1] at h
    cases h
    obtain ⟨R, W, k⟩ := hm _ _ _ h1
    have hr : s1.rd = R := by rw [k.rdE]; simp
    have hw : s1.wr = W := by rw [k.wrE]; simp
    refine ⟨R, W, k.nextLe, by simp [hr], by simp [hw], k.isNew, k.isThere, k.same, ?_⟩
    intro t ht hag hfr
    obtain ⟨t', e, n', r', w', c', u'⟩ := k.other { t with rd := [], wr := [] } ht hag hfr
    simp at r' w'
    refine ⟨{ t' with rd := t'.rd ++ t.rd, wr := t'.wr ++ t.wr }, ?_, n', by simp [r'], by simp [w'], c', u'⟩
    unfold Ev.footM
    rw [e]
    simp [r', w', hr, hw, n', ht]

theorem Lcl.rowOf (β : Nat) : Lcl (Ev.rowOf β) := by
  unfold Ev.rowOf
  refine Lcl.bind (Lcl.getB β) fun b => ?_
  cases b <;> first | exact Lcl.pure _ | exact Lcl.fail
theorem Lcl.mapOf (β : Nat) : Lcl (Ev.mapOf β) := by
  unfold Ev.mapOf
  refine Lcl.bind (Lcl.getB β) fun b => ?_
  cases b <;> first | exact Lcl.pure _ | exact Lcl.fail
theorem Lcl.zeroM (P : Program) (t : TypeId) : Lcl (Ev.zeroM P t) := by
  unfold Ev.zeroM
  repeat' first | exact Lcl.plain _ | exact Lcl.fail | split
theorem Lcl.newPtr (cs : List Value) : Lcl (Ev.newPtr cs) := by
  unfold Ev.newPtr
  exact Lcl.bind (Lcl.newB _) fun _ => Lcl.pure _

section
variable (P : Program)
theorem Lcl.loadM (t : TypeId) (a : Value) : Lcl (Ev.loadM P t a) := by
  unfold Ev.loadM
  repeat' first | exact Lcl.pure _ | exact Lcl.mpure _ | exact Lcl.fail | exact Lcl.ofO _ | exact Lcl.guardM _ | exact Lcl.rowOf _ | exact Lcl.mapOf _ | exact Lcl.getB _ | exact Lcl.setB _ _ | exact Lcl.newB _ | exact Lcl.plain _ | exact Lcl.zeroM _ _ | (refine Lcl.bind ?_ fun _ => ?_) | dsimp only | split
theorem Lcl.storeM (t : TypeId) (a v : Value) : Lcl (Ev.storeM P t a v) := by
  unfold Ev.storeM
  repeat' first | exact Lcl.pure _ | exact Lcl.mpure _ | exact Lcl.fail | exact Lcl.ofO _ | exact Lcl.guardM _ | exact Lcl.rowOf _ | exact Lcl.mapOf _ | exact Lcl.getB _ | exact Lcl.setB _ _ | exact Lcl.newB _ | exact Lcl.plain _ | exact Lcl.zeroM _ _ | (refine Lcl.bind ?_ fun _ => ?_) | dsimp only | split
theorem Lcl.partM (t : TypeId) (cs : Array Value) (off : Nat) : Lcl (Ev.partM P t cs off) := by
  unfold Ev.partM
  repeat' first | exact Lcl.pure _ | exact Lcl.mpure _ | exact Lcl.fail | exact Lcl.ofO _ | exact Lcl.guardM _ | exact Lcl.rowOf _ | exact Lcl.mapOf _ | exact Lcl.getB _ | exact Lcl.setB _ _ | exact Lcl.newB _ | exact Lcl.plain _ | exact Lcl.zeroM _ _ | (refine Lcl.bind ?_ fun _ => ?_) | dsimp only | split
theorem Lcl.buildM (t : TypeId) (ps : List (Nat × Value)) : Lcl (Ev.buildM P t ps) := by
  unfold Ev.buildM
  repeat' first | exact Lcl.pure _ | exact Lcl.mpure _ | exact Lcl.fail | exact Lcl.ofO _ | exact Lcl.guardM _ | exact Lcl.rowOf _ | exact Lcl.mapOf _ | exact Lcl.getB _ | exact Lcl.setB _ _ | exact Lcl.newB _ | exact Lcl.plain _ | exact Lcl.zeroM _ _ | (refine Lcl.bind ?_ fun _ => ?_) | dsimp only | split
theorem Lcl.buildSliceM (t : TypeId) (len : Nat) (ps : List (Nat × Value)) : Lcl (Ev.buildSliceM P t len ps) := by
  unfold Ev.buildSliceM
  repeat' first | exact Lcl.pure _ | exact Lcl.mpure _ | exact Lcl.fail | exact Lcl.ofO _ | exact Lcl.guardM _ | exact Lcl.rowOf _ | exact Lcl.mapOf _ | exact Lcl.getB _ | exact Lcl.setB _ _ | exact Lcl.newB _ | exact Lcl.plain _ | exact Lcl.zeroM _ _ | (refine Lcl.bind ?_ fun _ => ?_) | dsimp only | split
theorem Lcl.nilCheckM (v : Value) : Lcl (Ev.nilCheckM v) := by
  unfold Ev.nilCheckM
  repeat' first | exact Lcl.mpure _ | exact Lcl.fail | split
theorem Lcl.binOpM (op : BinOp) (t : TypeId) (x y : Operand) (a b : Value) : Lcl (Ev.binOpM P op t x y a b) := by
  unfold Ev.binOpM
  split
  case h_10 =>
    split
    · exact Lcl.bind (Lcl.ofO _) fun _ => Lcl.plain _
    · split
      · exact Lcl.ofO _
      split
      · exact Lcl.bind (Lcl.ofO _) fun _ => Lcl.pure _
      · exact Lcl.bind (Lcl.ofO _) fun _ => Lcl.pure _
      · exact Lcl.fail
  all_goals
    split
    · exact Lcl.mpure _
    · exact Lcl.fail
theorem Lcl.unOpM (op : UnOp) (v : Value) : Lcl (Ev.unOpM P op v) := by
  unfold Ev.unOpM
  repeat' first | exact Lcl.pure _ | exact Lcl.mpure _ | exact Lcl.fail | exact Lcl.ofO _ | exact Lcl.plain _ | (refine Lcl.bind ?_ fun _ => ?_) | dsimp only | split
theorem Lcl.convertM (src dst : TypeId) (v : Value) : Lcl (Ev.convertM P src dst v) := by
  unfold Ev.convertM
  repeat' first | exact Lcl.pure _ | exact Lcl.mpure _ | exact Lcl.fail | exact Lcl.ofO _ | exact Lcl.guardM _ | exact Lcl.rowOf _ | exact Lcl.mapOf _ | exact Lcl.getB _ | exact Lcl.setB _ _ | exact Lcl.newB _ | exact Lcl.plain _ | exact Lcl.zeroM _ _ | (refine Lcl.bind ?_ fun _ => ?_) | dsimp only | split
theorem Lcl.makeSliceM (t : TypeId) (a b : Value) : Lcl (Ev.makeSliceM P t a b) := by
  unfold Ev.makeSliceM
  repeat' first | exact Lcl.pure _ | exact Lcl.mpure _ | exact Lcl.fail | exact Lcl.ofO _ | exact Lcl.guardM _ | exact Lcl.rowOf _ | exact Lcl.mapOf _ | exact Lcl.getB _ | exact Lcl.setB _ _ | exact Lcl.newB _ | exact Lcl.plain _ | exact Lcl.zeroM _ _ | (refine Lcl.bind ?_ fun _ => ?_) | dsimp only | split
theorem Lcl.sliceM (t : TypeId) (x : Value) (a b c : Option Value) : Lcl (Ev.sliceM P t x a b c) := by
  unfold Ev.sliceM
  repeat' first | exact Lcl.pure _ | exact Lcl.mpure _ | exact Lcl.fail | exact Lcl.ofO _ | exact Lcl.guardM _ | exact Lcl.rowOf _ | exact Lcl.mapOf _ | exact Lcl.getB _ | exact Lcl.setB _ _ | exact Lcl.newB _ | exact Lcl.plain _ | exact Lcl.zeroM _ _ | (refine Lcl.bind ?_ fun _ => ?_) | dsimp only | split
theorem Lcl.fieldAddrM (t : TypeId) (x : Value) (f : Nat) : Lcl (Ev.fieldAddrM P t x f) := by
  unfold Ev.fieldAddrM
  repeat' first | exact Lcl.mpure _ | exact Lcl.fail | split
theorem Lcl.fieldM (t : TypeId) (x : Value) (f : Nat) : Lcl (Ev.fieldM P t x f) := by
  unfold Ev.fieldM
  repeat' first | exact Lcl.partM _ _ _ _ | exact Lcl.fail | split
theorem Lcl.indexAddrM (t : TypeId) (x i : Value) : Lcl (Ev.indexAddrM P t x i) := by
  unfold Ev.indexAddrM
  repeat' first | exact Lcl.pure _ | exact Lcl.mpure _ | exact Lcl.fail | exact Lcl.ofO _ | exact Lcl.guardM _ | (refine Lcl.bind ?_ fun _ => ?_) | dsimp only | split
theorem Lcl.slcIndex (t : TypeId) (x i : Value) : Lcl (Ev.slcIndex P t x i) := by
  unfold Ev.slcIndex
  repeat' first | exact Lcl.pure _ | exact Lcl.mpure _ | exact Lcl.fail | exact Lcl.ofO _ | exact Lcl.guardM _ | (refine Lcl.bind ?_ fun _ => ?_) | dsimp only | split
theorem Lcl.slcField (t : TypeId) (x : Value) (f : Nat) : Lcl (Ev.slcField P t x f) := by
  unfold Ev.slcField
  repeat' first | exact Lcl.pure _ | exact Lcl.mpure _ | exact Lcl.fail | exact Lcl.ofO _ | exact Lcl.guardM _ | (refine Lcl.bind ?_ fun _ => ?_) | dsimp only | split
theorem Lcl.slcLoad (t : TypeId) (x : Value) : Lcl (Ev.slcLoad P t x) := by
  unfold Ev.slcLoad
  repeat' first | exact Lcl.pure _ | exact Lcl.mpure _ | exact Lcl.fail | exact Lcl.ofO _ | exact Lcl.guardM _ | (refine Lcl.bind ?_ fun _ => ?_) | dsimp only | split
theorem Lcl.indexM (t : TypeId) (x i : Value) : Lcl (Ev.indexM P t x i) := by
  unfold Ev.indexM
  repeat' first | exact Lcl.pure _ | exact Lcl.mpure _ | exact Lcl.partM _ _ _ _ | exact Lcl.fail | exact Lcl.ofO _ | exact Lcl.guardM _ | (refine Lcl.bind ?_ fun _ => ?_) | dsimp only | split
theorem Lcl.findM (kt : TypeId) (k : Value) (es : List MapEntry) : Lcl (Ev.findM P kt k es) := by
  unfold Ev.findM
  repeat' first | exact Lcl.ofO _ | exact Lcl.guardM _ | (refine Lcl.bind ?_ fun _ => ?_)
theorem Lcl.lookupM (t : TypeId) (x k : Value) (ok : Bool) : Lcl (Ev.lookupM P t x k ok) := by
  unfold Ev.lookupM
  repeat' first | exact Lcl.pure _ | exact Lcl.mpure _ | exact Lcl.fail | exact Lcl.ofO _ | exact Lcl.guardM _ | exact Lcl.findM _ _ _ _ | exact Lcl.rowOf _ | exact Lcl.mapOf _ | exact Lcl.getB _ | exact Lcl.setB _ _ | exact Lcl.newB _ | exact Lcl.plain _ | exact Lcl.zeroM _ _ | (refine Lcl.bind ?_ fun _ => ?_) | dsimp only | split
theorem Lcl.lookupT (t : TypeId) (x k : Value) (ok : Bool) : Lcl (Ev.lookupT P t x k ok) := by
  unfold Ev.lookupT
  split
  · refine Lcl.bind (Lcl.guardM _) fun _ => Lcl.bind (Lcl.mapOf _) fun q => Lcl.bind (Lcl.ofO _) fun r => ?_
    cases r with
    | some y => exact Lcl.pure _
    | none => exact Lcl.bind (Lcl.zeroM _ _) fun _ => Lcl.pure _
  · exact Lcl.fail
theorem Lcl.mapUpdateT (t : TypeId) (x k v : Value) : Lcl (Ev.mapUpdateT P t x k v) := by
  unfold Ev.mapUpdateT
  split
  · refine Lcl.bind (Lcl.guardM _) fun _ => Lcl.bind (Lcl.mapOf _) fun q => Lcl.bind (Lcl.ofO _) fun r => ?_
    cases r with
    | some y => exact Lcl.bind (Lcl.setB _ _) fun _ => Lcl.pure _
    | none => exact Lcl.bind (Lcl.setB _ _) fun _ => Lcl.pure _
  · exact Lcl.fail
theorem Lcl.mapUpdateM (t : TypeId) (x k v : Value) : Lcl (Ev.mapUpdateM P t x k v) := by
  unfold Ev.mapUpdateM
  split
  · refine Lcl.bind (Lcl.mapOf _) fun y => ?_
    obtain ⟨es, clock⟩ := y
    refine Lcl.bind (Lcl.guardM _) fun _ => Lcl.bind (Lcl.ofO _) fun _ => Lcl.bind (Lcl.ofO _) fun r => ?_
    cases r with
    | none => exact Lcl.bind (Lcl.setB _ _) fun _ => Lcl.pure _
    | some z =>
      obtain ⟨i, u⟩ := z
      exact Lcl.bind (Lcl.guardM _) fun _ => Lcl.bind (Lcl.setB _ _) fun _ => Lcl.pure _
  · exact Lcl.fail
theorem Lcl.rangeM (t : TypeId) (x : Value) : Lcl (Ev.rangeM P t x) := by
  unfold Ev.rangeM
  repeat' first | exact Lcl.pure _ | exact Lcl.mpure _ | exact Lcl.fail | exact Lcl.ofO _ | exact Lcl.guardM _ | exact Lcl.rowOf _ | exact Lcl.mapOf _ | exact Lcl.getB _ | exact Lcl.setB _ _ | exact Lcl.newB _ | exact Lcl.plain _ | exact Lcl.zeroM _ _ | (refine Lcl.bind ?_ fun _ => ?_) | dsimp only | split
theorem Lcl.nextM (x : Value) (b : Bool) : Lcl (Ev.nextM x b) := by
  unfold Ev.nextM
  repeat' first | exact Lcl.pure _ | exact Lcl.mpure _ | exact Lcl.fail | exact Lcl.ofO _ | exact Lcl.guardM _ | exact Lcl.rowOf _ | exact Lcl.mapOf _ | exact Lcl.getB _ | exact Lcl.setB _ _ | exact Lcl.newB _ | exact Lcl.plain _ | exact Lcl.zeroM _ _ | (refine Lcl.bind ?_ fun _ => ?_) | dsimp only | split
theorem Lcl.entryM (x : Value) : Lcl (Ev.entryM x) := by
  unfold Ev.entryM
  repeat' first | exact Lcl.pure _ | exact Lcl.mpure _ | exact Lcl.fail | exact Lcl.ofO _ | exact Lcl.guardM _ | exact Lcl.rowOf _ | exact Lcl.mapOf _ | exact Lcl.getB _ | exact Lcl.setB _ _ | exact Lcl.newB _ | exact Lcl.plain _ | exact Lcl.zeroM _ _ | (refine Lcl.bind ?_ fun _ => ?_) | dsimp only | split
theorem Lcl.extractM (x : Value) (i : Nat) : Lcl (Ev.extractM x i) := by
  unfold Ev.extractM
  repeat' first | exact Lcl.fail | exact Lcl.ofO _ | split
theorem Lcl.firstM (size n : Nat) (x : Value) : Lcl (Ev.firstM size n x) := by
  unfold Ev.firstM
  repeat' first | exact Lcl.pure _ | exact Lcl.mpure _ | exact Lcl.fail | exact Lcl.ofO _ | exact Lcl.guardM _ | exact Lcl.rowOf _ | exact Lcl.mapOf _ | exact Lcl.getB _ | exact Lcl.setB _ _ | exact Lcl.newB _ | exact Lcl.plain _ | exact Lcl.zeroM _ _ | (refine Lcl.bind ?_ fun _ => ?_) | dsimp only | split
theorem Lcl.appendM (ts : Array TypeId) (l : List Value) : Lcl (Ev.appendM P ts l) := by
  unfold Ev.appendM
  repeat' first | exact Lcl.pure _ | exact Lcl.mpure _ | exact Lcl.fail | exact Lcl.ofO _ | exact Lcl.guardM _ | exact Lcl.firstM _ _ _ | exact Lcl.rowOf _ | exact Lcl.mapOf _ | exact Lcl.getB _ | exact Lcl.setB _ _ | exact Lcl.newB _ | exact Lcl.plain _ | exact Lcl.zeroM _ _ | (refine Lcl.bind ?_ fun _ => ?_) | dsimp only | split
theorem Lcl.copyM (ts : Array TypeId) (l : List Value) : Lcl (Ev.copyM P ts l) := by
  unfold Ev.copyM
  repeat' first | exact Lcl.pure _ | exact Lcl.mpure _ | exact Lcl.fail | exact Lcl.ofO _ | exact Lcl.guardM _ | exact Lcl.firstM _ _ _ | exact Lcl.rowOf _ | exact Lcl.mapOf _ | exact Lcl.getB _ | exact Lcl.setB _ _ | exact Lcl.newB _ | exact Lcl.plain _ | exact Lcl.zeroM _ _ | (refine Lcl.bind ?_ fun _ => ?_) | dsimp only | split
theorem Lcl.lenM (ts : Array TypeId) (l : List Value) : Lcl (Ev.lenM P ts l) := by
  unfold Ev.lenM
  repeat' first | exact Lcl.pure _ | exact Lcl.fail | exact Lcl.mapOf _ | (refine Lcl.bind ?_ fun _ => ?_) | dsimp only | split
theorem Lcl.capM (ts : Array TypeId) (l : List Value) : Lcl (Ev.capM P ts l) := by
  unfold Ev.capM
  repeat' first | exact Lcl.pure _ | exact Lcl.fail | exact Lcl.guardM _ | exact Lcl.rowOf _ | (refine Lcl.bind ?_ fun _ => ?_) | dsimp only | split
theorem Lcl.deleteM (ts : Array TypeId) (l : List Value) : Lcl (Ev.deleteM P ts l) := by
  unfold Ev.deleteM
  repeat' first | exact Lcl.pure _ | exact Lcl.fail | exact Lcl.guardM _ | exact Lcl.mapOf _ | exact Lcl.setB _ _ | exact Lcl.findM _ _ _ _ | (refine Lcl.bind ?_ fun _ => ?_) | dsimp only | split
theorem Lcl.minMaxM (b : Bool) (ts : Array TypeId) (ty : TypeId) (l : List Value) : Lcl (Ev.minMaxM P b ts ty l) := by
  unfold Ev.minMaxM
  repeat' first | exact Lcl.fail | exact Lcl.ofO _ | exact Lcl.plain _ | (refine Lcl.bind ?_ fun _ => ?_) | dsimp only | split
theorem Lcl.builtinM (b : Builtin) (ts : Array TypeId) (ty : TypeId) (l : List Value) : Lcl (Ev.builtinM P b ts ty l) := by
  unfold Ev.builtinM
  cases b <;> first | exact Lcl.appendM _ _ _ | exact Lcl.copyM _ _ _ | exact Lcl.lenM _ _ _ | exact Lcl.capM _ _ _ | exact Lcl.deleteM _ _ _ | exact Lcl.minMaxM _ _ _ _ _ | exact Lcl.fail

theorem Lcl.opd (fr : Fr) (x : Operand) : Lcl (Ev.opd P fr x) := by
  unfold Ev.opd
  repeat' first | exact Lcl.ofO _ | exact Lcl.pure _ | exact Lcl.mpure _ | exact Lcl.plain _ | exact Lcl.guardM _ | exact Lcl.getB _ | (refine Lcl.bind ?_ fun _ => ?_) | dsimp only | split
theorem Lcl.opds (fr : Fr) (l : List Operand) : Lcl (Ev.opds P fr l) := by
  induction l with
  | nil => exact Lcl.mpure _
  | cons x r ih =>
    unfold Ev.opds
    repeat' first | exact ih | exact Lcl.pure _ | exact Lcl.opd _ _ _ | (refine Lcl.bind ?_ fun _ => ?_)
theorem Lcl.opdO (fr : Fr) (x : Option Operand) : Lcl (Ev.opdO P fr x) := by
  cases x with
  | none => exact Lcl.mpure _
  | some x =>
    unfold Ev.opdO
    repeat' first | exact Lcl.pure _ | exact Lcl.opd _ _ _ | (refine Lcl.bind ?_ fun _ => ?_)
theorem Lcl.opdP (fr : Fr) (l : List (Nat × Operand)) : Lcl (Ev.opdP P fr l) := by
  induction l with
  | nil => exact Lcl.mpure _
  | cons x r ih =>
    obtain ⟨i, x⟩ := x
    unfold Ev.opdP
    repeat' first | exact ih | exact Lcl.pure _ | exact Lcl.opd _ _ _ | (refine Lcl.bind ?_ fun _ => ?_)

omit P in
theorem Lcl.forceB (v : Value) : Lcl (Ev.forceB v) := by
  unfold Ev.forceB
  repeat' first | exact Lcl.mpure _ | exact Lcl.fail | exact Lcl.ofO _ | split

variable {call : FuncId → List Value → M Value} (hc : ∀ f l, Lcl (call f l))
include hc
theorem Lcl.callM (f : FuncId) (l : List Value) : Lcl (Ev.callM P call f l) := by
  unfold Ev.callM
  repeat' first | exact hc _ _ | exact Lcl.fail | exact Lcl.ofO _ | exact Lcl.plain _ | (refine Lcl.bind ?_ fun _ => ?_) | dsimp only | split

theorem Lcl.opM (fr : Fr) (o : Oper) : Lcl (Ev.opM P call fr o) := by
  unfold Ev.opM
  repeat' first
    | exact Lcl.pure _ | exact Lcl.mpure _ | exact Lcl.fail | exact Lcl.forceB _ | exact Lcl.opd _ _ _ | exact Lcl.opds _ _ _ | exact Lcl.opdO _ _ _ | exact Lcl.opdP _ _ _ | exact Lcl.zeroM _ _ | exact Lcl.newPtr _ | exact Lcl.buildM _ _ _
    | exact Lcl.lookupT _ _ _ _ _ | exact Lcl.mapUpdateT _ _ _ _ _ | exact Lcl.slcIndex _ _ _ _ | exact Lcl.slcField _ _ _ _ | exact Lcl.slcLoad _ _ _ | exact Lcl.buildSliceM _ _ _ _ | exact Lcl.loadM _ _ _ | exact Lcl.storeM _ _ _ _ | exact Lcl.nilCheckM _ | exact Lcl.binOpM _ _ _ _ _ _ _ | exact Lcl.unOpM _ _ _ | exact Lcl.convertM _ _ _ _ | exact Lcl.guardM _
    | exact Lcl.newB _ | exact Lcl.makeSliceM _ _ _ _ | exact Lcl.sliceM _ _ _ _ _ _ | exact Lcl.fieldAddrM _ _ _ _ | exact Lcl.fieldM _ _ _ _ | exact Lcl.indexAddrM _ _ _ _ | exact Lcl.indexM _ _ _ _ | exact Lcl.lookupM _ _ _ _ _
    | exact Lcl.mapUpdateM _ _ _ _ _ | exact Lcl.rangeM _ _ _ | exact Lcl.nextM _ _ | exact Lcl.entryM _ | exact Lcl.extractM _ _ | exact Lcl.builtinM _ _ _ _ _ | exact Lcl.callM _ hc _ _
    | (refine Lcl.bind ?_ fun _ => ?_) | dsimp only | split

theorem Lcl.valM (ops : Array Oper) (fr : Fr) (o : Oper) : Lcl (Ev.valM P call ops fr o) := by
  unfold Ev.valM
  refine Lcl.bind ?_ fun b => ?_
  · unfold Ev.wantedB
    repeat' first | unfold Ev.wantV | exact Lcl.ofO _ | exact Lcl.mpure _ | exact Lcl.pure _ | exact Lcl.forceB _ | (refine Lcl.bind ?_ fun _ => ?_) | split
  · cases b
    · exact Lcl.pure _
    · exact Lcl.opM P hc _ _
omit hc in
theorem Lcl.put (fr : Fr) (d : Option Nat) (v : Value) : Lcl (fr.put d v) := by
  unfold Fr.put
  repeat' first | exact Lcl.mpure _ | exact Lcl.fail | split
theorem Lcl.stepM (ops : Array Oper) (fr : Fr) (o : Oper) : Lcl (Ev.stepM P call ops fr o) :=
  Lcl.bind (Lcl.valM P hc _ _ _) fun _ => Lcl.put _ _ _
theorem Lcl.opsM (ops : Array Oper) (l : List Oper) : ∀ fr : Fr, Lcl (Ev.opsM P call ops l fr) := by
  induction l with
  | nil => intro fr; exact Lcl.mpure _
  | cons o r ih => intro fr; exact Lcl.bind (Lcl.stepM P hc _ _ _) fun _ => ih _
theorem Lcl.drawM (ops : Array Oper) (l : List Oper) : ∀ (d : List Done) (fr : Fr), Lcl (Ev.drawM P call ops l d fr) := by
  induction l with
  | nil => intro d fr; exact Lcl.mpure _
  | cons o r ih =>
    intro d fr
    unfold Ev.drawM
    refine Lcl.bind (Lcl.footM (Lcl.valM P hc _ _ _)) fun x => ?_
    obtain ⟨v, f⟩ := x
    exact Lcl.bind (Lcl.guardM _) fun _ => Lcl.bind (Lcl.put _ _ _) fun _ => ih _ _
theorem Lcl.codeM : ∀ (n : Nat) (c : Code) (fr : Fr), Lcl (Ev.codeM P call n c fr) := by
  intro n
  induction n with
  | zero => intro c fr; exact Lcl.fail
  | succ n ih =>
    intro c fr
    unfold Ev.codeM
    repeat' first
      | exact ih _ _ | exact Lcl.pure _ | exact Lcl.mpure _ | exact Lcl.fail | exact Lcl.forceB _ | exact Lcl.opd _ _ _ | exact Lcl.opsM P hc _ _ _ | exact Lcl.drawM P hc _ _ _ _
      | (refine Lcl.bind ?_ fun _ => ?_) | dsimp only | split
omit hc in
theorem Lcl.resultsM (fr : Fr) (l : List ResultVar) : Lcl (Ev.resultsM P fr l) := by
  induction l with
  | nil => exact Lcl.mpure _
  | cons r rs ih =>
    unfold Ev.resultsM
    refine Lcl.bind ?_ fun _ => Lcl.bind ih fun _ => Lcl.pure _
    cases r
    · exact Lcl.ofO _
    · exact Lcl.bind (Lcl.ofO _) fun _ => Lcl.loadM _ _ _
theorem Lcl.bodyM (n : Nat) (f : FuncId) (l : List Value) : Lcl (Ev.bodyM P call n f l) := by
  unfold Ev.bodyM
  repeat' first
    | exact Lcl.codeM P hc _ _ _ | exact Lcl.resultsM _ _ _ | exact Lcl.pure _ | exact Lcl.mpure _ | exact Lcl.fail | (refine Lcl.bind ?_ fun _ => ?_) | dsimp only | split
omit hc in
theorem Lcl.ev (hs : ∀ f g, Orc.sum f = some g → ∀ l, Lcl (g l)) : ∀ (n : Nat) (f : FuncId) (l : List Value), Lcl (Ev.ev P n f l) := by
  intro n
  induction n with
  | zero => intro f l; exact Lcl.fail
  | succ n ih =>
    intro f l
    unfold Ev.ev
    generalize hg : Orc.sum f = g
    cases g with
    | none => exact Lcl.bodyM P ih _ _ _
    | some g => exact hs f g hg l
end
end Go.Ev
