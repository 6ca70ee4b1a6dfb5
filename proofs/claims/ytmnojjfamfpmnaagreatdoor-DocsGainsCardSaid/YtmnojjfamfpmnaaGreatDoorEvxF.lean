/-
  Each operation of the evaluator does what the model's operation does: values made, compared, cut.
-/
import Derived.Test.YtmnojjfamfpmnaaGreatDoorEvxD
import Derived.Laws.BytesString
set_option linter.unusedVariables false
set_option linter.unusedSimpArgs false
set_option linter.unusedSectionVars false
set_option linter.unnecessarySimpa false
set_option linter.unusedSectionVars false
namespace Go.Ev
open Go.RowKit
variable [Eta]
section
variable {P : Program} {B : Nat} {w0 : World} {ρ : Rho} {st st' : St} {w w' : World}

inductive PRel (ρ : Rho) : List (Nat × Value) → List (Nat × Value) → Prop
  | nil : PRel ρ [] []
  | cons (i : Nat) {v v' : Value} {l l' : List (Nat × Value)} (h : VRel ρ v v') (hl : PRel ρ l l') : PRel ρ ((i, v) :: l) ((i, v') :: l')

theorem LRel.set {a a' : List Value} (h : LRel ρ a a') (i : Nat) {v v' : Value} (hv : VRel ρ v v') : LRel ρ (a.set i v) (a'.set i v') := by
  refine ⟨by simp [h.1], fun j u u' h1 h2 => ?_⟩
  rw [List.getElem?_set] at h1 h2
  rw [← h.1] at h2
  split at h1
  · rename_i e; rw [if_pos e] at h2
    split at h1
    · rename_i hl; rw [if_pos hl] at h2; cases h1; cases h2; exact hv
    · cases h1
  · rename_i e; rw [if_neg e] at h2; exact h.2 j u u' h1 h2

theorem foldSet_rel (off : Nat) : ∀ (l l' : List Value) (k : Nat) (cs cs' : Array Value), LRel ρ l l' → LRel ρ cs.toList cs'.toList →
    LRel ρ ((l.zipIdx k).foldl (fun cs (x : Value × Nat) => cs.setIfInBounds (off + x.2) x.1) cs).toList ((l'.zipIdx k).foldl (fun cs (x : Value × Nat) => cs.setIfInBounds (off + x.2) x.1) cs').toList := by
  intro l
  induction l with
  | nil => intro l' k cs cs' h hc; rw [h.nil_left]; simpa using hc
  | cons v r ih =>
    intro l' k cs cs' h hc
    obtain ⟨v', r', rfl, h1, h2⟩ := h.cons_left
    simp only [List.zipIdx_cons, List.foldl_cons]
    refine ih r' (k + 1) _ _ h2 ?_
    simp only [Array.toList_setIfInBounds]
    exact hc.set _ h1

theorem VRel.size {v v' : Value} (h : VRel ρ v v') : v'.cells.size = v.cells.size := by
  rw [← cells_length, ← cells_length, h.cells.1]

theorem fill_ok (place : Nat → Option (Nat × Nat)) : ∀ (ps ps' : List (Nat × Value)) (cs cs' r : Array Value), PRel ρ ps ps' → LRel ρ cs.toList cs'.toList →
    Instr.fill place cs ps = some r → ∃ r', Instr.fill place cs' ps' = some r' ∧ LRel ρ r.toList r'.toList := by
  intro ps
  induction ps with
  | nil =>
    intro ps' cs cs' r hp hc h
    cases hp
    simp only [Instr.fill, Option.some.injEq] at h
    subst h
    exact ⟨cs', rfl, hc⟩
  | cons x ps ih =>
    intro ps' cs cs' r hp hc h
    cases hp with
    | cons i hv hl =>
      rename_i v v' l'
      simp only [Instr.fill] at h ⊢
      cases hpl : place i with
      | none => rw [hpl] at h; cases h
      | some os =>
        obtain ⟨off, size⟩ := os
        rw [hpl] at h
        simp only at h ⊢
        have hcs : cs'.size = cs.size := by simpa using hc.1.symm
        rw [hv.size, hcs]
        split at h
        · cases h
        · rename_i hif
          rw [if_neg hif]
          refine ih _ _ _ _ hl ?_ h
          have := foldSet_rel off (cellsOf v) (cellsOf v') 0 cs cs' hv.cells hc
          simp only [← cells_toList] at this
          rw [← Array.foldl_toList, ← Array.foldl_toList]
          simpa using this

theorem plain_cells {z : Value} (h : plainB z = true) : LRel ρ (cellsOf z) (cellsOf z) := (plainB_rel h).cells

theorem box_ok {t : TypeId} {v v' r : Value} (hS : Sim P B w0 ρ st w) (hv : VRel ρ v v') (h : newPtr (cellsOf v) st = some (r, st')) :
    Good P B w0 ρ st' r ((Instr.box t v').run P w) := by
  obtain ⟨w', ρ', L, h1, h2, h3, h4⟩ := newPtr_ok (el := t) hS hv.cells h
  have : v'.cells = (cellsOf v').toArray := by rw [← cells_toList]
  exact ⟨_, w', ρ', by simp [Instr.box, newVar, this, h1], h2, h3, h4⟩

theorem alloc_ok {t : TypeId} {r : Value} (hS : Sim P B w0 ρ st w) (h : (do let z ← zeroM P t; newPtr (cellsOf z)) st = some (r, st')) :
    Good P B w0 ρ st' r ((Instr.alloc t true (.tuple #[])).run P w) := by
  obtain ⟨z, s1, h1, h⟩ := bind_some.1 h
  obtain ⟨hz, hp, e, _⟩ := run_zero h1 w
  subst e
  obtain ⟨w', ρ', L, h1, h2, h3, h4⟩ := newPtr_ok (el := t) hS (plain_cells hp) h
  have : z.cells = (cellsOf z).toArray := by rw [← cells_toList]
  exact ⟨_, w', ρ', by simp [Instr.alloc, newVar, hz, this, h1], h2, h3, h4⟩

theorem places_run : ∀ (l : List Field) (pl : List (Nat × Nat)), placesO P l = some pl → ∀ w : World,
    (l.mapM (m := Sem) fun f => Prod.mk f.offset <$> sizeOf f.type).run P w = .ok pl w := by
  intro l
  induction l with
  | nil => intro pl h w; simp only [placesO, Option.some.injEq] at h; subst h; simp
  | cons f r ih =>
    intro pl h w
    unfold placesO at h
    split at h
    · rename_i n l h1 h2
      cases h
      simp [run_size h1, ih _ h2]
    · cases h

theorem build_ok {t : TypeId} {ps ps' : List (Nat × Value)} {r : Value} (hS : Sim P B w0 ρ st w) (hp : PRel ρ ps ps') (h : buildM P t ps st = some (r, st')) :
    Good P B w0 ρ st' r ((Instr.build t ps'.toArray).run P w) := by
  unfold buildM at h
  obtain ⟨z, s1, h1, h⟩ := bind_some.1 h
  obtain ⟨hz, hpl, e, _⟩ := run_zero h1 w
  subst e
  have hzr : LRel ρ z.cells.toList z.cells.toList := by rw [cells_toList]; exact plain_cells hpl
  cases hu : P.underlying t with
  | none => rw [hu] at h; exact (fail_some.1 h).elim
  | some d =>
    rw [hu] at h
    cases d with
    | struct fs =>
      obtain ⟨pl, s2, h2, h⟩ := bind_some.1 h
      obtain ⟨_, hpl', e⟩ := ofO_some.1 h2
      cases e
      obtain ⟨cs, s3, h3, h⟩ := bind_some.1 h
      obtain ⟨_, hf, e⟩ := ofO_some.1 h3
      cases e
      cases (pure_some.1 h)
      obtain ⟨r', hr, hl⟩ := fill_ok _ ps ps' _ _ _ hp hzr hf
      refine Good.same (w := w) (v' := .agg r') ?_ hS (VRel.agg_iff.2 ⟨_, rfl, hl⟩)
      simp only [List.getElem?_toArray] at hr
      simp [Instr.build, hz, run_underlying hu, Array.mapM_eq_mapM_toList, places_run _ _ hpl', hr]
    | array n e =>
      obtain ⟨k, s2, h2, h⟩ := bind_some.1 h
      obtain ⟨_, hk, e⟩ := ofO_some.1 h2
      cases e
      obtain ⟨cs, s3, h3, h⟩ := bind_some.1 h
      obtain ⟨_, hf, e⟩ := ofO_some.1 h3
      cases e
      cases (pure_some.1 h)
      obtain ⟨r', hr, hl⟩ := fill_ok _ ps ps' _ _ _ hp hzr hf
      refine Good.same (w := w) (v' := .agg r') ?_ hS (VRel.agg_iff.2 ⟨_, rfl, hl⟩)
      simp [Instr.build, hz, run_underlying hu, run_size hk, hr]
    | _ => exact (fail_some.1 h).elim

theorem zerosL_length (z : List Value) (n : Nat) : (zerosL z n).length = n * z.length := by
  induction n with
  | zero => simp [zerosL]
  | succ n ih => simp [zerosL, ih, Nat.succ_mul, Nat.add_comm]

theorem range_zeros (z : Array Value) : ∀ n : Nat, (List.range (n * z.size)).map (fun i => z[i % z.size]!) = zerosL z.toList n := by
  intro n
  induction n with
  | zero => simp [zerosL]
  | succ n ih =>
    rw [Nat.succ_mul, Nat.add_comm, List.range_add, List.map_append, zerosL, List.map_map, ← ih]
    congr 1
    · apply List.ext_getElem?
      intro i
      rw [List.getElem?_map]
      by_cases h : i < z.size
      · simp [h, Nat.mod_eq_of_lt h]
      · simp [h]
    · apply List.map_congr_left
      intro i _
      simp

theorem array_zeros (z : Array Value) (n : Nat) : (Array.range (n * z.size)).map (fun i => z[i % z.size]!) = (zerosL z.toList n).toArray := by
  apply Array.toList_inj.1
  simp [range_zeros]

theorem zerosL_rel {z : Value} (h : plainB z = true) (n : Nat) : LRel ρ (zerosL (cellsOf z) n) (zerosL (cellsOf z) n) := by
  induction n with
  | zero => exact LRel.nil ρ
  | succ n ih => exact (plain_cells h).append ih

theorem buildSlice_ok {t : TypeId} {len : Nat} {ps ps' : List (Nat × Value)} {r : Value} (hS : Sim P B w0 ρ st w) (hp : PRel ρ ps ps') (h : buildSliceM P t len ps st = some (r, st')) :
    Good P B w0 ρ st' r ((Instr.buildSlice t len ps'.toArray).run P w) := by
  unfold buildSliceM at h
  cases hu : P.underlying t with
  | none => rw [hu] at h; exact (fail_some.1 h).elim
  | some d =>
   rw [hu] at h
   cases d with
   | slice e =>
    obtain ⟨k, s2, h2, h⟩ := bind_some.1 h
    obtain ⟨_, hk, e⟩ := ofO_some.1 h2
    cases e
    obtain ⟨_, s3, h3, h⟩ := bind_some.1 h
    obtain ⟨hg, e⟩ := guardM_some.1 h3
    cases e
    obtain ⟨z, s1, h1, h⟩ := bind_some.1 h
    obtain ⟨hz, hpl, e, _⟩ := run_zero h1 w
    subst e
    obtain ⟨_, s3, h3, h⟩ := bind_some.1 h
    obtain ⟨hgs, e⟩ := guardM_some.1 h3
    cases e
    obtain ⟨cs, s3, h3, h⟩ := bind_some.1 h
    obtain ⟨_, hf, e⟩ := ofO_some.1 h3
    cases e
    obtain ⟨β, s4, h4, h⟩ := bind_some.1 h
    obtain ⟨hn, e⟩ := newB_some.1 h4
    cases e
    cases (pure_some.1 h)
    have hzs : z.cells.size = k := by simpa using hgs
    subst hzs
    have hzr : LRel ρ (zerosL z.cells.toList len).toArray.toList (zerosL z.cells.toList len).toArray.toList := by simpa [cells_toList] using zerosL_rel hpl len
    obtain ⟨r', hr, hl⟩ := fill_ok _ ps ps' _ _ _ hp hzr hf
    obtain ⟨k1, k2, k3⟩ := hS.newRow (sz := z.cells.size) (el := e) hn hl
    refine ⟨_, _, _, ?_, k2, k3, .slice (L := ⟨w.heap.size, 0, false, z.cells.size, r'.toList.length⟩) (Rho.upd_same _ _ _) (.inl rfl)⟩
    have hlim : ¬ len * z.cells.size > 2 ^ 24 := by simp at hg; omega
    have k1' : (Go.newRow e r').run P w = .ok ⟨w.heap.size, 0, none⟩ (w.alloc (.cells r' e)) := by simpa using k1
    by_cases h0 : len * z.cells.size = 0
    · have hzz : zerosL z.cells.toList len = [] := by
        apply List.length_eq_zero_iff.1
        rw [zerosL_length]
        simpa using h0
      rw [hzz] at hr
      have hra : (Array.map (fun _ : Nat => (default : Value)) (Array.range 0)) = #[] := by simp
      simp [Instr.buildSlice, run_underlying hu, run_size hk, h0, hra, hr, k1']
    · have harr := array_zeros z.cells len
      simp only [Instr.buildSlice, Sem.run_bind, run_underlying hu, Result.andThen_ok, run_size hk, Sem.run_ite, hlim, if_false, h0, hz, Sem.run_pure, harr, hr, k1']
   | _ => exact (fail_some.1 h).elim

theorem nilCheck_ok {v v' r : Value} (hv : VRel ρ v v') (h : nilCheckM v st = some (r, st')) : r = v ∧ st' = st ∧ ∃ a, v' = .pointer (some a) := by
  unfold nilCheckM at h
  split at h
  · cases (mpure_some.1 h)
    cases hv with
    | ptr hL => exact ⟨rfl, rfl, _, rfl⟩
  · exact (fail_some.1 h).elim

theorem eqGuard_quiet {op : BinOp} {t : TypeId} {x y : Operand} {a b : Value} (h : ∀ k k', a ≠ .agg k ∨ b ≠ .agg k') (h2 : a ≠ .nilIface ∨ b ≠ .nilIface) :
    (eqGuard op t x y a b).run P w = .ok () w := by
  have key : (match a, b with
    | .nilIface, .nilIface => (do
      if (x matches .const _) || (y matches .const _) then return
      if ← Op.eqGuardIn Op.maxDepth t a b then unsupported (.noEntry "binop/eql: two nil values of an interface type with methods, neither of them the literal nil") : Sem Unit)
    | .agg _, .agg _ => do
      if !(← program).eqGuardType (← program).depth t then return
      if ← Op.eqGuardIn Op.maxDepth t a b then unsupported (.noEntry "binop/eql: two nil values of an interface type with methods, in a part of a struct or an array")
    | _, _ => pure ()).run P w = .ok () w := by
    split
    · rcases h2 with h2 | h2 <;> exact absurd rfl h2
    · rename_i k k'
      rcases h k k' with h | h <;> exact absurd rfl h
    · rfl
  cases op <;> first | rfl | exact key

theorem eqNil_ok {t : TypeId} {a a' b b' : Value} {r : Bool} (ha : VRel ρ a a') (hb : VRel ρ b b') (h : eqNil P t a b = some r) (x y : Operand) (w : World) :
    (∀ op, (eqGuard op t x y a' b').run P w = .ok () w) ∧ (binOp .eql t a' b').run P w = .ok (.bool r) w ∧ (binOp .neq t a' b').run P w = .ok (.bool !r) w := by
  have fin : ∀ a' b' : Value, (∀ k k', a' ≠ .agg k ∨ b' ≠ .agg k') → (a' ≠ .nilIface ∨ b' ≠ .nilIface) → (Op.equal t a' b').run P w = .ok r w →
      (binOp .eql t a' b' = (do pure (.bool (← Op.equal t a' b')))) → (binOp .neq t a' b' = (do pure (.bool (!(← Op.equal t a' b'))))) →
      (∀ op, (eqGuard op t x y a' b').run P w = .ok () w) ∧ (binOp .eql t a' b').run P w = .ok (.bool r) w ∧ (binOp .neq t a' b').run P w = .ok (.bool !r) w := by
    intro a' b' h1 h2 h3 h4 h5
    exact ⟨fun op => eqGuard_quiet h1 h2, by rw [h4]; simp [h3], by rw [h5]; simp [h3]⟩
  unfold eqNil at h
  have gone : ∀ {t : TypeId} {u u' : Value} {r : Bool}, VRel ρ (.iface t u) u' → (if t < TOK then some false else none) = some r → r = false ∧ ∃ v', u' = .iface t v' := by
    intro t u u' r hv he
    split at he
    case isFalse => cases he
    rename_i ht
    cases he
    cases hv with
    | iface t ht' hv => exact ⟨rfl, _, rfl⟩
    | tok s hd hs => exact absurd ht (Nat.not_lt.2 (Nat.le_add_right _ _))
  split at h <;> rename_i hu
  case h_9 =>
    obtain ⟨rfl, v', rfl⟩ := gone hb h
    cases ha
    exact fin _ _ (fun k k' => by left; intro e; cases e) (by first | (left; intro e; cases e; done) | (right; intro e; cases e; done))
      (by unfold Op.equal Op.maxDepth; rw [Op.equalIn]; simp only [Sem.run_bind, run_underlying hu, Result.andThen_ok]; rfl) rfl rfl
  case h_10 =>
    obtain ⟨rfl, v', rfl⟩ := gone ha h
    cases hb
    exact fin _ _ (fun k k' => by left; intro e; cases e) (by first | (left; intro e; cases e; done) | (right; intro e; cases e; done))
      (by unfold Op.equal Op.maxDepth; rw [Op.equalIn]; simp only [Sem.run_bind, run_underlying hu, Result.andThen_ok]; rfl) rfl rfl
  all_goals
    cases h <;> cases ha <;> cases hb <;>
    exact fin _ _ (fun k k' => by left; intro e; cases e) (by first | (left; intro e; cases e; done) | (right; intro e; cases e; done))
      (by unfold Op.equal Op.maxDepth; rw [Op.equalIn]; simp only [Sem.run_bind, run_underlying hu, Result.andThen_ok]; rfl) rfl rfl
end
end Go.Ev
