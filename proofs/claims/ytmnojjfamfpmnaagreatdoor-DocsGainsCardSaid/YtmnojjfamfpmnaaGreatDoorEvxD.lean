/-
  Each operation of the evaluator does what the model's operation does: memory.
-/
import Derived.Test.YtmnojjfamfpmnaaGreatDoorEvxC
set_option linter.unusedVariables false
set_option linter.unusedSimpArgs false
set_option linter.unusedSectionVars false
set_option linter.unnecessarySimpa false
set_option linter.unusedSectionVars false
namespace Go.Ev
open Go.RowKit
variable [Eta]

theorem bind_some {α β : Type} {m : M α} {f : α → M β} {s : St} {r : β × St} : (m >>= f) s = some r ↔ ∃ a s1, m s = some (a, s1) ∧ f a s1 = some r := by
  show M.bind m f s = some r ↔ _
  unfold M.bind
  cases h : m s with
  | none => simp
  | some x => obtain ⟨a, s1⟩ := x; constructor
              · intro k; exact ⟨a, s1, rfl, k⟩
              · rintro ⟨a', s1', e, k⟩; cases e; exact k
theorem pure_some {α : Type} {a : α} {s : St} {r : α × St} : (pure a : M α) s = some r ↔ r = (a, s) := by
  show some (a, s) = some r ↔ _
  constructor
  · intro h; exact (Option.some.inj h).symm
  · intro h; rw [h]
theorem mpure_some {α : Type} {a : α} {s : St} {r : α × St} : (M.pure a) s = some r ↔ r = (a, s) := pure_some
theorem fail_some {α : Type} {s : St} {r : α × St} : (M.fail : M α) s = some r ↔ False := by simp [M.fail]
theorem ofO_some {α : Type} {o : Option α} {s : St} {r : α × St} : ofO o s = some r ↔ ∃ a, o = some a ∧ r = (a, s) := by
  cases o with
  | none => simp [ofO]
  | some a => simp [ofO, eq_comm]
theorem guardM_some {b : Bool} {s : St} {r : Unit × St} : guardM b s = some r ↔ b = true ∧ r = ((), s) := by
  cases b <;> simp [guardM, M.fail, M.pure, eq_comm]
theorem plain_some {v : Value} {s : St} {r : Value × St} : plain v s = some r ↔ plainB v = true ∧ r = (v, s) := by
  unfold plain
  cases h : plainB v <;> simp [M.fail, M.pure, eq_comm]
theorem getB_some {β : Nat} {s : St} {r : Blk × St} : getB β s = some r ↔ ∃ b, s.heap.get β = some b ∧ r = (b, { s with rd := β :: s.rd }) := by
  unfold getB
  cases h : s.heap.get β <;> simp [eq_comm]
theorem setB_some {β : Nat} {b : Blk} {s : St} {r : Unit × St} : setB β b s = some r ↔ (∃ b0, s.heap.get β = some b0) ∧ r = ((), { s with heap := PT.set b (β + 1) β s.heap, wr := β :: s.wr }) := by
  unfold setB
  cases h : s.heap.get β <;> simp [eq_comm]
theorem newB_some {b : Blk} {s : St} {r : Nat × St} : newB b s = some r ↔ s.heap.get s.next = none ∧ r = (s.next, { s with heap := PT.set b (s.next + 1) s.next s.heap, next := s.next + 1 }) := by
  unfold newB
  cases h : s.heap.get s.next <;> simp [eq_comm]
theorem rowOf_some {β : Nat} {s : St} {r : (List Value × Bool × Bool × Nat) × St} :
    rowOf β s = some r ↔ ∃ cs rw g sz, s.heap.get β = some (.row cs rw g sz) ∧ r = ((cs, rw, g, sz), { s with rd := β :: s.rd }) := by
  unfold rowOf
  rw [bind_some]
  constructor
  · rintro ⟨b, s1, h, k⟩
    obtain ⟨b', hb, e⟩ := getB_some.1 h
    cases e
    cases b with
    | row cs rw g sz => exact ⟨cs, rw, g, sz, hb, pure_some.1 k⟩
    | _ => exact (fail_some.1 k).elim
  · rintro ⟨cs, rw, g, sz, hb, rfl⟩
    exact ⟨_, _, getB_some.2 ⟨_, hb, rfl⟩, pure_some.2 rfl⟩
theorem mapOf_some {β : Nat} {s : St} {r : (List MapEntry × Nat) × St} :
    mapOf β s = some r ↔ ∃ es c, s.heap.get β = some (.map es c) ∧ r = ((es, c), { s with rd := β :: s.rd }) := by
  unfold mapOf
  rw [bind_some]
  constructor
  · rintro ⟨b, s1, h, k⟩
    obtain ⟨b', hb, e⟩ := getB_some.1 h
    cases e
    cases b with
    | map es c => exact ⟨es, c, hb, pure_some.1 k⟩
    | _ => exact (fail_some.1 k).elim
  · rintro ⟨es, c, hb, rfl⟩
    exact ⟨_, _, getB_some.2 ⟨_, hb, rfl⟩, pure_some.2 rfl⟩

section
variable {P : Program} {B : Nat} {w0 : World} {ρ : Rho} {st st' : St} {w w' : World}

/-- What an operation comes to. -/
def Good (P : Program) (B : Nat) (w0 : World) (ρ : Rho) (st' : St) (v : Value) (r : Result Value) : Prop :=
  ∃ v' w' ρ', r = .ok v' w' ∧ ρ.le ρ' ∧ Sim P B w0 ρ' st' w' ∧ VRel ρ' v v'

theorem Good.same {v v' : Value} {r : Result Value} (hr : r = .ok v' w) (hS : Sim P B w0 ρ st' w) (hv : VRel ρ v v') : Good P B w0 ρ st' v r :=
  ⟨v', w, ρ, hr, ρ.le_refl, hS, hv⟩

theorem run_info {t : TypeId} {i : TypeInfo} (h : P.info? t = some i) (w : World) : (typeInfo t).run P w = .ok i w := by
  simp [typeInfo, h]
theorem run_size {t : TypeId} {n : Nat} (h : sizeO P t = some n) (w : World) : (sizeOf t).run P w = .ok n w := by
  unfold sizeO at h
  cases hi : P.info? t with
  | none => rw [hi] at h; cases h
  | some i => rw [hi] at h; cases h; simp [sizeOf, run_info hi]
theorem run_bytes {t : TypeId} {n : Nat} (h : bytesO P t = some n) : ∃ i, P.info? t = some i ∧ i.bytes = n := by
  unfold bytesO at h
  cases hi : P.info? t with
  | none => rw [hi] at h; cases h
  | some i => rw [hi] at h; cases h; exact ⟨i, rfl, rfl⟩
theorem run_zero {t : TypeId} {z : Value} {s s' : St} (h : zeroM P t s = some (z, s')) (w : World) :
    (zeroValue t).run P w = .ok z w ∧ plainB z = true ∧ s = s' ∧ ∃ i, P.info? t = some i ∧ i.zero = some z := by
  unfold zeroM at h
  cases hi : P.info? t with
  | none => rw [hi] at h; exact (fail_some.1 h).elim
  | some i =>
    rw [hi] at h
    simp only at h
    cases hz : i.zero with
    | none => rw [hz] at h; exact (fail_some.1 h).elim
    | some v =>
      rw [hz] at h
      obtain ⟨hp, e⟩ := plain_some.1 h
      cases e
      exact ⟨by simp [zeroValue, run_info hi, hz], hp, rfl, i, rfl, hz⟩
theorem run_agg {t : TypeId} {b : Bool} (h : isAggO P t = some b) (w : World) : (isAgg t).run P w = .ok b w := by
  unfold isAggO at h
  cases hu : P.underlying t with
  | none => rw [hu] at h; cases h
  | some d =>
    rw [hu] at h
    cases d <;> cases h <;> simp [isAgg, run_underlying hu]

theorem cells_length (v : Value) : (cellsOf v).length = v.cells.size := by cases v <;> simp [cellsOf, Value.cells]
theorem cells_toList (v : Value) : v.cells.toList = cellsOf v := by cases v <;> simp [cellsOf, Value.cells]
theorem VRel.cells {v v' : Value} (h : VRel ρ v v') : LRel ρ (cellsOf v) (cellsOf v') := by
  cases h with
  | agg ha h1 => exact (VRel.agg_iff.1 (.agg ha h1)).elim fun a' x => by obtain ⟨e, l⟩ := x; cases e; exact l
  | tuple ha h1 => exact LRel.single (.tuple ha h1)
  | bool b => exact LRel.single (.bool b)
  | int k n => exact LRel.single (.int k n)
  | string s => exact LRel.single (.string s)
  | pnil => exact LRel.single .pnil
  | ptr h => exact LRel.single (.ptr h)
  | snil => exact LRel.single .snil
  | semp a c => exact LRel.single (.semp a c)
  | slice h hc => exact LRel.single (.slice h hc)
  | mnil => exact LRel.single .mnil
  | map h => exact LRel.single (.map h)
  | fnil => exact LRel.single .fnil
  | func fn a b c d => exact LRel.single (.func fn a b c d)
  | inil => exact LRel.single .inil
  | iface t ht h => exact LRel.single (.iface t ht h)
  | tok s h hs =>
    have hc : cellsOf v' = [v'] := by
      have := hs.1
      clear h hs
      cases v' <;> first | rfl | (unfold oneCellB at this; cases this)
    rw [hc]
    exact LRel.single (.tok s h hs)

theorem oneCell_rel {v v' : Value} (h : VRel ρ v v') : oneCellB v' = oneCellB v := by
  cases h with
  | tok s h hs => rw [hs.1]; rfl
  | _ => rfl
theorem oneCells_rel {l l' : List Value} (h : LRel ρ l l') : l'.all oneCellB = l.all oneCellB := by
  induction l generalizing l' with
  | nil => rw [h.nil_left]
  | cons v r ih =>
    obtain ⟨v', r', rfl, h1, h2⟩ := h.cons_left
    simp [oneCell_rel h1, ih h2]

theorem cell_at {b j : Nat} {c : Array Value} {el : TypeId} {fz : Nat × Nat} (h : w.heap[b]? = some (.cells c el fz)) : w.cell? ⟨b, j, none⟩ = c[j]? := by
  simp [World.cell?, h]
theorem frozen_at {b j : Nat} {c : Array Value} {el : TypeId} {fz : Nat × Nat} (h : w.heap[b]? = some (.cells c el fz)) : w.frozen? ⟨b, j, none⟩ = (decide (fz.1 ≤ j) && decide (j < fz.2)) := by
  simp [World.frozen?, h]

theorem add_off (b o j : Nat) : (⟨b, o, none⟩ : Addr).add j = ⟨b, o + j, none⟩ := by
  unfold Addr.add
  split
  · rename_i h; subst h; rfl
  · rfl

/-- Cells that stand for a stretch of an abstract row. -/
theorem row_stretch {L : Loc} {cells : List Value} {c : Array Value} (hc : ∀ i v, cells[i]? = some v → ∃ v', c[L.o + i]? = some v' ∧ VRel ρ v v')
    (off n : Nat) (hn : off + n ≤ cells.length) : ∃ l', l'.length = n ∧ LRel ρ ((cells.drop off).take n) l' ∧ ∀ j v, l'[j]? = some v → c[L.o + off + j]? = some v := by
  refine ⟨(c.toList.drop (L.o + off)).take n, ?_, ⟨?_, ?_⟩, ?_⟩
  · by_cases h0 : n = 0
    · subst h0; simp
    · obtain ⟨v', hv, _⟩ := hc (off + n - 1) _ (List.getElem?_eq_getElem (by omega))
      have := (Array.getElem?_eq_some_iff.1 hv).1
      simp; omega
  · by_cases h0 : n = 0
    · subst h0; simp
    · obtain ⟨v', hv, _⟩ := hc (off + n - 1) _ (List.getElem?_eq_getElem (by omega))
      have := (Array.getElem?_eq_some_iff.1 hv).1
      simp; omega
  · intro i v v' h1 h2
    rw [List.getElem?_take] at h1 h2
    split at h1
    · rename_i hi
      rw [if_pos hi] at h2
      rw [List.getElem?_drop] at h1 h2
      obtain ⟨u, hu, hr⟩ := hc (off + i) v h1
      rw [Array.getElem?_toList, show L.o + off + i = L.o + (off + i) by omega, hu] at h2
      cases h2
      exact hr
    · cases h1
  · intro j v h
    rw [List.getElem?_take] at h
    split at h
    · rw [List.getElem?_drop] at h
      simpa using h
    · cases h

theorem run_cells {b o n : Nat} {c : Array Value} {el : TypeId} {fz : Nat × Nat} (h : w.heap[b]? = some (.cells c el fz)) (l : List Value) (hn : l.length = n)
    (hl : ∀ j v, l[j]? = some v → c[o + j]? = some v) : (loadCells ⟨b, o, none⟩ n).run P w = .ok l.toArray w := by
  subst hn
  refine run_loadCells_list w ⟨b, o, none⟩ l fun j v hj => ?_
  rw [add_off, cell_at h]
  exact hl j v hj

theorem load_ok {t : TypeId} {a a' v : Value} (hS : Sim P B w0 ρ st w) (ha : VRel ρ a a') (h : loadM P t a st = some (v, st')) :
    ∃ v', (Instr.loadAt t a').run P w = .ok v' w ∧ VRel ρ v v' ∧ Sim P B w0 ρ st' w := by
  unfold loadM at h
  split at h
  case h_2 => exact (fail_some.1 h).elim
  rename_i β off
  cases ha with
  | ptr hL =>
    rename_i L
    obtain ⟨x, s1, h1, h⟩ := bind_some.1 h
    obtain ⟨cs, rw, g, sz, hb, e⟩ := rowOf_some.1 h1
    cases e
    obtain ⟨_, ⟨c, el, fz, hw, hN, _, _, _, hc, _⟩, _⟩ := hS.get hb hL
    simp only at h
    obtain ⟨ag, s2, h2, h⟩ := bind_some.1 h
    obtain ⟨ag', hag, e⟩ := ofO_some.1 h2
    cases e
    cases ag with
    | true =>
      simp only at h
      obtain ⟨n, s3, h3, h⟩ := bind_some.1 h
      obtain ⟨n', hn, e⟩ := ofO_some.1 h3
      cases e
      obtain ⟨_, s4, h4, h⟩ := bind_some.1 h
      obtain ⟨hg, e⟩ := guardM_some.1 h4
      cases e
      cases (pure_some.1 h)
      obtain ⟨l', hl, hr, hcl⟩ := row_stretch hc off n (by simpa using hg)
      refine ⟨.agg l'.toArray, ?_, VRel.agg_iff.2 ⟨_, rfl, by simpa using hr⟩, hS.logs rfl hS.nextOk⟩
      simp [Instr.loadAt, Instr.sureAddr, loadVar, run_agg hag, run_size hn, run_cells hw l' hl hcl]
    | false =>
      simp only at h
      obtain ⟨u, hu, e⟩ := ofO_some.1 h
      cases e
      obtain ⟨v', hv, hr⟩ := hc off v hu
      refine ⟨v', ?_, hr, hS.logs rfl hS.nextOk⟩
      simp [Instr.loadAt, Instr.sureAddr, loadVar, run_agg hag, cell_at hw, hv]

theorem set_self {α : Type} (h : Array α) (b : Nat) (x : α) (hx : h[b]? = some x) : h.setIfInBounds b x = h := by
  apply Array.ext_getElem?
  intro i
  rw [Array.getElem?_setIfInBounds]
  split
  · rename_i e; subst e
    split
    · exact hx.symm
    · rename_i hlt
      rw [Array.getElem?_eq_none (by omega)]
  · rfl
theorem set_set {α : Type} (h : Array α) (b : Nat) (x y : α) : (h.setIfInBounds b x).setIfInBounds b y = h.setIfInBounds b y := by
  apply Array.ext_getElem?
  intro i
  simp only [Array.getElem?_setIfInBounds, Array.size_setIfInBounds]
  split
  · rfl
  · rfl

theorem splice_nil (k : Nat) (l : List Value) : splice k [] l = l := by simp [splice]
theorem splice_cons (k : Nat) (v : Value) (vs l : List Value) (h : k < l.length) : splice k (v :: vs) l = splice (k + 1) vs (l.set k v) := by
  unfold splice
  apply List.ext_getElem?
  intro i
  simp only [List.append_assoc, List.getElem?_append, List.length_take, List.length_set, List.getElem?_take, List.getElem?_set, List.getElem?_drop, List.length_cons]
  by_cases h1 : i < k
  · simp [show i < min k l.length by omega, show i < min (k + 1) l.length by omega, h1, show i < k + 1 by omega, show k ≠ i by omega]
  · by_cases h2 : i = k
    · subst h2
      simp [show ¬ i < min i l.length by omega, show i < min (i + 1) l.length by omega, h, show i - min i l.length = 0 by omega]
    · rw [if_neg (show ¬ i < min k l.length by omega), if_neg (show ¬ i < min (k + 1) l.length by omega)]
      obtain ⟨d, rfl⟩ : ∃ d, i = k + 1 + d := ⟨i - (k + 1), by omega⟩
      rw [show k + 1 + d - min k l.length = d + 1 by omega, show k + 1 + d - min (k + 1) l.length = d by omega]
      simp only [List.getElem?_cons_succ]
      split
      · rw [if_pos (by omega)]
      · rw [if_neg (by omega), if_neg (by omega)]
        congr 1
        omega
theorem splice_length (k : Nat) (vs l : List Value) (h : k + vs.length ≤ l.length) : (splice k vs l).length = l.length := by simp [splice]; omega
theorem splice_get (k : Nat) (vs l : List Value) (h : k + vs.length ≤ l.length) (i : Nat) :
    (splice k vs l)[i]? = if k ≤ i ∧ i < k + vs.length then vs[i - k]? else l[i]? := by
  unfold splice
  simp only [List.append_assoc, List.getElem?_append, List.length_take, List.getElem?_take, List.getElem?_drop]
  by_cases h1 : i < k
  · simp [show i < min k l.length by omega, h1, show ¬ k ≤ i by omega]
  · rw [if_neg (show ¬ i < min k l.length by omega)]
    by_cases h2 : i < k + vs.length
    · rw [if_pos (by omega), if_pos (by omega)]; congr 1; omega
    · rw [if_neg (by omega), if_neg (by omega)]; congr 1; omega

theorem run_storeCells' (P : Program) (b o : Nat) : ∀ (vs : List Value) (i : Nat) (w : World) (c : Array Value) (el : TypeId) (fz : Nat × Nat),
    w.heap[b]? = some (.cells c el fz) → o + i + vs.length ≤ c.size → vs.all oneCellB = true → (∀ j, o + i ≤ j → j < o + i + vs.length → ¬ (fz.1 ≤ j ∧ j < fz.2)) →
    (storeCells ⟨b, o, none⟩ vs i).run P w = .ok () { w with heap := w.heap.setIfInBounds b (.cells (splice (o + i) vs c.toList).toArray el fz) } := by
  intro vs
  induction vs with
  | nil =>
    intro i w c el fz hw _ _ _
    simp only [storeCells, splice_nil]
    rw [set_self _ _ _ (by simpa using hw)]
    rfl
  | cons v vs ih =>
    intro i w c el fz hw hs ho hf
    simp only [List.all_cons, Bool.and_eq_true] at ho
    simp only [List.length_cons] at hs hf
    have hv : v.oneCell' = true := by cases v <;> first | rfl | exact ho.1
    have hcell : w.cell? ⟨b, o + i, none⟩ = c[o + i]? := cell_at hw
    have hfr : w.frozen? ⟨b, o + i, none⟩ = false := by
      rw [frozen_at hw]
      have := hf (o + i) (by omega) (by omega)
      simp at this ⊢
      exact this
    have hget : c[o + i]? = some c[o + i] := Array.getElem?_eq_getElem (by omega)
    have hb : b < w.heap.size := (Array.getElem?_eq_some_iff.1 hw).1
    have hset : w.setCell ⟨b, o + i, none⟩ v = { w with heap := w.heap.setIfInBounds b (.cells (c.setIfInBounds (o + i) v) el fz) } := by
      unfold World.setCell
      congr 1
      apply Array.ext_getElem?
      intro k
      rw [Array.getElem?_modify, Array.getElem?_setIfInBounds]
      by_cases e : b = k
      · subst e
        have hwb : w.heap[b] = .cells c el fz := by simpa [Array.getElem?_eq_getElem hb] using hw
        simp [hb, hwb]
      · simp [e]
    simp only [storeCells, Sem.run_bind]
    rw [add_off, run_store P w _ v _ hv, hcell, hget]
    simp only [hfr, Bool.false_eq_true, if_false, Result.andThen_ok, hset]
    have hw2 : ({ w with heap := w.heap.setIfInBounds b (.cells (c.setIfInBounds (o + i) v) el fz) } : World).heap[b]? = some (.cells (c.setIfInBounds (o + i) v) el fz) := by
      simp [hb]
    have := ih (i + 1) _ (c.setIfInBounds (o + i) v) el fz hw2 (by simp; omega) ho.2 (fun j h1 h2 => hf j (by omega) (by omega))
    rw [this]
    simp only [set_set, Array.toList_setIfInBounds]
    rw [splice_cons _ _ _ _ (by simp; omega), show o + (i + 1) = o + i + 1 by omega]

/-- Cells of an own row are written; cs2: what it holds then. -/
theorem Sim.write (hS : Sim P B w0 ρ st w) {β k : Nat} {cs cs2 : List Value} {g : Bool} {sz : Nat} {L : Loc} {vs vs' : List Value}
    (hb : st.heap.get β = some (.row cs true g sz)) (hL : ρ β = some L) (hv : LRel ρ vs vs') (hone : vs.all oneCellB = true)
    (hin : L.o + k + vs.length ≤ (if g then L.N else L.o + cs.length)) (hN2 : L.o + cs2.length ≤ L.N) (hg2 : g = false → cs2.length = cs.length)
    (hcs : ∀ i v, cs2[i]? = some v → (k ≤ i ∧ i < k + vs.length ∧ vs[i - k]? = some v) ∨ (¬ (k ≤ i ∧ i < k + vs.length) ∧ cs[i]? = some v)) (l : List Nat) :
    ∃ w', (storeCells ⟨L.b, L.o + k, none⟩ vs').run P w = .ok () w' ∧
      Sim P B w0 ρ { st with heap := PT.set (.row cs2 true g sz) (β + 1) β st.heap, wr := l } w' := by
  obtain ⟨hlt, ⟨c, el, fz, hw, hN, hg, hgg, hle, hc, hfz⟩, hB⟩ := hS.get hb hL
  have hvl := hv.1
  have hinN : L.o + k + vs.length ≤ L.N := by
    cases g with
    | true => simpa using hin
    | false => simp at hin; omega
  have hrun := run_storeCells' P L.b (L.o + k) vs' 0 w c el fz hw (by omega) (by rw [oneCells_rel hv]; exact hone)
    (fun j h1 h2 => hfz rfl j (by omega) (by omega))
  refine ⟨_, hrun, ?_⟩
  have hcl : c.toList.length = c.size := by simp
  have hget' : ∀ i, (splice (L.o + k) vs' c.toList).toArray[i]? = if L.o + k ≤ i ∧ i < L.o + k + vs'.length then vs'[i - (L.o + k)]? else c[i]? := fun i => by
    rw [List.getElem?_toArray, splice_get _ _ _ (by omega)]
    simp
  have hsz : (splice (L.o + k) vs' c.toList).toArray.size = L.N := by
    simp [splice_length _ _ _ (show L.o + k + vs'.length ≤ c.toList.length by omega), hN]
  have hext : (if g then L.N else L.o + cs2.length) = (if g then L.N else L.o + cs.length) := by
    cases g with
    | true => rfl
    | false => simp [hg2 rfl]
  refine hS.upd (b := .row cs true g sz) hb hL rfl ?_ ?_ ?_ l
  · intro i j hi
    simp only [InExt] at hi ⊢
    rw [hext] at hi
    exact hi
  · refine ⟨(splice (L.o + k) vs' c.toList).toArray, el, fz, by simp [hlt], hsz, hg, hgg, hN2, ?_, ?_⟩
    · intro i v hi
      rw [hget']
      rcases hcs i v hi with ⟨h1, h2, h3⟩ | ⟨h1, h2⟩
      · rw [if_pos (by omega)]
        obtain ⟨v', h1, h2⟩ := hv.get h3
        exact ⟨v', by rw [show L.o + i - (L.o + k) = i - k by omega]; exact h1, h2⟩
      · rw [if_neg (by omega)]
        exact hc i v h2
    · intro _ j h1 h2
      rw [hext] at h2
      exact hfz rfl j h1 h2
  · intro γ d K hne hd hK hKb hrel hsep
    have hwK := hw
    rw [← hKb] at hwK
    cases d with
    | row ds rw' g' sz' =>
      obtain ⟨c2, el2, fz2, k1, k2, k3, k4, k5, k6, k7⟩ := hrel
      have e := Option.some.inj (hwK.symm.trans k1)
      cases e
      refine ⟨(splice (L.o + k) vs' c.toList).toArray, el, fz, by simp [hKb, hlt], by rw [hsz, ← hN, k2], k3, k4, k5, ?_, k7⟩
      intro i v hi
      obtain ⟨v', h1, h2⟩ := k6 i v hi
      refine ⟨v', ?_, h2⟩
      rw [hget']
      have hil : i < ds.length := (List.getElem?_eq_some_iff.1 hi).1
      have := hsep L.b (K.o + i)
      by_cases hr : L.o + k ≤ K.o + i ∧ K.o + i < L.o + k + vs'.length
      · exact absurd ⟨hKb.symm, by omega, by split <;> omega⟩ (this ⟨rfl, by omega, by omega⟩)
      · rw [if_neg hr]; exact h1
    | map es clock => obtain ⟨es', h1, _⟩ := hrel; rw [hwK] at h1; cases h1
    | siter s pos => have h1 := hrel.2; rw [hwK] at h1; cases h1
    | miter m since seen stp =>
      cases m with
      | none => have h1 := hrel.2; rw [hwK] at h1; cases h1
      | some m => obtain ⟨_, K', _, h1⟩ := hrel; rw [hwK] at h1; cases h1
    | dead => trivial

/-- A stretch of an own row is written. -/
theorem Sim.store (hS : Sim P B w0 ρ st w) {β off : Nat} {cs : List Value} {g : Bool} {sz : Nat} {L : Loc} {vs vs' : List Value}
    (hb : st.heap.get β = some (.row cs true g sz)) (hL : ρ β = some L) (hv : LRel ρ vs vs') (hlen : off + vs.length ≤ cs.length) (hone : vs.all oneCellB = true) (l : List Nat) :
    ∃ w', (storeCells ⟨L.b, L.o + off, none⟩ vs').run P w = .ok () w' ∧
      Sim P B w0 ρ { st with heap := PT.set (.row (splice off vs cs) true g sz) (β + 1) β st.heap, wr := l } w' := by
  obtain ⟨_, ⟨c, el, fz, hw, hN, hg, hgg, hle, hc, hfz⟩, _⟩ := hS.get hb hL
  refine hS.write hb hL hv hone (by split <;> omega) (by rw [splice_length off vs cs hlen]; exact hle) (fun _ => splice_length off vs cs hlen) ?_ l
  intro i v hi
  rw [splice_get _ _ _ hlen] at hi
  split at hi
  · rename_i hr; exact .inl ⟨hr.1, hr.2, hi⟩
  · rename_i hr; exact .inr ⟨hr, hi⟩

theorem store_ok {t : TypeId} {a a' v v' r : Value} (hS : Sim P B w0 ρ st w) (ha : VRel ρ a a') (hv : VRel ρ v v') (h : storeM P t a v st = some (r, st')) :
    ∃ w', (Instr.storeAt t a' v').run P w = .ok () w' ∧ r = undef ∧ Sim P B w0 ρ st' w' := by
  unfold storeM at h
  split at h
  case h_2 => exact (fail_some.1 h).elim
  rename_i β off
  cases ha with
  | ptr hL =>
    rename_i L
    obtain ⟨x, s1, h1, h⟩ := bind_some.1 h
    obtain ⟨cs, rw', g, sz, hb, e⟩ := rowOf_some.1 h1
    cases e
    simp only at h
    obtain ⟨n, s3, h3, h⟩ := bind_some.1 h
    obtain ⟨n', hn, e⟩ := ofO_some.1 h3
    cases e
    obtain ⟨_, s4, h4, h⟩ := bind_some.1 h
    obtain ⟨hg, e⟩ := guardM_some.1 h4
    cases e
    obtain ⟨_, s5, h5, h⟩ := bind_some.1 h
    obtain ⟨_, e⟩ := setB_some.1 h5
    cases e
    cases (pure_some.1 h)
    simp only [Bool.and_eq_true, beq_iff_eq, decide_eq_true_eq] at hg
    obtain ⟨⟨⟨hrw, hl⟩, hle⟩, hone⟩ := hg
    subst hrw
    have hlen : off + (cellsOf v).length ≤ cs.length := by rw [hl]; exact hle
    obtain ⟨w', hr, hS'⟩ := hS.store hb hL hv.cells hlen hone (β :: st.wr)
    refine ⟨w', ?_, rfl, hS'.logs rfl hS'.nextOk⟩
    have hsz : v'.cells.size = n := by rw [← cells_length, ← hv.cells.1]; exact hl
    simp [Instr.storeAt, Instr.sureAddr, storeVar, run_size hn, hsz, cells_toList, hr]

/-- A new row of the call's own. -/
theorem Sim.newRow (hS : Sim P B w0 ρ st w) {cs cs' : List Value} {sz : Nat} {el : TypeId} (hn : st.heap.get st.next = none) (hc : LRel ρ cs cs') :
    let L : Loc := ⟨w.heap.size, 0, false, sz, cs'.length⟩
    (Go.newRow el cs'.toArray).run P w = .ok ⟨w.heap.size, 0, none⟩ (w.alloc (.cells cs'.toArray el)) ∧
    ρ.le (ρ.upd st.next L) ∧
    Sim P B w0 (ρ.upd st.next L) { st with heap := PT.set (.row cs true false sz) (st.next + 1) st.next st.heap, next := st.next + 1 } (w.alloc (.cells cs'.toArray el)) := by
  intro L
  have hρ := hS.fresh _ hn
  have hle := Rho.upd_le L hρ
  refine ⟨rfl, hle, hS.alloc (b := .row cs true false sz) hn rfl ?_⟩
  refine ⟨cs'.toArray, el, (0, 0), ?_, by simp [L], rfl, by simp, by simp [L, hc.1], ?_, ?_⟩
  · show (w.heap.push (.cells cs'.toArray el))[w.heap.size]? = _
    simp
  · intro i v hi
    obtain ⟨v', h1, h2⟩ := hc.get hi
    exact ⟨v', by simpa [L] using h1, h2.mono hle⟩
  · intro _ j _ _ ⟨h1, h2⟩
    simp at h2

theorem newPtr_ok {cs cs' : List Value} {v : Value} {el : TypeId} (hS : Sim P B w0 ρ st w) (hc : LRel ρ cs cs') (h : newPtr cs st = some (v, st')) :
    ∃ w' ρ' L, (Go.newRow el cs'.toArray).run P w = .ok ⟨L, 0, none⟩ w' ∧ ρ.le ρ' ∧ Sim P B w0 ρ' st' w' ∧ VRel ρ' v (.pointer (some ⟨L, 0, none⟩)) := by
  unfold newPtr at h
  obtain ⟨β, s1, h1, h⟩ := bind_some.1 h
  obtain ⟨hn, e⟩ := newB_some.1 h1
  cases e
  cases (pure_some.1 h)
  obtain ⟨h1, h2, h3⟩ := hS.newRow (sz := 0) (el := el) hn hc
  exact ⟨_, _, _, h1, h2, h3, .ptr (Rho.upd_same _ _ _)⟩

theorem part_ok {t : TypeId} {cs cs' : Array Value} {off : Nat} {v : Value} (hc : LRel ρ cs.toList cs'.toList) (h : partM P t cs off st = some (v, st')) :
    ∃ v', (part t cs' off).run P w = .ok v' w ∧ VRel ρ v v' ∧ st' = st := by
  unfold partM at h
  obtain ⟨ag, s2, h2, h⟩ := bind_some.1 h
  obtain ⟨ag', hag, e⟩ := ofO_some.1 h2
  cases e
  cases ag with
  | true =>
    simp only at h
    obtain ⟨n, s3, h3, h⟩ := bind_some.1 h
    obtain ⟨n', hn, e⟩ := ofO_some.1 h3
    cases e
    cases (pure_some.1 h)
    refine ⟨.agg (cs'.extract off (off + n)), by simp [part, run_agg hag, run_size hn], VRel.agg_iff.2 ⟨_, rfl, ?_⟩, rfl⟩
    simp only [Array.toList_extract]
    exact (hc.drop off).take _
  | false =>
    simp only at h
    obtain ⟨u, hu, e⟩ := ofO_some.1 h
    cases e
    obtain ⟨v', h1, h2⟩ := hc.get (i := off) (v := v) (by simpa using hu)
    exact ⟨v', by simp [part, run_agg hag, show cs'[off]? = some v' by simpa using h1], h2, rfl⟩
end
end Go.Ev
