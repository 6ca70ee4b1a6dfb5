/-
  A function that is run alone, from the global rows, says what its call does in every world; the terms' meanings are single; the oracle of a path.
-/
import Derived.Test.YtmnojjfamfpmnaaGreatDoorEvxR
set_option linter.unusedVariables false
set_option linter.unusedSimpArgs false
set_option linter.unusedSectionVars false
set_option linter.unnecessarySimpa false
set_option linter.unusedSectionVars false
namespace Go.Ev
open Go.RowKit

section
variable [Eta]
variable {P : Program} {B : Nat} {w0 : World} {ρ : Rho} {st st' : St} {w w' : World}

/-- The world has grown, no more. -/
theorem Sim.grow (h : Sim P B w0 ρ st w) (hb : Below w.heap.size w w') : Sim P B w0 ρ st w' :=
  ⟨h.below.trans (hb.mono h.base), Nat.le_trans h.base hb.size, h.nextOk,
    fun β b hβ => let ⟨L, a, c, d, e⟩ := h.blk β b hβ; ⟨L, a, Nat.lt_of_lt_of_le c hb.size, d.of_heap (hb.block _ c), e⟩, h.sep, h.fresh, h.glob, h.mem⟩

/-- A row that is only read, of plain cells. -/
def roRow (b : Blk) : Prop := ∃ cs g sz, b = .row cs false g sz ∧ cs.all plainB = true

def restr (ρ : Rho) (s : St) : Rho := fun β => if (s.heap.get β).isSome then ρ β else none

theorem Sim.restart (h : Sim P B w0 ρ st w) {st1 : St} (hsub : ∀ β b, st1.heap.get β = some b → st.heap.get β = some b ∧ roRow b) (hn : P.globals.size ≤ st1.next) :
    Sim P w.heap.size w (restr ρ st1) st1 w := by
  refine ⟨Below.refl _ _, Nat.le_refl _, hn, ?_, ?_, ?_, ?_, fun b o v hm => by
    obtain ⟨h1, h2⟩ := h.mem b o v hm
    refine ⟨Nat.lt_of_lt_of_le h1 h.base, ?_⟩
    rw [← h2]
    unfold World.cell?
    rw [h.below.block _ h1]⟩
  · intro β b hb
    obtain ⟨h1, cs, g, sz, rfl, hp⟩ := hsub β b hb
    obtain ⟨L, a, c, d, e⟩ := h.blk β _ h1
    refine ⟨L, by simp [restr, hb, a], c, ?_, fun x => by cases x⟩
    obtain ⟨cc, el, fz, k1, k2, k3, k4, k5, k6, k7⟩ := d
    refine ⟨cc, el, fz, k1, k2, k3, k4, k5, fun i v hv => ?_, k7⟩
    obtain ⟨v', e1, e2⟩ := k6 i v hv
    have hpv : plainB v = true := (List.all_eq_true.1 hp) v (List.mem_of_getElem? hv)
    rw [plainB_eq hpv e2] at e1
    exact ⟨v, e1, plainB_rel hpv⟩
  · intro β γ b c L K _ hb _ _ _ hown
    obtain ⟨_, cs, g, sz, rfl, _⟩ := hsub β b hb
    cases hown
  · intro β hβ
    simp [restr, hβ]
  · intro g hg L hL
    unfold restr at hL
    split at hL
    · exact h.glob g hg L hL
    · cases hL

/-- The oracle that knows nothing. -/
abbrev O0 : Orc := ⟨fun _ => none, fun _ => none, fun _ => none⟩

/-- A function that is run alone. -/
theorem alone_ok (hNG : NoGoroutines P) (hm : P.follows .mixedOrders = true) {n : Nat} {f : FuncId} {l : List Value} {v : Value} {st1 st1' : St} (hrun : @ev O0 P n f l st1 = some (v, st1')) (hv : plainB v = true) (hl : l.all plainB = true)
    (hS : Sim P B w0 ρ st w) (hsub : ∀ β b, st1.heap.get β = some b → st.heap.get β = some b ∧ roRow b) (hn : P.globals.size ≤ st1.next) :
    Calls P f l.toArray w fun e w' => e = .returned v ∧ Below w.heap.size w w' := by
  have hS1 := hS.restart hsub hn
  have ok : @OrcOk O0 _ := @OrcOk.mk O0 _ (fun e b v h _ => by cases h) (fun e ss v h _ => by cases h)
  refine Calls.mono (@ev_ok O0 _ ok P w.heap.size w hNG hm (fun f g h => by cases h) n (restr ρ st1) st1 w f l l v st1' hS1 (LRel.refl_of fun u hu => plainB_rel ((List.all_eq_true.1 hl) u hu)) hrun) ?_
  intro e w' ⟨v', ρ', he, _, hS', hv'⟩
  rw [plainB_eq hv hv'] at he
  exact ⟨he, hS'.below⟩

/-- A term means one thing. -/
theorem Den.single {e v v' : Value} (h : Den e v) (h' : Den e v') : v' = v := by
  induction h generalizing v' with
  | bool b => cases h'; rfl
  | int k n => cases h'; rfl
  | string s => cases h'; rfl
  | var i => cases h'; rfl
  | node f hl hp hr ih =>
    rename_i l l' r
    generalize he : term f l = e at h'
    cases h' with
    | node f2 hl2 hp2 hr2 =>
      rename_i l2 l2'
      unfold term at he
      injection he with e1 e2 e3
      injection e1 with e1
      subst e1
      have : l = l2 := by simpa using congrArg Array.toList e2
      subst this
      have : l' = l2' := by
        apply List.ext_getElem?
        intro i
        cases h1 : l'[i]? with
        | none =>
          have : l'.length ≤ i := List.getElem?_eq_none_iff.1 h1
          exact (List.getElem?_eq_none_iff.2 (by omega)).symm
        | some v =>
          have hi : i < l'.length := (List.getElem?_eq_some_iff.1 h1).1
          have g1 := List.getElem?_eq_getElem (l := l) (i := i) (by omega)
          have g2 := List.getElem?_eq_getElem (l := l2') (i := i) (by omega)
          rw [g2, ih i _ v g1 h1 (hp2 i _ _ g1 g2)]
      subst this
      exact Option.some.inj (hr2.symm.trans hr)
    | _ => unfold term at he; cases he
end

/-- Are the two terms the same to the sign? -/
def veqL (f : Value → Value → Bool) : List Value → List Value → Bool
  | [], [] => true
  | a :: r, b :: q => f a b && veqL f r q
  | _, _ => false
def veq : Nat → Value → Value → Bool
  | 0, _, _ => false
  | n + 1, a, b => match a, b with
    | .bool x, .bool y => x == y
    | .int k x, .int k' y => decide (k = k') && decide (x = y)
    | .string x, .string y => decide (x.data.toList = y.data.toList)
    | .chan (some i), .chan (some j) => i == j
    | .func (.func f) a c, .func (.func g) b d => f == g && veqL (veq n) a.toList b.toList && veqL (veq n) c.toList d.toList
    | _, _ => false

theorem veqL_eq {f : Value → Value → Bool} (hf : ∀ a b, f a b = true → a = b) : ∀ {l q : List Value}, veqL f l q = true → l = q := by
  intro l
  induction l with
  | nil => intro q h; cases q with
    | nil => rfl
    | cons b q => cases h
  | cons a r ih => intro q h; cases q with
    | nil => cases h
    | cons b q =>
      simp only [veqL, Bool.and_eq_true] at h
      rw [hf a b h.1, ih h.2]
theorem veq_eq : ∀ (n : Nat) (a b : Value), veq n a b = true → a = b := by
  intro n
  induction n with
  | zero => intro a b h; cases h
  | succ n ih =>
    intro a b h
    unfold veq at h
    split at h
    · simp at h; rw [h]
    · simp only [Bool.and_eq_true, decide_eq_true_eq] at h; rw [h.1, h.2]
    · rename_i x y
      simp only [decide_eq_true_eq] at h
      have : x = y := by
        cases x; cases y
        simp only [ByteArray.mk.injEq]
        exact Array.toList_inj.1 h
      rw [this]
    · simp at h; rw [h]
    · simp only [Bool.and_eq_true] at h
      have h1 := Array.toList_inj.1 (veqL_eq ih h.1.2)
      have h2 := Array.toList_inj.1 (veqL_eq ih h.2)
      have h3 := h.1.1
      simp at h3
      rw [h1, h2, h3]
    · cases h

/-- What every oracle knows: a thing is itself and not less than itself. -/
def reflO (e : Value) : Option Bool := match e with
  | .func (.func f) a _ => (match a.toList with
    | [x, y] => if veq 60 x y then (if f = 1 then some true else if f = 2 then some false else none) else none
    | _ => none)
  | _ => none
def lookO : List (Value × Bool) → Value → Option Bool
  | [], e => reflO e
  | (x, b) :: r, e => if veq 60 x e then some b else lookO r e
end Go.Ev
