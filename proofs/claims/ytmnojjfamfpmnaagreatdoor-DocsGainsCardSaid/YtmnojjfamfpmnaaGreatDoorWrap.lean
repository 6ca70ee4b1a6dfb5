/-
  The laid variable of the Docs seat; what stays of the arguments.
-/
import Derived.Test.YtmnojjfamfpmnaaGreatDoorWalk
import Derived.Test.YtmnojjfamfpmnaaGreatDoorRows
import Derived.WalkKit
import Derived.ProofKit
import Derived.Carry
import Derived.OpenShut
import Derived.ChangeVars
import Derived.ChangeSame
import Derived.JoinedOf
import Derived.RowKit
import Derived.LaidLaws
import Derived.LaidHandle
import Derived.Stop.Joined
import Derived.LaidMore
import Derived.Lay
import Derived.LaidOnce
import Derived.SevenTiedAt
import Derived.Test.YtmnojjfamfpmnaaGreatDoorTie
set_option linter.unusedVariables false
set_option linter.unusedSimpArgs false
set_option linter.unusedSectionVars false
set_option linter.unnecessarySimpa false
namespace Go.Proofs.YtmnojjfamfpmnaaGreatDoor
open Go Go.ChangeShapes Go.WideShapes Go.RowKit

theorem own : ownKnob Tryz.prog.godebug = none := by kernel_rfl
theorem laidOut : laidOutB Tryz.prog = true := by kernel_rfl
theorem gname : Tryz.prog.globalNamed "accounting/days.lengths" = some 0 := by kernel_rfl
theorem gtype : (Tryz.prog.globals[0]?).map (·.type) = some 156 := by kernel_rfl
theorem gcells : Tryz.prog.cellsOf 156 = 12 := by kernel_rfl
theorem icells : Tryz.prog.cellsOf 3 = 1 := by kernel_rfl
theorem gunder : Tryz.prog.underlying 156 = some (.array 12 3) := by kernel_rfl
theorem iunder : Tryz.prog.underlying 3 = some (.int .i64) := by kernel_rfl
theorem gsize : Tryz.prog.globals.size = 1 := by kernel_rfl


theorem int_of_trod {H : Type} {enc : TypeId × Value → H} {P : Program} {w : World} {base : Nat} {sp : Nat → Bool} {held : Bool} {fuel : Nat} {t : TypeId} {k : IntKind} {c : Value} {y : DataW H × List MemPlace}
    (ht : P.underlying t = some (.int k)) (h : DataW.trod enc P w base sp held fuel t [c] = some y) : ∃ n, c = .int k n ∧ y = (.lit (.int k n), []) := by
  cases fuel with
  | zero => simp [DataW.trod] at h
  | succ fuel =>
    cases c <;> simp [DataW.trod, ht] at h
    rename_i k' n
    obtain ⟨⟨rfl, _⟩, rfl⟩ := h
    exact ⟨n, rfl, rfl⟩

theorem cells_of_laid {W : World} (h : laidMet Tryz.prog [("accounting/days.lengths", Rows.laid_accounting_days_lengths)] W) : W.var? Tryz.prog "accounting/days.lengths" = some Lw.lens.toArray := by
  obtain ⟨ps, ⟨g, t, cs, fuel, p, q, hg, ht, hvar, hd, _, _⟩, _⟩ := h
  obtain rfl := Option.some.inj (gname.symm.trans hg)
  obtain rfl := Option.some.inj (gtype.symm.trans ht)
  rw [hvar]
  congr 1
  obtain ⟨l⟩ := cs
  cases fuel with
  | zero => simp [DataW.trod] at hd
  | succ fuel =>
    simp only [DataW.trod, gunder, gcells, icells] at hd
    split at hd
    · rename_i hl
      obtain ⟨c0, c1, c2, c3, c4, c5, c6, c7, c8, c9, c10, c11, rfl⟩ : ∃ c0 c1 c2 c3 c4 c5 c6 c7 c8 c9 c10 c11, l = [c0, c1, c2, c3, c4, c5, c6, c7, c8, c9, c10, c11] := by
        match l, hl with
        | [a, b, c, d, e, f, g, h, i, j, k, l], _ => exact ⟨a, b, c, d, e, f, g, h, i, j, k, l, rfl⟩
      have e : List.range 12 = [0, 1, 2, 3, 4, 5, 6, 7, 8, 9, 10, 11] := rfl
      rw [e] at hd
      simp only [Option.map_eq_some_iff, List.mapM_cons, List.mapM_nil, Option.bind_eq_bind, Option.bind_eq_some_iff, Option.pure_def, Option.some.injEq] at hd
      obtain ⟨xs, ⟨y0, h0, _, ⟨y1, h1, _, ⟨y2, h2, _, ⟨y3, h3, _, ⟨y4, h4, _, ⟨y5, h5, _, ⟨y6, h6, _, ⟨y7, h7, _, ⟨y8, h8, _, ⟨y9, h9, _, ⟨y10, h10, _, ⟨y11, h11, _, rfl, rfl⟩, rfl⟩, rfl⟩, rfl⟩, rfl⟩, rfl⟩, rfl⟩, rfl⟩, rfl⟩, rfl⟩, rfl⟩, rfl⟩, hx⟩ := hd
      obtain ⟨n0, rfl, rfl⟩ := int_of_trod iunder h0
      obtain ⟨n1, rfl, rfl⟩ := int_of_trod iunder h1
      obtain ⟨n2, rfl, rfl⟩ := int_of_trod iunder h2
      obtain ⟨n3, rfl, rfl⟩ := int_of_trod iunder h3
      obtain ⟨n4, rfl, rfl⟩ := int_of_trod iunder h4
      obtain ⟨n5, rfl, rfl⟩ := int_of_trod iunder h5
      obtain ⟨n6, rfl, rfl⟩ := int_of_trod iunder h6
      obtain ⟨n7, rfl, rfl⟩ := int_of_trod iunder h7
      obtain ⟨n8, rfl, rfl⟩ := int_of_trod iunder h8
      obtain ⟨n9, rfl, rfl⟩ := int_of_trod iunder h9
      obtain ⟨n10, rfl, rfl⟩ := int_of_trod iunder h10
      obtain ⟨n11, rfl, rfl⟩ := int_of_trod iunder h11
      simp [Rows.laid_accounting_days_lengths] at hx
      obtain ⟨⟨rfl, rfl, rfl, rfl, rfl, rfl, rfl, rfl, rfl, rfl, rfl, rfl⟩, _⟩ := hx
      rfl
    · cases hd

def laidL {H : Type} : List (String × DataW H) := [("accounting/days.lengths", Rows.laid_accounting_days_lengths)]

theorem cell_of_laid {W : World} (h : laidMetH Tryz.prog laidL W) : ∃ el fz, W.heap[0]? = some (.cells Lw.lens.toArray el fz) := by
  rw [MakeChecks.laidMetH_plain _ _ _ (by kernel_rfl)] at h
  have hv := cells_of_laid h
  unfold World.var? at hv
  rw [gname] at hv
  simp only [Option.bind_some] at hv
  split at hv
  · rename_i cs el fz hc
    cases hv
    exact ⟨el, fz, hc⟩
  · cases hv

theorem args_stay {H : Type} {enc : TypeId × Value → H} {W W' : World} (hb : Below W.heap.size W W') : ∀ {ts : List TypeId} {vs : List Value} {ds : List (DataW H)} {p : List MemPlace},
    (∀ t, t ∈ ts → Tryz.prog.readableRec t = true ∧ t < Tryz.prog.types.size) → DataW.TrodAll enc Tryz.prog W 0 (fun _ => true) true ts vs ds p →
    DataW.TrodAll enc Tryz.prog W' 0 (fun b => decide (b < W.heap.size)) true ts vs ds p := by
  intro ts
  induction ts with
  | nil => intro vs ds p _ h; obtain ⟨rfl, rfl, rfl⟩ := trodAll_nil h; exact rfl
  | cons t q ih =>
    intro vs ds p ht h
    obtain ⟨v, vs', d, ds', p1, p2, rfl, rfl, rfl, h1, h2⟩ := trodAll_cons h
    have hlt : ∀ x ∈ p1, x.block < W.heap.size := by obtain ⟨m, hm⟩ := h1; exact DataW.trod_lt m _ _ _ hm
    exact ⟨p1, p2, Below.trod laidOut (ht t (by simp)).1 (ht t (by simp)).2 h1 hb hlt, ih (fun u hu => ht u (by simp [hu])) h2, rfl⟩

end Go.Proofs.YtmnojjfamfpmnaaGreatDoor
