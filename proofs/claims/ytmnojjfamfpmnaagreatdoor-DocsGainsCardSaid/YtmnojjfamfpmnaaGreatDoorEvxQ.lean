/-
  A region whose order the model draws, in any order; a body; a call: what the evaluator says of it is what the model does.
-/
import Derived.Test.YtmnojjfamfpmnaaGreatDoorEvxO
set_option linter.unusedVariables false
set_option linter.unusedSimpArgs false
set_option linter.unusedSectionVars false
set_option linter.unnecessarySimpa false
set_option linter.unusedSectionVars false
namespace Go.Ev
open Go.RowKit
variable [Orc] [Eta] [OrcOk]
section
variable {P : Program} {B : Nat} {w0 : World} {ρ : Rho} {st st' : St} {w w' : World}
variable {call : FuncId → List Value → M Value} {ops : Array Oper} {fr0 : Fr} {st0 : St}

theorem Sim.congr (h : Sim P B w0 ρ st w) (hh : ∀ β, st'.heap.get β = st.heap.get β) (hn : P.globals.size ≤ st'.next) : Sim P B w0 ρ st' w :=
  ⟨h.below, h.base, hn, fun β b hb => h.blk β b (by rw [← hh]; exact hb), fun β γ b c L K hne hb hc => h.sep β γ b c L K hne (by rw [← hh]; exact hb) (by rw [← hh]; exact hc),
    fun β hβ => h.fresh β (by rw [← hh]; exact hβ), h.glob, h.mem⟩

theorem FrRel.congr {fr fr' : Fr} {a : Act} (h : FrRel ρ fr a) (hn : fr'.n = fr.n) (hg : ∀ t, fr'.get t = fr.get t) : FrRel ρ fr' a := ⟨by rw [hn]; exact h.1, fun t => by rw [hg]; exact h.2 t⟩

theorem Foot.free_spec {a b : Foot} (h : Foot.free a b = true) : (∀ i, i ∈ b.rd ∨ i ∈ b.wr → a.touch i = false) ∧ ∀ i, i ∈ a.rd ∨ i ∈ a.wr → b.touch i = false := by
  unfold Foot.free Foot.hits at h
  simp only [Bool.and_eq_true, Bool.not_eq_true', Bool.or_eq_false_iff, List.any_eq_false] at h
  refine ⟨fun i hi => ?_, fun i hi => ?_⟩
  · rcases hi with hi | hi
    · simpa using h.1.1 i hi
    · simpa using h.1.2 i hi
  · rcases hi with hi | hi
    · simpa using h.2.1 i hi
    · simpa using h.2.2 i hi

/-- Of the operations, the last first: what a later one that is done says of an earlier one that is not. -/
theorem Chain.later (hL : ∀ f l, Lcl (call f l)) {S : Nat → Bool} (hC : Closed ops S) {x : Rec} {l : List Rec} : ∀ {rest : List Rec} {fr : Fr} {s : St}, Chain P call ops fr0 st0 (rest ++ x :: l) fr s → S x.d.j = false →
    ∀ y, y ∈ rest → y.d.j ≠ x.d.j ∧ x.s'.next ≤ y.s.next ∧ y.d.f = ⟨y.s'.rd, y.s'.wr, y.s.next, y.s'.next⟩ ∧ (S y.d.j = true → Oper.apart ops x.d.o y.d.o = true ∧ Foot.free x.d.f y.d.f = true) := by
  intro rest
  induction rest with
  | nil => intro fr s _ _ y hy; cases hy
  | cons z r ih =>
    intro fr s h hx y hy
    have hall := h
    cases h with
    | cons z h hfr hs hj ho hv hf hanc hed hord hn hg hin hh hnx =>
      rcases List.mem_cons.1 hy with rfl | hy
      · obtain ⟨fr2, s2, hsub⟩ := h.sub
        have hxj : x.d.j = l.length := by cases hsub with | cons x h hfr hs hj => exact hj
        have hxn : x.s'.next ≤ y.s.next := by
          rw [hs]
          simp only
          clear hall hord hed hanc hj ho
          have : ∀ (r : List Rec) (fr : Fr) (s : St), Chain P call ops fr0 st0 (r ++ x :: l) fr s → x.s'.next ≤ s.next := by
            intro r
            induction r with
            | nil => intro fr s h; cases h with | cons x h hfr hs hj ho hv hf hanc hed hord hn hg hin hh hnx => rw [hnx]; exact Nat.le_refl _
            | cons q r ih =>
              intro fr s h
              cases h with
              | cons q h hfr hs hj ho hv hf hanc hed hord hn hg hin hh hnx =>
                have h1 := ih _ _ h
                obtain ⟨R, W, k⟩ := Lcl.valM P hL _ _ _ _ _ _ hv
                have := k.nextLe
                rw [hs] at this
                simp at this
                omega
          exact this r _ _ h
        refine ⟨by rw [hj, hxj]; simp; omega, hxn, hf, fun hy2 => ?_⟩
        have hanc2 : y.d.anc.testBit x.d.j = false := by
          cases hb : y.d.anc.testBit x.d.j with
          | false => rfl
          | true =>
            have := hall.anc_in hC (fun e he hbd => hC y.d.j y.d.o hy2 (by rw [hj]; exact ho) e he hbd) hb
            rw [hx] at this; cases this
        have := (List.all_eq_true.1 hord) x.d (by simp)
        rw [hanc2] at this
        simpa using this
      · exact ih h hx y hy

/-- Of the earlier ones: one that is not done is free of this one. -/
theorem Chain.earlier {S : Nat → Bool} (hC : Closed ops S) {x : Rec} {l : List Rec} {fr : Fr} {s : St} (h : Chain P call ops fr0 st0 (x :: l) fr s)
    (hx : ∀ e, e ∈ x.d.o.after.toList → Region.binds .any e = true → S e.on = true) : ∀ y, y ∈ l → S y.d.j = false → Oper.apart ops y.d.o x.d.o = true ∧ Foot.free y.d.f x.d.f = true := by
  intro y hy hS
  have hall := h
  cases h with
  | cons x h hfr hs hj ho hv hf hanc hed hord hn hg hin hh hnx =>
    have hanc2 : x.d.anc.testBit y.d.j = false := by
      cases hb : x.d.anc.testBit y.d.j with
      | false => rfl
      | true => have := hall.anc_in hC hx hb; rw [hS] at this; cases this
    have := (List.all_eq_true.1 hord) y.d (List.mem_map.2 ⟨y, hy, rfl⟩)
    rw [hanc2] at this
    simpa using this

theorem Chain.nums {l : List Rec} {fr : Fr} {s : St} (h : Chain P call ops fr0 st0 l fr s) : ∀ y, y ∈ l → y.d.j < l.length ∧ ops[y.d.j]? = some y.d.o := by
  induction h with
  | nil => intro y hy; cases hy
  | cons x h hfr hs hj ho hv hf hanc hed hord hn hg hin hh hnx ih =>
    intro y hy
    rcases List.mem_cons.1 hy with rfl | hy
    · exact ⟨by rw [hj]; simp, by rw [hj]; exact ho⟩
    · have := ih y hy; exact ⟨by simp; omega, this.2⟩

theorem cont_skip {S : Nat → Bool} {h0 : Nat → Option Blk} {β : Nat} : ∀ {rest l : List Rec}, (∀ y, y ∈ rest → S y.d.j = true → y.d.f.touch β = false) → cont S h0 (rest ++ l) β = cont S h0 l β := by
  intro rest
  induction rest with
  | nil => intro l _; rfl
  | cons y r ih =>
    intro l h
    simp only [List.cons_append, cont]
    rw [ih fun z hz => h z (by simp [hz])]
    split
    · rename_i hc
      simp only [Bool.and_eq_true] at hc
      rw [h y (by simp) hc.1] at hc
      cases hc.2
    · rfl
theorem cont_full {S : Nat → Bool} {h0 : Nat → Option Blk} {β : Nat} : ∀ {l : List Rec}, (∀ y, y ∈ l → S y.d.j = false → y.d.f.touch β = false) → cont S h0 l β = cont (fun _ => true) h0 l β := by
  intro l
  induction l with
  | nil => intro _; rfl
  | cons y r ih =>
    intro h
    simp only [cont, Bool.true_and]
    rw [ih fun z hz => h z (by simp [hz])]
    cases hs : S y.d.j with
    | true => simp
    | false => simp [h y (by simp) hs]
theorem cont_alike {S S' : Nat → Bool} {h0 : Nat → Option Blk} {β : Nat} : ∀ {l : List Rec}, (∀ y, y ∈ l → S' y.d.j = S y.d.j) → cont S' h0 l β = cont S h0 l β := by
  intro l
  induction l with
  | nil => intro _; rfl
  | cons y r ih => intro h; simp only [cont]; rw [ih fun z hz => h z (by simp [hz]), h y (by simp)]
theorem fcont_skip {S : Nat → Bool} {g0 : Nat → Option Value} {t : Nat} : ∀ {rest l : List Rec}, (∀ y, y ∈ rest → S y.d.j = true → y.d.o.dst ≠ some t) → fcont S g0 (rest ++ l) t = fcont S g0 l t := by
  intro rest
  induction rest with
  | nil => intro l _; rfl
  | cons y r ih =>
    intro l h
    simp only [List.cons_append, fcont]
    rw [ih fun z hz => h z (by simp [hz])]
    split
    · rename_i hc
      simp only [Bool.and_eq_true, beq_iff_eq] at hc
      exact absurd hc.2 (h y (by simp) hc.1)
    · rfl
theorem fcont_full {S : Nat → Bool} {g0 : Nat → Option Value} {t : Nat} : ∀ {l : List Rec}, (∀ y, y ∈ l → S y.d.j = false → y.d.o.dst ≠ some t) → fcont S g0 l t = fcont (fun _ => true) g0 l t := by
  intro l
  induction l with
  | nil => intro _; rfl
  | cons y r ih =>
    intro h
    simp only [fcont, Bool.true_and]
    rw [ih fun z hz => h z (by simp [hz])]
    cases hs : S y.d.j with
    | true => simp
    | false => simp [h y (by simp) hs]
theorem fcont_alike {S S' : Nat → Bool} {g0 : Nat → Option Value} {t : Nat} : ∀ {l : List Rec}, (∀ y, y ∈ l → S' y.d.j = S y.d.j) → fcont S' g0 l t = fcont S g0 l t := by
  intro l
  induction l with
  | nil => intro _; rfl
  | cons y r ih => intro h; simp only [fcont]; rw [ih fun z hz => h z (by simp [hz]), h y (by simp)]

/-- How many are not done yet. -/
def leftN (n : Nat) (listed : Array Bool) : Nat := ((List.range n).filter fun j => !listed.getD j true).length

theorem filter_lt {l : List Nat} {p q : Nat → Bool} (h : ∀ x, q x = true → p x = true) {i : Nat} (hi : i ∈ l) (hp : p i = true) (hq : q i = false) : (l.filter q).length < (l.filter p).length := by
  have e : l.filter q = (l.filter p).filter q := by
    rw [List.filter_filter]
    congr 1
    funext x
    cases hx : q x with
    | false => simp
    | true => simp [h x hx]
  rw [e, List.length_filter_lt_length_iff_exists]
  exact ⟨i, List.mem_filter.2 ⟨hi, hp⟩, by simp [hq]⟩

theorem any_order (hNG : NoGoroutines P) (hL : ∀ f l, Lcl (call f l)) (hcall : CallOk P B w0 call) {full : List Rec} {frn : Fr} {stn : St} (hlen : full.length = ops.size) (hfull : Chain P call ops fr0 st0 full frn stn)
    (hgl : P.globals.size ≤ st0.next) {Q : Exit → Act → World → Prop} {ρ0 : Rho} {a0 : Act}
    (hQ : ∀ ρ' a' w', ρ0.le ρ' → Sim P B w0 ρ' stn w' → FrRel ρ' frn a' → a'.defers = a0.defers → Q .normal a' w') :
    ∀ (fuel : Nat) (listed : Array Bool) (a : Act) (w : World) (ρ : Rho) (t : St) (fr : Fr), listed.size = ops.size → leftN ops.size listed ≤ fuel → ρ0.le ρ → Sim P B w0 ρ t w → FrRel ρ fr a → a.defers = a0.defers → fr.n = fr0.n →
      Closed ops (fun j => listed.getD j false) → (∀ β, t.heap.get β = cont (fun j => listed.getD j false) (fun β => st0.heap.get β) full β) → (∀ τ, fr.get τ = fcont (fun j => listed.getD j false) (fun τ => fr0.get τ) full τ) →
      wpAny P .any ops Q fuel listed a w := by
  have hdone : ∀ (listed : Array Bool) (a : Act) (w : World) (ρ : Rho) (t : St) (fr : Fr), listed.size = ops.size → (∀ j, j < ops.size → listed.getD j false = true) → ρ0.le ρ → Sim P B w0 ρ t w → FrRel ρ fr a → a.defers = a0.defers → fr.n = fr0.n →
      (∀ β, t.heap.get β = cont (fun j => listed.getD j false) (fun β => st0.heap.get β) full β) → (∀ τ, fr.get τ = fcont (fun j => listed.getD j false) (fun τ => fr0.get τ) full τ) → Q .normal a w := by
    intro listed a w ρ t fr _ hall hl hS hF hd hn hc hfc
    obtain ⟨e1, e2⟩ := hfull.all hL (fun j => listed.getD j false) (fun x hx => hall _ (by rw [← hlen]; exact (hfull.nums x hx).1))
    refine hQ ρ a w hl (hS.congr (fun β => by rw [hc, e1]) (Nat.le_trans hgl (hfull.next_le hL))) (hF.congr (by rw [hfull.frN, hn]) (fun τ => by rw [hfc, e2])) hd
  -- where none is ready all are done
  have hnone : ∀ listed : Array Bool, listed.size = ops.size → Region.ready .any ops listed = [] → ∀ j, j < ops.size → listed.getD j false = true := by
    intro listed hsz hr j
    induction j using Nat.strongRecOn with
    | _ j ih =>
      intro hj
      cases hb : listed.getD j false with
      | true => rfl
      | false =>
        exfalso
        have hjl : j < full.length := by omega
        -- the operation's edges lead to earlier ones
        have hmem : j ∈ Region.ready .any ops listed := by
          unfold Region.ready
          refine List.mem_filter.2 ⟨by simpa using hj, ?_⟩
          have hx : ops[j]? = some ops[j] := Array.getElem?_eq_getElem hj
          have hlj : listed.getD j true = false := by
            rw [Array.getD_eq_getD_getElem?] at hb ⊢
            rw [Array.getElem?_eq_getElem (by omega)] at hb ⊢
            simpa using hb
          rw [hlj, hx]
          simp only [Bool.not_false, Option.map_some, Option.getD_some, Bool.true_and]
          rw [← Array.all_toList, List.all_eq_true]
          intro e he
          by_cases hbd : Region.binds .any e = true
          · have hlt : e.on < j := by
              have : ∀ (l : List Rec) (fr : Fr) (s : St), Chain P call ops fr0 st0 l fr s → j < l.length → e.on < j := by
                intro l fr s h
                induction h with
                | nil => intro h; simp at h
                | cons x h hfr hs hj2 ho hv hf hanc hed hord hn hg hin hh hnx ih2 =>
                  intro hjl2
                  simp only [List.length_cons] at hjl2
                  rcases Nat.lt_succ_iff_lt_or_eq.1 hjl2 with h1 | h1
                  · exact ih2 h1
                  · rw [← h1, hx] at ho
                    have := Option.some.inj ho
                    rw [h1]
                    refine hed e ?_ hbd
                    rw [← this]
                    exact he
              exact this full frn stn hfull hjl
            simp [ih e.on hlt (by omega)]
          · simp [hbd]
        rw [hr] at hmem
        cases hmem
  intro fuel
  induction fuel with
  | zero =>
    intro listed a w ρ t fr hsz hle hl hS hF hd hn hC hc hfc
    have hall : ∀ j, j < ops.size → listed.getD j false = true := by
      intro j hj
      have h0 : (List.range ops.size).filter (fun j => !listed.getD j true) = [] := List.length_eq_zero_iff.1 (by unfold leftN at hle; omega)
      have := List.filter_eq_nil_iff.1 h0 j (by simpa using hj)
      rw [Array.getD_eq_getD_getElem?, Array.getElem?_eq_getElem (by omega)] at this ⊢
      simpa using this
    refine ⟨?_, hdone listed a w ρ t fr hsz hall hl hS hF hd hn hc hfc⟩
    unfold Region.ready
    rw [List.filter_eq_nil_iff]
    intro j hj
    have := hall j (by simpa using hj)
    rw [Array.getD_eq_getD_getElem?, Array.getElem?_eq_getElem (by have h9 : j < ops.size := (by simpa using hj); omega)] at this
    simp only [Option.getD_some] at this
    rw [Array.getD_eq_getD_getElem?, Array.getElem?_eq_getElem (by have h9 : j < ops.size := (by simpa using hj); omega)]
    simp [this]
  | succ fuel ih =>
    intro listed a w ρ t fr hsz hle hl hS hF hd hn hC hc hfc
    refine ⟨fun hr => hdone listed a w ρ t fr hsz (hnone listed hsz hr) hl hS hF hd hn hc hfc, ?_⟩
    intro i hi
    unfold Region.ready at hi
    obtain ⟨hir, hcond⟩ := List.mem_filter.1 hi
    have hin : i < ops.size := by simpa using hir
    simp only [Bool.and_eq_true, Bool.not_eq_true'] at hcond
    obtain ⟨hnl, hpre⟩ := hcond
    have hnl' : listed.getD i false = false := by
      rw [Array.getD_eq_getD_getElem?, Array.getElem?_eq_getElem (by omega)] at hnl ⊢
      simpa using hnl
    -- the record of this operation
    obtain ⟨rest, x, l, hsplit, hll⟩ : ∃ rest x l, full = rest ++ x :: l ∧ l.length = i := by
      have hlt : full.length - 1 - i < full.length := by omega
      refine ⟨full.take (full.length - 1 - i), full[full.length - 1 - i], full.drop (full.length - 1 - i + 1), ?_, by simp; omega⟩
      rw [← List.drop_eq_getElem_cons hlt]
      exact (List.take_append_drop _ _).symm
    have hfull2 := hfull
    rw [hsplit] at hfull2
    obtain ⟨fr2, s2, hxl⟩ := hfull2.sub
    have hxl2 := hxl
    cases hxl with
    | cons x h hfr hs hj ho hv hf hanc hed hord hn2 hg hin2 hh hnx =>
    rename_i frx sx
    rw [hll] at hj ho
    have hSx : (fun j => listed.getD j false) x.d.j = false := by rw [hj]; exact hnl'
    have hpre' : ∀ e, e ∈ x.d.o.after.toList → Region.binds .any e = true → (fun j => listed.getD j false) e.on = true := by
      intro e he hb
      rw [ho] at hpre
      simp only [Option.map_some, Option.getD_some] at hpre
      rw [← Array.all_toList, List.all_eq_true] at hpre
      have := hpre e he
      simpa [hb] using this
    have hlater := Chain.later hL hC hfull2 hSx
    have hearlier := Chain.earlier hC hxl2 hpre'
    obtain ⟨R, W, k⟩ := Lcl.valM P hL _ _ _ _ _ _ hv
    have hR : x.s'.rd = R := by rw [k.rdE, hs]; simp
    have hW : x.s'.wr = W := by rw [k.wrE, hs]; simp
    have hall := h.all hL (fun _ => true) (fun _ _ => rfl)
    -- what it touches is as it was
    have hsame : ∀ β, β ∈ R ∨ β ∈ W → t.heap.get β = x.s.heap.get β := by
      intro β hβ
      have hβ' : β ∈ x.d.f.rd ∨ β ∈ x.d.f.wr := by rw [hf]; simp only [hR, hW]; exact hβ
      rw [hc, hsplit, cont_skip (fun y hy hSy => (Foot.free_spec ((hlater y hy).2.2.2 hSy).2).2 β |> fun g => by
        by_cases hty : y.d.f.touch β = true
        · exact ((Foot.free_spec ((hlater y hy).2.2.2 hSy).2).2 β hβ')
        · simpa using hty)]
      simp only [cont, hSx, Bool.false_and, Bool.false_eq_true, if_false]
      rw [cont_full (fun y hy hSy => (Foot.free_spec (hearlier y hy hSy).2).1 β hβ'), hall.1, hs]
    have hfresh : ∀ β, Fresh x.s x.s' β → ∀ y, y ∈ rest → listed.getD y.d.j false = true → y.d.f.touch β = false := by
      intro β hβ y hy hSy
      obtain ⟨_, hnx2, hyf, hfree⟩ := hlater y hy
      have hfr3 := Foot.free_spec (hfree hSy).2
      cases ht : y.d.f.touch β with
      | false => rfl
      | true =>
        rcases (touch_iff hyf).1 ht with h1 | h1
        · have := hfr3.1 β (.inr (by rw [hyf]; exact h1))
          rw [(touch_iff hf).2 (.inr hβ)] at this
          cases this
        · have := h1.1; have := hβ.2; omega
    have hnew : ∀ β, Fresh x.s x.s' β → t.heap.get β = none := by
      intro β hβ
      rw [hc, hsplit, cont_skip (hfresh β hβ)]
      simp only [cont, hSx, Bool.false_and, Bool.false_eq_true, if_false]
      refine h.absent hL _ ?_
      have := k.isNew β hβ
      rw [hs] at this
      exact this
    have hframe : ∀ τ, τ ∈ x.d.o.looksAt ops → fr.get τ = x.fr.get τ := by
      intro τ hτ
      rw [hfc, hsplit, fcont_skip (fun y hy hSy => by
        obtain ⟨_, _, h3⟩ := Oper.apart_spec ((hlater y hy).2.2.2 hSy).1
        intro e
        exact h3 τ e hτ)]
      simp only [fcont, hSx, Bool.false_and, Bool.false_eq_true, if_false]
      rw [fcont_full (fun y hy hSy => by
        obtain ⟨h1, _, _⟩ := Oper.apart_spec (hearlier y hy hSy).1
        intro e
        exact h1 τ e hτ), hall.2, hfr]
    obtain ⟨t3, hv3, hn3, _, _, hc3, hu3⟩ := k.other { t with next := x.s.next, rd := [], wr := [] } rfl (fun β hβ _ => hsame β hβ) (fun β hβ => hnew β hβ)
    have hv4 : valM P call ops fr x.d.o { t with next := x.s.next, rd := [], wr := [] } = some (x.v, t3) := by
      rw [valM_congr hframe]; exact hv3
    have hxn : P.globals.size ≤ x.s.next := by
      have := h.next_le hL
      rw [hs]
      simp only
      omega
    have hS4 : Sim P B w0 ρ { t with next := x.s.next, rd := [], wr := [] } w := hS.logs rfl hxn
    have hval := val_wp hNG hcall hS4 hF hv4 (next := wpAny P .any ops Q fuel (listed.setIfInBounds i true)) (Q := Q) ?_
    · unfold wpOp
      rw [ho]
      exact hval
    · intro v' w' ρ' hl' hS' hv'
      have hput : ∃ fr5, fr.put x.d.o.dst x.v t3 = some (fr5, t3) := by
        unfold Fr.put
        cases hdst : x.d.o.dst with
        | none => exact ⟨fr, rfl⟩
        | some d =>
          have hd2 := hin2 d hdst
          rw [h.frN, ← hn] at hd2
          exact ⟨_, by simp only [if_pos hd2]; rfl⟩
      obtain ⟨fr5, hput⟩ := hput
      obtain ⟨_, hn5, hg5⟩ := put_get hput
      have hset : ∀ j, (listed.setIfInBounds i true).getD j false = if j = i then true else listed.getD j false := by
        intro j
        simp only [Array.getD_eq_getD_getElem?, Array.getElem?_setIfInBounds]
        by_cases e : j = i
        · subst e; simp [show j < listed.size by omega]
        · simp [e, Ne.symm e]
      have hne : ∀ y, y ∈ rest → y.d.j ≠ i := fun y hy => by rw [← hj]; exact (hlater y hy).1
      have hne2 : ∀ y, y ∈ l → y.d.j ≠ i := fun y hy => by have := (h.nums y hy).1; omega
      refine ih (listed.setIfInBounds i true) _ w' ρ' t3 fr5 (by simpa using hsz) ?_ (Rho.le_trans hl hl') hS' ((hF.mono hl').put hv' hput) ?_ (by rw [hn5, hn]) ?_ ?_ ?_
      · have : leftN ops.size (listed.setIfInBounds i true) < leftN ops.size listed := by
          unfold leftN
          refine filter_lt (i := i) ?_ (by simpa using hin) (by simp [hnl]) ?_
          · intro j hj2
            simp only [Array.getD_eq_getD_getElem?, Array.getElem?_setIfInBounds] at hj2 ⊢
            by_cases e : i = j
            · subst e; simp [show i < listed.size by omega] at hj2
            · simpa [e] using hj2
          · simp [Array.getD_eq_getD_getElem?, show i < listed.size by omega]
        omega
      · rw [← hd]; cases x.d.o.dst <;> rfl
      · intro j o hj2 ho2 e he hb
        simp only [hset] at hj2 ⊢
        split
        · rfl
        · by_cases e2 : j = i
          · subst e2
            have := Option.some.inj (ho.symm.trans ho2)
            subst this
            exact hpre' e he hb
          · rw [if_neg e2] at hj2
            exact hC j o hj2 ho2 e he hb
      · intro β
        by_cases ht : x.d.f.touch β = true
        · have ht2 := (touch_iff hf).1 ht
          rw [hc3 β (by rw [← hW]; exact ht2), hsplit]
          rw [cont_skip (fun y hy hSy => by
            simp only [hset, if_neg (hne y hy)] at hSy
            rcases ht2 with h1 | h1
            · exact (Foot.free_spec ((hlater y hy).2.2.2 hSy).2).2 β (.inr (by rw [hf]; exact h1))
            · exact hfresh β h1 y hy hSy)]
          simp only [cont, hset, hj, if_true, ht, Bool.and_self]
        · have ht2 := mt (touch_iff hf).2 ht
          rw [hu3 β (by rw [← hW]; exact fun h => ht2 (.inl h)) (fun h => ht2 (.inr h))]
          simp only
          rw [hc, hsplit]
          have e1 : ∀ q : List Rec, (∀ y, y ∈ q → y.d.j ≠ i) → ∀ y, y ∈ q → (fun j => (listed.setIfInBounds i true).getD j false) y.d.j = (fun j => listed.getD j false) y.d.j := by
            intro q hq y hy
            simp only [hset, if_neg (hq y hy)]
          clear hsplit hfull2 hxl2 hlater hearlier hfresh
          have : ∀ r : List Rec, (∀ y, y ∈ r → y.d.j ≠ i) → cont (fun j => listed.getD j false) (fun β => st0.heap.get β) (r ++ x :: l) β = cont (fun j => (listed.setIfInBounds i true).getD j false) (fun β => st0.heap.get β) (r ++ x :: l) β := by
            intro r
            induction r with
            | nil =>
              intro _
              simp only [List.nil_append, cont]
              rw [if_neg (by simp [ht]), if_neg (by simp [ht])]
              exact (cont_alike (e1 l hne2)).symm
            | cons y r ihr =>
              intro hq
              simp only [List.cons_append, cont]
              rw [ihr fun z hz => hq z (by simp [hz])]
              have := e1 (y :: r) hq y (by simp)
              simp only at this
              rw [this]
          exact this rest hne
      · intro τ
        rw [hg5]
        by_cases ht : x.d.o.dst = some τ
        · rw [if_pos ht, hsplit]
          rw [fcont_skip (fun y hy hSy => by
            simp only [hset, if_neg (hne y hy)] at hSy
            obtain ⟨_, h2, _⟩ := Oper.apart_spec ((hlater y hy).2.2.2 hSy).1
            exact h2 τ ht)]
          simp only [fcont, hset, hj, if_true, ht, beq_self_eq_true, Bool.and_self]
        · rw [if_neg ht, hfc, hsplit]
          have e1 : ∀ q : List Rec, (∀ y, y ∈ q → y.d.j ≠ i) → ∀ y, y ∈ q → (fun j => (listed.setIfInBounds i true).getD j false) y.d.j = (fun j => listed.getD j false) y.d.j := by
            intro q hq y hy
            simp only [hset, if_neg (hq y hy)]
          clear hsplit hfull2 hxl2 hlater hearlier hfresh
          have : ∀ r : List Rec, (∀ y, y ∈ r → y.d.j ≠ i) → fcont (fun j => listed.getD j false) (fun τ => fr0.get τ) (r ++ x :: l) τ = fcont (fun j => (listed.setIfInBounds i true).getD j false) (fun τ => fr0.get τ) (r ++ x :: l) τ := by
            intro r
            induction r with
            | nil =>
              intro _
              simp only [List.nil_append, fcont]
              rw [if_neg (by simp [ht]), if_neg (by simp [ht])]
              exact (fcont_alike (e1 l hne2)).symm
            | cons y r ihr =>
              intro hq
              simp only [List.cons_append, fcont]
              rw [ihr fun z hz => hq z (by simp [hz])]
              have := e1 (y :: r) hq y (by simp)
              simp only at this
              rw [this]
          exact this rest hne
end
end Go.Ev
