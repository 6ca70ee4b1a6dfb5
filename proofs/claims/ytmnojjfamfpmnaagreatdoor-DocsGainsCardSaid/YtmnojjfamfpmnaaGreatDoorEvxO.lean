/-
  A region whose order the model draws: where the evaluator has done it in the order of the text, it comes to the same in any order.
-/
import Derived.Test.YtmnojjfamfpmnaaGreatDoorEvxN
set_option linter.unusedVariables false
set_option linter.unusedSimpArgs false
set_option linter.unusedSectionVars false
set_option linter.unnecessarySimpa false
set_option linter.unusedSectionVars false
namespace Go.Ev
open Go.RowKit
variable [Orc] [Eta] [OrcOk]
section
variable {P : Program} {B : Nat} {w0 : World} {ρ : Rho} {st st' : St} {w w' : World}

theorem opd_congr {fr fr' : Fr} {x : Operand} (h : ∀ t, x = .tmp t → fr.get t = fr'.get t) : opd P fr x = opd P fr' x := by
  cases x with
  | tmp t => simp only [opd, h t rfl]
  | _ => rfl
theorem opds_congr {fr fr' : Fr} : ∀ {l : List Operand}, (∀ x, x ∈ l → opd P fr x = opd P fr' x) → opds P fr l = opds P fr' l := by
  intro l
  induction l with
  | nil => intro _; rfl
  | cons x r ih => intro h; unfold opds; rw [h x (by simp), ih fun y hy => h y (by simp [hy])]
theorem opdO_congr {fr fr' : Fr} {x : Option Operand} (h : ∀ y, x = some y → opd P fr y = opd P fr' y) : opdO P fr x = opdO P fr' x := by
  cases x with
  | none => rfl
  | some y => simp only [opdO]; rw [h y rfl]
theorem opdP_congr {fr fr' : Fr} : ∀ {l : List (Nat × Operand)}, (∀ x, x ∈ l → opd P fr x.2 = opd P fr' x.2) → opdP P fr l = opdP P fr' l := by
  intro l
  induction l with
  | nil => intro _; rfl
  | cons x r ih => intro h; obtain ⟨i, x⟩ := x; unfold opdP; rw [h (i, x) (by simp), ih fun y hy => h y (by simp [hy])]

theorem opM_congr {call : FuncId → List Value → M Value} {fr fr' : Fr} {o : Oper} (h : ∀ x, x ∈ o.op.operands.toList → opd P fr x = opd P fr' x) : opM P call fr o = opM P call fr' o := by
  obtain ⟨dst, op, type, pos, after, guard⟩ := o
  simp only at h
  unfold opM
  cases op with
  | move x => exact h x (by simp [Op.operands])
  | assign x => exact h x (by simp [Op.operands])
  | pick c a b => simp only; rw [h c (by simp [Op.operands]), h a (by simp [Op.operands]), h b (by simp [Op.operands])]
  | alloc t => rfl
  | box t x => simp only; rw [h x (by simp [Op.operands])]
  | build t ps => simp only; rw [opdP_congr fun x hx => h x.2 (by simp only [Op.operands, List.toList_toArray, List.mem_map]; exact ⟨x, hx, rfl⟩)]
  | buildSlice t n ps => simp only; rw [opdP_congr fun x hx => h x.2 (by simp only [Op.operands, List.toList_toArray, List.mem_map]; exact ⟨x, hx, rfl⟩)]
  | load t a => simp only; rw [h a (by simp [Op.operands])]
  | store t a v => simp only; rw [h a (by simp [Op.operands]), h v (by simp [Op.operands])]
  | nilCheck x => simp only; rw [h x (by simp [Op.operands])]
  | binOp op t a v t2 => simp only; rw [h a (by simp [Op.operands]), h v (by simp [Op.operands])]
  | unOp op t x => simp only; rw [h x (by simp [Op.operands])]
  | convert s d x => simp only; rw [h x (by simp [Op.operands])]
  | makeFunc fn a b =>
    simp only
    rw [opds_congr (l := a.toList) fun x hx => h x (by simp only [Op.operands, Array.toList_append, List.mem_append]; exact .inl hx),
      opds_congr (l := b.toList) fun x hx => h x (by simp only [Op.operands, Array.toList_append, List.mem_append]; exact .inr hx)]
  | makeMap t r => simp only; rw [opdO_congr fun y hy => h y (by subst hy; simp [Op.operands])]
  | makeSlice t a v => simp only; rw [h a (by simp [Op.operands]), h v (by simp [Op.operands])]
  | slice t x l m k =>
    simp only
    rw [h x (by simp [Op.operands]), opdO_congr (x := l) fun y hy => h y (by subst hy; simp [Op.operands]), opdO_congr (x := m) fun y hy => h y (by subst hy; simp [Op.operands]),
      opdO_congr (x := k) fun y hy => h y (by subst hy; simp [Op.operands])]
  | fieldAddr t x f => simp only; rw [h x (by simp [Op.operands])]
  | field t x f => simp only; rw [h x (by simp [Op.operands])]
  | indexAddr t a v => simp only; rw [h a (by simp [Op.operands]), h v (by simp [Op.operands])]
  | index t a v => simp only; rw [h a (by simp [Op.operands]), h v (by simp [Op.operands])]
  | lookup t a v ok => simp only; rw [h a (by simp [Op.operands]), h v (by simp [Op.operands])]
  | mapUpdate t m k v => simp only; rw [h m (by simp [Op.operands]), h k (by simp [Op.operands]), h v (by simp [Op.operands])]
  | insert t m k v => simp only; rw [h m (by simp [Op.operands]), h k (by simp [Op.operands]), h v (by simp [Op.operands])]
  | range t x => simp only; rw [h x (by simp [Op.operands])]
  | next x b => simp only; rw [h x (by simp [Op.operands])]
  | entry x => simp only; rw [h x (by simp [Op.operands])]
  | extract x i => simp only; rw [h x (by simp [Op.operands])]
  | call c =>
    obtain ⟨callee, args, ts⟩ := c
    cases callee with
    | invoke r m => rfl
    | builtin b => simp only; rw [opds_congr fun x hx => h x (by simp only [Op.operands, Call.operands, Array.toList_append, List.mem_append]; exact .inr hx)]
    | value f =>
      simp only
      rw [h f (by simp [Op.operands, Call.operands]), opds_congr fun x hx => h x (by simp only [Op.operands, Call.operands, Array.toList_append, List.mem_append]; exact .inr hx)]
  | _ => rfl

theorem valM_congr {call : FuncId → List Value → M Value} {ops : Array Oper} {fr fr' : Fr} {o : Oper} (h : ∀ t, t ∈ o.looksAt ops → fr.get t = fr'.get t) : valM P call ops fr o = valM P call ops fr' o := by
  have h1 : opM P call fr o = opM P call fr' o := opM_congr fun x hx => opd_congr fun t ht => h t (by
    unfold Oper.looksAt
    refine List.mem_append.2 (.inl (List.mem_filterMap.2 ⟨x, hx, by subst ht; rfl⟩)))
  have h2 : wantedB ops fr o = wantedB ops fr' o := by
    unfold wantedB
    cases hg : o.guard with
    | none => rfl
    | some g =>
      obtain ⟨j, b⟩ := g
      simp only
      cases hd : (ops[j]?).bind (·.dst) with
      | none => rfl
      | some d =>
        simp only
        rw [h d (by
          unfold Oper.looksAt
          refine List.mem_append.2 (.inr ?_)
          simp [hg, hd])]
  unfold valM
  rw [h1, h2]

theorem want_val {x y : Value} {want b : Bool} (hv : VRel ρ x y) (h : wantV want x st = some (b, st')) :
    st' = st ∧ ((match some y with | some (.bool b) => some b | _ => none) == some want) = b := by
  unfold wantV at h
  split at h
  · cases hv; cases (mpure_some.1 h); exact ⟨rfl, rfl⟩
  · rename_i t e
    split at h
    · rename_i ht
      cases (mpure_some.1 h)
      cases hv with
      | iface t ht hv => exact ⟨rfl, rfl⟩
      | tok s hd hs => exact absurd ht (Nat.not_lt.2 (Nat.le_add_right _ _))
    · obtain ⟨q, s1, h1, h2⟩ := bind_some.1 h
      obtain ⟨e1, hc⟩ := force_ok hv h1
      subst e1
      cases (pure_some.1 h2)
      subst hc
      exact ⟨rfl, rfl⟩
  · rename_i hn1 hn2
    cases (mpure_some.1 h)
    cases hv <;> first | exact ⟨rfl, rfl⟩ | exact absurd rfl (hn1 _) | exact absurd rfl (hn2 _ _)

theorem wanted_ok {fr : Fr} {a : Act} {ops : Array Oper} {o : Oper} {b : Bool} (hF : FrRel ρ fr a) (h : wantedB ops fr o st = some (b, st')) : st' = st ∧ Region.wanted o (yielded ops a.tmps) = b := by
  unfold wantedB at h
  unfold Region.wanted
  cases hg : o.guard with
  | none => rw [hg] at h; cases (mpure_some.1 h); exact ⟨rfl, rfl⟩
  | some g =>
    obtain ⟨j, want⟩ := g
    rw [hg] at h
    simp only at h ⊢
    unfold yielded
    cases hd : (ops[j]?).bind (·.dst) with
    | none => rw [hd] at h; cases (mpure_some.1 h); exact ⟨rfl, rfl⟩
    | some d =>
      rw [hd] at h
      simp only [Option.bind_some] at h ⊢
      obtain ⟨u, s1, h1, h⟩ := bind_some.1 h
      obtain ⟨_, hu, e1⟩ := ofO_some.1 h1
      cases e1
      have hv := hF.2 d u hu
      rw [Array.getD_eq_getD_getElem?] at hv
      cases hx : a.tmps[d]? with
      | none =>
        rw [hx] at hv
        simp only [Option.getD_none] at hv
        exact want_val hv h
      | some y =>
        rw [hx] at hv
        simp only [Option.getD_some] at hv
        exact want_val hv h

theorem val_wp (hNG : NoGoroutines P) {call : FuncId → List Value → M Value} (hcall : CallOk P B w0 call) {fr : Fr} {a : Act} {ops : Array Oper} {o : Oper} {v : Value} (hS : Sim P B w0 ρ st w) (hF : FrRel ρ fr a)
    (h : valM P call ops fr o st = some (v, st')) {next : Act → World → Prop} {Q : Exit → Act → World → Prop}
    (hnext : ∀ v' w' ρ', ρ.le ρ' → Sim P B w0 ρ' st' w' → VRel ρ' v v' → next (a.put o.dst v') w') :
    if Region.wanted o (yielded ops a.tmps) then o.wp P a w next Q ∨ (o.asks P a w ∧ LetsOut Q) else next (a.put o.dst undef) w := by
  unfold valM at h
  obtain ⟨b, s1, h1, h⟩ := bind_some.1 h
  obtain ⟨rfl, hw⟩ := wanted_ok hF h1
  rw [hw]
  cases b with
  | true => exact .inl (op_ok hNG hcall hS hF h hnext)
  | false => cases (pure_some.1 h); exact hnext undef w ρ ρ.le_refl hS (VRel.undef ρ)

/-- A region in the order of its text. -/
theorem ops_wp (hNG : NoGoroutines P) {call : FuncId → List Value → M Value} (hcall : CallOk P B w0 call) {ops : Array Oper} {Q : Exit → Act → World → Prop} : ∀ (l : List Oper) (k : Nat) (fr fr' : Fr) (a : Act) (ρ : Rho) (st st' : St) (w : World),
    ops.toList.drop k = l → Sim P B w0 ρ st w → FrRel ρ fr a → opsM P call ops l fr st = some (fr', st') →
    (∀ ρ' a' w', ρ.le ρ' → Sim P B w0 ρ' st' w' → FrRel ρ' fr' a' → a'.defers = a.defers → Q .normal a' w') → wpOps P ops Q (List.range' k l.length) a w := by
  intro l
  induction l with
  | nil =>
    intro k fr fr' a ρ st st' w _ hS hF h hQ
    cases (mpure_some.1 h)
    exact hQ ρ a w ρ.le_refl hS hF rfl
  | cons o r ih =>
    intro k fr fr' a ρ st st' w hd hS hF h hQ
    have hk : ops[k]? = some o := by
      have : (ops.toList.drop k)[0]? = some o := by rw [hd]; rfl
      rw [List.getElem?_drop] at this
      simpa using this
    have hd' : ops.toList.drop (k + 1) = r := by
      rw [← List.drop_drop, hd]; rfl
    unfold opsM at h
    obtain ⟨fr1, s1, h1, h⟩ := bind_some.1 h
    unfold stepM at h1
    obtain ⟨v, s2, h2, h1⟩ := bind_some.1 h1
    obtain ⟨e, _, _⟩ := put_get h1
    subst e
    simp only [List.length_cons, List.range'_succ]
    rw [wpOps]
    simp only [hk]
    refine val_wp hNG hcall hS hF h2 ?_
    intro v' w' ρ' hl hS' hv'
    refine ih (k + 1) fr1 fr' _ ρ' _ st' w' hd' hS' ((hF.mono hl).put hv' h1) h ?_
    intro ρ2 a2 w2 hl2 hS2 hF2 hd2
    refine hQ ρ2 a2 w2 (Rho.le_trans hl hl2) hS2 hF2 (hd2.trans ?_)
    cases o.dst <;> rfl

/-- What is known of an operation that is done. -/
structure Rec where
  d : Done
  v : Value
  fr : Fr
  s : St
  s' : St

inductive Chain (P : Program) (call : FuncId → List Value → M Value) (ops : Array Oper) (fr0 : Fr) (st0 : St) : List Rec → Fr → St → Prop
  | nil : Chain P call ops fr0 st0 [] fr0 st0
  | cons {l : List Rec} {fr fr' : Fr} {s s2 : St} (x : Rec) (h : Chain P call ops fr0 st0 l fr s) (hfr : x.fr = fr) (hs : x.s = { s with rd := [], wr := [] }) (hj : x.d.j = l.length) (ho : ops[l.length]? = some x.d.o)
      (hv : valM P call ops x.fr x.d.o x.s = some (x.v, x.s')) (hf : x.d.f = ⟨x.s'.rd, x.s'.wr, x.s.next, x.s'.next⟩) (hanc : x.d.anc = ancs (l.map (·.d)) x.d.o.after.toList)
      (hed : ∀ e, e ∈ x.d.o.after.toList → Region.binds .any e = true → e.on < l.length) (hord : orderedB ops x.d.anc x.d.o x.d.f (l.map (·.d)) = true)
      (hn : fr'.n = fr.n) (hg : ∀ t, fr'.get t = if x.d.o.dst = some t then some x.v else fr.get t) (hin : ∀ d, x.d.o.dst = some d → d < fr.n)
      (hh : s2.heap = x.s'.heap) (hnx : s2.next = x.s'.next) : Chain P call ops fr0 st0 (x :: l) fr' s2

variable {call : FuncId → List Value → M Value} {ops : Array Oper} {fr0 : Fr} {st0 : St}

theorem chain_of (hL : ∀ f l, Lcl (call f l)) : ∀ (r : List Oper) (l : List Rec) (fr fr' : Fr) (s s' : St), Chain P call ops fr0 st0 l fr s → ops.toList = (l.map (·.d.o)).reverse ++ r →
    drawM P call ops r (l.map (·.d)) fr s = some (fr', s') → ∃ full, full.length = ops.size ∧ Chain P call ops fr0 st0 full fr' s' := by
  intro r
  induction r with
  | nil =>
    intro l fr fr' s s' hc ho h
    cases (mpure_some.1 h)
    refine ⟨l, ?_, hc⟩
    have := congrArg List.length ho
    simpa using this.symm
  | cons o r ih =>
    intro l fr fr' s s' hc ho h
    unfold drawM at h
    obtain ⟨y, s1, h1, h⟩ := bind_some.1 h
    unfold footM at h1
    cases hv : valM P call ops fr o { s with rd := [], wr := [] } with
    | none => rw [hv] at h1; cases h1
    | some z =>
      obtain ⟨v, s2⟩ := z
      rw [hv] at h1
      cases h1
      simp only at h
      obtain ⟨_, s3, h3, h⟩ := bind_some.1 h
      obtain ⟨hg, e⟩ := guardM_some.1 h3
      cases e
      obtain ⟨fr1, s4, h4, h⟩ := bind_some.1 h
      obtain ⟨e, hn, hget⟩ := put_get h4
      subst e
      simp only [Bool.and_eq_true] at hg
      have hlen : (l.map (·.d)).length = l.length := by simp
      have hoo : ops[l.length]? = some o := by
        rw [← Array.getElem?_toList, ho, List.getElem?_append_right (by simp)]
        simp
      have hc2 := Chain.cons (P := P) (call := call) (ops := ops) (fr0 := fr0) (st0 := st0) (fr' := fr1) (s2 := { s2 with rd := s2.rd ++ s.rd, wr := s2.wr ++ s.wr })
        ⟨⟨l.length, o, ⟨s2.rd, s2.wr, s.next, s2.next⟩, ancs (l.map (·.d)) o.after.toList⟩, v, fr, { s with rd := [], wr := [] }, s2⟩ hc rfl rfl rfl hoo hv rfl rfl
        (fun e he hb => by
          have := (List.all_eq_true.1 hg.1) e he
          simpa [hb] using this) hg.2 hn hget (fun d hd => by rw [hd] at h4; exact put_in h4) rfl rfl
      refine ih _ fr1 fr' _ s' hc2 ?_ ?_
      · rw [ho]; simp
      · simp only [List.map_cons]
        rw [hlen] at h
        exact h

theorem Chain.next_le (hL : ∀ f l, Lcl (call f l)) {l : List Rec} {fr : Fr} {s : St} (h : Chain P call ops fr0 st0 l fr s) : st0.next ≤ s.next := by
  induction h with
  | nil => exact Nat.le_refl _
  | cons x h hfr hs hj ho hv hf hanc hed hord hn hg hin hh hnx ih =>
    obtain ⟨R, W, k⟩ := Lcl.valM P hL _ _ _ _ _ _ hv
    have := k.nextLe
    rw [hs] at this
    simp at this
    omega

theorem Chain.frN {l : List Rec} {fr : Fr} {s : St} (h : Chain P call ops fr0 st0 l fr s) : fr.n = fr0.n := by
  induction h with
  | nil => rfl
  | cons x h hfr hs hj ho hv hf hanc hed hord hn hg hin hh hnx ih => rw [hn, ih]

theorem Chain.sub {l' : List Rec} : ∀ {rest : List Rec} {fr : Fr} {s : St}, Chain P call ops fr0 st0 (rest ++ l') fr s → ∃ fr' s', Chain P call ops fr0 st0 l' fr' s' := by
  intro rest
  induction rest with
  | nil => intro fr s h; exact ⟨fr, s, h⟩
  | cons x r ih =>
    intro fr s h
    cases h with
    | cons x h => exact ih h

def cont (S : Nat → Bool) (h0 : Nat → Option Blk) : List Rec → Nat → Option Blk
  | [], β => h0 β
  | x :: l, β => if S x.d.j && x.d.f.touch β then x.s'.heap.get β else cont S h0 l β
def fcont (S : Nat → Bool) (g0 : Nat → Option Value) : List Rec → Nat → Option Value
  | [], t => g0 t
  | x :: l, t => if S x.d.j && x.d.o.dst == some t then some x.v else fcont S g0 l t

theorem touch_iff {x : Rec} {β : Nat} (hf : x.d.f = ⟨x.s'.rd, x.s'.wr, x.s.next, x.s'.next⟩) : x.d.f.touch β = true ↔ (β ∈ x.s'.wr ∨ Fresh x.s x.s' β) := by
  rw [hf]
  simp [Foot.touch, Fresh]

theorem Chain.all (hL : ∀ f l, Lcl (call f l)) {l : List Rec} {fr : Fr} {s : St} (h : Chain P call ops fr0 st0 l fr s) (S : Nat → Bool) (hS : ∀ x, x ∈ l → S x.d.j = true) :
    (∀ β, cont S (fun β => st0.heap.get β) l β = s.heap.get β) ∧ ∀ t, fcont S (fun t => fr0.get t) l t = fr.get t := by
  induction h with
  | nil => exact ⟨fun _ => rfl, fun _ => rfl⟩
  | cons x h hfr hs hj ho hv hf hanc hed hord hn hg hin hh hnx ih =>
    obtain ⟨ih1, ih2⟩ := ih fun y hy => hS y (by simp [hy])
    have hx := hS x (by simp)
    obtain ⟨R, W, k⟩ := Lcl.valM P hL _ _ _ _ _ _ hv
    have hW : x.s'.wr = W := by rw [k.wrE, hs]; simp
    refine ⟨fun β => ?_, fun t => ?_⟩
    · simp only [cont, hx, Bool.true_and]
      by_cases ht : x.d.f.touch β = true
      · rw [if_pos ht, hh]
      · rw [if_neg ht, ih1, hh]
        have := mt (touch_iff hf).2 ht
        rw [k.same β (by rw [← hW]; exact fun h => this (.inl h)) (fun h => this (.inr h)), hs]
    · simp only [fcont, hx, Bool.true_and, hg, ih2]
      by_cases e : x.d.o.dst = some t <;> simp [e]

/-- What was not there was not there before. -/
theorem Chain.absent (hL : ∀ f l, Lcl (call f l)) {l : List Rec} {fr : Fr} {s : St} (h : Chain P call ops fr0 st0 l fr s) (S : Nat → Bool) {β : Nat} (hβ : s.heap.get β = none) : cont S (fun β => st0.heap.get β) l β = none := by
  induction h with
  | nil => exact hβ
  | cons x h hfr hs hj ho hv hf hanc hed hord hn hg hin hh hnx ih =>
    obtain ⟨R, W, k⟩ := Lcl.valM P hL _ _ _ _ _ _ hv
    rw [hh] at hβ
    simp only [cont]
    split
    · exact hβ
    · refine ih ?_
      cases hx : x.s.heap.get β with
      | none => rw [hs] at hx; exact hx
      | some y => exact absurd hβ (k.keeps (by rw [hx]; simp))

/-- What is done holds what stands ahead of it. -/
def Closed (ops : Array Oper) (S : Nat → Bool) : Prop := ∀ j o, S j = true → ops[j]? = some o → ∀ e, e ∈ o.after.toList → Region.binds .any e = true → S e.on = true

theorem ancs_bit {l : List Done} {i : Nat} : ∀ {es : List Edge}, (ancs l es).testBit i = true → ∃ e, e ∈ es ∧ Region.binds .any e = true ∧ (i = e.on ∨ (ancOf l e.on).testBit i = true) := by
  intro es
  induction es with
  | nil => intro h; simp [ancs] at h
  | cons e r ih =>
    intro h
    unfold ancs at h
    split at h
    · rename_i hb
      rw [Nat.testBit_or, Nat.testBit_or] at h
      simp only [Bool.or_eq_true] at h
      rcases h with (h | h) | h
      · refine ⟨e, by simp, hb, .inl ?_⟩
        rw [Nat.testBit_two_pow] at h
        simpa [eq_comm] using h
      · exact ⟨e, by simp, hb, .inr h⟩
      · obtain ⟨e', h1, h2⟩ := ih h
        exact ⟨e', by simp [h1], h2⟩
    · obtain ⟨e', h1, h2⟩ := ih h
      exact ⟨e', by simp [h1], h2⟩

theorem Chain.ancOf {S : Nat → Bool} (hC : Closed ops S) {l : List Rec} {fr : Fr} {s : St} (h : Chain P call ops fr0 st0 l fr s) : ∀ i k, (ancOf (l.map (·.d)) k).testBit i = true → S k = true → S i = true := by
  induction h with
  | nil => intro i k h; simp [Ev.ancOf] at h
  | cons x h hfr hs hj ho hv hf hanc hed hord hn hg hin hh hnx ih =>
    intro i k hb hk
    simp only [List.map_cons, Ev.ancOf] at hb
    split at hb
    · rename_i e
      rw [hanc] at hb
      obtain ⟨e', h1, h2, h3⟩ := ancs_bit hb
      have he : S e'.on = true := hC k x.d.o hk (by rw [← e, hj]; exact ho) e' h1 h2
      rcases h3 with rfl | h3
      · exact he
      · exact ih i e'.on h3 he
    · exact ih i k hb hk

theorem Chain.anc_in {S : Nat → Bool} (hC : Closed ops S) {x : Rec} {l : List Rec} {fr : Fr} {s : St} (h : Chain P call ops fr0 st0 (x :: l) fr s)
    (hx : ∀ e, e ∈ x.d.o.after.toList → Region.binds .any e = true → S e.on = true) {i : Nat} (hi : x.d.anc.testBit i = true) : S i = true := by
  cases h with
  | cons x h hfr hs hj ho hv hf hanc hed hord hn hg hin hh hnx =>
    rw [hanc] at hi
    obtain ⟨e', h1, h2, h3⟩ := ancs_bit hi
    rcases h3 with rfl | h3
    · exact hx _ h1 h2
    · exact h.ancOf hC i e'.on h3 (hx _ h1 h2)
end
end Go.Ev
