/-
  Each operation of the evaluator does what the model's operation does: append, copy, len, cap, min and max.
-/
import Derived.Test.YtmnojjfamfpmnaaGreatDoorEvxK
set_option linter.unusedVariables false
set_option linter.unusedSimpArgs false
set_option linter.unusedSectionVars false
set_option linter.unnecessarySimpa false
set_option linter.unusedSectionVars false
namespace Go.Ev
open Go.RowKit
variable [Eta]
section
variable {P : Program} {B : Nat} {w0 : World} {ρ : Rho} {st st' : St} {w w' : World}

theorem PT.set_set {α : Type} (u v : α) : ∀ (d i : Nat) (t : PT α), PT.set v d i (PT.set u d i t) = PT.set v d i t := by
  intro d
  induction d with
  | zero => intro i t; rfl
  | succ d ih =>
    intro i t
    cases i with
    | zero => cases t <;> rfl
    | succ k =>
      by_cases hp : k % 2 = 0 <;> cases t <;> simp [PT.set, hp, ih]

/-- An own row that owns what lies behind it gets another number, from a place on. -/
theorem Sim.renumber (hS : Sim P B w0 ρ st w) {β off sz : Nat} {cs : List Value} {L : Loc} (hb : st.heap.get β = some (.row cs true true sz)) (hL : ρ β = some L)
    (hoff : off ≤ cs.length) (hn : st.heap.get st.next = none) (l : List Nat) :
    let K : Loc := ⟨L.b, L.o + off, true, sz, L.N⟩
    ρ.le (ρ.upd st.next K) ∧
    Sim P B w0 (ρ.upd st.next K) { st with heap := PT.set (.row (cs.drop off) true true sz) (st.next + 1) st.next (PT.set .dead (β + 1) β st.heap), next := st.next + 1, wr := l } w := by
  intro K
  have hρ := hS.fresh _ hn
  have hle := Rho.upd_le K hρ
  have hne : β ≠ st.next := fun e => by rw [e] at hb; rw [hn] at hb; cases hb
  obtain ⟨hlt, ⟨c, el, fz, hw, hN, hg, hgg, hlen, hc, hfz⟩, hB⟩ := hS.get hb hL
  have hget : ∀ γ b, γ ≠ st.next → (PT.set (.row (cs.drop off) true true sz) (st.next + 1) st.next (PT.set .dead (β + 1) β st.heap)).get γ = some b →
      (γ = β ∧ b = .dead) ∨ (γ ≠ β ∧ st.heap.get γ = some b) := by
    intro γ b e h
    rw [PT.get_set_ne _ _ _ _ _ e] at h
    by_cases e2 : γ = β
    · subst e2; rw [PT.get_set _ _ _ _ (by omega)] at h; cases h; exact .inl ⟨rfl, rfl⟩
    · rw [PT.get_set_ne _ _ _ _ _ e2] at h; exact .inr ⟨e2, h⟩
  have hK : ∀ i j, InExt K (.row (cs.drop off) true true sz) i j → InExt L (.row cs true true sz) i j := by
    intro i j h
    simp only [InExt, K, if_true] at h ⊢
    omega
  refine ⟨hle, hS.below, hS.base, by have := hS.nextOk; show _ ≤ st.next + 1; omega, ?_, ?_, ?_, ?_, hS.mem⟩
  · intro γ b h
    by_cases e : γ = st.next
    · subst e
      rw [PT.get_set _ _ _ _ (by omega)] at h
      cases h
      refine ⟨K, Rho.upd_same _ _ _, hlt, ⟨c, el, fz, hw, hN, rfl, fun _ => ⟨rfl, rfl⟩, by simp [K]; omega, ?_, ?_⟩, fun _ => hB rfl⟩
      · intro i v hi
        rw [List.getElem?_drop] at hi
        obtain ⟨v', h1, h2⟩ := hc _ v hi
        exact ⟨v', by simpa [K, Nat.add_assoc] using h1, h2.mono hle⟩
      · intro _ j h1 h2
        simp only [K, if_true] at h1 h2
        exact hfz rfl j (by omega) (by simpa using h2)
    · rcases hget γ b e h with ⟨rfl, rfl⟩ | ⟨e2, h2⟩
      · exact ⟨L, hle _ _ hL, hlt, trivial, fun x => by cases x⟩
      · obtain ⟨J, h1, h2, h3, h4⟩ := hS.blk γ b h2
        exact ⟨J, hle _ _ h1, h2, h3.mono hle, h4⟩
  · intro γ δ b d J J' hne2 hb1 hd1 hJ hJ' hown i j hi hj
    by_cases e : γ = st.next
    · subst e
      rw [PT.get_set _ _ _ _ (by omega)] at hb1
      cases hb1
      rw [Rho.upd_same] at hJ
      cases hJ
      rcases hget δ d (Ne.symm hne2) hd1 with ⟨rfl, rfl⟩ | ⟨e2, h2⟩
      · exact hj.elim
      · obtain ⟨J2, h1, _⟩ := hS.blk δ d h2
        have : J2 = J' := Option.some.inj ((hle _ _ h1).symm.trans hJ')
        subst this
        exact hS.sep β δ _ d L J2 (Ne.symm e2) hb h2 hL h1 rfl i j (hK i j hi) hj
    · rcases hget γ b e hb1 with ⟨rfl, rfl⟩ | ⟨e2, h2⟩
      · exact hi.elim
      · obtain ⟨J1, h1, _⟩ := hS.blk γ b h2
        have : J1 = J := Option.some.inj ((hle _ _ h1).symm.trans hJ)
        subst this
        by_cases e3 : δ = st.next
        · subst e3
          rw [PT.get_set _ _ _ _ (by omega)] at hd1
          cases hd1
          rw [Rho.upd_same] at hJ'
          cases hJ'
          exact hS.sep γ β b _ J1 L e2 h2 hb h1 hL hown i j hi (hK i j hj)
        · rcases hget δ d e3 hd1 with ⟨rfl, rfl⟩ | ⟨e4, h4⟩
          · exact hj.elim
          · obtain ⟨J2, h5, _⟩ := hS.blk δ d h4
            have : J2 = J' := Option.some.inj ((hle _ _ h5).symm.trans hJ')
            subst this
            exact hS.sep γ δ b d J1 J2 hne2 h2 h4 h1 h5 hown i j hi hj
  · intro γ h
    by_cases e : γ = st.next
    · subst e; rw [PT.get_set _ _ _ _ (by omega)] at h; cases h
    · rw [PT.get_set_ne _ _ _ _ _ e] at h
      by_cases e2 : γ = β
      · subst e2; rw [PT.get_set _ _ _ _ (by omega)] at h; cases h
      · rw [PT.get_set_ne _ _ _ _ _ e2] at h
        simp only [Rho.upd, if_neg e]
        exact hS.fresh γ h
  · intro g hg2 J hJ
    have : g ≠ st.next := by have := hS.nextOk; omega
    simp only [Rho.upd, if_neg this] at hJ
    exact hS.glob g hg2 J hJ

theorem growBy_le (newLen : Nat) : ∀ (r c : Nat), c ≤ newLen + (newLen + 768) / 4 → Builtin.growBy newLen r c ≤ newLen + (newLen + 768) / 4 := by
  intro r
  induction r with
  | zero => intro c h; exact h
  | succ r ih =>
    intro c h
    unfold Builtin.growBy
    split
    · exact h
    · exact ih _ (by omega)
theorem nextslicecap_le (newLen oldCap : Nat) (h : oldCap ≤ newLen) : Builtin.nextslicecap newLen oldCap ≤ 2 * newLen + 1000 := by
  unfold Builtin.nextslicecap
  split
  · omega
  · split
    · omega
    · have := growBy_le newLen 4 oldCap (by omega)
      omega

set_option maxHeartbeats 1000000 in
/-- What append comes to where the row grows. -/
theorem run_append_grows {sT e : TypeId} {xT? : Option TypeId} {ts : Array TypeId} {ty : TypeId} {size n sLen cap' : Nat} {base : Option Addr} {x' : Value} {i : TypeInfo} {z : Value} {old new : List Value}
    (ht : ts[0]? = some sT) (ht1 : ts[1]? = xT?) (hx : noIntB P xT? = true)
    (hu : P.underlying sT = some (.slice e)) (hs : sizeO P e = some size) (hi : P.info? e = some i) 
    (hn : (Builtin.lenOf x').run P w = .ok n w) (hcap : ¬ sLen + n ≤ cap') (hbig : (2 * (sLen + n) + 1000) * i.bytes ≤ 2 ^ 46) (h60 : sLen + n < 2 ^ 60)
    (hz' : ∀ w : World, (zeroValue e).run P w = .ok z w)
    (hold : ∀ w1 : World, w1.heap = w.heap → (Builtin.firstCells size sLen (.slice base sLen cap')).run P w1 = .ok old.toArray w1)
    (hnew : ∀ w1 : World, w1.heap = w.heap → (Builtin.firstCells size n x').run P w1 = .ok new.toArray w1) :
    ∃ newCap, sLen + n ≤ newCap ∧ (Builtin.append_ ts ty #[.slice base sLen cap', x']).run P w =
      .ok (.slice (some ⟨w.heap.size, 0, none⟩) (sLen + n) newCap) (({ w with drawn := w.drawn + 1 } : World).alloc (.cells ((old ++ new) ++ zerosL z.cells.toList (newCap - (sLen + n))).toArray e)) := by
  refine ⟨(Question.appendCap (sLen + n) cap' e).cut (w.tape w.drawn (.appendCap (sLen + n) cap' e)), by simp [Question.cut], ?_⟩
  generalize hnc : (Question.appendCap (sLen + n) cap' e).cut (w.tape w.drawn (.appendCap (sLen + n) cap' e)) = newCap
  have h1 : ¬ ((((sLen + n : Nat) : Int) > IntKind.i64.max) ∧ (False ∨ i.bytes = 0)) := by
    intro h
    have := h.1
    have : IntKind.i64.max = 2 ^ 63 - 1 := rfl
    omega
  have hcapn : cap' ≤ sLen + n := by omega
  have h2 : ¬ Builtin.nextslicecap (sLen + n) cap' * i.bytes > 2 ^ 48 := by
    have := Nat.mul_le_mul_right i.bytes (nextslicecap_le (sLen + n) cap' hcapn)
    omega
  have hrest : Builtin.zeroCells z.cells (newCap - (sLen + n)) = (zerosL z.cells.toList (newCap - (sLen + n))).toArray := array_zeros _ _
  have h63' : ¬ (9223372036854775807 < ((sLen : Int) + (n : Int))) := by omega
  have h48' : ¬ (281474976710656 < Builtin.nextslicecap (sLen + n) cap' * i.bytes) := by omega
  have ho := hold w.drew rfl
  have hw := hnew w.drew rfl
  have key : (Builtin.append_ #[sT] ty #[.slice base sLen cap', x']).run P w =
      .ok (.slice (some ⟨w.heap.size, 0, none⟩) (sLen + n) newCap) (({ w with drawn := w.drawn + 1 } : World).alloc (.cells ((old ++ new) ++ zerosL z.cells.toList (newCap - (sLen + n))).toArray e)) := by
    unfold Builtin.append_
    simp only [show (#[sT] : Array TypeId)[0]? = some sT from rfl, show (#[sT] : Array TypeId)[1]? = none from rfl, show (#[Value.slice base sLen cap', x'] : Array Value)[0]? = some (.slice base sLen cap') from rfl,
      show (#[Value.slice base sLen cap', x'] : Array Value)[1]? = some x' from rfl]
    simp [run_underlying hu, run_size hs, hn, hcap, run_info hi, h63', h48', Question.forced, ho, hw, hz', hrest, hnc, Go.newRow]
  rw [← key]
  unfold Builtin.append_
  simp only [ht, ht1, show (#[sT] : Array TypeId)[0]? = some sT from rfl, show (#[sT] : Array TypeId)[1]? = none from rfl, show (#[Value.slice base sLen cap', x'] : Array Value)[0]? = some (.slice base sLen cap') from rfl,
      show (#[Value.slice base sLen cap', x'] : Array Value)[1]? = some x' from rfl]
  simp only [Sem.run_bind, run_underlying hu, Result.andThen_ok, run_size hs]
  cases xT? with
  | none => rfl
  | some xT =>
    simp only [noIntB] at hx
    cases hux : P.underlying xT with
    | none => rw [hux] at hx; cases hx
    | some d =>
      rw [hux] at hx
      simp only [Sem.run_bind, run_underlying hux, Result.andThen_ok, Sem.run_pure]
      cases d <;> first | rfl | cases hx

set_option maxHeartbeats 1000000 in
/-- What append comes to where there is room. -/
theorem run_append_room' {sT e : TypeId} {xT? : Option TypeId} {ts : Array TypeId} {ty : TypeId} {size n sLen cap' : Nat} {base : Option Addr} {x' : Value} {new : List Value}
    (ht : ts[0]? = some sT) (ht1 : ts[1]? = xT?) (hx : noIntB P xT? = true)
    (hu : P.underlying sT = some (.slice e)) (hs : sizeO P e = some size)
    (hn : (Builtin.lenOf x').run P w = .ok n w) (hcap : sLen + n ≤ cap')
    (hnew : (Builtin.firstCells size n x').run P w = .ok new.toArray w)
    (hst : (match base with | some a => storeCells (a.add (sLen * size)) new | none => pure ()).run P w = .ok () w') :
    (Builtin.append_ ts ty #[.slice base sLen cap', x']).run P w = .ok (.slice base (sLen + n) cap') w' := by
  have key : (Builtin.append_ #[sT] ty #[.slice base sLen cap', x']).run P w = .ok (.slice base (sLen + n) cap') w' := by
    unfold Builtin.append_
    simp only [show (#[sT] : Array TypeId)[0]? = some sT from rfl, show (#[sT] : Array TypeId)[1]? = none from rfl, show (#[Value.slice base sLen cap', x'] : Array Value)[0]? = some (.slice base sLen cap') from rfl,
      show (#[Value.slice base sLen cap', x'] : Array Value)[1]? = some x' from rfl]
    cases base with
    | none => simp at hst; subst hst; simp [run_underlying hu, run_size hs, hn, hcap, hnew]
    | some a => simp only at hst; simp [run_underlying hu, run_size hs, hn, hcap, hnew, hst]
  rw [← key]
  unfold Builtin.append_
  simp only [ht, ht1, show (#[sT] : Array TypeId)[0]? = some sT from rfl, show (#[sT] : Array TypeId)[1]? = none from rfl, show (#[Value.slice base sLen cap', x'] : Array Value)[0]? = some (.slice base sLen cap') from rfl,
      show (#[Value.slice base sLen cap', x'] : Array Value)[1]? = some x' from rfl]
  simp only [Sem.run_bind, run_underlying hu, Result.andThen_ok, run_size hs]
  cases xT? with
  | none => rfl
  | some xT =>
    simp only [noIntB] at hx
    cases hux : P.underlying xT with
    | none => rw [hux] at hx; cases hx
    | some d =>
      rw [hux] at hx
      simp only [Sem.run_bind, run_underlying hux, Result.andThen_ok, Sem.run_pure]
      cases d <;> first | rfl | cases hx

theorem splice_eq_take {k : Nat} {vs l : List Value} : splice k vs l = l.take k ++ vs ++ l.drop (k + vs.length) := rfl

theorem slice_cases {s' : Value} {base : Option Addr} {sLen sCap : Nat} (h : VRel ρ (.slice base sLen sCap) s') :
    (base = none ∧ sLen = 0 ∧ sCap = 0 ∧ s' = .slice none 0 0) ∨ (∃ a c, base = some ⟨0, 0, some 0⟩ ∧ sLen = 0 ∧ sCap = 0 ∧ s' = .slice (some a) 0 c) ∨
    ∃ β off cap' L, base = some ⟨β, off, none⟩ ∧ ρ β = some L ∧ s' = .slice (some ⟨L.b, L.o + off, none⟩) sLen cap' ∧ (cap' = sCap ∨ (L.g = true ∧ sCap ≤ cap' ∧ L.o + off + cap' * L.sz ≤ L.N)) := by
  cases h with
  | snil => exact .inl ⟨rfl, rfl, rfl, rfl⟩
  | semp a c => exact .inr (.inl ⟨a, c, rfl, rfl, rfl, rfl⟩)
  | slice hL hc => exact .inr (.inr ⟨_, _, _, _, rfl, hL, rfl, hc⟩)

/-- Behind the reading of the operands. -/
def appendTail (P : Program) (size bytes sLen sCap n : Nat) (base : Option Addr) (new : List Value) (s : Value) : M Value :=
      let need := sLen + n
      if need ≤ sCap then
        (match base with
        | some ⟨β, off, none⟩ => do
          if new.isEmpty then pure s else do
          let (cs, rw, g, sz) ← rowOf β
          guardM (rw && decide (off + need * size ≤ cs.length) && new.all oneCellB)
          setB β (.row (splice (off + sLen * size) new cs) rw g sz)
          pure (.slice base need sCap)
        | none => if n = 0 then pure s else M.fail
        | _ => if n = 0 then pure s else M.fail)
      else do
        guardM (decide ((2 * need + 1000) * bytes ≤ 2 ^ 46) && decide (need < 2 ^ 60))
        match base with
        | none => do
          guardM (sCap == 0)
          let β ← newB (.row new true true size)
          pure (.slice (some ⟨β, 0, none⟩) need need)
        | some ⟨β, off, none⟩ => do
          let (cs, rw, g, sz) ← rowOf β
          guardM (decide (off + sLen * size ≤ cs.length))
          let old := (cs.drop off).take (sLen * size)
          if g then do
            guardM (rw && sz == size && new.all oneCellB)
            setB β .dead
            let γ ← newB (.row (old ++ new) true true size)
            pure (.slice (some ⟨γ, 0, none⟩) need need)
          else do
            let γ ← newB (.row (old ++ new) true true size)
            pure (.slice (some ⟨γ, 0, none⟩) need need)
        | _ => M.fail

theorem zeros_len {z : Value} {n size : Nat} (h : z.cells.size = size) : (zerosL z.cells.toList n).length = n * size := by
  rw [zerosL_length]; simp [h]

set_option maxHeartbeats 1000000 in
theorem appendTail_ok {sT e : TypeId} {xT? : Option TypeId} {ts : Array TypeId} {ty : TypeId} {size n sLen sCap : Nat} {base : Option Addr} {s' x' r : Value} {i : TypeInfo} {z : Value} {new new' : List Value}
    (hS : Sim P B w0 ρ st w)
    (ht : ts[0]? = some sT) (ht1 : ts[1]? = xT?) (hx : noIntB P xT? = true)
    (hu : P.underlying sT = some (.slice e)) (hs : sizeO P e = some size) (hi : P.info? e = some i) (hs0 : size ≠ 0)
    (hz : ∀ W : World, (zeroValue e).run P W = .ok z W) (hzs : z.cells.size = size)
    (hsv : VRel ρ (.slice base sLen sCap) s') (hn : (Builtin.lenOf x').run P w = .ok n w)
    (hnew : ∀ W : World, W.heap = w.heap → (Builtin.firstCells size n x').run P W = .ok new'.toArray W) (hnl : LRel ρ new new') (hlen : new.length = n * size)
    (h : appendTail P size i.bytes sLen sCap n base new (.slice base sLen sCap) st = some (r, st')) :
    Good P B w0 ρ st' r ((Builtin.append_ ts ty #[s', x']).run P w) := by
  have hlen' : new'.length = n * size := by rw [← hnl.1]; exact hlen
  unfold appendTail at h
  simp only at h
  split at h
  · -- there is room
    rename_i hroom
    rcases slice_cases hsv with ⟨rfl, rfl, rfl, rfl⟩ | ⟨a, c, rfl, rfl, rfl, rfl⟩ | ⟨β, off, cap', L, rfl, hL, rfl, hc⟩
    · simp only at h
      split at h
      · rename_i h0
        cases (pure_some.1 h)
        subst h0
        refine Good.same (v' := .slice none 0 0) ?_ hS .snil
        exact run_append_room' (base := none) (w' := w) (cap' := 0) ht ht1 hx hu hs hn (by omega) (hnew w rfl) rfl
      · exact (fail_some.1 h).elim
    · simp only at h
      split at h
      · rename_i h0
        cases (pure_some.1 h)
        subst h0
        have hn0 : new' = [] := List.length_eq_zero_iff.1 (by simpa using hlen')
        subst hn0
        refine Good.same (v' := .slice (some a) 0 c) ?_ hS (.semp _ _)
        exact run_append_room' (base := some a) (w' := w) (cap' := c) ht ht1 hx hu hs hn (by omega) (hnew w rfl) (by simp [storeCells])
      · exact (fail_some.1 h).elim
    · have hcap : sLen + n ≤ cap' := by rcases hc with hc | ⟨_, hc, _⟩ <;> omega
      simp only at h
      split at h
      · rename_i he
        cases (pure_some.1 h)
        have he0 : new = [] := by simpa using he
        subst he0
        have hn0 : n = 0 := by
          rcases Nat.eq_zero_or_pos n with h0 | h0
          · exact h0
          · have := Nat.mul_pos h0 (Nat.pos_of_ne_zero hs0); simp at hlen; omega
        subst hn0
        have hn0 : new' = [] := List.length_eq_zero_iff.1 (by simpa using hlen')
        subst hn0
        refine Good.same (v' := .slice (some ⟨L.b, L.o + off, none⟩) sLen cap') ?_ hS hsv
        exact run_append_room' (base := some ⟨L.b, L.o + off, none⟩) (w' := w) (cap' := cap') ht ht1 hx hu hs hn (by omega) (hnew w rfl) (by simp [storeCells])
      · obtain ⟨y, s1, h1, h⟩ := bind_some.1 h
        obtain ⟨cs, rw', g, sz, hb, e1⟩ := rowOf_some.1 h1
        cases e1
        simp only at h
        obtain ⟨_, s1, h1, h⟩ := bind_some.1 h
        obtain ⟨hg, e1⟩ := guardM_some.1 h1
        cases e1
        obtain ⟨_, s1, h1, h⟩ := bind_some.1 h
        obtain ⟨_, e1⟩ := setB_some.1 h1
        cases e1
        cases (pure_some.1 h)
        simp only [Bool.and_eq_true, decide_eq_true_eq] at hg
        obtain ⟨⟨hrw, hfit⟩, hone⟩ := hg
        subst hrw
        have hfit' : (off + sLen * size) + new.length ≤ cs.length := by
          rw [hlen]
          rw [Nat.add_mul] at hfit
          omega
        obtain ⟨w', hr, hS'⟩ := hS.store (P := P) hb hL hnl hfit' hone (β :: st.wr)
        refine ⟨.slice (some ⟨L.b, L.o + off, none⟩) (sLen + n) cap', w', ρ, ?_, ρ.le_refl, hS'.logs rfl hS'.nextOk, .slice hL hc⟩
        refine run_append_room' (base := some ⟨L.b, L.o + off, none⟩) (cap' := cap') ht ht1 hx hu hs hn hcap (hnew w rfl) ?_
        simp only
        rw [add_off, Nat.add_assoc]
        exact hr
  · rename_i hroom
    obtain ⟨_, s1, h1, h⟩ := bind_some.1 h
    obtain ⟨hg, e1⟩ := guardM_some.1 h1
    cases e1
    simp only [Bool.and_eq_true, decide_eq_true_eq] at hg
    obtain ⟨hbig, h60⟩ := hg
    rcases slice_cases hsv with ⟨rfl, rfl, rfl, rfl⟩ | ⟨a, c, rfl, rfl, rfl, rfl⟩ | ⟨β, off, cap', L, rfl, hL, rfl, hc⟩
    · simp only at h
      obtain ⟨_, s1, h1, h⟩ := bind_some.1 h
      obtain ⟨_, e1⟩ := guardM_some.1 h1
      cases e1
      obtain ⟨γ, s1, h1, h⟩ := bind_some.1 h
      obtain ⟨hnew0, e1⟩ := newB_some.1 h1
      cases e1
      cases (pure_some.1 h)
      obtain ⟨newCap, hcapn, hrun⟩ := run_append_grows (P := P) (w := w) (ty := ty) (base := none) (cap' := 0) (old := []) ht ht1 hx hu hs hi hn (by omega) hbig h60 hz
        (fun W _ => by simp [Builtin.firstCells]) hnew
      obtain ⟨k1, k2⟩ := hS.drew.newGrow (sz := size) (el := e) (rest := zerosL z.cells.toList (newCap - (0 + n))) (fz := (0, 0)) hnew0 hnl (.inl rfl)
      have hrest : (zerosL z.cells.toList (newCap - n)).length = (newCap - n) * size := zeros_len hzs
      refine ⟨_, _, _, hrun, k1, ?_, .slice (Rho.upd_same _ _ _) (.inr ⟨rfl, hcapn, ?_⟩)⟩
      · simpa using k2
      · simp only [Nat.zero_add, hlen', hrest]
        rw [← Nat.add_mul]
        apply Nat.mul_le_mul_right
        omega
    · exact (fail_some.1 h).elim
    · simp only at h
      obtain ⟨y, s1, h1, h⟩ := bind_some.1 h
      obtain ⟨cs, rw', g, sz, hb, e1⟩ := rowOf_some.1 h1
      cases e1
      simp only at h
      obtain ⟨_, s1, h1, h⟩ := bind_some.1 h
      obtain ⟨hg, e1⟩ := guardM_some.1 h1
      cases e1
      simp only [decide_eq_true_eq] at hg
      obtain ⟨hlt, ⟨c, el, fz, hw, hN, hLg, hgg, hle, hcc, hfz⟩, hB⟩ := hS.get hb hL
      obtain ⟨old', hol, hor, hoc⟩ := row_stretch hcc off (sLen * size) hg
      have hold : ∀ (W : World) (k : Nat), W.heap = w.heap → (Builtin.firstCells size sLen (.slice (some ⟨L.b, L.o + off, none⟩) sLen k)).run P W = .ok old'.toArray W := by
        intro W k hW
        simp [Builtin.firstCells, run_cells (w := W) (by rw [hW]; exact hw) old' hol hoc]
      have hcs2 : LRel ρ ((cs.drop off).take (sLen * size) ++ new) (old' ++ new') := hor.append hnl
      have hlen2 : (old' ++ new').length = (sLen + n) * size := by simp [hol, hlen', Nat.add_mul]
      have hrest : ∀ k, (zerosL z.cells.toList k).length = k * size := fun k => zeros_len (z := z) hzs
      cases g with
      | true =>
        -- the row owns what lies behind it
        simp only [if_true] at h
        obtain ⟨_, s1, h1, h⟩ := bind_some.1 h
        obtain ⟨hg2, e1⟩ := guardM_some.1 h1
        cases e1
        obtain ⟨_, s1, h1, h⟩ := bind_some.1 h
        obtain ⟨_, e1⟩ := setB_some.1 h1
        cases e1
        obtain ⟨γ, s1, h1, h⟩ := bind_some.1 h
        obtain ⟨hnew0, e1⟩ := newB_some.1 h1
        cases e1
        cases (pure_some.1 h)
        simp only [Bool.and_eq_true, beq_iff_eq] at hg2
        obtain ⟨⟨hrw, hszz⟩, hone⟩ := hg2
        subst hrw
        subst hszz
        simp only at hnew0
        have hne : st.next ≠ β := fun e => by rw [e, PT.get_set _ _ _ _ (by omega)] at hnew0; cases hnew0
        rw [PT.get_set_ne _ _ _ _ _ hne] at hnew0
        by_cases hreal : sLen + n ≤ cap'
        · -- there is room in truth
          have hc2 : L.o + off + cap' * L.sz ≤ L.N := by
            rcases hc with hc | ⟨_, _, hc⟩
            · omega
            · exact hc
          have hLsz : L.sz = sz := (hgg rfl).1
          rw [hLsz] at hc2
          have hfitN : L.o + (off + sLen * sz) + new.length ≤ L.N := by
            rw [hlen]
            have : (sLen + n) * sz ≤ cap' * sz := Nat.mul_le_mul_right _ hreal
            rw [Nat.add_mul] at this
            omega
          obtain ⟨w', hr, hS'⟩ := hS.write (P := P) (k := off + sLen * sz) (cs2 := cs.take (off + sLen * sz) ++ new) hb hL hnl hone (by simpa using hfitN)
            (by simp; omega) (by intro x; cases x) (by
              intro i v hi
              rw [List.getElem?_append] at hi
              split at hi
              · rename_i hlt2
                simp at hlt2
                rw [List.getElem?_take, if_pos (by omega)] at hi
                exact .inr ⟨by omega, hi⟩
              · rename_i hlt2
                simp at hlt2
                have hk : i - (cs.take (off + sLen * sz)).length = i - (off + sLen * sz) := by simp; omega
                rw [hk] at hi
                have := (List.getElem?_eq_some_iff.1 hi).1
                exact .inl ⟨by omega, by omega, hi⟩) (β :: st.wr)
          obtain ⟨k1, k2⟩ := hS'.renumber (off := off) (PT.get_set _ _ _ _ (by omega)) hL (by simp; omega) (by
            simp only
            rw [PT.get_set_ne _ _ _ _ _ hne]; exact hnew0) (β :: st.wr)
          have hdrop : (cs.take (off + sLen * sz) ++ new).drop off = (cs.drop off).take (sLen * sz) ++ new := by
            rw [List.drop_append_of_le_length (by simp; omega), List.drop_take]
            congr 2
            omega
          rw [hdrop] at k2
          refine ⟨.slice (some ⟨L.b, L.o + off, none⟩) (sLen + n) cap', w', _, ?_, k1, ?_, ?_⟩
          · refine run_append_room' (base := some ⟨L.b, L.o + off, none⟩) (cap' := cap') ht ht1 hx hu hs hn hreal (hnew w rfl) ?_
            simp only
            rw [add_off, Nat.add_assoc]
            exact hr
          · refine (k2.logs ?_ ?_)
            · simp only [PT.set_set]
            · exact k2.nextOk
          · have := VRel.slice (ρ := ρ.upd st.next ⟨L.b, L.o + off, true, sz, L.N⟩) (β := st.next) (off := 0) (len := sLen + n) (cap := sLen + n) (cap' := cap') (L := ⟨L.b, L.o + off, true, sz, L.N⟩) (Rho.upd_same _ _ _)
              (.inr ⟨rfl, hreal, by simpa using hc2⟩)
            simpa using this
        · obtain ⟨newCap, hcapn, hrun⟩ := run_append_grows (P := P) (w := w) (ty := ty) (base := some ⟨L.b, L.o + off, none⟩) (cap' := cap') (old := old') ht ht1 hx hu hs hi hn hreal hbig h60 hz
            (fun W hW => hold W cap' hW) hnew
          have hSk : Sim P B w0 ρ { st with heap := PT.set .dead (β + 1) β st.heap, wr := β :: st.wr } { w with drawn := w.drawn + 1 } := (hS.kill hb _).drew
          obtain ⟨k1, k2⟩ := hSk.newGrow (sz := sz) (el := e) (rest := zerosL z.cells.toList (newCap - (sLen + n))) (fz := (0, 0)) (by
            simp only
            rw [PT.get_set_ne _ _ _ _ _ hne]; exact hnew0) hcs2 (.inl rfl)
          refine ⟨_, _, _, hrun, k1, k2.logs rfl k2.nextOk, .slice (Rho.upd_same _ _ _) (.inr ⟨rfl, hcapn, ?_⟩)⟩
          simp only [Nat.zero_add, hlen2, hrest]
          rw [← Nat.add_mul]
          apply Nat.mul_le_mul_right
          omega
      | false =>
        simp only [Bool.false_eq_true, if_false] at h
        obtain ⟨γ, s1, h1, h⟩ := bind_some.1 h
        obtain ⟨hnew0, e1⟩ := newB_some.1 h1
        cases e1
        cases (pure_some.1 h)
        have hcc' : cap' = sCap := by
          rcases hc with hc | ⟨hc, _⟩
          · exact hc
          · rw [hLg] at hc; cases hc
        subst hcc'
        obtain ⟨newCap, hcapn, hrun⟩ := run_append_grows (P := P) (w := w) (ty := ty) (base := some ⟨L.b, L.o + off, none⟩) (cap' := cap') (old := old') ht ht1 hx hu hs hi hn hroom hbig h60 hz
          (fun W hW => hold W cap' hW) hnew
        have hS0 : Sim P B w0 ρ { st with rd := β :: st.rd } w := hS.logs rfl hS.nextOk
        have hS1 : Sim P B w0 ρ { st with rd := β :: st.rd } { w with drawn := w.drawn + 1 } := hS0.drew
        obtain ⟨k1, k2⟩ := hS1.newGrow (sz := size) (el := e) (rest := zerosL z.cells.toList (newCap - (sLen + n))) (fz := (0, 0)) hnew0 hcs2 (.inl rfl)
        refine ⟨_, _, _, hrun, k1, k2, .slice (Rho.upd_same _ _ _) (.inr ⟨rfl, hcapn, ?_⟩)⟩
        simp only [Nat.zero_add, hlen2, hrest]
        rw [← Nat.add_mul]
        apply Nat.mul_le_mul_right
        omega

set_option maxHeartbeats 1000000 in
theorem append_ok {ts : Array TypeId} {ty : TypeId} {l l' : List Value} {r : Value} (hS : Sim P B w0 ρ st w) (hl : LRel ρ l l') (h : appendM P ts l st = some (r, st')) :
    Good P B w0 ρ st' r ((Builtin.append_ ts ty l'.toArray).run P w) := by
  unfold appendM at h
  generalize ht : ts[0]? = tt at h
  generalize ht1 : ts[1]? = tt1 at h
  split at h
  case h_2 => exact (fail_some.1 h).elim
  rename_i sT s x
  obtain ⟨s', l1, rfl, hs, hl⟩ := hl.cons_left
  obtain ⟨x', l2, rfl, hx, hl⟩ := hl.cons_left
  have := hl.nil_left
  subst this
  obtain ⟨_, s1, h1, hq⟩ := bind_some.1 h
  obtain ⟨hg, e1⟩ := guardM_some.1 h1
  cases e1
  clear h h1
  have h := hq
  clear hq
  generalize hu : P.underlying sT = ut at h
  split at h
  case h_2 => exact (fail_some.1 h).elim
  rename_i e base sLen sCap
  obtain ⟨size, s1, h1, h⟩ := bind_some.1 h
  obtain ⟨_, hsz, e1⟩ := ofO_some.1 h1
  cases e1
  obtain ⟨by', s1, h1, h⟩ := bind_some.1 h
  obtain ⟨_, hby, e1⟩ := ofO_some.1 h1
  cases e1
  obtain ⟨z, s1, h1, h⟩ := bind_some.1 h
  have hz' : ∀ W : World, (zeroValue e).run P W = .ok z W := fun W => (run_zero h1 W).1
  obtain ⟨_, _, e1, _⟩ := run_zero h1 w
  subst e1
  obtain ⟨i, hi, hib⟩ := run_bytes hby
  obtain ⟨_, s1, h1, h⟩ := bind_some.1 h
  obtain ⟨hzs, e1⟩ := guardM_some.1 h1
  cases e1
  simp only [Bool.and_eq_true, beq_iff_eq, bne_iff_ne, ne_eq] at hzs
  obtain ⟨hzs, hs0⟩ := hzs
  obtain ⟨n, s1, h1, h⟩ := bind_some.1 h
  obtain ⟨_, hn, e1⟩ := ofO_some.1 h1
  cases e1
  obtain ⟨new, s1, h1, h⟩ := bind_some.1 h
  obtain ⟨new', hnr, hnl, hnlen, hS1, _, _⟩ := first_ok hS hx (by rw [hn]; exact Nat.le_refl _) h1
  rw [← hib] at h
  exact appendTail_ok hS1 ht ht1 hg hu hsz hi hs0 hz' hzs hs (len_rel hx hn) hnr hnl hnlen h

theorem copy_ok {ts : Array TypeId} {ty : TypeId} {l l' : List Value} {r : Value} (hS : Sim P B w0 ρ st w) (hl : LRel ρ l l') (h : copyM P ts l st = some (r, st')) :
    Good P B w0 ρ st' r ((Builtin.copy_ ts ty l'.toArray).run P w) := by
  unfold copyM at h
  generalize ht : ts[0]? = tt at h
  split at h
  case h_2 => exact (fail_some.1 h).elim
  rename_i dT d x
  obtain ⟨d', l1, rfl, hd, hl⟩ := hl.cons_left
  obtain ⟨x', l2, rfl, hx, hl⟩ := hl.cons_left
  have := hl.nil_left
  subst this
  generalize hu : P.underlying dT = ut at h
  split at h
  case h_2 => exact (fail_some.1 h).elim
  rename_i e base dLen dCap
  obtain ⟨size, s1, h1, h⟩ := bind_some.1 h
  obtain ⟨_, hsz, e1⟩ := ofO_some.1 h1
  cases e1
  obtain ⟨sl, s1, h1, h⟩ := bind_some.1 h
  obtain ⟨_, hn, e1⟩ := ofO_some.1 h1
  cases e1
  simp only at h
  obtain ⟨new, s1, h1, h⟩ := bind_some.1 h
  obtain ⟨new', hnr, hnl, hnlen, hS1, _, _⟩ := first_ok hS hx (by rw [hn]; exact Nat.min_le_left _ _) h1
  have hlr := len_rel (P := P) (w := w) hx hn
  have hfr := hnr w rfl
  have key : ∀ (b : Option Addr) (c : Nat) (w' : World), (match b with | some a => storeCells a new' | none => pure ()).run P w = .ok () w' →
      (Builtin.copy_ ts ty #[.slice b dLen c, x']).run P w = .ok (goInt (Nat.min sl dLen : Nat)) w' := by
    intro b c w' hst
    unfold Builtin.copy_
    simp only [ht, show (#[Value.slice b dLen c, x'] : Array Value)[0]? = some (.slice b dLen c) from rfl, show (#[Value.slice b dLen c, x'] : Array Value)[1]? = some x' from rfl]
    cases b with
    | none => simp at hst; subst hst; simp [run_underlying hu, run_size hsz, hlr, hfr]
    | some a => simp only at hst; simp [run_underlying hu, run_size hsz, hlr, hfr, hst]
  split at h
  · rename_i he
    cases (pure_some.1 h)
    have he0 : new = [] := by simpa using he
    subst he0
    have := hnl.nil_left
    subst this
    obtain ⟨b, c, rfl⟩ : ∃ b c, d' = .slice b dLen c := by cases hd <;> exact ⟨_, _, rfl⟩
    refine Good.same (key b c w ?_) hS1 (.int _ _)
    cases b <;> simp [storeCells]
  · rcases slice_cases hd with ⟨rfl, rfl, rfl, rfl⟩ | ⟨a, c, rfl, rfl, rfl, rfl⟩ | ⟨β, off, cap', L, rfl, hL, rfl, hc⟩
    · exact (fail_some.1 h).elim
    · exact (fail_some.1 h).elim
    · simp only at h
      obtain ⟨y, s1, h1, h⟩ := bind_some.1 h
      obtain ⟨cs, rw', g, sz, hb, e1⟩ := rowOf_some.1 h1
      cases e1
      simp only at h
      obtain ⟨_, s1, h1, h⟩ := bind_some.1 h
      obtain ⟨hg, e1⟩ := guardM_some.1 h1
      cases e1
      obtain ⟨_, s1, h1, h⟩ := bind_some.1 h
      obtain ⟨_, e1⟩ := setB_some.1 h1
      cases e1
      cases (pure_some.1 h)
      simp only [Bool.and_eq_true, decide_eq_true_eq] at hg
      obtain ⟨⟨hrw, hfit⟩, hone⟩ := hg
      subst hrw
      obtain ⟨w', hr, hS'⟩ := hS1.store (P := P) hb hL hnl hfit hone (β :: s1.wr)
      exact ⟨_, w', ρ, key _ _ _ hr, ρ.le_refl, hS'.logs rfl hS'.nextOk, .int _ _⟩

theorem tok_at {ρ : Rho} {t s : Nat} {e v : Value} (h : t = TOK + s) (hv : VRel ρ (.iface t e) v) : Srt s v ∧ Den e v := by
  cases hv with
  | iface t ht _ => exact absurd ht (Nat.not_lt.2 (h ▸ Nat.le_add_right _ _))
  | tok s' hd hs =>
    obtain rfl : s' = s := Nat.add_left_cancel h
    exact ⟨hs, hd⟩

theorem len_ok {ts : Array TypeId} {ty : TypeId} {l l' : List Value} {r : Value} (hS : Sim P B w0 ρ st w) (hl : LRel ρ l l') (h : lenM P ts l st = some (r, st')) :
    Good P B w0 ρ st' r ((Builtin.len_ ts ty l'.toArray).run P w) := by
  unfold lenM at h
  generalize ht : ts[0]? = tt at h
  split at h
  case h_2 => exact (fail_some.1 h).elim
  rename_i t x
  obtain ⟨x', l1, rfl, hx, hl⟩ := hl.cons_left
  have := hl.nil_left
  subst this
  generalize hu : P.underlying t = ut at h
  split at h
  · cases hx
    cases (pure_some.1 h)
    exact Good.same (by simp [Builtin.len_, ht, run_underlying hu]; rfl) hS (.int _ _)
  · split at h
    case isFalse => exact (fail_some.1 h).elim
    rename_i ht1
    obtain ⟨hsr, hd⟩ := tok_at (s := 1) ht1 hx
    obtain ⟨b, rfl⟩ := hsr.2.2.1 rfl
    cases (mpure_some.1 h)
    exact Good.same (by simp [Builtin.len_, ht, run_underlying hu]) hS (.tok 5 (.un hd rfl) (.int .i64 _))
  · split at h
    case isFalse => exact (fail_some.1 h).elim
    rename_i ht1
    obtain ⟨hsr, hd⟩ := tok_at (s := 11) ht1 hx
    obtain ⟨a0, n, c, rfl⟩ := hsr.2.2.2.2 rfl
    cases (mpure_some.1 h)
    exact Good.same (by simp [Builtin.len_, ht, run_underlying hu]) hS (.tok 5 (.un hd rfl) (.int .i64 _))
  · cases (pure_some.1 h)
    cases hx <;> exact Good.same (by simp [Builtin.len_, ht, run_underlying hu]; rfl) hS (.int _ _)
  · cases (pure_some.1 h)
    exact Good.same (by simp [Builtin.len_, ht, run_underlying hu]; rfl) hS (.int _ _)
  · cases hx
    cases (pure_some.1 h)
    exact Good.same (by simp [Builtin.len_, ht, run_underlying hu]; rfl) hS (.int _ _)
  · cases hx with
    | map hL =>
      rename_i L
      obtain ⟨y, s1, h1, h⟩ := bind_some.1 h
      obtain ⟨es, clock, hb, e1⟩ := mapOf_some.1 h1
      cases e1
      simp only at h
      cases (pure_some.1 h)
      obtain ⟨hlt, ⟨es', hw, hE⟩, hB⟩ := hS.get hb hL
      have hnc : ∀ c el fz, (Obj.map es' clock) ≠ .cells c el fz := fun _ _ _ e => by cases e
      have hgo : (getObj L.b).run P w = .ok (.map es' clock) w := run_getObj hw hnc
      have hl : es.length = es'.size := by simpa using hE.1
      refine Good.same (v' := goInt es'.size) (by simp [Builtin.len_, ht, run_underlying hu, hgo]) (hS.logs rfl hS.nextOk) ?_
      rw [hl]
      exact .int _ _
  · exact (fail_some.1 h).elim

theorem cap_ok {ts : Array TypeId} {ty : TypeId} {l l' : List Value} {r : Value} (hS : Sim P B w0 ρ st w) (hl : LRel ρ l l') (h : capM P ts l st = some (r, st')) :
    Good P B w0 ρ st' r ((Builtin.cap_ ts ty l'.toArray).run P w) := by
  unfold capM at h
  generalize ht : ts[0]? = tt at h
  split at h
  case h_2 => exact (fail_some.1 h).elim
  rename_i t x
  obtain ⟨x', l1, rfl, hx, hl⟩ := hl.cons_left
  have := hl.nil_left
  subst this
  generalize hu : P.underlying t = ut at h
  split at h
  · cases hx
    cases (pure_some.1 h)
    exact Good.same (by simp [Builtin.cap_, ht, run_underlying hu]; rfl) hS (.int _ _)
  · cases hx with
    | slice hL hc =>
      rename_i cap' L
      obtain ⟨y, s1, h1, h⟩ := bind_some.1 h
      obtain ⟨cs, rw', g, sz, hb, e1⟩ := rowOf_some.1 h1
      cases e1
      simp only at h
      obtain ⟨_, s1, h1, h⟩ := bind_some.1 h
      obtain ⟨hg, e1⟩ := guardM_some.1 h1
      cases e1
      cases (pure_some.1 h)
      obtain ⟨_, ⟨c, el, fz, hw, hN, hLg, _⟩, _⟩ := hS.get hb hL
      have hcc := hc.resolve_right (fun ⟨hc, _⟩ => by rw [hLg] at hc; simp [hc] at hg)
      subst hcc
      exact Good.same (by simp [Builtin.cap_, ht, run_underlying hu]; rfl) (hS.logs rfl hS.nextOk) (.int _ _)
  · cases (pure_some.1 h)
    exact Good.same (by simp [Builtin.cap_, ht, run_underlying hu]; rfl) hS (.int _ _)
  · exact (fail_some.1 h).elim

theorem minMax_ok {isMax : Bool} {ts : Array TypeId} {ty : TypeId} {l l' : List Value} {r : Value} (hS : Sim P B w0 ρ st w) (hl : LRel ρ l l') (h : minMaxM P isMax ts ty l st = some (r, st')) :
    Good P B w0 ρ st' r ((if isMax then Builtin.max_ ts ty l'.toArray else Builtin.min_ ts ty l'.toArray).run P w) := by
  unfold minMaxM at h
  split at h
  · rename_i hp
    obtain ⟨v, s1, h1, h⟩ := bind_some.1 h
    obtain ⟨_, hr, e⟩ := ofO_some.1 h1
    cases e
    obtain ⟨hv, e⟩ := plain_some.1 h
    cases e
    rw [plainL_eq hp hl]
    exact Good.same (pureRun_run hr w) hS (plainB_rel hv)
  · exact (fail_some.1 h).elim

theorem builtin_ok {b : Builtin} {ts : Array TypeId} {ty : TypeId} {consts : Array Bool} {l l' : List Value} {r : Value} (hS : Sim P B w0 ρ st w) (hl : LRel ρ l l') (h : builtinM P b ts ty l st = some (r, st')) :
    ∃ v' w' ρ', (builtin b ts ty consts l'.toArray).run P w = .ok (.value v') w' ∧ ρ.le ρ' ∧ Sim P B w0 ρ' st' w' ∧ VRel ρ' r v' := by
  unfold builtinM at h
  have fin : ∀ s : Sem Value, Good P B w0 ρ st' r (s.run P w) → ∃ v' w' ρ', (do pure (.value (← s)) : Sem Next).run P w = .ok (.value v') w' ∧ ρ.le ρ' ∧ Sim P B w0 ρ' st' w' ∧ VRel ρ' r v' := by
    rintro s ⟨v', w', ρ', e, h1, h2, h3⟩
    exact ⟨v', w', ρ', by simp [e], h1, h2, h3⟩
  cases b <;> simp only at h <;> first
    | exact fin _ (append_ok hS hl h)
    | exact fin _ (copy_ok hS hl h)
    | exact fin _ (len_ok hS hl h)
    | exact fin _ (cap_ok hS hl h)
    | exact fin _ (delete_ok hS hl h)
    | exact fin _ (minMax_ok (isMax := true) hS hl h)
    | exact fin _ (minMax_ok (isMax := false) hS hl h)
    | exact (fail_some.1 h).elim
end
end Go.Ev
