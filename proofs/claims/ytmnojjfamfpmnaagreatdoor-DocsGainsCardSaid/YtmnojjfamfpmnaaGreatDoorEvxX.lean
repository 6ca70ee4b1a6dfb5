/-
  A tree of branches whose leaves each name the truth that the call returns there.
-/
import Derived.Test.YtmnojjfamfpmnaaGreatDoorEvxW
set_option linter.unusedVariables false
set_option linter.unusedSimpArgs false
set_option linter.unusedSectionVars false
set_option linter.unnecessarySimpa false
set_option linter.unusedSectionVars false
namespace Go.Ev
open Go.RowKit

inductive TrB where
  | leaf (b : Bool)
  | ask (e : Value) (t u : TrB)

def chkB (P : Program) (sum : FuncId → Option (List Value → M Value)) (bv bf : Nat → Bool) (n : Nat) (f : FuncId) (l : List Value) (st : St) : TrB → List (Value × Bool) → Bool
  | .leaf b, p => (match @runB (pathOrc sum p) P n f l st with
    | some c => c == b
    | none => false)
  | .ask e t u, p => isB bv bf e && chkB P sum bv bf n f l st t ((e, true) :: p) && chkB P sum bv bf n f l st u ((e, false) :: p)

/-- The leaves, each with its path. -/
def TrB.leaves : TrB → List (Value × Bool) → List (List (Value × Bool) × Bool)
  | .leaf b, p => [(p, b)]
  | .ask e t u, p => t.leaves ((e, true) :: p) ++ u.leaves ((e, false) :: p)

section
variable [Eta]
variable {P : Program} {B : Nat} {w0 : World} {ρ : Rho} {st st' : St} {w w' : World}

/-- What a path says, reckoned out. -/
def pathP : List (Value × Bool) → Prop
  | [] => True
  | (e, b) :: r => (∀ x, dn 40 e = some (.bool x) → x = b) ∧ pathP r
theorem PathOk.says {p : List (Value × Bool)} (h : PathOk p) : pathP p := by
  induction p with
  | nil => trivial
  | cons x r ih =>
    obtain ⟨e, b⟩ := x
    exact ⟨fun y hy => h.at 40 (List.mem_cons_self ..) hy, ih (fun e b hb => h e b (by simp [hb]))⟩

theorem treeB_ok {sum : FuncId → Option (List Value → M Value)} {bv bf : Nat → Bool} (hbv : ∀ i, bv i = true → ∃ b, Eta.var i = .bool b) (hbf : ∀ k l r, bf k = true → Eta.fn k l = some r → ∃ b, r = .bool b)
    {n : Nat} {f : FuncId} {l : List Value} {st : St} : ∀ (t : TrB) (p : List (Value × Bool)), chkB P sum bv bf n f l st t p = true → PathOk p →
      ∃ q b, (q, b) ∈ t.leaves p ∧ PathOk q ∧ @runB (pathOrc sum q) P n f l st = some b := by
  intro t
  induction t with
  | leaf b =>
    intro p h hp
    refine ⟨p, b, by simp [TrB.leaves], hp, ?_⟩
    unfold chkB at h
    split at h
    · rename_i c hc
      rw [hc]
      simp at h
      rw [h]
    · cases h
  | ask e t u iht ihu =>
    intro p h hp
    simp only [chkB, Bool.and_eq_true] at h
    obtain ⟨⟨h1, h2⟩, h3⟩ := h
    by_cases he : Den e (.bool true)
    · obtain ⟨q, b, k1, k2⟩ := iht _ h2 (fun x b hx v hv => by
        rcases List.mem_cons.1 hx with hx | hx
        · cases hx; exact Den.single he hv
        · exact hp x b hx v hv)
      exact ⟨q, b, by simp [TrB.leaves, k1], k2⟩
    · obtain ⟨q, b, k1, k2⟩ := ihu _ h3 (fun x b hx v hv => by
        rcases List.mem_cons.1 hx with hx | hx
        · cases hx
          obtain ⟨b, rfl⟩ := isB_ok hbv hbf h1 hv
          cases b
          · rfl
          · exact absurd hv he
        · exact hp x b hx v hv)
      exact ⟨q, b, by simp [TrB.leaves, k1], k2⟩

/-- A call whose every path answers as its leaf says, and each leaf, where its path can be, says the spec. -/
theorem treeB_calls (hNG : NoGoroutines P) (hm : P.follows .mixedOrders = true) {sum : FuncId → Option (List Value → M Value)} {bv bf : Nat → Bool} (hbv : ∀ i, bv i = true → ∃ b, Eta.var i = .bool b)
    (hbf : ∀ k l r, bf k = true → Eta.fn k l = some r → ∃ b, r = .bool b) (hsum : ∀ p, @SumOk (pathOrc sum p) _ P B w0) {n : Nat} {f : FuncId} {l l' : List Value} {t : TrB} {spec : Bool}
    (hchk : chkB P sum bv bf n f l st t [] = true) (hleaf : ∀ q b, (q, b) ∈ t.leaves [] → PathOk q → spec = b) (hS : Sim P B w0 ρ st w) (hl : LRel ρ l l') :
    Calls P f l'.toArray w fun e w' => e = .returned (.bool spec) ∧ Below B w0 w' := by
  obtain ⟨q, b, hqb, hq, hr⟩ := treeB_ok hbv hbf t [] hchk (fun e b h => by cases h)
  rw [hleaf q b hqb hq]
  have ok : @OrcOk (pathOrc sum q) _ := @OrcOk.mk (pathOrc sum q) _ (fun e b v h hd => lookO_ok hq h hd) (fun e ss v h _ => by cases h)
  unfold runB at hr
  split at hr
  case h_2 => cases hr
  rename_i v s hev
  split at hr
  case h_2 => cases hr
  rename_i c s2 hfo
  obtain rfl := Option.some.inj hr
  refine Calls.mono (@ev_ok (pathOrc sum q) _ ok P B w0 hNG hm (hsum q) n ρ st w f l l' v s hS hl hev) ?_
  intro e w' ⟨v', ρ', he, _, hS', hv'⟩
  obtain ⟨_, hb⟩ := @force_ok (pathOrc sum q) _ ok ρ' s s2 v v' c hv' hfo
  rw [hb] at he
  exact ⟨he, hS'.below⟩

open Classical in
/-- What a tree comes to, by the meanings of its questions. -/
noncomputable def TrB.sem : TrB → Bool
  | .leaf b => b
  | .ask e t u => if Den e (.bool true) then t.sem else u.sem
open Classical in
theorem sem_eq (e : Value) (t u : TrB) : (TrB.ask e t u).sem = if Den e (.bool true) then t.sem else u.sem := rfl
theorem sem_leaf (b : Bool) : (TrB.leaf b).sem = b := rfl
theorem sem_ask {e : Value} {c : Bool} (hd : dn 40 e = some (.bool c)) (t u : TrB) : (TrB.ask e t u).sem = bif c then t.sem else u.sem := by
  rw [sem_eq]
  have h := dn_den 40 e _ hd
  cases c with
  | true => rw [if_pos h]; rfl
  | false => rw [if_neg (fun h' => by have := Den.single h h'; cases this)]; rfl

theorem treeB_sem {sum : FuncId → Option (List Value → M Value)} {bv bf : Nat → Bool} (hbv : ∀ i, bv i = true → ∃ b, Eta.var i = .bool b) (hbf : ∀ k l r, bf k = true → Eta.fn k l = some r → ∃ b, r = .bool b)
    {n : Nat} {f : FuncId} {l : List Value} {st : St} : ∀ (t : TrB) (p : List (Value × Bool)), chkB P sum bv bf n f l st t p = true → PathOk p →
      ∃ q, PathOk q ∧ @runB (pathOrc sum q) P n f l st = some t.sem := by
  intro t
  induction t with
  | leaf b =>
    intro p h hp
    refine ⟨p, hp, ?_⟩
    unfold chkB at h
    split at h
    · rename_i c hc
      rw [hc, sem_leaf]
      simp at h
      rw [h]
    · cases h
  | ask e t u iht ihu =>
    intro p h hp
    simp only [chkB, Bool.and_eq_true] at h
    obtain ⟨⟨h1, h2⟩, h3⟩ := h
    rw [sem_eq]
    by_cases he : Den e (.bool true)
    · rw [if_pos he]
      exact iht _ h2 (fun x b hx v hv => by
        rcases List.mem_cons.1 hx with hx | hx
        · cases hx; exact Den.single he hv
        · exact hp x b hx v hv)
    · rw [if_neg he]
      exact ihu _ h3 (fun x b hx v hv => by
        rcases List.mem_cons.1 hx with hx | hx
        · cases hx
          obtain ⟨b, rfl⟩ := isB_ok hbv hbf h1 hv
          cases b
          · rfl
          · exact absurd hv he
        · exact hp x b hx v hv)

/-- A call comes to what the tree comes to. -/
theorem treeB_calls_sem (hNG : NoGoroutines P) (hm : P.follows .mixedOrders = true) {sum : FuncId → Option (List Value → M Value)} {bv bf : Nat → Bool} (hbv : ∀ i, bv i = true → ∃ b, Eta.var i = .bool b)
    (hbf : ∀ k l r, bf k = true → Eta.fn k l = some r → ∃ b, r = .bool b) (hsum : ∀ p, @SumOk (pathOrc sum p) _ P B w0) {n : Nat} {f : FuncId} {l l' : List Value} {t : TrB}
    (hchk : chkB P sum bv bf n f l st t [] = true) (hS : Sim P B w0 ρ st w) (hl : LRel ρ l l') :
    Calls P f l'.toArray w fun e w' => e = .returned (.bool t.sem) ∧ Below B w0 w' := by
  obtain ⟨q, hq, hr⟩ := treeB_sem hbv hbf t [] hchk (fun e b h => by cases h)
  have ok : @OrcOk (pathOrc sum q) _ := @OrcOk.mk (pathOrc sum q) _ (fun e b v h hd => lookO_ok hq h hd) (fun e ss v h _ => by cases h)
  unfold runB at hr
  split at hr
  case h_2 => cases hr
  rename_i v s hev
  split at hr
  case h_2 => cases hr
  rename_i c s2 hfo
  have hc := Option.some.inj hr
  refine Calls.mono (@ev_ok (pathOrc sum q) _ ok P B w0 hNG hm (hsum q) n ρ st w f l l' v s hS hl hev) ?_
  intro e w' ⟨v', ρ', he, _, hS', hv'⟩
  obtain ⟨_, hb⟩ := @force_ok (pathOrc sum q) _ ok ρ' s s2 v v' c hv' hfo
  rw [hb, hc] at he
  exact ⟨he, hS'.below⟩

theorem Sim.empty (P : Program) (w : World) (hm : ∀ b o v, Eta.mem b o = some v → b < w.heap.size ∧ w.cell? ⟨b, o, none⟩ = some v) : Sim P w.heap.size w (fun _ => none) ⟨.e, P.globals.size, [], []⟩ w :=
  ⟨Below.refl _ _, Nat.le_refl _, Nat.le_refl _, fun β b h => by simp [PT.get] at h, fun β γ b c L K _ h => by simp [PT.get] at h, fun _ _ => rfl, fun g _ L h => (by cases h), hm⟩
end

/-- The cells of a call's arguments: scalars, or one struct of scalars. -/
def flat (agg : Bool) (l : List Value) : Option (List Value) := if agg then (match l with
  | [.agg a] => some a.toList
  | _ => none) else some l

/-- A pure function of scalars: the cells of its arguments are of these sorts; mk makes its answer out of their terms. -/
def sumG (agg : Bool) (ok : List Value → Bool) (ss : List Nat) (mk : List Value → Value) (l : List Value) : M Value := match flat agg l with
  | some cs => if (cs.map sortO == ss.map some) && ok (cs.map strip) then M.pure (mk (cs.map strip)) else M.fail
  | none => M.fail
def mkT (s k : Nat) (cs : List Value) : Value := tok s (term (100 + k) cs)

theorem o0ok [Eta] : @OrcOk O0 _ := @OrcOk.mk O0 _ (fun e b v h _ => by cases h) (fun e ss v h _ => by cases h)

section
variable [Eta]
variable {P : Program} {B : Nat} {w0 : World}

theorem Lcl.sumG (agg : Bool) (ok : List Value → Bool) (ss : List Nat) (mk : List Value → Value) (l : List Value) : Lcl (Ev.sumG agg ok ss mk l) := by
  unfold Ev.sumG
  generalize flat agg l = o
  cases o with
  | none => exact @Lcl.fail O0 _ _
  | some cs =>
    simp only
    split
    · exact @Lcl.pure O0 _ _ _
    · exact @Lcl.fail O0 _ _

theorem flat_rel {ρ : Rho} {agg : Bool} {l l' cs : List Value} (hl : LRel ρ l l') (h : flat agg l = some cs) : ∃ cells, flat agg l' = some cells ∧ LRel ρ cs cells := by
  unfold flat at h
  cases agg with
  | false =>
    cases h
    exact ⟨l', rfl, hl⟩
  | true =>
    simp only [if_true] at h
    split at h
    · rename_i a
      cases h
      obtain ⟨v', r', rfl, h1, h2⟩ := hl.cons_left
      have := h2.nil_left
      subst this
      obtain ⟨a', rfl, ha⟩ := VRel.agg_iff.1 h1
      exact ⟨a'.toList, rfl, ha⟩
    · cases h

theorem strip_den {ρ : Rho} : ∀ {l l' : List Value}, LRel ρ l l' → (∀ v, v ∈ l → (sortO v).isSome = true) → ∀ (i : Nat) (v v' : Value), (l.map strip)[i]? = some v → l'[i]? = some v' → Den v v' := by
  intro l l' h hs i v v' h1 h2
  rw [List.getElem?_map] at h1
  obtain ⟨u, hu, rfl⟩ := Option.map_eq_some_iff.1 h1
  obtain ⟨s, hs1⟩ := Option.isSome_iff_exists.1 (hs u (List.mem_of_getElem? hu))
  exact (sort_val hs1 (h.2 i u v' hu h2)).2

/-- What is known of the arguments of a summary: cs, their terms, mean the cells of l'. -/
structure Args (ss : List Nat) (cs cells : List Value) : Prop where
  den : ∀ (i : Nat) (e v : Value), cs[i]? = some e → cells[i]? = some v → Den e v
  len : cs.length = cells.length
  srt : ∀ (i : Nat) (v : Value) (s' : Nat), cells[i]? = some v → ss[i]? = some s' → Srt s' v
  sl : ss.length = cells.length

/-- A term of a function that Eta names. -/
theorem Args.term {ss : List Nat} {cs cells : List Value} (h : Args ss cs cells) {k s : Nat} {v : Value} (hf : Eta.fn k cells = some v) (hs : Srt s v) {ρ : Rho} : VRel ρ (mkT s k cs) v := by
  refine .tok s (.node (100 + k) h.len h.den ?_) hs
  unfold sOp
  repeat rw [if_neg (by omega)]
  rw [if_pos (by omega), Nat.add_sub_cancel_left]
  exact hf

/-- The contract of a pure function makes it a summary. -/
theorem sumG_ok {agg : Bool} {ok : List Value → Bool} {ss : List Nat} {mk : List Value → Value} {f : Nat} {ρ : Rho} {st st' : St} {w : World} {l l' : List Value} {u : Value} (hS : Sim P B w0 ρ st w) (hl : LRel ρ l l') (h : sumG agg ok ss mk l st = some (u, st'))
    (hc : ∀ cs cells, flat agg l' = some cells → ok cs = true → Args ss cs cells → ∃ v, VRel ρ (mk cs) v ∧ Calls P f l'.toArray w fun e w' => e = .returned v ∧ Below w.heap.size w w') :
    Calls P f l'.toArray w fun e w' => ∃ v' ρ', e = .returned v' ∧ ρ.le ρ' ∧ Sim P B w0 ρ' st' w' ∧ VRel ρ' u v' := by
  unfold sumG at h
  generalize hfl : flat agg l = o at h
  cases o with
  | none => exact (fail_some.1 h).elim
  | some cs =>
  simp only at h
  obtain ⟨cells, hfl', hcells⟩ := flat_rel hl hfl
  split at h
  case isFalse => exact (fail_some.1 h).elim
  rename_i hg
  simp only [Bool.and_eq_true, beq_iff_eq] at hg
  obtain ⟨hsrt, hok⟩ := hg
  cases (mpure_some.1 h)
  have hsome : ∀ v, v ∈ cs → (sortO v).isSome = true := fun v hv => by
    have : sortO v ∈ cs.map sortO := List.mem_map_of_mem hv
    rw [hsrt] at this
    obtain ⟨x, _, hx⟩ := List.mem_map.1 this
    rw [← hx]; rfl
  have hden := strip_den hcells hsome
  have hlen : (cs.map strip).length = cells.length := by rw [List.length_map]; exact hcells.1
  have hsl : ss.length = cells.length := by
    have := congrArg List.length hsrt
    simp only [List.length_map] at this
    rw [← this]
    exact hcells.1
  obtain ⟨v, hv, hcall⟩ := hc _ _ hfl' hok ⟨hden, hlen, fun i v s' h1 h2 => by
    have hi : i < cs.length := by rw [hcells.1]; exact (List.getElem?_eq_some_iff.1 h1).1
    have h3 := List.getElem?_eq_getElem hi
    have h4 : (cs.map sortO)[i]? = some (sortO cs[i]) := by rw [List.getElem?_map, h3]; rfl
    rw [hsrt, List.getElem?_map, h2] at h4
    exact (sort_val (Option.some.inj h4).symm (hcells.2 i _ v h3 h1)).1, hsl⟩
  exact sum_pure hS hv hcall

theorem Args.one {a : Nat} {cs cells : List Value} (h : Args [a] cs cells) : ∃ e1 v1, cs = [e1] ∧ cells = [v1] ∧ Den e1 v1 ∧ Srt a v1 := by
  have h1 := h.sl
  have h2 := h.len
  match cells, h1, cs, h2 with
  | [v1], _, [e1], _ => exact ⟨e1, v1, rfl, rfl, h.den 0 _ _ rfl rfl, h.srt 0 _ _ rfl rfl⟩
theorem Args.two {a b : Nat} {cs cells : List Value} (h : Args [a, b] cs cells) : ∃ e1 e2 v1 v2, cs = [e1, e2] ∧ cells = [v1, v2] ∧ Den e1 v1 ∧ Den e2 v2 ∧ Srt a v1 ∧ Srt b v2 := by
  have h1 := h.sl
  have h2 := h.len
  match cells, h1, cs, h2 with
  | [v1, v2], _, [e1, e2], _ => exact ⟨e1, e2, v1, v2, rfl, rfl, h.den 0 _ _ rfl rfl, h.den 1 _ _ rfl rfl, h.srt 0 _ _ rfl rfl, h.srt 1 _ _ rfl rfl⟩
theorem Srt.str {v : Value} (h : Srt 1 v) : ∃ s, v = .string s := h.2.2.1 rfl
theorem Srt.i64 {v : Value} (h : Srt 5 v) : ∃ n, v = .int .i64 n := h.2.2.2.1 .i64 rfl
theorem Srt.u64 {v : Value} (h : Srt 9 v) : ∃ n, v = .int .u64 n := h.2.2.2.1 .u64 rfl
end
end Go.Ev
