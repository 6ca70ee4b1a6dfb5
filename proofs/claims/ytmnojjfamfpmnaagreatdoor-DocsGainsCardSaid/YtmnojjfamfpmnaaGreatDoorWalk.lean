/- The walk of a Docs law out of its tree. -/
import Derived.Test.YtmnojjfamfpmnaaGreatDoorArgs
import Derived.Test.YtmnojjfamfpmnaaGreatDoorEvxZb
set_option linter.unusedVariables false
set_option linter.unusedSimpArgs false
set_option linter.unusedSectionVars false
set_option linter.unnecessarySimpa false
namespace Go.Proofs.YtmnojjfamfpmnaaGreatDoor
open Go Go.RowKit Go.ChangeShapes Go.WideShapes
set_option maxRecDepth 100000
namespace Lw
def args : List Value := [setupTok, .agg #[Ev.tok 5 (x 9), Ev.tok 5 (x 10), Ev.tok 5 (x 11), Ev.tok 5 (x 12), Ev.tok 5 (x 13), Ev.tok 5 (x 14)], Ev.tok 1 (x 15), Ev.tok 1 (x 16), Ev.tok 0 (x 17), Ev.tok 5 (x 18), Ev.tok 5 (x 19), Ev.tok 1 (x 20)]
def big : Value := Ev.term 2 [.int .i64 40, Ev.term 30 [x 6]]
def pN : List (Value × Bool) := [(big, false)]
def pB : List (Value × Bool) := [(big, true)]
def bvL (i : Nat) : Bool := i == 17
def bfL (k : Nat) : Bool := k == 0 || k == 1 || k == 2 || k == 4 || k == 8 || k == 9 || k == 12 || k == 15
end Lw
theorem lawArgs : Ev.tokArgs Tryz.prog [24, 51, 9, 9, 4, 3, 3, 9] 0 = some Lw.args := by kernel_rfl

structure LawFacts (f : Nat) (T : Ev.TrB) : Prop where
  chk : Ev.chkC Tryz.prog Lw.sumL Lw.bvL Lw.bfL 500 f Lw.args (Ev.st1 Lw.lens) T Lw.pN = true
  big : @Ev.runB (Ev.pathOrc (fun _ => none) Lw.pB) Tryz.prog 500 f Lw.args (Ev.st1 Lw.lens) = some true
  bad : ∀ (cs : List Value) (bc : Bool) (a b : Int), cs.getD 13 undef = .int .i64 a → cs.getD 14 undef = .int .i64 b → In64 a → In64 b → ∀ q, q ∈ T.bad Lw.pN → ¬ @Ev.PathOk (etaL cs bc) q

theorem fnL_bool {bc : Bool} {k : Nat} {l : List Value} {r : Value} (hk : Lw.bfL k = true) (h : fnL bc k l = some r) : ∃ b, r = .bool b := by
  have hk : k = 0 ∨ k = 1 ∨ k = 2 ∨ k = 4 ∨ k = 8 ∨ k = 9 ∨ k = 12 ∨ k = 15 := by simpa [Lw.bfL, or_assoc] using hk
  unfold fnL at h
  rcases hk with rfl | rfl | rfl | rfl | rfl | rfl | rfl | rfl
  all_goals (split at h <;> first | exact ⟨_, (Option.some.inj h).symm⟩ | (exfalso; omega) | (cases h; done) | (obtain ⟨zs, _, rfl⟩ := Option.map_eq_some_iff.1 h; exact ⟨_, rfl⟩))

section
variable {H : Type} {enc : TypeId × Value → H} {W : World} {base : Nat}
theorem walk_law {f : Nat} {T : Ev.TrB} (F : LawFacts f T) {args : Array Value} {ds : List (DataW H)} {p : List MemPlace}
    (hA : DataW.TrodAll enc Tryz.prog W 0 (fun _ => true) true [24, 51, 9, 9, 4, 3, 3, 9] args.toList ds p)
    (hval : ∀ (j : Nat) t v, [24, 51, 9, 9, 4, 3, 3, 9][j]? = some t → args[j]? = some v → Value.okWide Tryz.prog W .any base t v) (hsz : args.size = 8)
    (hlaid : ∃ el fz, W.heap[0]? = some (.cells Lw.lens.toArray el fz)) : Calls Tryz.prog f args W fun e w' => e = .returned (.bool true) ∧ Below W.heap.size W w' := by
  obtain ⟨el, fz, hcell⟩ := hlaid
  obtain ⟨v0, vs0, d0, ds0, p0, q0, ha, rfl, rfl, h0, r0⟩ := trodAll_cons hA
  have hval' : ∀ (j : Nat) t v, [24, 51, 9, 9, 4, 3, 3, 9][j]? = some t → args.toList[j]? = some v → Value.okWide Tryz.prog W .any base t v := fun j t v h1 h2 => hval j t v h1 (by simpa using h2)
  have hlen : args.toList.length = 8 := by simpa using hsz
  rw [ha] at hval' hlen
  have hv0 := hval' 0 24 v0 rfl rfl
  obtain ⟨cs0, rfl, hs9, hok6, e, b, r, pp, g, l, way, mode, S⟩ := setup_of hv0 (vs := vs0)
  obtain ⟨fuel, htrod⟩ := h0
  have htrod : DataW.trod enc Tryz.prog W 0 (fun _ => true) true fuel 24 cs0.toList = some (d0, p0) := htrod
  obtain ⟨a6, n6, c6, hc6, hcodes⟩ := codes_read (held := true) htrod hok6
  -- the meaning of the terms
  have hargs : args = (Value.agg cs0 :: vs0).toArray := by rw [← ha]
  rw [hargs]
  generalize hcs : Ev.cellsAll (Value.agg cs0 :: vs0) = cs at S
  have hty := cells_typed (ts := [24, 51, 9, 9, 4, 3, 3, 9]) (vs := Value.agg cs0 :: vs0) hlen.symm hval'
  rw [hcs] at hty
  have hmem : ∀ i v, cs.getD i undef = v → v ≠ undef → v ∈ cs := by
    intro i v hv hne
    rw [List.getD_eq_getElem?_getD] at hv
    cases hx : cs[i]? with
    | none => rw [hx] at hv; exact absurd hv.symm hne
    | some u => rw [hx] at hv; cases hv; exact List.mem_of_getElem? hx
  have hstr : ∀ (i : Nat) s, cs.getD i undef = .string s → s.size ≤ 9223372036854775807 := fun i s h => by
    obtain ⟨u, hu⟩ := hty _ (hmem i _ h (by intro h; cases h))
    exact typed_str hu
  have hint : ∀ (i : Nat) n, cs.getD i undef = .int .i64 n → In64 n := fun i n h => by
    obtain ⟨u, hu⟩ := hty _ (hmem i _ h (by intro h; cases h))
    exact typed_int hu
  have hrel : ∀ bc, @Ev.LRel (etaL cs bc) (Ev.rho1 Lw.lens.length) Lw.args (Value.agg cs0 :: vs0) := by
    intro bc
    letI : Ev.Eta := etaL cs bc
    refine Ev.tokArgs_rel (P := Tryz.prog) (w := W) (r := .any) (base := base) [24, 51, 9, 9, 4, 3, 3, 9] _ 0 _ hlen.symm hval' (fun k v hk => ?_) lawArgs
    rw [hcs] at hk
    show cs.getD (0 + k) undef = v
    rw [Nat.zero_add, List.getD_eq_getElem?_getD, hk]
    rfl
  have hsim : ∀ bc, @Ev.Sim (etaL cs bc) Tryz.prog W.heap.size W (Ev.rho1 Lw.lens.length) (Ev.st1 Lw.lens) W := by
    intro bc
    letI : Ev.Eta := etaL cs bc
    exact Ev.first_sim nglobals rfl hcell (fun b o v h => by cases h)
  -- the bool and the two numbers among the cells
  have parts : (∃ x, cs.getD 17 undef = .bool x) ∧ (∃ a, cs.getD 13 undef = .int .i64 a) ∧ ∃ b, cs.getD 14 undef = .int .i64 b := by
    letI : Ev.Eta := etaL cs true
    have h := hrel true
    obtain ⟨u0, r0, e0, k0, h⟩ := h.cons_left
    obtain ⟨u1, r1, rfl, k1, h⟩ := h.cons_left
    obtain ⟨u2, r2, rfl, k2, h⟩ := h.cons_left
    obtain ⟨u3, r3, rfl, k3, h⟩ := h.cons_left
    obtain ⟨u4, r4, rfl, k4, h⟩ := h.cons_left
    obtain ⟨a1, rfl, z0⟩ := Ev.VRel.agg_iff.1 k1
    obtain ⟨w0, g0, j0, m0, z1⟩ := z0.cons_left
    obtain ⟨w1, g1, rfl, m1, z2⟩ := z1.cons_left
    obtain ⟨w2, g2, rfl, m2, z3⟩ := z2.cons_left
    obtain ⟨w3, g3, rfl, m3, z4⟩ := z3.cons_left
    obtain ⟨w4, g4, rfl, m4, z5⟩ := z4.cons_left
    obtain ⟨w5, g5, rfl, m5, z6⟩ := z5.cons_left
    have t4 := Ev.tok_at (t := Ev.TOK + 0) rfl k4
    have t13 := Ev.tok_at (t := Ev.TOK + 5) rfl m4
    have t14 := Ev.tok_at (t := Ev.TOK + 5) rfl m5
    refine ⟨?_, ?_, ?_⟩
    · obtain ⟨x, hx⟩ := t4.1.2.1 rfl
      exact ⟨x, by rw [← hx]; exact (Ev.Den.single (Ev.Den.var 17) t4.2).symm⟩
    · obtain ⟨x, hx⟩ := t13.1.i64
      exact ⟨x, by rw [← hx]; exact (Ev.Den.single (Ev.Den.var 13) t13.2).symm⟩
    · obtain ⟨x, hx⟩ := t14.1.i64
      exact ⟨x, by rw [← hx]; exact (Ev.Den.single (Ev.Den.var 14) t14.2).symm⟩
  obtain ⟨⟨x17, e17⟩, ⟨x13, e13⟩, x14, e14⟩ := parts
  have hbig : ∀ bc, @Ev.dn (etaL cs bc) 40 Lw.big = some (.bool (decide ((40 : Int) < n6))) := by
    intro bc
    have h6 : cs.getD 6 undef = .slice a6 n6 c6 := S.h6.trans hc6
    letI : Ev.Eta := etaL cs bc
    show (match Ev.dnL (Ev.dn 39) [.int .i64 40, Ev.term 30 [Lw.x 6]] with
      | some l => Ev.sOp 2 l
      | none => none) = _
    have k1 : Ev.dn 39 (.int .i64 40) = some (.int .i64 40) := rfl
    have k2 : Ev.dn 39 (Ev.term 30 [Lw.x 6]) = some (.int .i64 n6) := by
      show (match Ev.dnL (Ev.dn 38) [Lw.x 6] with
        | some l => Ev.sOp 30 l
        | none => none) = _
      have k3 : Ev.dn 38 (Lw.x 6) = some (cs.getD 6 undef) := rfl
      simp only [Ev.dnL, k3, h6]
      rfl
    simp only [Ev.dnL, k1, k2]
    rfl
  by_cases hl : n6 ≤ 40
  · obtain ⟨bc, hbc⟩ := hcodes (by omega)
    letI : Ev.Eta := etaL cs bc
    have hck : CellsOk W cs bc := ⟨hstr, hint, by rw [S.h6]; exact hbc, laid_of hcell⟩
    have hp0 : Ev.PathOk Lw.pN := by
      intro e x hm v hv
      simp only [Lw.pN, List.mem_singleton, Prod.mk.injEq] at hm
      obtain ⟨rfl, rfl⟩ := hm
      have h5 := Ev.Den.single (Ev.dn_den 40 _ _ (hbig bc)) hv
      rw [h5]
      congr 1
      simp; omega
    exact Ev.treeC_true noGo mixed (fun i hi => by
        have hi : i = 17 := by simpa [Lw.bvL] using hi
        subst hi
        exact ⟨x17, e17⟩) (fun k l r hk hr => fnL_bool hk hr) (fun q => law_sums hck S lives_run q) F.chk hp0 (F.bad cs bc x13 x14 e13 e14 (hint 13 _ e13) (hint 14 _ e14)) (hsim bc) (hrel bc)
  · letI : Ev.Eta := etaL cs true
    have hp0 : Ev.PathOk Lw.pB := by
      intro e x hm v hv
      simp only [Lw.pB, List.mem_singleton, Prod.mk.injEq] at hm
      obtain ⟨rfl, rfl⟩ := hm
      have h5 := Ev.Den.single (Ev.dn_den 40 _ _ (hbig true)) hv
      rw [h5]
      congr 1
      simp; omega
    refine Ev.treeB_true (sum := fun _ => none) (t := .leaf true) (bv := fun _ => false) (bf := fun _ => false) noGo mixed (fun i hi => by cases hi) (fun k l r hk _ => by cases hk) (fun q f g hg => by cases hg) ?_ hp0 (fun q hq => by cases hq) (hsim true) (hrel true) (n := 500)
    show (match @Ev.runB (Ev.pathOrc (fun _ => none) Lw.pB) Tryz.prog 500 f Lw.args (Ev.st1 Lw.lens) with
      | some c => c == true
      | none => false) = true
    rw [F.big]
    rfl
end
end Go.Proofs.YtmnojjfamfpmnaaGreatDoor
