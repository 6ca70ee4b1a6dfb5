/- The setup that came in: its tax codes as they lie in memory. -/
import Derived.Test.YtmnojjfamfpmnaaGreatDoorSums
import Derived.Deep.Slices
set_option linter.unusedVariables false
set_option linter.unusedSimpArgs false
set_option linter.unusedSectionVars false
set_option linter.unnecessarySimpa false
namespace Go.Proofs.YtmnojjfamfpmnaaGreatDoor
open Go Go.RowKit Go.ChangeShapes Go.WideShapes
set_option maxRecDepth 100000
theorem u24 : Tryz.prog.underlying 24 = some (.struct #[
    { name := "Entity", type := 9, offset := 0, embedded := false, tag := "", pkgPath := "", byteOffset := 0 },
    { name := "Base", type := 9, offset := 1, embedded := false, tag := "", pkgPath := "", byteOffset := 16 },
    { name := "Receivable", type := 9, offset := 2, embedded := false, tag := "", pkgPath := "", byteOffset := 32 },
    { name := "Payable", type := 9, offset := 3, embedded := false, tag := "", pkgPath := "", byteOffset := 48 },
    { name := "Gain", type := 9, offset := 4, embedded := false, tag := "", pkgPath := "", byteOffset := 64 },
    { name := "Loss", type := 9, offset := 5, embedded := false, tag := "", pkgPath := "", byteOffset := 80 },
    { name := "Codes", type := 22, offset := 6, embedded := false, tag := "", pkgPath := "", byteOffset := 96 },
    { name := "Way", type := 3, offset := 7, embedded := false, tag := "", pkgPath := "", byteOffset := 120 },
    { name := "Mode", type := 3, offset := 8, embedded := false, tag := "", pkgPath := "", byteOffset := 128 }]) := by kernel_rfl
theorem u22 : Tryz.prog.underlying 22 = some (.slice 114) := by kernel_rfl
theorem u114 : Tryz.prog.underlying 114 = some (.struct #[
    { name := "Name", type := 9, offset := 0, embedded := false, tag := "", pkgPath := "", byteOffset := 0 },
    { name := "Account", type := 9, offset := 1, embedded := false, tag := "", pkgPath := "", byteOffset := 16 },
    { name := "F", type := 66, offset := 2, embedded := false, tag := "", pkgPath := "", byteOffset := 32 }]) := by kernel_rfl
theorem u66 : Tryz.prog.underlying 66 = some (.struct #[
    { name := "N", type := 3, offset := 0, embedded := false, tag := "", pkgPath := "", byteOffset := 0 },
    { name := "D", type := 3, offset := 1, embedded := false, tag := "", pkgPath := "", byteOffset := 8 }]) := by kernel_rfl
theorem u9 : Tryz.prog.underlying 9 = some .string := by kernel_rfl
theorem u3 : Tryz.prog.underlying 3 = some (.int .i64) := by kernel_rfl
theorem c22 : Tryz.prog.cellsOf 22 = 1 := by kernel_rfl
theorem c114 : Tryz.prog.cellsOf 114 = 4 := by kernel_rfl
theorem c66 : Tryz.prog.cellsOf 66 = 2 := by kernel_rfl
theorem c9 : Tryz.prog.cellsOf 9 = 1 := by kernel_rfl
theorem c3 : Tryz.prog.cellsOf 3 = 1 := by kernel_rfl

section
variable {H : Type} {enc : TypeId × Value → H} {W : World} {sp : Nat → Bool} {held : Bool}
theorem wf_in {n : Int} (h : (Lit.int .i64 n).wf = true) : In64 n := by
  simp [Lit.wf, IntKind.min, IntKind.max, IntKind.signed, IntKind.bits] at h
  omega
/-- One tax code, read. -/
theorem code_read {fuel : Nat} {cs : List Value} {x : DataW H × List MemPlace} (h : DataW.trod enc Tryz.prog W 0 sp held fuel 114 cs = some x) :
    ∃ q : ByteArray × ByteArray × Int × Int, cs = [.string q.1, .string q.2.1, .int .i64 q.2.2.1, .int .i64 q.2.2.2] ∧ q.1.size ≤ 9223372036854775807 ∧ q.2.1.size ≤ 9223372036854775807 ∧ In64 q.2.2.1 ∧ In64 q.2.2.2 := by
  obtain ⟨xs, k, _, _, hlen, hxl, hf⟩ := DataW.trod_struct u114 h
  rw [c114] at hlen
  match cs, hlen, xs, hxl with
  | [v0, v1, v2, v3], _, [y0, y1, y2], _ =>
    have g0 := hf 0 _ rfl
    have g1 := hf 1 _ rfl
    have g2 := hf 2 _ rfl
    have g0 : DataW.trod enc Tryz.prog W 0 sp held k 9 (([v0, v1, v2, v3].drop 0).take (Tryz.prog.cellsOf 9)) = some y0 := g0
    have g1 : DataW.trod enc Tryz.prog W 0 sp held k 9 (([v0, v1, v2, v3].drop 1).take (Tryz.prog.cellsOf 9)) = some y1 := g1
    have g2 : DataW.trod enc Tryz.prog W 0 sp held k 66 (([v0, v1, v2, v3].drop 2).take (Tryz.prog.cellsOf 66)) = some y2 := g2
    rw [c9] at g0 g1
    rw [c66] at g2
    obtain ⟨s0, e0, _, z0⟩ := DataW.trod_string u9 g0
    obtain ⟨s1, e1, _, z1⟩ := DataW.trod_string u9 g1
    obtain ⟨ys, k', _, _, hlen', hyl, hf'⟩ := DataW.trod_struct u66 g2
    match ys, hyl with
    | [w0, w1], _ =>
      have i0 := hf' 0 _ rfl
      have i1 := hf' 1 _ rfl
      have i0 : DataW.trod enc Tryz.prog W 0 sp held k' 3 (([v2, v3].drop 0).take (Tryz.prog.cellsOf 3)) = some w0 := i0
      have i1 : DataW.trod enc Tryz.prog W 0 sp held k' 3 (([v2, v3].drop 1).take (Tryz.prog.cellsOf 3)) = some w1 := i1
      rw [c3] at i0 i1
      obtain ⟨n0, e2, _, r0⟩ := DataW.trod_int u3 i0
      obtain ⟨n1, e3, _, r1⟩ := DataW.trod_int u3 i1
      cases e0; cases e1; cases e2; cases e3
      unfold maxLen at z0 z1
      exact ⟨(s0, s1, n0, n1), rfl, by show s0.size ≤ _; omega, by show s1.size ≤ _; omega, wf_in r0, wf_in r1⟩

/-- The codes of a setup that came in. -/
theorem codes_read {fuel : Nat} {cs : List Value} {x : DataW H × List MemPlace} (h : DataW.trod enc Tryz.prog W 0 (fun _ => true) held fuel 24 cs = some x) {base : Nat}
    (hok : ∀ v, cs[6]? = some v → Cell.okWide Tryz.prog W .any base 22 v) : ∃ a n c, cs.getD 6 undef = .slice a n c ∧ (n ≤ 200 → ∃ bc, CodesIs W (cs.getD 6 undef) bc) := by
  obtain ⟨xs, k, _, _, hlen, hxl, hf⟩ := DataW.trod_struct u24 h
  have hlen : cs.length = 9 := hlen.trans (by kernel_rfl)
  have hxl : xs.length = 9 := hxl
  have g6 := hf 6 _ rfl
  have g6 : DataW.trod enc Tryz.prog W 0 (fun _ => true) held k 22 ((cs.drop 6).take (Tryz.prog.cellsOf 22)) = xs[6]? := g6
  rw [c22] at g6
  have hx6 := List.getElem?_eq_getElem (l := xs) (i := 6) (by omega)
  rw [hx6] at g6
  have hc6 := List.getElem?_eq_getElem (l := cs) (i := 6) (by omega)
  have hdrop : (cs.drop 6).take 1 = [cs[6]] := by
    rw [List.drop_eq_getElem_cons (by omega)]; rfl
  rw [hdrop] at g6
  have hd : cs.getD 6 undef = cs[6] := by simp [List.getD, hc6]
  rw [hd]
  have hok := hok _ hc6
  generalize cs[6] = v at g6 hok
  rcases Go.Deep.open_slice u22 g6 with ⟨e, _⟩ | ⟨a, len, cap, m, n, D, Pl, e, _, hlc, hcm, hm, _, hel⟩
  · simp only [List.cons.injEq, and_true] at e
    subst e
    exact ⟨none, 0, 0, rfl, fun _ => ⟨true, .inl ⟨rfl, rfl⟩⟩⟩
  · simp only [List.cons.injEq, and_true] at e
    subst e
    refine ⟨some a, len, cap, rfl, fun hl => ?_⟩
    have hspot : a.spot = none := by
      unfold Cell.okWide at hok
      rw [u22] at hok
      simp only at hok
      unfold Cell.ok at hok
      rw [u22] at hok
      exact hok.2.2.2.1
    obtain ⟨b, off, spot⟩ := a
    simp only at hspot
    subst hspot
    have hlm : len ≤ m := by rw [hm]; split <;> omega
    have each : ∀ i, i < len → ∃ q : ByteArray × ByteArray × Int × Int, (∀ j u, [Value.string q.1, .string q.2.1, .int .i64 q.2.2.1, .int .i64 q.2.2.2][j]? = some u → W.cell? ⟨b, off + i * 4 + j, none⟩ = some u) ∧
        q.1.size ≤ 9223372036854775807 ∧ q.2.1.size ≤ 9223372036854775807 ∧ In64 q.2.2.1 ∧ In64 q.2.2.2 := by
      intro i hi
      obtain ⟨cs', h1, h2⟩ := hel i (by omega)
      obtain ⟨q, rfl, hq⟩ := code_read h2
      rw [c114] at h1
      obtain ⟨_, _, hcell⟩ := World.cells?_some h1
      refine ⟨q, fun j u hj => ?_, hq⟩
      have hj4 : j < 4 := (List.getElem?_eq_some_iff.1 hj).1
      letI : Ev.Eta := ⟨fun _ => undef, fun _ _ => none, fun _ _ => none⟩
      have := hcell j hj4
      rw [hj, Go.Ev.add_off, Go.Ev.add_off] at this
      exact this
    obtain ⟨q, hq⟩ := Go.Deep.choose_lt each
    exact ⟨_, .inr ⟨b, off, len, cap, fun i => (q i).1, fun i => (q i).2.1, fun i => (q i).2.2.1, fun i => (q i).2.2.2, rfl, hl,
      ⟨fun k hk => (hq k hk).1 0 _ rfl, fun k hk => (hq k hk).1 1 _ rfl, fun k hk => (hq k hk).1 2 _ rfl, fun k hk => (hq k hk).1 3 _ rfl, fun k hk => (hq k hk).2.1, fun k hk => (hq k hk).2.2.1, fun k hk => (hq k hk).2.2.2.1, fun k hk => (hq k hk).2.2.2.2⟩, rfl⟩⟩
end
end Go.Proofs.YtmnojjfamfpmnaaGreatDoor
