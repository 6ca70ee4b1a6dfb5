/- docs.Right and its reference twin: alike. -/
import Derived.Test.YtmnojjfamfpmnaaGreatDoorTerms
set_option linter.unusedVariables false
set_option linter.unusedSimpArgs false
set_option linter.unusedSectionVars false
set_option linter.unnecessarySimpa false
namespace Go.Proofs.YtmnojjfamfpmnaaGreatDoor
open Go Go.RowKit
set_option maxRecDepth 100000
namespace Lw
def x (i : Nat) : Value := .chan (some i)
def setupTok : Value := .agg #[Ev.tok 1 (x 0), Ev.tok 1 (x 1), Ev.tok 1 (x 2), Ev.tok 1 (x 3), Ev.tok 1 (x 4), Ev.tok 1 (x 5), Ev.tok 11 (x 6), Ev.tok 5 (x 7), Ev.tok 5 (x 8)]
def cod (i : Nat) : Value := Ev.term 100 [x i]
def cur : Value := Ev.term 101 [x 1]
def cds : Value := Ev.term 102 [x 6]
def need (e : Value) (t : Ev.TrB) : Ev.TrB := .ask e t (.leaf false)
def wayT (k : Bool → Ev.TrB) : Ev.TrB := .ask (Ev.term 1 [x 7, .int .i64 1]) (k true) (.ask (Ev.term 1 [x 7, .int .i64 2]) (k true) (.ask (Ev.term 1 [x 7, .int .i64 3]) (k true) (k false)))
def modeT (k : Bool → Ev.TrB) : Ev.TrB := .ask (Ev.term 2 [x 8, .int .i64 1]) (k false) (.ask (Ev.term 2 [.int .i64 5, x 8]) (k false) (k true))
def T26 : Ev.TrB := need (cod 0) (need (cod 2) (need (cod 3) (need (cod 4) (need (cod 5) (wayT fun a => modeT fun b => need cur (need cds (.leaf (a && b))))))))
def notT (e : Value) (t : Ev.TrB) : Ev.TrB := .ask e (.leaf false) t
def T30 : Ev.TrB := need (cod 0) (need (cod 2) (need (cod 3) (need (cod 4) (need (cod 5) (need cur (need cds (notT (Ev.term 2 [x 7, .int .i64 1]) (notT (Ev.term 2 [.int .i64 3, x 7]) (notT (Ev.term 2 [x 8, .int .i64 1]) (notT (Ev.term 2 [.int .i64 5, x 8]) (.leaf true)))))))))))
def bfR (k : Nat) : Bool := k == 0 || k == 1 || k == 2
end Lw
theorem chk26 : Ev.chkB Tryz.prog Lw.sumR (fun _ => false) Lw.bfR 200 26 [Lw.setupTok] Cd.st0 Lw.T26 [] = true := by kernel_rfl
theorem chk30 : Ev.chkB Tryz.prog Lw.sumR (fun _ => false) Lw.bfR 200 30 [Lw.setupTok] Cd.st0 Lw.T30 [] = true := by kernel_rfl

/-- The setup's cells among the arguments'. -/
structure SetupIs (cs : List Value) (e b r p g l : ByteArray) (sl : Value) (way mode : Int) : Prop where
  h0 : cs.getD 0 undef = .string e
  h1 : cs.getD 1 undef = .string b
  h2 : cs.getD 2 undef = .string r
  h3 : cs.getD 3 undef = .string p
  h4 : cs.getD 4 undef = .string g
  h5 : cs.getD 5 undef = .string l
  h6 : cs.getD 6 undef = sl
  h7 : cs.getD 7 undef = .int .i64 way
  h8 : cs.getD 8 undef = .int .i64 mode

theorem codes_srt {W : World} {v : Value} {bc : Bool} (h : CodesIs W v bc) : ∃ a n c, v = .slice a n c := by
  rcases h with ⟨rfl, _⟩ | ⟨b, off, len, cap, na, ac, nn, dd, rfl, _⟩
  · exact ⟨_, _, _, rfl⟩
  · exact ⟨_, _, _, rfl⟩

theorem right_calls {W : World} {cs : List Value} {bc : Bool} (h : CellsOk W cs bc) {e b r p g l : ByteArray} {sl : Value} {way mode : Int} (S : SetupIs cs e b r p g l sl way mode) {w : World} (hB : Below W.heap.size W w) {f : Nat} {T : Ev.TrB}
    (hchk : Ev.chkB Tryz.prog Lw.sumR (fun _ => false) Lw.bfR 200 f [Lw.setupTok] Cd.st0 T [] = true)
    (hsem : @Ev.TrB.sem (etaL cs bc) T = rightB bc e b r p g l way mode) :
    Calls Tryz.prog f #[.agg #[.string e, .string b, .string r, .string p, .string g, .string l, sl, .int .i64 way, .int .i64 mode]] w fun e' w' => e' = .returned (.bool (rightB bc e b r p g l way mode)) ∧ Below w.heap.size w w' := by
  letI : Ev.Eta := etaL cs bc
  have hst : Cd.st0 = ⟨.e, Tryz.prog.globals.size, [], []⟩ := by rw [nglobals]; rfl
  have hS : Ev.Sim Tryz.prog w.heap.size w (fun _ => none) Cd.st0 w := by rw [hst]; exact Ev.Sim.empty _ _ (fun b o v h => by cases h)
  obtain ⟨a, n, c, hsl⟩ := codes_srt h.codes
  have hsl : sl = .slice a n c := S.h6.symm.trans hsl
  rw [← hsem]
  refine Ev.treeB_calls_sem (l' := [.agg #[.string e, .string b, .string r, .string p, .string g, .string l, sl, .int .i64 way, .int .i64 mode]]) noGo mixed (fun i h => by cases h) (fun k l r hk hr => ?_) (fun p => right_sums h hB hB.size p) hchk hS ?_
  · have hk : k = 0 ∨ k = 1 ∨ k = 2 := by simpa [Lw.bfR, or_assoc] using hk
    have hr : fnL bc k l = some r := hr
    unfold fnL at hr
    rcases hk with rfl | rfl | rfl
    all_goals (split at hr <;> first | exact ⟨_, (Option.some.inj hr).symm⟩ | (exfalso; omega) | cases hr)
  · refine Ev.LRel.single (Ev.VRel.agg_iff.2 ⟨_, rfl, ?_⟩)
    have s : ∀ i v, cs.getD i undef = .string v → Ev.VRel (fun _ => none) (Ev.tok 1 (Lw.x i)) (.string v) := fun i v hv => .tokv (i := i) hv (Ev.Srt.string _)
    have n : ∀ i v, cs.getD i undef = .int .i64 v → Ev.VRel (fun _ => none) (Ev.tok 5 (Lw.x i)) (.int .i64 v) := fun i v hv => .tokv (i := i) hv (Ev.Srt.int .i64 _)
    exact .cons (s 0 _ S.h0) <| .cons (s 1 _ S.h1) <| .cons (s 2 _ S.h2) <| .cons (s 3 _ S.h3) <| .cons (s 4 _ S.h4) <| .cons (s 5 _ S.h5) <| .cons (.tokv (i := 6) S.h6 (by rw [hsl]; exact Ev.Srt.slice _ _ _)) <| .cons (n 7 _ S.h7) <| .single (n 8 _ S.h8)


theorem sem_facts {W : World} {cs : List Value} {bc : Bool} (h : CellsOk W cs bc) {e b r p g l : ByteArray} {sl : Value} {way mode : Int} (S : SetupIs cs e b r p g l sl way mode) :
    (∀ (i : Nat) s, cs.getD i undef = .string s → @Ev.dn (etaL cs bc) 40 (Lw.cod i) = some (.bool (codeB s))) ∧ @Ev.dn (etaL cs bc) 40 Lw.cur = some (.bool (curB b)) ∧ @Ev.dn (etaL cs bc) 40 Lw.cds = some (.bool bc) ∧
    (∀ n, @Ev.dn (etaL cs bc) 40 (Ev.term 1 [Lw.x 7, .int .i64 n]) = some (.bool (way == n))) ∧ (∀ n, @Ev.dn (etaL cs bc) 40 (Ev.term 2 [Lw.x 8, .int .i64 n]) = some (.bool (decide (mode < n)))) ∧
    (∀ n, @Ev.dn (etaL cs bc) 40 (Ev.term 2 [.int .i64 n, Lw.x 8]) = some (.bool (decide (n < mode)))) ∧
    (∀ n, @Ev.dn (etaL cs bc) 40 (Ev.term 2 [Lw.x 7, .int .i64 n]) = some (.bool (decide (way < n)))) ∧ (∀ n, @Ev.dn (etaL cs bc) 40 (Ev.term 2 [.int .i64 n, Lw.x 7]) = some (.bool (decide (n < way)))) := by
  letI : Ev.Eta := etaL cs bc
  obtain ⟨a, n, c, hsl⟩ := codes_srt h.codes
  have hv : ∀ i, Ev.dn 39 (Lw.x i) = some (cs.getD i undef) := fun i => rfl
  have hn : ∀ n, Ev.dn 39 (.int .i64 n) = some (.int .i64 n) := fun n => rfl
  have un : ∀ f x v, Ev.dn 39 x = some v → Ev.dn 40 (Ev.term f [x]) = Ev.sOp f [v] := by
    intro f x v h
    show (match Ev.dnL (Ev.dn 39) [x] with
      | some l => Ev.sOp f l
      | none => none) = _
    simp only [Ev.dnL, h]
  have bin : ∀ f x y u v, Ev.dn 39 x = some u → Ev.dn 39 y = some v → Ev.dn 40 (Ev.term f [x, y]) = Ev.sOp f [u, v] := by
    intro f x y u v h1 h2
    show (match Ev.dnL (Ev.dn 39) [x, y] with
      | some l => Ev.sOp f l
      | none => none) = _
    simp only [Ev.dnL, h1, h2]
  refine ⟨fun i s hs => ?_, ?_, ?_, fun n => ?_, fun n => ?_, fun n => ?_, fun n => ?_, fun n => ?_⟩
  · exact un 100 _ _ ((hv i).trans (by rw [hs]))
  · exact un 101 _ _ ((hv 1).trans (by rw [S.h1]))
  · exact un 102 _ _ ((hv 6).trans (by rw [hsl]))
  · exact bin 1 _ _ _ _ ((hv 7).trans (by rw [S.h7])) (hn n)
  · exact bin 2 _ _ _ _ ((hv 8).trans (by rw [S.h8])) (hn n)
  · exact bin 2 _ _ _ _ (hn n) ((hv 8).trans (by rw [S.h8]))
  · exact bin 2 _ _ _ _ ((hv 7).trans (by rw [S.h7])) (hn n)
  · exact bin 2 _ _ _ _ (hn n) ((hv 7).trans (by rw [S.h7]))

theorem docs_right {W : World} {cs : List Value} {bc : Bool} (h : CellsOk W cs bc) {e b r p g l : ByteArray} {sl : Value} {way mode : Int} (S : SetupIs cs e b r p g l sl way mode) {w : World} (hB : Below W.heap.size W w) :
    Calls Tryz.prog 26 #[.agg #[.string e, .string b, .string r, .string p, .string g, .string l, sl, .int .i64 way, .int .i64 mode]] w fun e' w' => e' = .returned (.bool (rightB bc e b r p g l way mode)) ∧ Below w.heap.size w w' := by
  refine right_calls h S hB chk26 ?_
  letI : Ev.Eta := etaL cs bc
  obtain ⟨f1, f2, f3, f4, f5, f6, f7, f8⟩ := sem_facts h S
  simp only [Lw.T26, Lw.need, Lw.wayT, Lw.modeT, Ev.sem_ask (f1 0 _ S.h0), Ev.sem_ask (f1 2 _ S.h2), Ev.sem_ask (f1 3 _ S.h3), Ev.sem_ask (f1 4 _ S.h4), Ev.sem_ask (f1 5 _ S.h5), Ev.sem_ask f2, Ev.sem_ask f3, Ev.sem_ask (f4 _), Ev.sem_ask (f5 _), Ev.sem_ask (f6 _), Ev.sem_leaf]
  unfold rightB
  generalize codeB e = c0
  generalize codeB r = c1
  generalize codeB p = c2
  generalize codeB g = c3
  generalize codeB l = c4
  generalize curB b = c5
  cases c0; · simp
  cases c1; · simp
  cases c2; · simp
  cases c3; · simp
  cases c4; · simp
  cases c5; · simp
  cases bc; · simp
  by_cases w1 : way = 1
  · subst w1
    by_cases m1 : mode < 1 <;> by_cases m2 : 5 < mode <;> simp [m1, m2] <;> omega
  by_cases w2 : way = 2
  · subst w2
    by_cases m1 : mode < 1 <;> by_cases m2 : 5 < mode <;> simp [m1, m2] <;> omega
  by_cases w3 : way = 3
  · subst w3
    by_cases m1 : mode < 1 <;> by_cases m2 : 5 < mode <;> simp [m1, m2] <;> omega
  have hw : (decide (1 ≤ way) && decide (way ≤ 3)) = false := by rw [Bool.eq_false_iff]; simp; omega
  have hr : (true && true && true && true && true && true && true && decide (1 ≤ way) && decide (way ≤ 3) && decide (1 ≤ mode) && decide (mode ≤ 5)) = false := by simp only [Bool.true_and, hw, Bool.false_and]
  rw [hr]
  by_cases m1 : mode < 1 <;> by_cases m2 : 5 < mode <;> simp [w1, w2, w3, m1, m2]
theorem ref_right {W : World} {cs : List Value} {bc : Bool} (h : CellsOk W cs bc) {e b r p g l : ByteArray} {sl : Value} {way mode : Int} (S : SetupIs cs e b r p g l sl way mode) {w : World} (hB : Below W.heap.size W w) :
    Calls Tryz.prog 30 #[.agg #[.string e, .string b, .string r, .string p, .string g, .string l, sl, .int .i64 way, .int .i64 mode]] w fun e' w' => e' = .returned (.bool (rightB bc e b r p g l way mode)) ∧ Below w.heap.size w w' := by
  refine right_calls h S hB chk30 ?_
  letI : Ev.Eta := etaL cs bc
  obtain ⟨f1, f2, f3, f4, f5, f6, f7, f8⟩ := sem_facts h S
  simp only [Lw.T30, Lw.need, Lw.notT, Ev.sem_ask (f1 0 _ S.h0), Ev.sem_ask (f1 2 _ S.h2), Ev.sem_ask (f1 3 _ S.h3), Ev.sem_ask (f1 4 _ S.h4), Ev.sem_ask (f1 5 _ S.h5), Ev.sem_ask f2, Ev.sem_ask f3, Ev.sem_ask (f5 _), Ev.sem_ask (f6 _), Ev.sem_ask (f7 _), Ev.sem_ask (f8 _), Ev.sem_leaf]
  unfold rightB
  generalize codeB e = c0
  generalize codeB r = c1
  generalize codeB p = c2
  generalize codeB g = c3
  generalize codeB l = c4
  generalize curB b = c5
  cases c0; · simp
  cases c1; · simp
  cases c2; · simp
  cases c3; · simp
  cases c4; · simp
  cases c5; · simp
  cases bc; · simp
  by_cases w1 : way < 1 <;> by_cases w2 : 3 < way <;> by_cases m1 : mode < 1 <;> by_cases m2 : 5 < mode <;> simp [w1, w2, m1, m2] <;> omega
end Go.Proofs.YtmnojjfamfpmnaaGreatDoor
