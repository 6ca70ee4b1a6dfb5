/- A fraction that is a tax rate: frac.Right, tax.rate and their reference twins. -/
import Derived.Test.YtmnojjfamfpmnaaGreatDoorNum
import Derived.WalkSpells
import Derived.Deep.QuietTactic
import Derived.BigQuiet
import Derived.Test.YtmnojjfamfpmnaaGreatDoorEvxX
set_option linter.unusedVariables false
set_option linter.unusedSimpArgs false
set_option linter.unusedSectionVars false
set_option linter.unnecessarySimpa false
namespace Go.Proofs.YtmnojjfamfpmnaaGreatDoor
open Go Go.RowKit
set_option maxRecDepth 100000
theorem size_ok (n : Int) (hn0 : -9223372036854775808 ≤ n) (hn1 : n ≤ 9223372036854775807) (w : World) : Calls Tryz.prog 69 #[.int .i64 n] w fun e w' => e = .returned (.int .u64 n.natAbs) ∧ w' = w := by
  go_enter Tryz.func69, Tryz.ntmps69
  go_wp2
  · go_ret
    refine ⟨?_, rfl⟩
    simp [IntKind.wrap_u64]
    omega
  · go_ret
    refine ⟨?_, rfl⟩
    simp
    omega
theorem gcd_ok (a b : Nat) (ha : a < 18446744073709551616) (hb : b < 18446744073709551616) (w : World) : Calls Tryz.prog 70 #[.int .u64 a, .int .u64 b] w fun e w' => e = .returned (.int .u64 (Nat.gcd a b : Nat)) ∧ ∃ m, w' = w.drewN m := by
  go_enter Tryz.func70, Tryz.ntmps70
  go_wp2
  go_loopw [0, 1] (fun x y wr => ∃ p q : Nat, x = .int .u64 p ∧ y = .int .u64 q ∧ p < 18446744073709551616 ∧ q < 18446744073709551616 ∧ Nat.gcd p q = Nat.gcd a b ∧ ∃ m, wr = w.drewN m) (fun _ y _ => (intOf y).toNat)
  case atStart => exact ⟨a, b, rfl, rfl, ha, hb, rfl, 0, rfl⟩
  case round =>
    obtain ⟨p, q, rfl, rfl, hp, hq, hg, m, rfl⟩ := hrel
    by_cases h0 : q = 0
    · subst h0
      go_wp2
      go_ret
      rw [← hg]
      simp only [Nat.gcd_zero_right]
      exact ⟨rfl, m, rfl⟩
    · have hq0 : ¬ (q : Int) = 0 := by omega
      go_wp2
      go_region
      have hg2 : Nat.gcd q (p % q) = Nat.gcd a b := by rw [Nat.gcd_comm, ← Nat.gcd_rec, Nat.gcd_comm, hg]
      have hlt : p % q < q := Nat.mod_lt _ (by omega)
      go_roundw
      case rel => first | exact ⟨q, p % q, rfl, by simp, hq, by omega, hg2, m + 1, rfl⟩ | ((repeat apply Exists.intro); exact ⟨⟨q, p % q, rfl, by simp, hq, by omega, hg2, m + 1, rfl⟩, rfl⟩)
      case measure => simp [intOf]; (try rw [← Int.natCast_emod]); omega
theorem size3_ok (n : Int) (hn0 : -9223372036854775808 ≤ n) (hn1 : n ≤ 9223372036854775807) (w : World) : Calls Tryz.prog 136 #[.int .i64 n] w fun e w' => e = .returned (.int .u64 n.natAbs) ∧ w' = w := by
  go_enter Tryz.func136, Tryz.ntmps136
  go_wp2
  · go_ret
    refine ⟨?_, rfl⟩
    simp [IntKind.wrap_u64]
    omega
  · go_ret
    refine ⟨?_, rfl⟩
    simp
    omega

theorem gcd3_ok (a b : Nat) (ha : a < 18446744073709551616) (hb : b < 18446744073709551616) (w : World) : Calls Tryz.prog 135 #[.int .u64 a, .int .u64 b] w fun e w' => e = .returned (.int .u64 (Nat.gcd a b : Nat)) ∧ ∃ m, w' = w.drewN m := by
  go_enter Tryz.func135, Tryz.ntmps135
  go_wp2
  go_loopw [0, 1] (fun x y wr => ∃ p q : Nat, x = .int .u64 p ∧ y = .int .u64 q ∧ p < 18446744073709551616 ∧ q < 18446744073709551616 ∧ Nat.gcd p q = Nat.gcd a b ∧ ∃ m, wr = w.drewN m) (fun _ y _ => (intOf y).toNat)
  case atStart => exact ⟨a, b, rfl, rfl, ha, hb, rfl, 0, rfl⟩
  case round =>
    obtain ⟨p, q, rfl, rfl, hp, hq, hg, m, rfl⟩ := hrel
    by_cases h0 : q = 0
    · subst h0
      go_wp2
      go_ret
      rw [← hg]
      simp only [Nat.gcd_zero_right]
      exact ⟨rfl, m, rfl⟩
    · have hq0 : ¬ (q : Int) = 0 := by omega
      go_wp2
      go_region
      have hg2 : Nat.gcd q (p % q) = Nat.gcd a b := by rw [Nat.gcd_comm, ← Nat.gcd_rec, Nat.gcd_comm, hg]
      have hlt : p % q < q := Nat.mod_lt _ (by omega)
      go_roundw
      case rel => first | exact ⟨q, p % q, rfl, by simp, hq, by omega, hg2, m + 1, rfl⟩ | ((repeat apply Exists.intro); exact ⟨⟨q, p % q, rfl, by simp, hq, by omega, hg2, m + 1, rfl⟩, rfl⟩)
      case measure => simp [intOf]; (try rw [← Int.natCast_emod]); omega

def fracB (n d : Int) : Bool := decide (1 ≤ d) && decide (d ≤ 1000000) && decide (n.natAbs ≤ 1000000) && decide (Nat.gcd n.natAbs d.natAbs = 1)
def rateB (n d : Int) : Bool := fracB n d && decide (0 ≤ n) && decide (n ≤ d)
def fn4 : List Value → Option Value
  | [.int .i64 a] => if a.natAbs < 18446744073709551616 then some (.int .u64 a.natAbs) else none
  | _ => none
def fn5 : List Value → Option Value
  | [.int .u64 a, .int .u64 b] => some (.int .u64 (Nat.gcd a.toNat b.toNat : Nat))
  | _ => none
theorem fn4_inv {l : List Value} {v : Value} (h : fn4 l = some v) : ∃ a : Nat, v = .int .u64 a ∧ a < 18446744073709551616 := by
  unfold fn4 at h
  split at h
  · rename_i a
    split at h
    · exact ⟨a.natAbs, (Option.some.inj h).symm, ‹_›⟩
    · cases h
  · cases h
theorem fn4_at {a : Int} (h : In64 a) : fn4 [.int .i64 a] = some (.int .u64 a.natAbs) := by
  obtain ⟨h1, h2⟩ := h
  exact if_pos (by omega)
abbrev etaF (n d : Int) : Ev.Eta := ⟨fun i => if i = 0 then .int .i64 n else .int .i64 d, fun k l => if k = 4 then fn4 l else if k = 5 then fn5 l else none, fun _ _ => none⟩
def okN : List Value → Bool
  | [.chan (some i)] => decide (i < 2)
  | _ => false
def okSz : List Value → Bool
  | [.func (.func 104) _ _, .func (.func 104) _ _] => true
  | _ => false
def sumFrac (f : FuncId) : Option (List Value → Ev.M Value) :=
  if f = 69 ∨ f = 136 then some (Ev.sumG false okN [5] (Ev.mkT 9 4)) else if f = 70 ∨ f = 135 then some (Ev.sumG false okSz [9, 9] (Ev.mkT 9 5)) else none
def xn : Value := .chan (some 0)
def xd : Value := .chan (some 1)
def gcdT : Value := Ev.term 105 [Ev.term 104 [xn], Ev.term 104 [xd]]
def T39 : Ev.TrB := .ask (Ev.term 2 [xd, .int .i64 1]) (.leaf false) (.ask (Ev.term 2 [.int .i64 1000000, xd]) (.leaf false) (.ask (Ev.term 2 [.int .u64 1000000, Ev.term 104 [xn]]) (.leaf false) (.ask (Ev.term 1 [gcdT, .int .u64 1]) (.leaf true) (.leaf false))))
def T125 : Ev.TrB := .ask (Ev.term 2 [xd, .int .i64 1]) (.leaf false) (.ask (Ev.term 2 [.int .i64 1000000, xd]) (.leaf false) (.ask (Ev.term 2 [xn, .int .i64 (-1000000)]) (.leaf false) (.ask (Ev.term 2 [.int .i64 1000000, xn]) (.leaf false) (.ask (Ev.term 1 [gcdT, .int .u64 1]) (.leaf true) (.leaf false)))))
def stF : Ev.St := ⟨.e, 1, [], []⟩
def fracArgs : List Value := [.agg #[Ev.tok 5 xn, Ev.tok 5 xd]]
theorem chk39 : Ev.chkB Tryz.prog sumFrac (fun _ => false) (fun _ => false) 100 39 fracArgs stF T39 [] = true := by kernel_rfl
theorem chk125 : Ev.chkB Tryz.prog sumFrac (fun _ => false) (fun _ => false) 100 125 fracArgs stF T125 [] = true := by kernel_rfl
theorem noGo : Ev.NoGoroutines Tryz.prog := by
  have h : (Tryz.prog.funcs.toList.all fun fn => !fn.body.isSome || !(fn.name == "runtime.NumGoroutine")) = true := by kernel_rfl
  intro f fn hf hb
  have := List.all_eq_true.1 h fn (List.mem_of_getElem? (by simpa using hf))
  simpa [hb] using this
theorem mixed : Tryz.prog.follows .mixedOrders = true := by kernel_rfl
theorem nglobals : Tryz.prog.globals.size = 1 := by kernel_rfl



theorem frac_sums {n d : Int} (hn : In64 n) (hd : In64 d) (B : Nat) (w0 : World) (p : List (Value × Bool)) : @Ev.SumOk (Ev.pathOrc sumFrac p) (etaF n d) Tryz.prog B w0 := by
  letI : Ev.Eta := etaF n d
  intro f g hg
  have hg : sumFrac f = some g := hg
  unfold sumFrac at hg
  have hsz : ∀ (f : Nat), f = 69 ∨ f = 136 → ∀ (a : Int), In64 a → ∀ w : World, Calls Tryz.prog f #[.int .i64 a] w fun e w' => e = .returned (.int .u64 a.natAbs) ∧ Below w.heap.size w w' := by
    rintro f (rfl | rfl) a ha w
    · exact (size_ok a ha.1 ha.2 w).mono fun e w' ⟨h1, h2⟩ => ⟨h1, by rw [h2]; exact Below.refl _ _⟩
    · exact (size3_ok a ha.1 ha.2 w).mono fun e w' ⟨h1, h2⟩ => ⟨h1, by rw [h2]; exact Below.refl _ _⟩
  have hgc : ∀ (f : Nat), f = 70 ∨ f = 135 → ∀ (a b : Nat), a < 18446744073709551616 → b < 18446744073709551616 → ∀ w : World, Calls Tryz.prog f #[.int .u64 a, .int .u64 b] w fun e w' => e = .returned (.int .u64 (Nat.gcd a b : Nat)) ∧ Below w.heap.size w w' := by
    rintro f (rfl | rfl) a b ha hb w
    · exact (gcd_ok a b ha hb w).mono fun e w' ⟨h1, m, h2⟩ => ⟨h1, by rw [h2]; exact ⟨rfl, rfl, rfl, Nat.le_refl _, fun _ _ => rfl⟩⟩
    · exact (gcd3_ok a b ha hb w).mono fun e w' ⟨h1, m, h2⟩ => ⟨h1, by rw [h2]; exact ⟨rfl, rfl, rfl, Nat.le_refl _, fun _ _ => rfl⟩⟩
  split at hg
  · rename_i hf
    cases hg
    refine ⟨fun l => Ev.Lcl.sumG _ _ _ _ l, ?_⟩
    intro ρ st w l l' v st' hS hl h
    refine Ev.sumG_ok hS hl h ?_
    intro cs cells hfl hok hargs
    cases hfl
    obtain ⟨e1, v1, rfl, rfl, hd1, hs1⟩ := hargs.one
    unfold okN at hok
    split at hok
    case h_2 => cases hok
    rename_i i hi
    cases hi
    have : ∃ a, v1 = .int .i64 a ∧ In64 a := by
      cases hd1
      show ∃ a, (if i = 0 then Value.int .i64 n else .int .i64 d) = .int .i64 a ∧ In64 a
      split
      · exact ⟨n, rfl, hn⟩
      · exact ⟨d, rfl, hd⟩
    obtain ⟨a, rfl, ha⟩ := this
    exact ⟨.int .u64 a.natAbs, hargs.term (fn4_at ha) (Ev.Srt.int .u64 _), hsz f hf a ha w⟩
  · split at hg
    case isFalse => cases hg
    rename_i hf
    cases hg
    refine ⟨fun l => Ev.Lcl.sumG _ _ _ _ l, ?_⟩
    intro ρ st w l l' v st' hS hl h
    refine Ev.sumG_ok hS hl h ?_
    intro cs cells hfl hok hargs
    cases hfl
    obtain ⟨e1, e2, v1, v2, rfl, rfl, hd1, hd2, hs1, hs2⟩ := hargs.two
    unfold okSz at hok
    split at hok
    case h_2 => cases hok
    rename_i hi
    simp only [List.cons.injEq, and_true] at hi
    obtain ⟨rfl, rfl⟩ := hi
    have key : ∀ (x c : Array Value) (v : Value), Ev.Den (.func (.func 104) x c) v → ∃ a : Nat, v = .int .u64 a ∧ a < 18446744073709551616 := by
      intro x c v h
      cases h with
      | node _ hl hp hr =>
        exact fn4_inv (show fn4 _ = some v from hr)
    obtain ⟨a, rfl, ha⟩ := key _ _ _ hd1
    obtain ⟨b, rfl, hb⟩ := key _ _ _ hd2
    refine ⟨.int .u64 (Nat.gcd a b : Nat), hargs.term ?_ (Ev.Srt.int .u64 _), hgc f hf a b ha hb w⟩
    rfl

theorem frac_calls {f : Nat} {T : Ev.TrB} (hchk : Ev.chkB Tryz.prog sumFrac (fun _ => false) (fun _ => false) 100 f fracArgs stF T [] = true) {n d : Int} (hn : In64 n) (hd : In64 d)
    (hleaf : ∀ q b, (q, b) ∈ T.leaves [] → @Ev.PathOk (etaF n d) q → fracB n d = b) (w : World) :
    Calls Tryz.prog f #[.agg #[.int .i64 n, .int .i64 d]] w fun e w' => e = .returned (.bool (fracB n d)) ∧ Below w.heap.size w w' := by
  letI : Ev.Eta := etaF n d
  have hst : stF = ⟨.e, Tryz.prog.globals.size, [], []⟩ := by rw [nglobals]; rfl
  have hS : Ev.Sim Tryz.prog w.heap.size w (fun _ => none) stF w := by rw [hst]; exact Ev.Sim.empty _ _ (fun b o v h => by cases h)
  refine Ev.treeB_calls (l' := [.agg #[.int .i64 n, .int .i64 d]]) noGo mixed (fun i h => by cases h) (fun k l r h => by cases h) (frac_sums hn hd _ _) hchk hleaf hS ?_
  refine Ev.LRel.single (Ev.VRel.agg_iff.2 ⟨_, rfl, ?_⟩)
  exact Ev.LRel.cons (Ev.VRel.tokv rfl (Ev.Srt.int .i64 n)) (Ev.LRel.single (Ev.VRel.tokv rfl (Ev.Srt.int .i64 d)))

theorem right_ok (n d : Int) (hn : In64 n) (hd : In64 d) (w : World) : Calls Tryz.prog 39 #[.agg #[.int .i64 n, .int .i64 d]] w fun e w' => e = .returned (.bool (fracB n d)) ∧ Below w.heap.size w w' := by
  refine frac_calls chk39 hn hd ?_ w
  letI : Ev.Eta := etaF n d
  intro q b hq hp
  have hp := hp.says
  obtain ⟨h1, h2⟩ := hn
  obtain ⟨h3, h4⟩ := hd
  have hnb : n.natAbs < 18446744073709551616 := by omega
  have hdb : d.natAbs < 18446744073709551616 := by omega
  simp only [T39, Ev.TrB.leaves, List.mem_append, List.mem_singleton, Prod.mk.injEq] at hq
  rcases hq with ⟨rfl, rfl⟩ | ⟨rfl, rfl⟩ | ⟨rfl, rfl⟩ | ⟨rfl, rfl⟩ | ⟨rfl, rfl⟩
  all_goals
    simp [Ev.pathP, xn, xd, gcdT, Ev.term, Ev.dn, Ev.dnL, Ev.sOp, Ev.sLss, Ev.sEql, Ev.Eta.var, Ev.Eta.fn, fn4, fn5, hnb, hdb] at hp
    simp [fracB]
    omega
theorem right3_ok (n d : Int) (hn : In64 n) (hd : In64 d) (w : World) : Calls Tryz.prog 125 #[.agg #[.int .i64 n, .int .i64 d]] w fun e w' => e = .returned (.bool (fracB n d)) ∧ Below w.heap.size w w' := by
  refine frac_calls chk125 hn hd ?_ w
  letI : Ev.Eta := etaF n d
  intro q b hq hp
  have hp := hp.says
  obtain ⟨h1, h2⟩ := hn
  obtain ⟨h3, h4⟩ := hd
  have hnb : n.natAbs < 18446744073709551616 := by omega
  have hdb : d.natAbs < 18446744073709551616 := by omega
  simp only [T125, Ev.TrB.leaves, List.mem_append, List.mem_singleton, Prod.mk.injEq] at hq
  rcases hq with ⟨rfl, rfl⟩ | ⟨rfl, rfl⟩ | ⟨rfl, rfl⟩ | ⟨rfl, rfl⟩ | ⟨rfl, rfl⟩ | ⟨rfl, rfl⟩
  all_goals
    simp [Ev.pathP, xn, xd, gcdT, Ev.term, Ev.dn, Ev.dnL, Ev.sOp, Ev.sLss, Ev.sEql, Ev.Eta.var, Ev.Eta.fn, fn4, fn5, hnb, hdb] at hp
    simp [fracB]
    omega
theorem rate_ok (n d : Int) (hn : In64 n) (hd : In64 d) (w : World) : Calls Tryz.prog 99 #[.agg #[.int .i64 n, .int .i64 d]] w fun e w' => e = .returned (.bool (rateB n d)) ∧ Below w.heap.size w w' := by
  cases hf : fracB n d
  · go_enter Tryz.func99, Tryz.ntmps99
    go_wp2_with (go_at_call 39; refine (right_ok n d hn hd _).mono ?_; rintro e w1 ⟨rfl, hb1⟩)
    go_ret
    refine ⟨?_, ((Below.refl _ _).alloc (Nat.le_refl _) _).trans (hb1.mono (by simp))⟩
    simp [rateB, hf]
  · go_enter Tryz.func99, Tryz.ntmps99
    go_wp2_with (go_at_call 39; refine (right_ok n d hn hd _).mono ?_; rintro e w1 ⟨rfl, hb1⟩; have hc0 : w1.cell? ⟨w.heap.size, 0, none⟩ = some (.int .i64 n) := cell_later hb1 (by simp); have hc1 : w1.cell? ⟨w.heap.size, 1, none⟩ = some (.int .i64 d) := cell_later hb1 (by simp))
    all_goals
      go_ret
      refine ⟨?_, ((Below.refl _ _).alloc (Nat.le_refl _) _).trans (hb1.mono (by simp))⟩
      simp [rateB, hf]
      try (first | omega | (rw [Bool.eq_iff_iff]; simp; omega))
theorem Rate_ok (n d : Int) (hn : In64 n) (hd : In64 d) (w : World) : Calls Tryz.prog 100 #[.agg #[.int .i64 n, .int .i64 d]] w fun e w' => e = .returned (.bool (rateB n d)) ∧ Below w.heap.size w w' := by
  cases hf : fracB n d
  · go_enter Tryz.func100, Tryz.ntmps100
    go_wp2_with (go_at_call 125; refine (right3_ok n d hn hd _).mono ?_; rintro e w1 ⟨rfl, hb1⟩)
    go_ret
    refine ⟨?_, ((Below.refl _ _).alloc (Nat.le_refl _) _).trans (hb1.mono (by simp))⟩
    simp [rateB, hf]
  · go_enter Tryz.func100, Tryz.ntmps100
    go_wp2_with (go_at_call 125; refine (right3_ok n d hn hd _).mono ?_; rintro e w1 ⟨rfl, hb1⟩; have hc0 : w1.cell? ⟨w.heap.size, 0, none⟩ = some (.int .i64 n) := cell_later hb1 (by simp); have hc1 : w1.cell? ⟨w.heap.size, 1, none⟩ = some (.int .i64 d) := cell_later hb1 (by simp))
    all_goals
      go_ret
      refine ⟨?_, ((Below.refl _ _).alloc (Nat.le_refl _) _).trans (hb1.mono (by simp))⟩
      simp [rateB, hf]
      try (first | omega | (rw [Bool.eq_iff_iff]; simp; omega))
end Go.Proofs.YtmnojjfamfpmnaaGreatDoor
