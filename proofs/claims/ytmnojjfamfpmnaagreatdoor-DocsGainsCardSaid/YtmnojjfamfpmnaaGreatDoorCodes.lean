/- The tax codes of a setup: tax.Codes and its reference twin say alike whether all are good. -/
import Derived.Test.YtmnojjfamfpmnaaGreatDoorFrac
import Derived.Test.YtmnojjfamfpmnaaGreatDoorEvxZ
import Derived.Test.YtmnojjfamfpmnaaGreatDoorNum
set_option linter.unusedVariables false
set_option linter.unusedSimpArgs false
set_option linter.unusedSectionVars false
set_option linter.unnecessarySimpa false
namespace Go.Proofs.YtmnojjfamfpmnaaGreatDoor
open Go Go.RowKit
set_option maxRecDepth 100000

/-- The tax codes as they lie in memory. -/
structure CodesAt (w : World) (b off len : Nat) (na ac : Nat → ByteArray) (nn dd : Nat → Int) : Prop where
  c0 : ∀ k, k < len → w.cell? ⟨b, off + k * 4, none⟩ = some (.string (na k))
  c1 : ∀ k, k < len → w.cell? ⟨b, off + k * 4 + 1, none⟩ = some (.string (ac k))
  c2 : ∀ k, k < len → w.cell? ⟨b, off + k * 4 + 2, none⟩ = some (.int .i64 (nn k))
  c3 : ∀ k, k < len → w.cell? ⟨b, off + k * 4 + 3, none⟩ = some (.int .i64 (dd k))
  s0 : ∀ k, k < len → (na k).size ≤ 9223372036854775807
  s1 : ∀ k, k < len → (ac k).size ≤ 9223372036854775807
  r2 : ∀ k, k < len → In64 (nn k)
  r3 : ∀ k, k < len → In64 (dd k)
def goodC (na ac : Nat → ByteArray) (nn dd : Nat → Int) (k : Nat) : Bool :=
  codeB (na k) && codeB (ac k) && rateB (nn k) (dd k) && (decide (k = 0) || Op.bytesLess (na (k - 1)).toList (na k).toList)
def goodTo (na ac : Nat → ByteArray) (nn dd : Nat → Int) : Nat → Bool
  | 0 => true
  | k + 1 => goodTo na ac nn dd k && goodC na ac nn dd k
theorem goodTo_at {na ac : Nat → ByteArray} {nn dd : Nat → Int} {k : Nat} (hg : goodC na ac nn dd k = false) : ∀ m, k < m → goodTo na ac nn dd m = false := by
  intro m
  induction m with
  | zero => intro h; omega
  | succ m ih =>
    intro h
    by_cases e : k = m
    · subst e; simp [goodTo, hg]
    · simp [goodTo, ih (by omega)]

theorem goodTo_step {na ac : Nat → ByteArray} {nn dd : Nat → Int} {k : Nat} (h : goodTo na ac nn dd k = true) (hg : goodC na ac nn dd k = true) : goodTo na ac nn dd (k + 1) = true := by simp [goodTo, h, hg]

noncomputable def bodyOf (f : Nat) : Code := ((Tryz.prog.funcs[f]?).bind (·.body)).getD .skip
noncomputable def loopOf (f : Nat) : Code := (Ev.loopsOf (bodyOf f)).headD .skip

namespace Cd
def x0 : Value := .chan (some 0)
def x1 : Value := .chan (some 1)
def L : Value := Ev.term 30 [x0]
def im1 : Value := Ev.term 11 [x1, .int .i64 1]
def cel (i : Value) (j : Nat) : Value := Ev.celT x0 i 4 j
def C0 : Value := Ev.term 100 [cel x1 0]
def C1 : Value := Ev.term 100 [cel x1 1]
def R : Value := Ev.term 106 [cel x1 2, cel x1 3]
def O : Value := Ev.term 2 [cel im1 0, cel x1 0]
def pE : List (Value × Bool) := [(Ev.term 2 [x1, L], false)]
def pZ : List (Value × Bool) := [(Ev.term 2 [x1, L], true), (Ev.term 2 [x1, .int .i64 0], false), (Ev.term 2 [.int .i64 0, x1], false)]
def pS : List (Value × Bool) := [(Ev.term 2 [x1, L], true), (Ev.term 2 [x1, .int .i64 0], false), (Ev.term 2 [.int .i64 0, x1], true), (Ev.term 2 [im1, .int .i64 0], false), (Ev.term 2 [im1, L], true)]
def tZ : Ev.TrN := .ask C0 (.ask C1 (.ask R (.leaf 2) (.leaf 1)) (.leaf 1)) (.leaf 1)
def tS : Ev.TrN := .ask C0 (.ask C1 (.ask R (.ask O (.leaf 2) (.leaf 1)) (.leaf 1)) (.leaf 1)) (.leaf 1)
def slc : Value → Option (List Nat)
  | .chan (some i) => if i = 0 then some [1, 1, 5, 5] else none
  | _ => none
def okS : List Value → Bool
  | [.func (.func f) _ _] => f == 41
  | _ => false
def okR : List Value → Bool
  | [.func (.func f) _ _, .func (.func g) _ _] => f == 41 && g == 41
  | _ => false
def sum (f : FuncId) : Option (List Value → Ev.M Value) :=
  if f = 27 ∨ f = 31 then some (Ev.sumG false okS [1] (Ev.mkT 0 0)) else if f = 99 ∨ f = 100 then some (Ev.sumG true okR [5, 5] (Ev.mkT 0 6)) else none
abbrev orc (p : List (Value × Bool)) : Ev.Orc := Ev.pathOrcS slc sum p
def bf (k : Nat) : Bool := k == 0 || k == 6
def st0 : Ev.St := ⟨.e, 1, [], []⟩
def head56 : List (Nat × Value) := [(0, Ev.tok 11 x0), (8, Ev.tok 11 x0), (9, Ev.tok 5 L), (10, Ev.tok 5 x1)]
def outs56 (k : Nat) : Ev.Ex × List (Nat × Value) :=
  if k = 0 then (.exit 0, []) else if k = 1 then (.ret, [(2, .bool false)]) else (.normal, [(0, Ev.tok 11 x0), (8, Ev.tok 11 x0), (9, Ev.tok 5 L), (10, Ev.tok 5 (Ev.term 10 [x1, .int .i64 1]))])
def head63 : List (Nat × Value) := [(0, Ev.tok 11 x0), (3, Ev.tok 5 x1)]
def outs63 (k : Nat) : Ev.Ex × List (Nat × Value) :=
  if k = 0 then (.exit 0, []) else if k = 1 then (.ret, [(2, .bool false)]) else (.normal, [(0, Ev.tok 11 x0), (3, Ev.tok 5 (Ev.term 10 [x1, .int .i64 1]))])
noncomputable def run (f n : Nat) (head : List (Nat × Value)) (outs : Nat → Ev.Ex × List (Nat × Value)) (p : List (Value × Bool)) (k : Nat) : Bool :=
  @Ev.roundB (orc p) Tryz.prog (@Ev.ev (orc p) Tryz.prog 50) 50 (loopOf f) (Ev.frOf n head) st0 outs k
end Cd
theorem n56 : (Tryz.prog.funcs[56]?).map (fun f => f.ntmps) = some 47 := by kernel_rfl
theorem n63 : (Tryz.prog.funcs[63]?).map (fun f => f.ntmps) = some 56 := by kernel_rfl
theorem l56 : (Ev.loopsOf (bodyOf 56)).length = 1 := by kernel_rfl
theorem l63 : (Ev.loopsOf (bodyOf 63)).length = 1 := by kernel_rfl
theorem e56 : Cd.run 56 47 Cd.head56 Cd.outs56 Cd.pE 0 = true := by kernel_rfl
theorem z56 : Cd.tZ.chk (fun _ => false) Cd.bf (Cd.run 56 47 Cd.head56 Cd.outs56) Cd.pZ = true := by kernel_rfl
theorem s56 : Cd.tS.chk (fun _ => false) Cd.bf (Cd.run 56 47 Cd.head56 Cd.outs56) Cd.pS = true := by kernel_rfl
theorem e63 : Cd.run 63 56 Cd.head63 Cd.outs63 Cd.pE 0 = true := by kernel_rfl
theorem z63 : Cd.tZ.chk (fun _ => false) Cd.bf (Cd.run 63 56 Cd.head63 Cd.outs63) Cd.pZ = true := by kernel_rfl
theorem s63 : Cd.tS.chk (fun _ => false) Cd.bf (Cd.run 63 56 Cd.head63 Cd.outs63) Cd.pS = true := by kernel_rfl

section
variable {b off len cap : Nat} {na ac : Nat → ByteArray} {nn dd : Nat → Int} {w1 : World}

def fnC (k : Nat) (l : List Value) : Option Value := match k, l with
  | 0, [.string s] => some (.bool (codeB s))
  | 6, [.int .i64 n, .int .i64 d] => some (.bool (rateB n d))
  | _, _ => none
def memC (w1 : World) (b off len : Nat) (b' o : Nat) : Option Value := if b' = b ∧ off ≤ o ∧ o < off + len * 4 then w1.cell? ⟨b, o, none⟩ else none
abbrev etaC (w1 : World) (b off len cap : Nat) (i : Nat) : Ev.Eta := ⟨fun v => if v = 0 then .slice (some ⟨b, off, none⟩) len cap else .int .i64 i, fnC, memC w1 b off len⟩

theorem memC_at {i j : Nat} (hi : i < len) (hj : j < 4) : memC w1 b off len b (off + (i * 4 + j)) = w1.cell? ⟨b, off + i * 4 + j, none⟩ := by
  unfold memC
  rw [if_pos ⟨rfl, by omega, by omega⟩, show off + (i * 4 + j) = off + i * 4 + j by omega]

/-- Of what kind each cell is. -/
theorem memC_kind (hc : CodesAt w1 b off len na ac nn dd) {b' o : Nat} {v : Value} (h : memC w1 b off len b' o = some v) :
    (∃ s, v = .string s ∧ s.size ≤ 9223372036854775807) ∨ (∃ n, v = .int .i64 n ∧ In64 n) := by
  unfold memC at h
  split at h
  case isFalse => cases h
  rename_i hh
  obtain ⟨rfl, h1, h2⟩ := hh
  have hi : (o - off) / 4 < len := by omega
  have e : o = off + (o - off) / 4 * 4 + (o - off) % 4 := by omega
  have hj : (o - off) % 4 < 4 := by omega
  rw [e] at h
  generalize (o - off) / 4 = i at h hi
  generalize (o - off) % 4 = j at h hj
  obtain rfl | rfl | rfl | rfl : j = 0 ∨ j = 1 ∨ j = 2 ∨ j = 3 := by omega
  · have := hc.c0 i hi
    rw [Nat.add_zero, this] at h
    cases h
    exact .inl ⟨_, rfl, hc.s0 i hi⟩
  · rw [hc.c1 i hi] at h
    cases h
    exact .inl ⟨_, rfl, hc.s1 i hi⟩
  · rw [hc.c2 i hi] at h
    cases h
    exact .inr ⟨_, rfl, hc.r2 i hi⟩
  · rw [hc.c3 i hi] at h
    cases h
    exact .inr ⟨_, rfl, hc.r3 i hi⟩

theorem mem_ok {w : World} (hbel : Below w1.heap.size w1 w) (b' o : Nat) (v : Value) (h : memC w1 b off len b' o = some v) : b' < w.heap.size ∧ w.cell? ⟨b', o, none⟩ = some v := by
  unfold memC at h
  split at h
  case isFalse => cases h
  rename_i hh
  obtain ⟨rfl, h1, h2⟩ := hh
  exact ⟨Nat.lt_of_lt_of_le (World.block_lt_of_cell? _ _ h) hbel.size, cell_later hbel h⟩

theorem cel_kind (hc : CodesAt w1 b off len na ac nn dd) {i : Nat} {x y : Array Value} {v : Value} (h : @Ev.Den (etaC w1 b off len cap i) (.func (.func 41) x y) v) :
    (∃ s, v = .string s ∧ s.size ≤ 9223372036854775807) ∨ (∃ n, v = .int .i64 n ∧ In64 n) := by
  letI := etaC w1 b off len cap i
  cases h with
  | node _ hl hp hr =>
    have hr : (Ev.sPlace _).bind (fun p => memC w1 b off len p.1 p.2) = some v := hr
    obtain ⟨p, _, h⟩ := Option.bind_eq_some_iff.1 hr
    exact memC_kind hc h

theorem codes_sums (hc : CodesAt w1 b off len na ac nn dd) (i B : Nat) (w0 : World) (p : List (Value × Bool)) : @Ev.SumOk (Cd.orc p) (etaC w1 b off len cap i) Tryz.prog B w0 := by
  letI : Ev.Eta := etaC w1 b off len cap i
  intro f g hg
  have hg : Cd.sum f = some g := hg
  unfold Cd.sum at hg
  split at hg
  · rename_i hf
    cases hg
    refine ⟨fun l => Ev.Lcl.sumG _ _ _ _ l, ?_⟩
    intro ρ st w l l' v st' hS hl h
    refine Ev.sumG_ok hS hl h ?_
    intro cs cells hfl hok hargs
    cases hfl
    obtain ⟨e1, v1, rfl, rfl, hd1, hs1⟩ := hargs.one
    obtain ⟨s, rfl⟩ := hs1.str
    unfold Cd.okS at hok
    split at hok
    case h_2 => cases hok
    rename_i hi
    cases hi
    simp only [beq_iff_eq] at hok
    subst hok
    have hs : s.size ≤ 9223372036854775807 := by
      rcases cel_kind hc hd1 with ⟨_, h1, h2⟩ | ⟨_, h1, _⟩
      · cases h1; exact h2
      · cases h1
    refine ⟨.bool (codeB s), hargs.term rfl (Ev.Srt.bool _), ?_⟩
    rcases hf with rfl | rfl
    · exact (words_code s hs w).mono fun e w' ⟨h1, h2⟩ => ⟨h1, by rw [h2]; exact Below.refl _ _⟩
    · exact (ref6_code s hs w).mono fun e w' ⟨h1, h2⟩ => ⟨h1, by rw [h2]; exact Below.refl _ _⟩
  · split at hg
    case isFalse => cases hg
    rename_i hf
    cases hg
    refine ⟨fun l => Ev.Lcl.sumG _ _ _ _ l, ?_⟩
    intro ρ st w l l' v st' hS hl h
    refine Ev.sumG_ok hS hl h ?_
    intro cs cells hfl hok hargs
    obtain ⟨e1, e2, v1, v2, rfl, rfl, hd1, hd2, hs1, hs2⟩ := hargs.two
    obtain ⟨n, rfl⟩ := hs1.i64
    obtain ⟨d, rfl⟩ := hs2.i64
    unfold Cd.okR at hok
    split at hok
    case h_2 => cases hok
    rename_i hi
    cases hi
    simp only [Bool.and_eq_true, beq_iff_eq] at hok
    obtain ⟨rfl, rfl⟩ := hok
    have hn : In64 n := by
      rcases cel_kind hc hd1 with ⟨_, h1, h2⟩ | ⟨_, h1, h2⟩
      · cases h1
      · cases h1; exact h2
    have hd : In64 d := by
      rcases cel_kind hc hd2 with ⟨_, h1, h2⟩ | ⟨_, h1, h2⟩
      · cases h1
      · cases h1; exact h2
    have hl' : l' = [.agg #[.int .i64 n, .int .i64 d]] := by
      unfold Ev.flat at hfl
      simp only [if_true] at hfl
      split at hfl
      · rename_i a
        have := Option.some.inj hfl
        have : a = #[.int .i64 n, .int .i64 d] := by apply Array.ext'; simpa using this
        rw [this]
      · cases hfl
    subst hl'
    refine ⟨.bool (rateB n d), hargs.term rfl (Ev.Srt.bool _), ?_⟩
    rcases hf with rfl | rfl
    · exact rate_ok n d hn hd w
    · exact Rate_ok n d hn hd w

theorem codes_orc (hc : CodesAt w1 b off len na ac nn dd) {i : Nat} {p : List (Value × Bool)} (hp : @Ev.PathOk (etaC w1 b off len cap i) p) : @Ev.OrcOk (Cd.orc p) (etaC w1 b off len cap i) := by
  letI : Ev.Eta := etaC w1 b off len cap i
  refine @Ev.OrcOk.mk (Cd.orc p) _ (fun e b v h hd => Ev.lookO_ok hp h hd) ?_
  intro e ss v h hd
  have h : Cd.slc e = some ss := h
  unfold Cd.slc at h
  split at h
  case h_2 => cases h
  rename_i k
  split at h
  case isFalse => cases h
  rename_i hk
  subst hk
  cases h
  cases hd
  refine .inr ⟨b, off, len, cap, rfl, ?_⟩
  intro i j s hi hj
  have hj4 : j < 4 := (List.getElem?_eq_some_iff.1 hj).1
  show ∃ u, memC w1 b off len b (off + (i * 4 + j)) = some u ∧ Ev.Srt s u
  rw [memC_at hi hj4]
  obtain rfl | rfl | rfl | rfl : j = 0 ∨ j = 1 ∨ j = 2 ∨ j = 3 := by omega
  · cases hj; exact ⟨_, by rw [Nat.add_zero]; exact hc.c0 i hi, Ev.Srt.string _⟩
  · cases hj; exact ⟨_, hc.c1 i hi, Ev.Srt.string _⟩
  · cases hj; exact ⟨_, hc.c2 i hi, Ev.Srt.int .i64 _⟩
  · cases hj; exact ⟨_, hc.c3 i hi, Ev.Srt.int .i64 _⟩

theorem den_cel (hc : CodesAt w1 b off len na ac nn dd) {m i : Nat} (hi : i < len) {x : Value} (hx : @Ev.dn (etaC w1 b off len cap m) 38 x = some (.int .i64 i)) :
    @Ev.dn (etaC w1 b off len cap m) 39 (Cd.cel x 0) = some (.string (na i)) ∧ @Ev.dn (etaC w1 b off len cap m) 39 (Cd.cel x 1) = some (.string (ac i)) ∧
    @Ev.dn (etaC w1 b off len cap m) 39 (Cd.cel x 2) = some (.int .i64 (nn i)) ∧ @Ev.dn (etaC w1 b off len cap m) 39 (Cd.cel x 3) = some (.int .i64 (dd i)) := by
  letI : Ev.Eta := etaC w1 b off len cap m
  have key : ∀ j, j < 4 → Ev.dn 39 (Cd.cel x j) = w1.cell? ⟨b, off + i * 4 + j, none⟩ := by
    intro j hj
    rw [← memC_at hi hj]
    show (match Ev.dnL (Ev.dn 38) [Cd.x0, x, .int .i64 (4 : Nat), .int .i64 (j : Nat)] with
      | some l => Ev.sOp 41 l
      | none => none) = _
    have h0 : Ev.dn 38 Cd.x0 = some (.slice (some ⟨b, off, none⟩) len cap) := rfl
    have h4 : ∀ n : Nat, Ev.dn 38 (.int .i64 (n : Int)) = some (.int .i64 n) := fun n => rfl
    simp only [Ev.dnL, h0, hx, h4]
    show (Ev.sPlace _).bind _ = _
    have h1 : (0 : Int) ≤ i ∧ (i : Int) < len := by omega
    simp only [Ev.sPlace, if_pos h1, Option.bind_some]
    rfl
  refine ⟨?_, ?_, ?_, ?_⟩
  · rw [key 0 (by decide), Nat.add_zero]; exact hc.c0 i hi
  · rw [key 1 (by decide)]; exact hc.c1 i hi
  · rw [key 2 (by decide)]; exact hc.c2 i hi
  · rw [key 3 (by decide)]; exact hc.c3 i hi

/-- The round's questions, reckoned out. -/
theorem den_asks (hc : CodesAt w1 b off len na ac nn dd) (hl : len ≤ 200) {i : Nat} (hi : i < len) :
    @Ev.dn (etaC w1 b off len cap i) 40 Cd.C0 = some (.bool (codeB (na i))) ∧ @Ev.dn (etaC w1 b off len cap i) 40 Cd.C1 = some (.bool (codeB (ac i))) ∧
    @Ev.dn (etaC w1 b off len cap i) 40 Cd.R = some (.bool (rateB (nn i) (dd i))) ∧ (0 < i → @Ev.dn (etaC w1 b off len cap i) 40 Cd.O = some (.bool (Op.bytesLess (na (i - 1)).toList (na i).toList))) := by
  letI : Ev.Eta := etaC w1 b off len cap i
  have hx1 : Ev.dn 38 Cd.x1 = some (.int .i64 i) := rfl
  obtain ⟨c0, c1, c2, c3⟩ := den_cel hc (m := i) (cap := cap) hi hx1
  refine ⟨?_, ?_, ?_, fun h0 => ?_⟩
  · show (match Ev.dnL (Ev.dn 39) [Cd.cel Cd.x1 0] with
      | some l => Ev.sOp 100 l
      | none => none) = _
    simp only [Ev.dnL, c0]
    rfl
  · show (match Ev.dnL (Ev.dn 39) [Cd.cel Cd.x1 1] with
      | some l => Ev.sOp 100 l
      | none => none) = _
    simp only [Ev.dnL, c1]
    rfl
  · show (match Ev.dnL (Ev.dn 39) [Cd.cel Cd.x1 2, Cd.cel Cd.x1 3] with
      | some l => Ev.sOp 106 l
      | none => none) = _
    simp only [Ev.dnL, c2, c3]
    rfl
  · have hm1 : Ev.dn 38 Cd.im1 = some (.int .i64 ((i - 1 : Nat) : Int)) := by
      show (match Ev.dnL (Ev.dn 37) [Cd.x1, .int .i64 1] with
        | some l => Ev.sOp 11 l
        | none => none) = _
      have h1 : Ev.dn 37 Cd.x1 = some (.int .i64 i) := rfl
      have h2 : Ev.dn 37 (.int .i64 1) = some (.int .i64 1) := rfl
      simp only [Ev.dnL, h1, h2]
      show some (Value.int .i64 (IntKind.i64.wrap ((i : Int) - 1))) = _
      rw [IntKind.wrap_i64]
      congr 2
      omega
    obtain ⟨d0, _, _, _⟩ := den_cel hc (m := i) (cap := cap) (i := i - 1) (by omega) hm1
    show (match Ev.dnL (Ev.dn 39) [Cd.cel Cd.im1 0, Cd.cel Cd.x1 0] with
      | some l => Ev.sOp 2 l
      | none => none) = _
    simp only [Ev.dnL, c0, d0]
    rfl

theorem den_len {i : Nat} : @Ev.dn (etaC w1 b off len cap i) 39 Cd.L = some (.int .i64 len) := rfl
theorem den_im1 {i : Nat} (hl : i ≤ 200) : @Ev.dn (etaC w1 b off len cap i) 39 Cd.im1 = some (.int .i64 ((i : Int) - 1)) := by
  show some (Value.int .i64 (IntKind.i64.wrap ((i : Int) - 1))) = _
  rw [IntKind.wrap_i64]
  congr 2
  omega

theorem den_ip1 {i : Nat} (hl : i ≤ 200) : @Ev.dn (etaC w1 b off len cap i) 39 (Ev.term 10 [Cd.x1, .int .i64 1]) = some (.int .i64 ((i + 1 : Nat) : Int)) := by
  have h : IntKind.i64.wrap ((i : Int) + 1) = ((i + 1 : Nat) : Int) := by
    rw [IntKind.wrap_i64]
    omega
  rw [← h]
  rfl

theorem path_of {q : List (Value × Bool)} {i : Nat} (h : ∀ e x, (e, x) ∈ q → @Ev.dn (etaC w1 b off len cap i) 40 e = some (.bool x)) : @Ev.PathOk (etaC w1 b off len cap i) q := by
  letI : Ev.Eta := etaC w1 b off len cap i
  intro e x hm v hv
  exact Ev.Den.single (Ev.dn_den 40 e _ (h e x hm)) hv

theorem lss_at {i : Nat} {x y : Value} {m n : Int} (hx : @Ev.dn (etaC w1 b off len cap i) 39 x = some (.int .i64 m)) (hy : @Ev.dn (etaC w1 b off len cap i) 39 y = some (.int .i64 n)) {c : Bool} (hc : decide (m < n) = c) :
    @Ev.dn (etaC w1 b off len cap i) 40 (Ev.term 2 [x, y]) = some (.bool c) := by
  letI : Ev.Eta := etaC w1 b off len cap i
  show (match Ev.dnL (Ev.dn 39) [x, y] with
      | some l => Ev.sOp 2 l
      | none => none) = _
  simp only [Ev.dnL, hx, hy]
  subst hc
  rfl

theorem pathE {i : Nat} (hi : i = len) : @Ev.PathOk (etaC w1 b off len cap i) Cd.pE := by
  refine path_of ?_
  intro e x hm
  simp only [Cd.pE, List.mem_singleton, Prod.mk.injEq] at hm
  obtain ⟨rfl, rfl⟩ := hm
  exact lss_at (m := i) rfl den_len (by simp [hi])
theorem pathZ {i : Nat} (hi : i < len) (h0 : i = 0) : @Ev.PathOk (etaC w1 b off len cap i) Cd.pZ := by
  refine path_of ?_
  intro e x hm
  simp only [Cd.pZ, List.mem_cons, List.not_mem_nil, or_false, Prod.mk.injEq] at hm
  rcases hm with ⟨rfl, rfl⟩ | ⟨rfl, rfl⟩ | ⟨rfl, rfl⟩
  · exact lss_at (m := i) rfl den_len (by simp; omega)
  · exact lss_at (m := i) (n := 0) rfl rfl (by simp)
  · exact lss_at (m := 0) (n := i) rfl rfl (by simp; omega)
theorem pathS {i : Nat} (hl : len ≤ 200) (hi : i < len) (h0 : 0 < i) : @Ev.PathOk (etaC w1 b off len cap i) Cd.pS := by
  refine path_of ?_
  intro e x hm
  simp only [Cd.pS, List.mem_cons, List.not_mem_nil, or_false, Prod.mk.injEq] at hm
  rcases hm with ⟨rfl, rfl⟩ | ⟨rfl, rfl⟩ | ⟨rfl, rfl⟩ | ⟨rfl, rfl⟩ | ⟨rfl, rfl⟩
  · exact lss_at (m := i) rfl den_len (by simp; omega)
  · exact lss_at (m := i) (n := 0) rfl rfl (by simp)
  · exact lss_at (m := 0) (n := i) rfl rfl (by simp; omega)
  · exact lss_at (n := 0) (den_im1 (by omega)) rfl (by simp; omega)
  · exact lss_at (den_im1 (by omega)) den_len (by simp; omega)

theorem fnC_bool {k : Nat} {l : List Value} {r : Value} (hk : Cd.bf k = true) (h : fnC k l = some r) : ∃ b, r = .bool b := by
  unfold fnC at h
  split at h
  · exact ⟨_, (Option.some.inj h).symm⟩
  · exact ⟨_, (Option.some.inj h).symm⟩
  · cases h

/-- The head's slots as values. -/
def headV (b off len cap : Nat) (i : Nat) : Value → Value
  | .iface _ (.chan (some k)) => if k = 0 then .slice (some ⟨b, off, none⟩) len cap else .int .i64 i
  | _ => .int .i64 len

/-- Where the loop stands: its head's slots, all codes good so far. -/
structure Here (wl : World) (b off len cap : Nat) (na ac : Nat → ByteArray) (nn dd : Nat → Int) (n : Nat) (head : List (Nat × Value)) (a0 : Act) (i : Nat) (a : Act) (w : World) : Prop where
  le : i ≤ len
  good : goodTo na ac nn dd i = true
  size : a.tmps.size = n
  slots : ∀ t v, (t, v) ∈ head → a.tmps.getD t undef = headV b off len cap i v
  defers : a.defers = a0.defers
  below : Below wl.heap.size wl w

/-- What is asked of a function's loop, closed facts. -/
structure LoopFacts (f n : Nat) (head : List (Nat × Value)) (outs : Nat → Ev.Ex × List (Nat × Value)) : Prop where
  e : Cd.run f n head outs Cd.pE 0 = true
  z : Cd.tZ.chk (fun _ => false) Cd.bf (Cd.run f n head outs) Cd.pZ = true
  s : Cd.tS.chk (fun _ => false) Cd.bf (Cd.run f n head outs) Cd.pS = true
  o0 : outs 0 = (.exit 0, [])
  o1 : outs 1 = (.ret, [(2, .bool false)])
  o2 : (outs 2).1 = .normal
  o2a : ∀ t, (t, Ev.tok 11 Cd.x0) ∈ head → (t, Ev.tok 11 Cd.x0) ∈ (outs 2).2
  o2b : ∀ t, (t, Ev.tok 5 Cd.L) ∈ head → (t, Ev.tok 5 Cd.L) ∈ (outs 2).2
  o2c : ∀ t, (t, Ev.tok 5 Cd.x1) ∈ head → (t, Ev.tok 5 (Ev.term 10 [Cd.x1, .int .i64 1])) ∈ (outs 2).2
  h : ∀ t v, (t, v) ∈ head → v = Ev.tok 11 Cd.x0 ∨ v = Ev.tok 5 Cd.L ∨ v = Ev.tok 5 Cd.x1

theorem round_codes {f n : Nat} {head : List (Nat × Value)} {outs : Nat → Ev.Ex × List (Nat × Value)} (F : LoopFacts f n head outs) (hc : CodesAt w1 b off len na ac nn dd) (hl : len ≤ 200) {wl : World} (hwl : Below w1.heap.size w1 wl) {Q : Exit → Act → World → Prop} {a0 : Act}
    (hQ0 : goodTo na ac nn dd len = true → ∀ a' w', Below wl.heap.size wl w' → a'.tmps.size = n → a'.defers = a0.defers → Q (.exit 0) a' w')
    (hQ1 : goodTo na ac nn dd len = false → ∀ a' w', Below wl.heap.size wl w' → a'.tmps.size = n → a'.defers = a0.defers → a'.tmps.getD 2 undef = .bool false → Q .ret a' w')
    (k : Nat) (a : Act) (w : World) (hh : ∃ i, k = len - i ∧ Here wl b off len cap na ac nn dd n head a0 i a w) :
    (loopOf f).wp Tryz.prog (Exit.then (fun a' w' => ∃ j, j < k ∧ ∃ i, j = len - i ∧ Here wl b off len cap na ac nn dd n head a0 i a' w') Q) a w := by
  obtain ⟨i, rfl, H⟩ := hh
  letI : Ev.Eta := etaC w1 b off len cap i
  have hst : Cd.st0 = ⟨.e, Tryz.prog.globals.size, [], []⟩ := by rw [nglobals]; rfl
  have hS : Ev.Sim Tryz.prog w.heap.size w (fun _ => none) Cd.st0 w := by rw [hst]; exact Ev.Sim.empty _ _ (mem_ok (hwl.trans (H.below.mono hwl.size)))
  have hF : Ev.FrRel (fun _ => none) (Ev.frOf n head) a := by
    refine Ev.frOf_rel H.size fun t v hm => ?_
    rw [H.slots t v hm]
    rcases F.h t v hm with rfl | rfl | rfl
    · exact .tok 11 (Ev.Den.var 0) (Ev.Srt.slice _ _ _)
    · exact .tok 5 (Ev.dn_den 39 _ _ den_len) (Ev.Srt.int .i64 _)
    · exact .tok 5 (Ev.Den.var 1) (Ev.Srt.int .i64 _)
  -- one outcome of the round
  have out : ∀ (q : List (Value × Bool)) (m : Nat), Ev.PathOk q → Cd.run f n head outs q m = true →
      (∀ a' w', Below wl.heap.size wl w' → a'.tmps.size = n → a'.defers = a0.defers → (∀ ρ : Ev.Rho, (∀ t v, (t, v) ∈ (outs m).2 → Ev.VRel ρ v (a'.tmps.getD t undef)) →
        (Exit.then (fun a' w' => ∃ j, j < len - i ∧ ∃ i, j = len - i ∧ Here wl b off len cap na ac nn dd n head a0 i a' w') Q) (Ev.exOf (outs m).1) a' w')) →
      (loopOf f).wp Tryz.prog (Exit.then (fun a' w' => ∃ j, j < len - i ∧ ∃ i, j = len - i ∧ Here wl b off len cap na ac nn dd n head a0 i a' w') Q) a w := by
    intro q m hp hr hq
    have hok := codes_orc hc hp
    have hsm := codes_sums hc i w.heap.size w q (cap := cap)
    refine @Ev.round_wp (Cd.orc q) _ hok Tryz.prog w.heap.size w (fun _ => none) Cd.st0 w noGo mixed (@Ev.ev (Cd.orc q) Tryz.prog 50) (fun f l => @Ev.Lcl.ev (Cd.orc q) _ Tryz.prog (fun f g hg => (hsm f g hg).1) 50 f l)
      (@Ev.ev_ok (Cd.orc q) _ hok Tryz.prog w.heap.size w noGo mixed hsm 50) 50 _ _ _ _ hr a hS hF _ ?_
    intro ρ' a' w' hbel hsz hsl hd
    exact hq a' w' (H.below.trans (hbel.mono H.below.size)) (hsz.trans H.size) (hd.trans H.defers) ρ' hsl
  have outRet : ∀ (q : List (Value × Bool)), Ev.PathOk q → Cd.run f n head outs q 1 = true → goodC na ac nn dd i = false → i < len →
      (loopOf f).wp Tryz.prog (Exit.then (fun a' w' => ∃ j, j < len - i ∧ ∃ i, j = len - i ∧ Here wl b off len cap na ac nn dd n head a0 i a' w') Q) a w := by
    intro q hp hr hbad hi
    refine out q 1 hp hr fun a' w' hbel hsz hd ρ hsl => ?_
    rw [F.o1] at hsl ⊢
    have h2 := hsl 2 (.bool false) (by simp)
    have h2 : a'.tmps.getD 2 undef = .bool false := Ev.plainB_eq rfl h2
    exact hQ1 (goodTo_at hbad len hi) a' w' hbel hsz hd h2
  have outOn : ∀ (q : List (Value × Bool)), Ev.PathOk q → Cd.run f n head outs q 2 = true → goodC na ac nn dd i = true → i < len →
      (loopOf f).wp Tryz.prog (Exit.then (fun a' w' => ∃ j, j < len - i ∧ ∃ i, j = len - i ∧ Here wl b off len cap na ac nn dd n head a0 i a' w') Q) a w := by
    intro q hp hr hgood hi
    refine out q 2 hp hr fun a' w' hbel hsz hd ρ hsl => ?_
    rw [F.o2]
    refine ⟨len - (i + 1), by omega, i + 1, rfl, ⟨hi, by simp [goodTo, H.good, hgood], hsz, fun t v hm => ?_, hd, hbel⟩⟩
    rcases F.h t v hm with rfl | rfl | rfl
    · have h2 := hsl t _ (F.o2a t hm)
      exact Ev.Den.single (Ev.Den.var 0) h2.tok_den
    · have h2 := hsl t _ (F.o2b t hm)
      exact Ev.Den.single (Ev.dn_den 39 _ _ den_len) h2.tok_den
    · have h2 := hsl t _ (F.o2c t hm)
      exact Ev.Den.single (Ev.dn_den 39 _ _ (den_ip1 (by omega))) h2.tok_den
  rcases Nat.lt_or_ge i len with hi | hi
  · obtain ⟨a0', a1', a2', a3'⟩ := den_asks (w1 := w1) (cap := cap) hc hl hi
    rcases Nat.eq_zero_or_pos i with h0 | h0
    · obtain ⟨q, m, hq, hp, hr⟩ := Ev.TrN.ok (fun i h => by cases h) (fun k l r hk hr => fnC_bool hk hr) _ _ F.z (pathZ hi h0)
      have hps := hp.says
      simp only [Cd.tZ, Ev.TrN.leaves, List.mem_append, List.mem_singleton, Prod.mk.injEq] at hq
      rcases hq with ((⟨rfl, rfl⟩ | ⟨rfl, rfl⟩) | ⟨rfl, rfl⟩) | ⟨rfl, rfl⟩
      all_goals simp only [Ev.pathP, a0', a1', a2', Option.some.injEq, Value.bool.injEq, forall_eq'] at hps
      · exact outOn _ hp hr (by unfold goodC; rw [hps.1, hps.2.1, hps.2.2.1]; simp [h0]) hi
      · exact outRet _ hp hr (by simp [goodC, hps]) hi
      · exact outRet _ hp hr (by simp [goodC, hps]) hi
      · exact outRet _ hp hr (by simp [goodC, hps]) hi
    · obtain ⟨q, m, hq, hp, hr⟩ := Ev.TrN.ok (fun i h => by cases h) (fun k l r hk hr => fnC_bool hk hr) _ _ F.s (pathS hl hi h0)
      have hps := hp.says
      have a3' := a3' h0
      simp only [Cd.tS, Ev.TrN.leaves, List.mem_append, List.mem_singleton, Prod.mk.injEq] at hq
      rcases hq with (((⟨rfl, rfl⟩ | ⟨rfl, rfl⟩) | ⟨rfl, rfl⟩) | ⟨rfl, rfl⟩) | ⟨rfl, rfl⟩
      all_goals simp only [Ev.pathP, a0', a1', a2', a3', Option.some.injEq, Value.bool.injEq, forall_eq'] at hps
      · exact outOn _ hp hr (by simp [goodC, hps]) hi
      · exact outRet _ hp hr (by have : ¬ i = 0 := by omega
                                 simp [goodC, hps, this]) hi
      · exact outRet _ hp hr (by simp [goodC, hps]) hi
      · exact outRet _ hp hr (by simp [goodC, hps]) hi
      · exact outRet _ hp hr (by simp [goodC, hps]) hi
  · have hi : i = len := by have := H.le; omega
    refine out Cd.pE 0 (pathE hi) F.e fun a' w' hbel hsz hd ρ hsl => ?_
    rw [F.o0]
    exact hQ0 (by rw [← hi]; exact H.good) a' w' hbel hsz hd

/-- What the loop comes to, b: are all codes good. -/
def Cd.g (n : Nat) (start : List (Nat × Value)) (bb : Bool) (fr : Ev.Fr) : Ev.M (Ev.Ex × Ev.Fr) :=
  if fr.n == n && Ev.hasSlots fr start then Ev.M.pure (if bb then (.exit 0, Ev.frOf n []) else (.ret, Ev.frOf n [(2, .bool false)])) else Ev.M.fail

structure StartFacts (head start : List (Nat × Value)) : Prop where
  a : ∀ t, (t, Ev.tok 11 Cd.x0) ∈ head → (t, Ev.tok 11 Cd.x0) ∈ start
  b : ∀ t, (t, Ev.tok 5 Cd.L) ∈ head → (t, Ev.tok 5 Cd.L) ∈ start
  c : ∀ t, (t, Ev.tok 5 Cd.x1) ∈ head → (t, .int .i64 0) ∈ start

theorem loop_codes {f n : Nat} {head start : List (Nat × Value)} {outs : Nat → Ev.Ex × List (Nat × Value)} (F : LoopFacts f n head outs) (G : StartFacts head start) (hc : CodesAt w1 b off len na ac nn dd) (hl : len ≤ 200) {bb : Bool}
    (hbb : goodTo na ac nn dd len = bb) : @Ev.LoopOk (etaC w1 b off len cap 0) Tryz.prog w1.heap.size w1 (Cd.g n start bb) (loopOf f) := by
  letI : Ev.Eta := etaC w1 b off len cap 0
  intro fr fr' e a ρ st st' w Q hS hF h hQ
  unfold Cd.g at h
  split at h
  case isFalse => exact (Ev.fail_some.1 h).elim
  rename_i hg
  simp only [Bool.and_eq_true, beq_iff_eq] at hg
  obtain ⟨hn, hsl⟩ := hg
  have h := Ev.mpure_some.1 h
  have hwl : Below w1.heap.size w1 w := hS.below
  have hsize : a.tmps.size = n := hF.1.trans hn
  refine Ev.wp_loop_inv (fun k a' w' => ∃ i, k = len - i ∧ Here w b off len cap na ac nn dd n head a i a' w') (fun k a' w' hh => round_codes F hc hl hwl ?_ ?_ k a' w' hh) (len - 0) a w ⟨0, rfl, ⟨Nat.zero_le _, rfl, hsize, ?_, rfl, Below.refl _ _⟩⟩
  · intro hgood a' w' hbel hsz hd
    obtain rfl : bb = true := by rw [← hbb, hgood]
    cases h
    exact hQ ρ a' w' ρ.le_refl (hS.grow hbel) (Ev.frOf_rel hsz (fun t v hm => by cases hm)) hd
  · intro hgood a' w' hbel hsz hd h2
    obtain rfl : bb = false := by rw [← hbb, hgood]
    cases h
    exact hQ ρ a' w' ρ.le_refl (hS.grow hbel) (Ev.frOf_rel hsz (fun t v hm => by
      simp only [List.mem_singleton, Prod.mk.injEq] at hm
      obtain ⟨rfl, rfl⟩ := hm
      rw [h2]
      exact .bool false)) hd
  · intro t v hm
    rcases F.h t v hm with rfl | rfl | rfl
    · exact Ev.Den.single (Ev.Den.var 0) (Ev.slots_rel hF hsl (G.a t hm)).tok_den
    · exact Ev.Den.single (Ev.dn_den 39 _ _ den_len) (Ev.slots_rel hF hsl (G.b t hm)).tok_den
    · have := Ev.slots_rel hF hsl (G.c t hm)
      exact Ev.plainB_eq (v := .int .i64 0) rfl this

def Cd.pl : List (Value × Bool) := [(Ev.term 2 [.int .i64 200, Cd.L], false)]
def Cd.start56 : List (Nat × Value) := [(0, Ev.tok 11 Cd.x0), (8, Ev.tok 11 Cd.x0), (9, Ev.tok 5 Cd.L), (10, .int .i64 0)]
def Cd.start63 : List (Nat × Value) := [(0, Ev.tok 11 Cd.x0), (3, .int .i64 0)]
noncomputable def Cd.fnRun (f n : Nat) (start : List (Nat × Value)) (bb : Bool) : Option Value := (@Ev.bodyX (Cd.orc Cd.pl) Tryz.prog (@Ev.ev (Cd.orc Cd.pl) Tryz.prog 50) (Cd.g n start bb) f [Ev.tok 11 Cd.x0] Cd.st0).map (·.1)
theorem t56 : Cd.fnRun 56 47 Cd.start56 true = some (.bool true) := by kernel_rfl
theorem f56 : Cd.fnRun 56 47 Cd.start56 false = some (.bool false) := by kernel_rfl
theorem t63 : Cd.fnRun 63 56 Cd.start63 true = some (.bool true) := by kernel_rfl
theorem f63 : Cd.fnRun 63 56 Cd.start63 false = some (.bool false) := by kernel_rfl

theorem codes_calls {f n : Nat} {head start : List (Nat × Value)} {outs : Nat → Ev.Ex × List (Nat × Value)} (F : LoopFacts f n head outs) (G : StartFacts head start) (hc : CodesAt w1 b off len na ac nn dd) (hl : len ≤ 200)
    {fn : Func} {c : Code} (hfn : Tryz.prog.funcs[f]? = some fn) (hbody : fn.body = some c) (hone : (Ev.loopsOf (bodyOf f)).length = 1) (ht : Cd.fnRun f n start true = some (.bool true)) (hf : Cd.fnRun f n start false = some (.bool false)) :
    Calls Tryz.prog f #[.slice (some ⟨b, off, none⟩) len cap] w1 fun e w' => e = .returned (.bool (goodTo na ac nn dd len)) ∧ Below w1.heap.size w1 w' := by
  letI : Ev.Eta := etaC w1 b off len cap 0
  have hst : Cd.st0 = ⟨.e, Tryz.prog.globals.size, [], []⟩ := by rw [nglobals]; rfl
  have hS : Ev.Sim Tryz.prog w1.heap.size w1 (fun _ => none) Cd.st0 w1 := by rw [hst]; exact Ev.Sim.empty _ _ (mem_ok (Below.refl _ _))
  have hp : Ev.PathOk Cd.pl := by
    refine path_of ?_
    intro e x hm
    simp only [Cd.pl, List.mem_singleton, Prod.mk.injEq] at hm
    obtain ⟨rfl, rfl⟩ := hm
    exact lss_at (m := 200) rfl den_len (by simp; omega)
  have hok := codes_orc hc hp
  have hsm := codes_sums hc 0 w1.heap.size w1 Cd.pl (cap := cap)
  have hr : Cd.fnRun f n start (goodTo na ac nn dd len) = some (.bool (goodTo na ac nn dd len)) := by cases goodTo na ac nn dd len <;> assumption
  obtain ⟨⟨v, s⟩, hev, hv⟩ := Option.map_eq_some_iff.1 hr
  have hloop : ∀ x, x ∈ Ev.loopsOf c → Ev.LoopOk Tryz.prog w1.heap.size w1 (Cd.g n start (goodTo na ac nn dd len)) x := by
    intro x hx
    have hbo : bodyOf f = c := by simp [bodyOf, hfn, hbody]
    rw [hbo] at hone
    obtain ⟨y, hy⟩ := List.length_eq_one_iff.1 hone
    have hlo : loopOf f = y := by simp [loopOf, hbo, hy]
    rw [hy] at hx
    obtain rfl : x = y := by simpa using hx
    rw [← hlo]
    exact loop_codes F G hc hl rfl
  refine Calls.mono (@Ev.bodyX_calls (Cd.orc Cd.pl) _ hok Tryz.prog w1.heap.size w1 (fun _ => none) Cd.st0 s w1 noGo mixed (@Ev.ev (Cd.orc Cd.pl) Tryz.prog 50) (fun f l => @Ev.Lcl.ev (Cd.orc Cd.pl) _ Tryz.prog (fun f g hg => (hsm f g hg).1) 50 f l)
      (@Ev.ev_ok (Cd.orc Cd.pl) _ hok Tryz.prog w1.heap.size w1 noGo mixed hsm 50) _ f fn c hfn hbody hloop [Ev.tok 11 Cd.x0] [.slice (some ⟨b, off, none⟩) len cap] v hS (Ev.LRel.single (.tok 11 (Ev.Den.var 0) (Ev.Srt.slice _ _ _))) hev) ?_
  intro e w' ⟨v', ρ', he, _, hS', hv'⟩
  cases hv
  rw [Ev.plainB_eq rfl hv'] at he
  exact ⟨he, hS'.below⟩

theorem codes_ok (hc : CodesAt w1 b off len na ac nn dd) (hl : len ≤ 200) : Calls Tryz.prog 56 #[.slice (some ⟨b, off, none⟩) len cap] w1 fun e w' => e = .returned (.bool (goodTo na ac nn dd len)) ∧ Below w1.heap.size w1 w' :=
  codes_calls ⟨e56, z56, s56, rfl, rfl, rfl, by simp [Cd.head56, Cd.outs56, Cd.L, Cd.x0, Cd.x1, Ev.tok, Ev.term], by simp [Cd.head56, Cd.outs56, Cd.L, Cd.x0, Cd.x1, Ev.tok, Ev.term], by simp [Cd.head56, Cd.outs56, Cd.L, Cd.x0, Cd.x1, Ev.tok, Ev.term], by intro t v hm; simp only [Cd.head56, List.mem_cons, List.not_mem_nil, or_false, Prod.mk.injEq] at hm; rcases hm with ⟨-, rfl⟩ | ⟨-, rfl⟩ | ⟨-, rfl⟩ | ⟨-, rfl⟩ <;> simp⟩
    ⟨by simp [Cd.head56, Cd.start56, Cd.L, Cd.x0, Cd.x1, Ev.tok, Ev.term], by simp [Cd.head56, Cd.start56, Cd.L, Cd.x0, Cd.x1, Ev.tok, Ev.term], by simp [Cd.head56, Cd.start56, Cd.L, Cd.x0, Cd.x1, Ev.tok, Ev.term]⟩ hc hl Tryz.func56 rfl l56 t56 f56
theorem codes25_ok (hc : CodesAt w1 b off len na ac nn dd) (hl : len ≤ 200) : Calls Tryz.prog 63 #[.slice (some ⟨b, off, none⟩) len cap] w1 fun e w' => e = .returned (.bool (goodTo na ac nn dd len)) ∧ Below w1.heap.size w1 w' :=
  codes_calls ⟨e63, z63, s63, rfl, rfl, rfl, by simp [Cd.head63, Cd.outs63, Cd.L, Cd.x0, Cd.x1, Ev.tok, Ev.term], by simp [Cd.head63, Cd.outs63, Cd.L, Cd.x0, Cd.x1, Ev.tok, Ev.term], by simp [Cd.head63, Cd.outs63, Cd.L, Cd.x0, Cd.x1, Ev.tok, Ev.term], by intro t v hm; simp only [Cd.head63, List.mem_cons, List.not_mem_nil, or_false, Prod.mk.injEq] at hm; rcases hm with ⟨-, rfl⟩ | ⟨-, rfl⟩ <;> simp⟩
    ⟨by simp [Cd.head63, Cd.start63, Cd.L, Cd.x0, Cd.x1, Ev.tok, Ev.term], by simp [Cd.head63, Cd.start63, Cd.L, Cd.x0, Cd.x1, Ev.tok, Ev.term], by simp [Cd.head63, Cd.start63, Cd.L, Cd.x0, Cd.x1, Ev.tok, Ev.term]⟩ hc hl Tryz.func63 rfl l63 t63 f63
end
theorem codes_nil56 : ((@Ev.ev Ev.O0 Tryz.prog 50 56 [.slice none 0 0] Cd.st0).map (·.1)) = some (.bool true) := by kernel_rfl
theorem codes_nil63 : ((@Ev.ev Ev.O0 Tryz.prog 50 63 [.slice none 0 0] Cd.st0).map (·.1)) = some (.bool true) := by kernel_rfl
end Go.Proofs.YtmnojjfamfpmnaaGreatDoor
