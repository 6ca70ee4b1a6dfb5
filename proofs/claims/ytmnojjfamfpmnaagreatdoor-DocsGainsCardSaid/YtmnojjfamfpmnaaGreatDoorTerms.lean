/- What the terms of the Docs laws stand for; the first summaries. -/
import Derived.Test.YtmnojjfamfpmnaaGreatDoorCodes
import Derived.Test.YtmnojjfamfpmnaaGreatDoorDays
import Derived.Test.YtmnojjfamfpmnaaGreatDoorSum
set_option linter.unusedVariables false
set_option linter.unusedSimpArgs false
set_option linter.unusedSectionVars false
set_option linter.unnecessarySimpa false
namespace Go.Proofs.YtmnojjfamfpmnaaGreatDoor
open Go Go.RowKit
set_option maxRecDepth 100000

theorem CodesAt.later {w w' : World} {b off len : Nat} {na ac : Nat → ByteArray} {nn dd : Nat → Int} (h : CodesAt w b off len na ac nn dd) (hb : Below w.heap.size w w') : CodesAt w' b off len na ac nn dd :=
  ⟨fun k hk => cell_later hb (h.c0 k hk), fun k hk => cell_later hb (h.c1 k hk), fun k hk => cell_later hb (h.c2 k hk), fun k hk => cell_later hb (h.c3 k hk), h.s0, h.s1, h.r2, h.r3⟩
theorem Laid0.later {w w' : World} (h : Laid0 w) (hb : Below w.heap.size w w') : Laid0 w' := fun j hj => cell_later hb (h j hj)

/-- The slice of tax codes that came in; bc: are they good? -/
def CodesIs (w : World) (v : Value) (bc : Bool) : Prop :=
  (v = .slice none 0 0 ∧ bc = true) ∨ ∃ b off len cap na ac nn dd, v = .slice (some ⟨b, off, none⟩) len cap ∧ len ≤ 200 ∧ CodesAt w b off len na ac nn dd ∧ bc = goodTo na ac nn dd len

theorem codes_is {w W : World} {v : Value} {bc : Bool} (h : CodesIs W v bc) (hb : Below W.heap.size W w) : ∀ f, f = 56 ∨ f = 63 → Calls Tryz.prog f #[v] w fun e w' => e = .returned (.bool bc) ∧ Below w.heap.size w w' := by
  intro f hf
  rcases h with ⟨rfl, rfl⟩ | ⟨b, off, len, cap, na, ac, nn, dd, rfl, hl, hc, rfl⟩
  · letI : Ev.Eta := ⟨fun _ => .bool true, fun _ _ => none, fun _ _ => none⟩
    have hst : Cd.st0 = ⟨.e, Tryz.prog.globals.size, [], []⟩ := by rw [nglobals]; rfl
    have hS : Ev.Sim Tryz.prog w.heap.size w (fun _ => none) Cd.st0 w := by rw [hst]; exact Ev.Sim.empty _ _ (fun b o v h => by cases h)
    have run : ∀ f, ((@Ev.ev Ev.O0 Tryz.prog 50 f [.slice none 0 0] Cd.st0).map (·.1)) = some (.bool true) → Calls Tryz.prog f #[.slice none 0 0] w fun e w' => e = .returned (.bool true) ∧ Below w.heap.size w w' := by
      intro f hr
      obtain ⟨⟨v, s⟩, hev, hv⟩ := Option.map_eq_some_iff.1 hr
      cases hv
      exact Ev.alone_ok noGo mixed hev rfl rfl hS (fun β b h => by simp [Cd.st0, Ev.PT.get] at h) (by rw [nglobals]; decide)
    rcases hf with rfl | rfl
    · exact run 56 codes_nil56
    · exact run 63 codes_nil63
  · have hc' := hc.later hb
    rcases hf with rfl | rfl
    · exact codes_ok hc' hl
    · exact codes25_ok hc' hl

def In64b (n : Int) : Bool := decide (-9223372036854775808 ≤ n) && decide (n ≤ 9223372036854775807)
def rightB (bc : Bool) (e b r p g l : ByteArray) (way mode : Int) : Bool :=
  codeB e && codeB r && codeB p && codeB g && codeB l && curB b && bc && decide (1 ≤ way) && decide (way ≤ 3) && decide (1 ≤ mode) && decide (mode ≤ 5)
def intsOf : List Value → Option (List Int)
  | [] => some []
  | .int .i64 n :: r => (intsOf r).map (n :: ·)
  | _ => none
def nth (zs : List Int) (k : Nat) : Int := zs.getD k 0
/-- What the terms' functions are. -/
def fnL (bc : Bool) (k : Nat) (l : List Value) : Option Value := match k, l with
  | 0, [.string s] => some (.bool (codeB s))
  | 1, [.string s] => some (.bool (curB s))
  | 2, [.slice _ _ _] => some (.bool bc)
  | 4, [.string e, .string b, .string r, .string p, .string g, .string l, .slice _ _ _, .int .i64 way, .int .i64 mode] => some (.bool (rightB bc e b r p g l way mode))
  | 7, l => (intsOf l).map fun zs => .int .i64 (sumI (nth zs) zs.length)
  | 8, l => (intsOf l).map fun zs => .bool (sumB (nth zs) zs.length)
  | 9, [.int .i64 a, .int .i64 b] => some (.bool (fitsB a b))
  | 10, [.int .i64 a, .int .i64 b] => some (.int .i64 (diffI a b))
  | 11, [.int .i64 d] => if In64b d then some (.int .i64 (negI d)) else none
  | 12, [.int .i64 n] => some (.bool (dayB n))
  | 15, [.string s] => some (.bool (optB s))
  | _, _ => none
abbrev etaL (cs : List Value) (bc : Bool) : Ev.Eta := ⟨fun i => cs.getD i undef, fnL bc, fun _ _ => none⟩

/-- The arguments' cells: of their sorts, in their ranges. -/
structure CellsOk (W : World) (cs : List Value) (bc : Bool) : Prop where
  str : ∀ (i : Nat) s, cs.getD i undef = .string s → s.size ≤ 9223372036854775807
  int : ∀ (i : Nat) n, cs.getD i undef = .int .i64 n → In64 n
  codes : CodesIs W (cs.getD 6 undef) bc
  laid : Laid0 W

namespace Lw
def small (s : ByteArray) : Bool := decide (s.size ≤ 1000)
def okStr : List Value → Bool
  | [.chan (some _)] => true
  | [.string s] => small s
  | _ => false
def okLit : List Value → Bool
  | [.string s] => small s
  | _ => false
def okCodes : List Value → Bool
  | [.chan (some i)] => i == 6
  | _ => false
def isX (i : Nat) : Value → Bool
  | .chan (some j) => j == i
  | _ => false
def okSetup : List Value → Bool
  | [a0, a1, a2, a3, a4, a5, a6, a7, a8] => isX 0 a0 && isX 1 a1 && isX 2 a2 && isX 3 a3 && isX 4 a4 && isX 5 a5 && isX 6 a6 && isX 7 a7 && isX 8 a8
  | _ => false
def inR : Value → Bool
  | .chan (some _) => true
  | .int .i64 n => In64b n
  | .func (.func f) _ _ => f == 110 || f == 111
  | _ => false
def mkStr (k : Nat) (p : ByteArray → Bool) (cs : List Value) : Value := match cs with
  | [.string s] => .bool (p s)
  | cs => Ev.mkT 0 k cs
def mkSub (cs : List Value) : Value := .tuple #[Ev.tok 5 (Ev.term 110 cs), Ev.tok 0 (Ev.term 109 cs)]
def sumR (f : FuncId) : Option (List Value → Ev.M Value) :=
  if f = 27 ∨ f = 31 then some (Ev.sumG false okStr [1] (mkStr 0 codeB))
  else if f = 15 ∨ f = 62 then some (Ev.sumG false okStr [1] (mkStr 1 curB))
  else if f = 56 ∨ f = 63 then some (Ev.sumG false okCodes [11] (Ev.mkT 0 2))
  else none
end Lw

section
variable {W : World} {cs : List Value} {bc : Bool}
theorem str_den (h : CellsOk W cs bc) {e : Value} {s : ByteArray} (hok : Lw.okStr [e] = true) (hd : @Ev.Den (etaL cs bc) e (.string s)) : s.size ≤ 9223372036854775807 := by
  letI : Ev.Eta := etaL cs bc
  unfold Lw.okStr at hok
  split at hok
  · rename_i i hi
    cases hi
    exact h.str i s (Ev.Den.single (Ev.Den.var i) hd).symm
  · rename_i t ht
    cases ht
    cases hd
    simp only [Lw.small, decide_eq_true_eq] at hok
    omega
  · cases hok
theorem below_rfl {P : Program} {f : Nat} {l : Array Value} {w : World} {v : Value} (h : Calls P f l w fun e w' => e = .returned v ∧ w' = w) : Calls P f l w fun e w' => e = .returned v ∧ Below w.heap.size w w' :=
  h.mono fun e w' ⟨h1, h2⟩ => ⟨h1, by rw [h2]; exact Below.refl _ _⟩

/-- A summary of one string. -/
theorem sum_str (h : CellsOk W cs bc) {k : Nat} {p : ByteArray → Bool} (hk : ∀ s, fnL bc k [.string s] = some (.bool (p s))) {f : Nat} (hc : ∀ (s : ByteArray) (w : World), s.size ≤ 9223372036854775807 → Calls Tryz.prog f #[.string s] w fun e w' => e = .returned (.bool (p s)) ∧ Below w.heap.size w w')
    {B : Nat} {w0 : World} {ρ : Ev.Rho} {st st' : Ev.St} {w : World} {l l' : List Value} {v : Value} (hS : @Ev.Sim (etaL cs bc) Tryz.prog B w0 ρ st w) (hl : @Ev.LRel (etaL cs bc) ρ l l') (hr : Ev.sumG false Lw.okStr [1] (Lw.mkStr k p) l st = some (v, st')) :
    Calls Tryz.prog f l'.toArray w fun e w' => ∃ v' ρ', e = .returned v' ∧ ρ.le ρ' ∧ @Ev.Sim (etaL cs bc) Tryz.prog B w0 ρ' st' w' ∧ @Ev.VRel (etaL cs bc) ρ' v v' := by
  letI : Ev.Eta := etaL cs bc
  refine Ev.sumG_ok hS hl hr ?_
  intro cs' cells hfl hok hargs
  cases hfl
  obtain ⟨e1, v1, rfl, rfl, hd1, hs1⟩ := hargs.one
  obtain ⟨s, rfl⟩ := hs1.str
  have hs := str_den h hok hd1
  refine ⟨.bool (p s), ?_, hc s w hs⟩
  unfold Lw.okStr at hok
  split at hok
  · rename_i i hi
    cases hi
    exact hargs.term (hk s) (Ev.Srt.bool _)
  · rename_i t ht
    cases ht
    cases hd1
    exact .bool _
  · cases hok

theorem right_sums (h : CellsOk W cs bc) {B : Nat} {w0 : World} (hB : Below W.heap.size W w0) (hBs : W.heap.size ≤ B) (p : List (Value × Bool)) : @Ev.SumOk (Ev.pathOrc Lw.sumR p) (etaL cs bc) Tryz.prog B w0 := by
  letI : Ev.Eta := etaL cs bc
  intro f g hg
  have hg : Lw.sumR f = some g := hg
  unfold Lw.sumR at hg
  split at hg
  · rename_i hf
    cases hg
    refine ⟨fun l => Ev.Lcl.sumG _ _ _ _ l, ?_⟩
    intro ρ st w l l' v st' hS hl hr
    refine sum_str h (fun s => rfl) ?_ hS hl hr
    intro s w hs
    rcases hf with rfl | rfl
    · exact below_rfl (words_code s hs w)
    · exact below_rfl (ref6_code s hs w)
  split at hg
  · rename_i hf
    cases hg
    refine ⟨fun l => Ev.Lcl.sumG _ _ _ _ l, ?_⟩
    intro ρ st w l l' v st' hS hl hr
    refine sum_str h (fun s => rfl) ?_ hS hl hr
    intro s w hs
    rcases hf with rfl | rfl
    · exact range_code s hs w
    · exact below_rfl (ref7_code s w)
  split at hg
  · rename_i hf
    cases hg
    refine ⟨fun l => Ev.Lcl.sumG _ _ _ _ l, ?_⟩
    intro ρ st w l l' v st' hS hl hr
    refine Ev.sumG_ok hS hl hr ?_
    intro cs' cells hfl hok hargs
    cases hfl
    obtain ⟨e1, v1, rfl, rfl, hd1, hs1⟩ := hargs.one
    obtain ⟨a, n, c, rfl⟩ := hs1.2.2.2.2 rfl
    unfold Lw.okCodes at hok
    split at hok
    case h_2 => cases hok
    rename_i i hi
    cases hi
    have hi : i = 6 := by simpa using hok
    subst hi
    have hv := Ev.Den.single (Ev.Den.var 6) hd1
    refine ⟨.bool bc, hargs.term rfl (Ev.Srt.bool _), ?_⟩
    rw [hv]
    exact codes_is h.codes (hB.trans (hS.below.mono hBs)) f hf
  · cases hg
end
end Go.Proofs.YtmnojjfamfpmnaaGreatDoor
