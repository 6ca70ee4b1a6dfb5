/-
  The relation between the abstract memory of EvxA and the model's: what is kept when a block is made, read, written.
-/
import Derived.Test.YtmnojjfamfpmnaaGreatDoorEvxA
set_option linter.unusedVariables false
set_option linter.unusedSimpArgs false
set_option linter.unusedSectionVars false
set_option linter.unnecessarySimpa false
set_option linter.unusedSectionVars false
namespace Go.Ev
open Go.RowKit

structure Loc where
  b : Nat
  o : Nat
  g : Bool
  sz : Nat
  N : Nat

abbrev Rho := Nat → Option Loc

/-- What the terms of tokens stand for. -/
class Eta where
  var : Nat → Value
  fn : Nat → List Value → Option Value
  /-- what lay in memory when all began, as far as it is to be read: block, offset -/
  mem : Nat → Nat → Option Value

def sNot : List Value → Option Value
  | [.bool b] => some (.bool !b)
  | _ => none
def sEql : List Value → Option Value
  | [.int k a, .int k' b] => if k = k' then some (.bool (a == b)) else none
  | [.string a, .string b] => some (.bool (a.toList == b.toList))
  | [.bool a, .bool b] => some (.bool (a == b))
  | _ => none
def sLss : List Value → Option Value
  | [.int k a, .int k' b] => if k = k' then some (.bool (decide (a < b))) else none
  | [.string a, .string b] => some (.bool (Op.bytesLess a.toList b.toList))
  | _ => none
def sLeq : List Value → Option Value
  | [.string a, .string b] => some (.bool (Op.bytesLess a.toList b.toList || a.toList == b.toList))
  | _ => none
def sAri (g : Int → Int → Int) : List Value → Option Value
  | [.int k a, .int k' b] => if k = k' then some (.int k (k.wrap (g a b))) else none
  | _ => none
def sNeg : List Value → Option Value
  | [.int k a] => some (.int k (k.wrap (0 - a)))
  | _ => none
def sConv (k : IntKind) : List Value → Option Value
  | [.int _ a] => some (.int k (k.wrap a))
  | _ => none
def sLen : List Value → Option Value
  | [.string s] => some (goInt s.size)
  | [.slice _ n _] => some (goInt n)
  | _ => none
/-- Where a pointer into a slice leads. -/
def sPlace : List Value → Option (Nat × Nat)
  | [.slice (some ⟨b, o, none⟩) n _, .int _ i, .int _ sz, .int _ off] => if 0 ≤ i ∧ i < n then some (b, o + (i.toNat * sz.toNat + off.toNat)) else none
  | _ => none
def sPtr (l : List Value) : Option Value := (sPlace l).map fun p => .pointer (some ⟨p.1, p.2, none⟩)
def sCel [Eta] (l : List Value) : Option Value := (sPlace l).bind fun p => Eta.mem p.1 p.2
/-- What the term number f comes to; from 100 on, the functions that Eta names. -/
def sOp [Eta] (f : Nat) (l : List Value) : Option Value :=
  if f = 0 then sNot l else if f = 1 then sEql l else if f = 2 then sLss l else if f = 3 then sLeq l
  else if f = 10 then sAri (· + ·) l else if f = 11 then sAri (· - ·) l else if f = 12 then sAri (· * ·) l else if f = 13 then sNeg l
  else if f = 22 then sConv .i8 l else if f = 23 then sConv .i16 l else if f = 24 then sConv .i32 l else if f = 25 then sConv .i64 l
  else if f = 26 then sConv .u8 l else if f = 27 then sConv .u16 l else if f = 28 then sConv .u32 l else if f = 29 then sConv .u64 l
  else if f = 30 then sLen l else if f = 40 then sPtr l else if f = 41 then sCel l else if 100 ≤ f then Eta.fn (f - 100) l else none

inductive Den [Eta] : Value → Value → Prop
  | bool (b : Bool) : Den (.bool b) (.bool b)
  | int (k : IntKind) (n : Int) : Den (.int k n) (.int k n)
  | string (s : ByteArray) : Den (.string s) (.string s)
  | var (i : Nat) : Den (.chan (some i)) (Eta.var i)
  | node (f : Nat) {l l' : List Value} {r : Value} (hl : l.length = l'.length) (h : ∀ (i : Nat) (v v' : Value), l[i]? = some v → l'[i]? = some v' → Den v v') (hr : sOp f l' = some r) : Den (term f l) r

/-- Of that sort. -/
def Srt (s : Nat) (v : Value) : Prop :=
  oneCellB v = true ∧ (s = 0 → ∃ b, v = .bool b) ∧ (s = 1 → ∃ x, v = .string x) ∧ (∀ k, s = kindNo k → ∃ n, v = .int k n) ∧ (s = 11 → ∃ a n c, v = .slice a n c)

/-- What is said of the branches is so. -/
class OrcOk [Orc] [Eta] : Prop where
  ok : ∀ (e : Value) (b : Bool) (v : Value), Orc.ask e = some b → Den e v → v = .bool b
  slc : ∀ (e : Value) (ss : List Nat) (v : Value), Orc.slc e = some ss → Den e v → v = .slice none 0 0 ∨
    ∃ b o n c, v = .slice (some ⟨b, o, none⟩) n c ∧ ∀ i j s, i < n → ss[j]? = some s → ∃ u, Eta.mem b (o + (i * ss.length + j)) = some u ∧ Srt s u

variable [Eta]

inductive VRel (ρ : Rho) : Value → Value → Prop
  | bool (b : Bool) : VRel ρ (.bool b) (.bool b)
  | int (k : IntKind) (n : Int) : VRel ρ (.int k n) (.int k n)
  | string (s : ByteArray) : VRel ρ (.string s) (.string s)
  | pnil : VRel ρ (.pointer none) (.pointer none)
  | ptr {β off : Nat} {L : Loc} (h : ρ β = some L) : VRel ρ (.pointer (some ⟨β, off, none⟩)) (.pointer (some ⟨L.b, L.o + off, none⟩))
  | snil : VRel ρ (.slice none 0 0) (.slice none 0 0)
  | semp (a : Addr) (c : Nat) : VRel ρ (.slice (some ⟨0, 0, some 0⟩) 0 0) (.slice (some a) 0 c)
  | slice {β off len cap cap' : Nat} {L : Loc} (h : ρ β = some L) (hc : cap' = cap ∨ (L.g = true ∧ cap ≤ cap' ∧ L.o + off + cap' * L.sz ≤ L.N)) :
      VRel ρ (.slice (some ⟨β, off, none⟩) len cap) (.slice (some ⟨L.b, L.o + off, none⟩) len cap')
  | mnil : VRel ρ (.map none) (.map none)
  | map {β : Nat} {L : Loc} (h : ρ β = some L) : VRel ρ (.map (some β)) (.map (some L.b))
  | fnil : VRel ρ .nilFunc .nilFunc
  | func (fn : Fn) {a a' b b' : Array Value} (ha : a.size = a'.size) (hb : b.size = b'.size)
      (h1 : ∀ (i : Nat) (v v' : Value), a[i]? = some v → a'[i]? = some v' → VRel ρ v v')
      (h2 : ∀ (i : Nat) (v v' : Value), b[i]? = some v → b'[i]? = some v' → VRel ρ v v') : VRel ρ (.func fn a b) (.func fn a' b')
  | inil : VRel ρ .nilIface .nilIface
  | iface (t : TypeId) {v v' : Value} (ht : t < TOK) (h : VRel ρ v v') : VRel ρ (.iface t v) (.iface t v')
  | tok (s : Nat) {e v : Value} (h : Den e v) (hs : Srt s v) : VRel ρ (.iface (TOK + s) e) v
  | agg {a a' : Array Value} (ha : a.size = a'.size) (h1 : ∀ (i : Nat) (v v' : Value), a[i]? = some v → a'[i]? = some v' → VRel ρ v v') : VRel ρ (.agg a) (.agg a')
  | tuple {a a' : Array Value} (ha : a.size = a'.size) (h1 : ∀ (i : Nat) (v v' : Value), a[i]? = some v → a'[i]? = some v' → VRel ρ v v') : VRel ρ (.tuple a) (.tuple a')

def Rho.le (ρ ρ' : Rho) : Prop := ∀ β L, ρ β = some L → ρ' β = some L
theorem Rho.le_refl (ρ : Rho) : ρ.le ρ := fun _ _ h => h
theorem Rho.le_trans {a b c : Rho} (h : a.le b) (k : b.le c) : a.le c := fun β L x => k β L (h β L x)

theorem VRel.mono {ρ ρ' : Rho} (hl : ρ.le ρ') {v v' : Value} (h : VRel ρ v v') : VRel ρ' v v' := by
  induction h with
  | bool b => exact .bool b
  | int k n => exact .int k n
  | string s => exact .string s
  | pnil => exact .pnil
  | ptr h => exact .ptr (hl _ _ h)
  | snil => exact .snil
  | semp a c => exact .semp a c
  | slice h hc => exact .slice (hl _ _ h) hc
  | mnil => exact .mnil
  | map h => exact .map (hl _ _ h)
  | fnil => exact .fnil
  | func fn ha hb _ _ i1 i2 => exact .func fn ha hb i1 i2
  | inil => exact .inil
  | iface t ht _ ih => exact .iface t ht ih
  | tok s h hs => exact .tok s h hs
  | agg ha _ ih => exact .agg ha ih
  | tuple ha _ ih => exact .tuple ha ih

/-- Lists of values, one by one. -/
def LRel (ρ : Rho) (l l' : List Value) : Prop := l.length = l'.length ∧ ∀ (i : Nat) (v v' : Value), l[i]? = some v → l'[i]? = some v' → VRel ρ v v'

theorem LRel.nil (ρ : Rho) : LRel ρ [] [] := ⟨rfl, fun i v v' h => by simp at h⟩
theorem LRel.cons {ρ : Rho} {v v' : Value} {l l' : List Value} (h : VRel ρ v v') (hl : LRel ρ l l') : LRel ρ (v :: l) (v' :: l') := by
  refine ⟨by simp [hl.1], fun i u u' h1 h2 => ?_⟩
  cases i with
  | zero => simp at h1 h2; subst h1; subst h2; exact h
  | succ i => simp at h1 h2; exact hl.2 i u u' h1 h2
theorem LRel.uncons {ρ : Rho} {v v' : Value} {l l' : List Value} (h : LRel ρ (v :: l) (v' :: l')) : VRel ρ v v' ∧ LRel ρ l l' :=
  ⟨h.2 0 v v' rfl rfl, by simpa using h.1, fun i u u' h1 h2 => h.2 (i + 1) u u' (by simpa using h1) (by simpa using h2)⟩
theorem LRel.nil_left {ρ : Rho} {l : List Value} (h : LRel ρ [] l) : l = [] := by
  have := h.1
  simp at this
  exact List.length_eq_zero_iff.1 this.symm
theorem LRel.cons_left {ρ : Rho} {v : Value} {l l' : List Value} (h : LRel ρ (v :: l) l') : ∃ v' r', l' = v' :: r' ∧ VRel ρ v v' ∧ LRel ρ l r' := by
  cases l' with
  | nil => have := h.1; simp at this
  | cons v' r' => exact ⟨v', r', rfl, h.uncons⟩
theorem LRel.mono {ρ ρ' : Rho} (hl : ρ.le ρ') {l l' : List Value} (h : LRel ρ l l') : LRel ρ' l l' := ⟨h.1, fun i v v' a b => (h.2 i v v' a b).mono hl⟩
theorem LRel.append {ρ : Rho} {a a' b b' : List Value} (h : LRel ρ a a') (k : LRel ρ b b') : LRel ρ (a ++ b) (a' ++ b') := by
  refine ⟨by simp [h.1, k.1], fun i v v' h1 h2 => ?_⟩
  rw [List.getElem?_append] at h1 h2
  rw [← h.1] at h2
  split at h1
  · rename_i hi
    rw [if_pos hi] at h2
    exact h.2 i v v' h1 h2
  · rename_i hi
    rw [if_neg hi] at h2
    exact k.2 _ v v' h1 h2
theorem LRel.take {ρ : Rho} {a a' : List Value} (h : LRel ρ a a') (n : Nat) : LRel ρ (a.take n) (a'.take n) := by
  refine ⟨by simp [h.1], fun i v v' h1 h2 => ?_⟩
  rw [List.getElem?_take] at h1 h2
  split at h1
  · rename_i hi
    rw [if_pos hi] at h2
    exact h.2 i v v' h1 h2
  · simp at h1
theorem LRel.drop {ρ : Rho} {a a' : List Value} (h : LRel ρ a a') (n : Nat) : LRel ρ (a.drop n) (a'.drop n) := by
  refine ⟨by simp [h.1], fun i v v' h1 h2 => ?_⟩
  rw [List.getElem?_drop] at h1 h2
  exact h.2 _ v v' h1 h2
theorem LRel.get {ρ : Rho} {a a' : List Value} (h : LRel ρ a a') {i : Nat} {v : Value} (hi : a[i]? = some v) : ∃ v', a'[i]? = some v' ∧ VRel ρ v v' := by
  have hlt : i < a'.length := by
    have := (List.getElem?_eq_some_iff.1 hi).1
    rw [← h.1]; exact this
  exact ⟨a'[i], List.getElem?_eq_getElem hlt, h.2 i v _ hi (List.getElem?_eq_getElem hlt)⟩
theorem LRel.single {ρ : Rho} {v v' : Value} (h : VRel ρ v v') : LRel ρ [v] [v'] := .cons h (.nil ρ)

theorem VRel.agg_iff {ρ : Rho} {a : Array Value} {v' : Value} : VRel ρ (.agg a) v' ↔ ∃ a', v' = .agg a' ∧ LRel ρ a.toList a'.toList := by
  constructor
  · intro h
    cases h with
    | agg ha h1 => exact ⟨_, rfl, by simpa using ha, fun i v v' x y => h1 i v v' (by simpa using x) (by simpa using y)⟩
  · rintro ⟨a', rfl, h, k⟩
    exact .agg (by simpa using h) (fun i v v' x y => k i v v' (by simpa using x) (by simpa using y))
theorem VRel.tuple_iff {ρ : Rho} {a : Array Value} {v' : Value} : VRel ρ (.tuple a) v' ↔ ∃ a', v' = .tuple a' ∧ LRel ρ a.toList a'.toList := by
  constructor
  · intro h
    cases h with
    | tuple ha h1 => exact ⟨_, rfl, by simpa using ha, fun i v v' x y => h1 i v v' (by simpa using x) (by simpa using y)⟩
  · rintro ⟨a', rfl, h, k⟩
    exact .tuple (by simpa using h) (fun i v v' x y => k i v v' (by simpa using x) (by simpa using y))
theorem VRel.func_iff {ρ : Rho} {fn : Fn} {a b : Array Value} {v' : Value} : VRel ρ (.func fn a b) v' ↔ ∃ a' b', v' = .func fn a' b' ∧ LRel ρ a.toList a'.toList ∧ LRel ρ b.toList b'.toList := by
  constructor
  · intro h
    cases h with
    | func fn ha hb h1 h2 => exact ⟨_, _, rfl, ⟨by simpa using ha, fun i v v' x y => h1 i v v' (by simpa using x) (by simpa using y)⟩, by simpa using hb, fun i v v' x y => h2 i v v' (by simpa using x) (by simpa using y)⟩
  · rintro ⟨a', b', rfl, ⟨h, k⟩, h2, k2⟩
    exact .func fn (by simpa using h) (by simpa using h2) (fun i v v' x y => k i v v' (by simpa using x) (by simpa using y)) (fun i v v' x y => k2 i v v' (by simpa using x) (by simpa using y))

theorem VRel.undef (ρ : Rho) : VRel ρ Go.undef Go.undef := VRel.tuple_iff.2 ⟨#[], rfl, LRel.nil ρ⟩

theorem LRel.refl_of {ρ : Rho} {l : List Value} (h : ∀ v, v ∈ l → VRel ρ v v) : LRel ρ l l :=
  ⟨rfl, fun i v v' h1 h2 => by
    have : v = v' := Option.some.inj (h1.symm.trans h2)
    subst this
    exact h v (List.mem_of_getElem? h1)⟩

/-- What has no address stands for itself. -/
theorem plainN_rel (ρ : Rho) : ∀ (n : Nat) (v : Value), plainN n v = true → VRel ρ v v := by
  intro n
  induction n with
  | zero => intro v h; simp [plainN] at h
  | succ n ih =>
    intro v h
    unfold plainN at h
    split at h
    · exact .bool _
    · exact .int _ _
    · exact .string _
    · exact .pnil
    · exact .snil
    · exact .mnil
    · exact .fnil
    · exact .inil
    · simp only [Bool.and_eq_true, decide_eq_true_eq] at h
      exact .iface _ h.1 (ih _ h.2)
    · exact VRel.agg_iff.2 ⟨_, rfl, LRel.refl_of fun v hv => ih v (by simpa using (List.all_eq_true.1 h) v hv)⟩
    · exact VRel.tuple_iff.2 ⟨_, rfl, LRel.refl_of fun v hv => ih v (by simpa using (List.all_eq_true.1 h) v hv)⟩
    · simp only [Bool.and_eq_true] at h
      exact VRel.func_iff.2 ⟨_, _, rfl, LRel.refl_of fun v hv => ih v (by simpa using (List.all_eq_true.1 h.1) v hv), LRel.refl_of fun v hv => ih v (by simpa using (List.all_eq_true.1 h.2) v hv)⟩
    · cases h

theorem LRel.eq_of {ρ : Rho} {l l' : List Value} (h : LRel ρ l l') (k : ∀ v, v ∈ l → ∀ v', VRel ρ v v' → v' = v) : l' = l := by
  induction l generalizing l' with
  | nil => exact h.nil_left
  | cons v r ih =>
    obtain ⟨v', r', rfl, h1, h2⟩ := h.cons_left
    rw [k v (by simp) v' h1, ih h2 fun u hu => k u (by simp [hu])]

theorem plainN_eq (ρ : Rho) : ∀ (n : Nat) (v v' : Value), plainN n v = true → VRel ρ v v' → v' = v := by
  intro n
  induction n with
  | zero => intro v v' h; simp [plainN] at h
  | succ n ih =>
    intro v v' h hr
    unfold plainN at h
    split at h
    · cases hr; rfl
    · cases hr; rfl
    · cases hr; rfl
    · cases hr; rfl
    · cases hr; rfl
    · cases hr; rfl
    · cases hr; rfl
    · cases hr; rfl
    · cases hr with
      | iface t ht hv => simp only [Bool.and_eq_true, decide_eq_true_eq] at h; rw [ih _ _ h.2 hv]
      | tok s hd hs => simp only [Bool.and_eq_true, decide_eq_true_eq] at h; exact absurd h.1 (Nat.not_lt.2 (Nat.le_add_right _ _))
    · obtain ⟨a', rfl, hl⟩ := VRel.agg_iff.1 hr
      have := hl.eq_of fun v hv v' hx => ih v v' (by simpa using (List.all_eq_true.1 h) v hv) hx
      rw [Array.toList_inj.1 this]
    · obtain ⟨a', rfl, hl⟩ := VRel.tuple_iff.1 hr
      have := hl.eq_of fun v hv v' hx => ih v v' (by simpa using (List.all_eq_true.1 h) v hv) hx
      rw [Array.toList_inj.1 this]
    · simp only [Bool.and_eq_true] at h
      obtain ⟨a', b', rfl, hl, hm⟩ := VRel.func_iff.1 hr
      have h1 := hl.eq_of fun v hv v' hx => ih v v' (by simpa using (List.all_eq_true.1 h.1) v hv) hx
      have h2 := hm.eq_of fun v hv v' hx => ih v v' (by simpa using (List.all_eq_true.1 h.2) v hv) hx
      rw [Array.toList_inj.1 h1, Array.toList_inj.1 h2]
    · cases h

theorem plainB_rel {ρ : Rho} {v : Value} (h : plainB v = true) : VRel ρ v v := plainN_rel ρ _ v h
theorem plainB_eq {ρ : Rho} {v v' : Value} (h : plainB v = true) (hr : VRel ρ v v') : v' = v := plainN_eq ρ _ v v' h hr
theorem plainL_eq {ρ : Rho} {l l' : List Value} (h : l.all plainB = true) (hr : LRel ρ l l') : l' = l :=
  hr.eq_of fun v hv _ hx => plainB_eq (by simpa using (List.all_eq_true.1 h) v hv) hx

theorem pureRun_run {α : Type} {P : Program} {s : Sem α} {a : α} (h : pureRun P s = some a) (w : World) : s.run P w = .ok a w := by
  induction s with
  | pure b => simp [pureRun] at h; subst h; rfl
  | program k ih => exact ih P h
  | mark m k ih => exact ih h
  | _ => simp [pureRun] at h

/-- Entries of a map, one by one: the same keys and stamps. -/
def ERel (ρ : Rho) (l l' : List MapEntry) : Prop :=
  l.length = l'.length ∧ ∀ (i : Nat) (e e' : MapEntry), l[i]? = some e → l'[i]? = some e' → VRel ρ e.key e'.key ∧ e'.born = e.born ∧ VRel ρ e.val e'.val

theorem ERel.nil (ρ : Rho) : ERel ρ [] [] := ⟨rfl, fun i v v' h => by simp at h⟩
theorem ERel.mono {ρ ρ' : Rho} (hl : ρ.le ρ') {l l' : List MapEntry} (h : ERel ρ l l') : ERel ρ' l l' :=
  ⟨h.1, fun i v v' a b => let ⟨x, y, z⟩ := h.2 i v v' a b; ⟨x.mono hl, y, z.mono hl⟩⟩
theorem ERel.nil_left {ρ : Rho} {l : List MapEntry} (h : ERel ρ [] l) : l = [] := by
  have := h.1
  simp at this
  exact List.length_eq_zero_iff.1 this.symm
theorem ERel.cons_left {ρ : Rho} {v : MapEntry} {l l' : List MapEntry} (h : ERel ρ (v :: l) l') :
    ∃ v' r', l' = v' :: r' ∧ (VRel ρ v.key v'.key ∧ v'.born = v.born ∧ VRel ρ v.val v'.val) ∧ ERel ρ l r' := by
  cases l' with
  | nil => have := h.1; simp at this
  | cons v' r' => exact ⟨v', r', rfl, h.2 0 v v' rfl rfl, by simpa using h.1, fun i u u' h1 h2 => h.2 (i + 1) u u' (by simpa using h1) (by simpa using h2)⟩
theorem ERel.cons {ρ : Rho} {v v' : MapEntry} {l l' : List MapEntry} (h : VRel ρ v.key v'.key ∧ v'.born = v.born ∧ VRel ρ v.val v'.val) (hl : ERel ρ l l') : ERel ρ (v :: l) (v' :: l') := by
  refine ⟨by simp [hl.1], fun i u u' h1 h2 => ?_⟩
  cases i with
  | zero => simp at h1 h2; subst h1; subst h2; exact h
  | succ i => simp at h1 h2; exact hl.2 i u u' h1 h2
theorem ERel.append {ρ : Rho} {a a' b b' : List MapEntry} (h : ERel ρ a a') (k : ERel ρ b b') : ERel ρ (a ++ b) (a' ++ b') := by
  refine ⟨by simp [h.1, k.1], fun i v v' h1 h2 => ?_⟩
  rw [List.getElem?_append] at h1 h2
  rw [← h.1] at h2
  split at h1
  · rename_i hi
    rw [if_pos hi] at h2
    exact h.2 i v v' h1 h2
  · rename_i hi
    rw [if_neg hi] at h2
    exact k.2 _ v v' h1 h2

/-- How a block stands for what lies at a place. -/
def BlkRel (ρ : Rho) (L : Loc) : Blk → World → Prop
  | .row cells rw g sz, w => ∃ c el fz, w.heap[L.b]? = some (.cells c el fz) ∧ c.size = L.N ∧ L.g = g ∧ (g = true → L.sz = sz ∧ rw = true) ∧ L.o + cells.length ≤ L.N ∧
      (∀ i v, cells[i]? = some v → ∃ v', c[L.o + i]? = some v' ∧ VRel ρ v v') ∧
      (rw = true → ∀ j, L.o ≤ j → j < (if g then L.N else L.o + cells.length) → ¬ (fz.1 ≤ j ∧ j < fz.2))
  | .map es clock, w => ∃ es', w.heap[L.b]? = some (.map es' clock) ∧ ERel ρ es es'.toList
  | .siter s pos, w => L.o = 0 ∧ w.heap[L.b]? = some (.stringIter s pos)
  | .miter none since seen st, w => L.o = 0 ∧ w.heap[L.b]? = some (.mapIter none since seen.toArray st)
  | .miter (some m) since seen st, w => L.o = 0 ∧ ∃ K, ρ m = some K ∧ w.heap[L.b]? = some (.mapIter (some K.b) since seen.toArray st)
  | .dead, _ => True

def Blk.own : Blk → Bool
  | .row _ rw _ _ => rw
  | .dead => false
  | _ => true

/-- The cells that a block may touch. -/
def InExt (L : Loc) : Blk → Nat → Nat → Prop
  | .row cells _ g _, b, j => b = L.b ∧ L.o ≤ j ∧ j < (if g then L.N else L.o + cells.length)
  | .dead, _, _ => False
  | _, b, _ => b = L.b

theorem BlkRel.mono {ρ ρ' : Rho} (hl : ρ.le ρ') {L : Loc} {b : Blk} {w : World} (h : BlkRel ρ L b w) : BlkRel ρ' L b w := by
  cases b with
  | row cells rw g sz =>
    obtain ⟨c, el, fz, h1, h2, h3, h4, h5, h6, h7⟩ := h
    exact ⟨c, el, fz, h1, h2, h3, h4, h5, fun i v hv => let ⟨v', a, b⟩ := h6 i v hv; ⟨v', a, b.mono hl⟩, h7⟩
  | map es clock => obtain ⟨es', h1, h2⟩ := h; exact ⟨es', h1, h2.mono hl⟩
  | siter s pos => exact h
  | miter m since seen st =>
    cases m with
    | none => exact h
    | some m => obtain ⟨h0, K, h1, h2⟩ := h; exact ⟨h0, K, hl _ _ h1, h2⟩
  | dead => trivial

theorem BlkRel.of_heap {ρ : Rho} {L : Loc} {b : Blk} {w w' : World} (h : BlkRel ρ L b w) (hh : w'.heap[L.b]? = w.heap[L.b]?) : BlkRel ρ L b w' := by
  cases b with
  | row cells rw g sz =>
    obtain ⟨c, el, fz, h1, r⟩ := h
    exact ⟨c, el, fz, hh.trans h1, r⟩
  | map es clock => obtain ⟨es', h1, h2⟩ := h; exact ⟨es', hh.trans h1, h2⟩
  | siter s pos => exact ⟨h.1, hh.trans h.2⟩
  | miter m since seen st =>
    cases m with
    | none => exact ⟨h.1, hh.trans h.2⟩
    | some m => obtain ⟨h0, K, h1, h2⟩ := h; exact ⟨h0, K, h1, hh.trans h2⟩
  | dead => trivial

/-- The abstract memory stands for the world. B: the heap's size when all began, in w0. -/
structure Sim (P : Program) (B : Nat) (w0 : World) (ρ : Rho) (st : St) (w : World) : Prop where
  below : Below B w0 w
  base : B ≤ w.heap.size
  nextOk : P.globals.size ≤ st.next
  blk : ∀ β b, st.heap.get β = some b → ∃ L, ρ β = some L ∧ L.b < w.heap.size ∧ BlkRel ρ L b w ∧ (b.own = true → B ≤ L.b)
  sep : ∀ β γ b c L K, β ≠ γ → st.heap.get β = some b → st.heap.get γ = some c → ρ β = some L → ρ γ = some K → b.own = true → ∀ i j, InExt L b i j → ¬ InExt K c i j
  fresh : ∀ β, st.heap.get β = none → ρ β = none
  glob : ∀ g, g < P.globals.size → ∀ L, ρ g = some L → L.b = g ∧ L.o = 0
  mem : ∀ b o v, Eta.mem b o = some v → b < B ∧ w0.cell? ⟨b, o, none⟩ = some v

section
variable {P : Program} {B : Nat} {w0 : World} {ρ : Rho} {st st' : St} {w w' : World}

theorem Sim.logs (h : Sim P B w0 ρ st w) (hh : st'.heap = st.heap) (hn : P.globals.size ≤ st'.next) : Sim P B w0 ρ st' w :=
  ⟨h.below, h.base, hn, by rw [hh]; exact h.blk, by rw [hh]; exact h.sep, by rw [hh]; exact h.fresh, h.glob, h.mem⟩

theorem Sim.get (h : Sim P B w0 ρ st w) {β : Nat} {b : Blk} {L : Loc} (hb : st.heap.get β = some b) (hL : ρ β = some L) : L.b < w.heap.size ∧ BlkRel ρ L b w ∧ (b.own = true → B ≤ L.b) := by
  obtain ⟨L', h1, h2⟩ := h.blk β b hb
  have : L' = L := Option.some.inj (h1.symm.trans hL)
  subst this
  exact h2

def Rho.upd (ρ : Rho) (β : Nat) (L : Loc) : Rho := fun γ => if γ = β then some L else ρ γ
theorem Rho.upd_le {ρ : Rho} {β : Nat} (L : Loc) (h : ρ β = none) : ρ.le (ρ.upd β L) := fun γ K hK => by
  unfold Rho.upd
  split
  · rename_i e; subst e; rw [h] at hK; cases hK
  · exact hK
theorem Rho.upd_same (ρ : Rho) (β : Nat) (L : Loc) : ρ.upd β L β = some L := by simp [Rho.upd]

/-- A draw changes nothing. -/
theorem Sim.drew (h : Sim P B w0 ρ st w) : Sim P B w0 ρ st { w with drawn := w.drawn + 1 } :=
  ⟨h.below.drew, h.base, h.nextOk, fun β b hb => let ⟨L, a, c, d, e⟩ := h.blk β b hb; ⟨L, a, c, d.of_heap rfl, e⟩, h.sep, h.fresh, h.glob, h.mem⟩

/-- A new block. -/
theorem Sim.alloc (h : Sim P B w0 ρ st w) {o : Obj} {b : Blk} {L : Loc} (hn : st.heap.get st.next = none)
    (hL : L.b = w.heap.size) (hb : BlkRel (ρ.upd st.next L) L b (w.alloc o)) :
    Sim P B w0 (ρ.upd st.next L) { st with heap := PT.set b (st.next + 1) st.next st.heap, next := st.next + 1 } (w.alloc o) := by
  have hρ : ρ st.next = none := h.fresh _ hn
  have hle := Rho.upd_le L hρ
  have hsz : (w.alloc o).heap.size = w.heap.size + 1 := by simp
  refine ⟨h.below.alloc h.base o, by rw [hsz]; have := h.base; omega, by have := h.nextOk; show _ ≤ st.next + 1; omega, ?_, ?_, ?_, ?_, h.mem⟩
  · intro β c hc
    by_cases e : β = st.next
    · subst e
      rw [PT.get_set _ _ _ _ (by omega)] at hc
      cases hc
      exact ⟨L, Rho.upd_same _ _ _, by rw [hsz]; omega, hb, fun _ => by rw [hL]; exact h.base⟩
    · rw [PT.get_set_ne _ _ _ _ _ e] at hc
      obtain ⟨K, h1, h2, h3, h4⟩ := h.blk β c hc
      exact ⟨K, hle _ _ h1, by rw [hsz]; omega, (h3.mono hle).of_heap (Below.heap_alloc _ _ _ h2), h4⟩
  · intro β γ c d K J hne hc hd hK hJ hown i j hi hj
    have hnew : ∀ (x : Blk) (Y Z : Loc) (y : Blk), L.b = Y.b → InExt Y x i j → Z.b < w.heap.size → InExt Z y i j → False := by
      intro x Y Z y hY hx hZ hy
      have h1 : i = Y.b := by cases x <;> first | exact hx.1 | exact hx.elim | exact hx
      have h2 : i = Z.b := by cases y <;> first | exact hy.1 | exact hy.elim | exact hy
      omega
    by_cases e : β = st.next
    · subst e
      rw [PT.get_set_ne _ _ _ _ _ (Ne.symm hne)] at hd
      rw [Rho.upd_same] at hK
      cases hK
      obtain ⟨J', h1, h2, _⟩ := h.blk γ d hd
      have : J' = J := Option.some.inj ((hle _ _ h1).symm.trans hJ)
      subst this
      exact hnew c L J' d rfl hi h2 hj
    · rw [PT.get_set_ne _ _ _ _ _ e] at hc
      obtain ⟨K', h1, h2, _⟩ := h.blk β c hc
      have : K' = K := Option.some.inj ((hle _ _ h1).symm.trans hK)
      subst this
      by_cases e2 : γ = st.next
      · subst e2
        rw [Rho.upd_same] at hJ
        cases hJ
        exact hnew d L K' c rfl hj h2 hi
      · rw [PT.get_set_ne _ _ _ _ _ e2] at hd
        obtain ⟨J', h3, _⟩ := h.blk γ d hd
        have : J' = J := Option.some.inj ((hle _ _ h3).symm.trans hJ)
        subst this
        exact h.sep β γ c d K' J' hne hc hd h1 h3 hown i j hi hj
  · intro β hβ
    by_cases e : β = st.next
    · subst e; rw [PT.get_set _ _ _ _ (by omega)] at hβ; cases hβ
    · rw [PT.get_set_ne _ _ _ _ _ e] at hβ
      simp only [Rho.upd, if_neg e]
      exact h.fresh β hβ
  · intro g hg K hK
    have : g ≠ st.next := by have := h.nextOk; omega
    simp only [Rho.upd, if_neg this] at hK
    exact h.glob g hg K hK

/-- An own block is written: b becomes b' and the world turns at that place alone, inside what b may touch. -/
theorem Sim.upd (h : Sim P B w0 ρ st w) {β : Nat} {b b' : Blk} {L : Loc} {o : Obj} (hb : st.heap.get β = some b) (hL : ρ β = some L) (hown : b.own = true)
    (hext : ∀ i j, InExt L b' i j → InExt L b i j) (hb' : BlkRel ρ L b' { w with heap := w.heap.setIfInBounds L.b o })
    (hkeep : ∀ γ c K, γ ≠ β → st.heap.get γ = some c → ρ γ = some K → K.b = L.b → BlkRel ρ K c w → (∀ i j, InExt L b i j → ¬ InExt K c i j) →
      BlkRel ρ K c { w with heap := w.heap.setIfInBounds L.b o }) (l : List Nat) :
    Sim P B w0 ρ { st with heap := PT.set b' (β + 1) β st.heap, wr := l } { w with heap := w.heap.setIfInBounds L.b o } := by
  obtain ⟨hlt, _, hB⟩ := h.get hb hL
  have hB := hB hown
  have hother : ∀ k, k ≠ L.b → (w.heap.setIfInBounds L.b o)[k]? = w.heap[k]? := fun k hk => by
    rw [Array.getElem?_setIfInBounds_ne (Ne.symm hk)]
  refine ⟨h.below.trans ⟨rfl, rfl, rfl, by simp, fun k hk => hother k (by omega)⟩, by simpa using h.base, h.nextOk, ?_, ?_, ?_, h.glob, h.mem⟩
  · intro γ c hc
    by_cases e : γ = β
    · subst e
      rw [PT.get_set _ _ _ _ (by omega)] at hc
      cases hc
      exact ⟨L, hL, by simpa using hlt, hb', fun _ => hB⟩
    · rw [PT.get_set_ne _ _ _ _ _ e] at hc
      obtain ⟨K, h1, h2, h3, h4⟩ := h.blk γ c hc
      refine ⟨K, h1, by simpa using h2, ?_, h4⟩
      by_cases hk : K.b = L.b
      · exact hkeep γ c K e hc h1 hk h3 (fun i j hi => h.sep β γ b c L K (Ne.symm e) hb hc hL h1 hown i j hi)
      · exact h3.of_heap (hother _ hk)
  · intro γ δ c d K J hne hc hd hK hJ hco i j hi hj
    by_cases e : γ = β
    · subst e
      rw [PT.get_set _ _ _ _ (by omega)] at hc
      cases hc
      rw [PT.get_set_ne _ _ _ _ _ (Ne.symm hne)] at hd
      rw [hL] at hK
      cases hK
      exact h.sep γ δ b d L J hne hb hd hL hJ hown i j (hext i j hi) hj
    · rw [PT.get_set_ne _ _ _ _ _ e] at hc
      by_cases e2 : δ = β
      · subst e2
        rw [PT.get_set _ _ _ _ (by omega)] at hd
        cases hd
        rw [hL] at hJ
        cases hJ
        exact h.sep γ δ c b K L hne hc hb hK hL hco i j hi (hext i j hj)
      · rw [PT.get_set_ne _ _ _ _ _ e2] at hd
        exact h.sep γ δ c d K J hne hc hd hK hJ hco i j hi hj
  · intro γ hγ
    by_cases e : γ = β
    · subst e; rw [PT.get_set _ _ _ _ (by omega)] at hγ; cases hγ
    · rw [PT.get_set_ne _ _ _ _ _ e] at hγ
      exact h.fresh γ hγ

/-- An own row is given up. -/
theorem Sim.kill (h : Sim P B w0 ρ st w) {β : Nat} {b : Blk} (hb : st.heap.get β = some b) (l : List Nat) :
    Sim P B w0 ρ { st with heap := PT.set .dead (β + 1) β st.heap, wr := l } w := by
  refine ⟨h.below, h.base, h.nextOk, ?_, ?_, ?_, h.glob, h.mem⟩
  · intro γ c hc
    by_cases e : γ = β
    · subst e
      rw [PT.get_set _ _ _ _ (by omega)] at hc
      cases hc
      obtain ⟨L, h1, h2, _⟩ := h.blk γ b hb
      exact ⟨L, h1, h2, trivial, fun x => by cases x⟩
    · rw [PT.get_set_ne _ _ _ _ _ e] at hc
      exact h.blk γ c hc
  · intro γ δ c d K J hne hc hd hK hJ hco i j hi hj
    by_cases e : γ = β
    · subst e; rw [PT.get_set _ _ _ _ (by omega)] at hc; cases hc; exact hi.elim
    · rw [PT.get_set_ne _ _ _ _ _ e] at hc
      by_cases e2 : δ = β
      · subst e2; rw [PT.get_set _ _ _ _ (by omega)] at hd; cases hd; exact hj.elim
      · rw [PT.get_set_ne _ _ _ _ _ e2] at hd
        exact h.sep γ δ c d K J hne hc hd hK hJ hco i j hi hj
  · intro γ hγ
    by_cases e : γ = β
    · subst e; rw [PT.get_set _ _ _ _ (by omega)] at hγ; cases hγ
    · rw [PT.get_set_ne _ _ _ _ _ e] at hγ
      exact h.fresh γ hγ
end

end Go.Ev
