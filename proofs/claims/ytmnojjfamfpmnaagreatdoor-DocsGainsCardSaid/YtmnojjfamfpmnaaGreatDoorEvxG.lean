/-
  Each operation of the evaluator does what the model's operation does: operators, conversions, addresses.
-/
import Derived.Test.YtmnojjfamfpmnaaGreatDoorEvxF
set_option linter.unusedVariables false
set_option linter.unusedSimpArgs false
set_option linter.unusedSectionVars false
set_option linter.unnecessarySimpa false
set_option linter.unusedSectionVars false
namespace Go.Ev
open Go.RowKit
variable [Eta]
section
variable {P : Program} {B : Nat} {w0 : World} {ρ : Rho} {st st' : St} {w w' : World}

theorem eqGuard_int {op : BinOp} {t : TypeId} {x y : Operand} (k k' : IntKind) (m n : Int) : (eqGuard op t x y (.int k m) (.int k' n)).run P w = .ok () w :=
  eqGuard_quiet (fun _ _ => .inl (by intro e; cases e)) (.inl (by intro e; cases e))

theorem kindNo_inj {k k' : IntKind} (h : kindNo k = kindNo k') : k = k' := by cases k <;> cases k' <;> first | rfl | (simp [kindNo] at h)
theorem kindNo_range (k : IntKind) : 2 ≤ kindNo k ∧ kindNo k ≤ 9 := by cases k <;> decide
theorem kindNo_of {s : Nat} (h : 2 ≤ s ∧ s ≤ 9) : ∃ k, s = kindNo k := by
  obtain ⟨h1, h2⟩ := h
  rcases (show s = 2 ∨ s = 3 ∨ s = 4 ∨ s = 5 ∨ s = 6 ∨ s = 7 ∨ s = 8 ∨ s = 9 by omega) with h | h | h | h | h | h | h | h
  · exact ⟨.i8, h⟩
  · exact ⟨.i16, h⟩
  · exact ⟨.i32, h⟩
  · exact ⟨.i64, h⟩
  · exact ⟨.u8, h⟩
  · exact ⟨.u16, h⟩
  · exact ⟨.u32, h⟩
  · exact ⟨.u64, h⟩

theorem Srt.bool (b : Bool) : Srt 0 (.bool b) :=
  ⟨rfl, fun _ => ⟨b, rfl⟩, fun h => absurd h (by decide), fun k h => absurd h (by cases k <;> decide), fun h => absurd h (by decide)⟩
theorem Srt.string (b : ByteArray) : Srt 1 (.string b) :=
  ⟨rfl, fun h => absurd h (by decide), fun _ => ⟨b, rfl⟩, fun k h => absurd h (by cases k <;> decide), fun h => absurd h (by decide)⟩
theorem Srt.int (k : IntKind) (n : Int) : Srt (kindNo k) (.int k n) :=
  ⟨rfl, fun h => absurd h (by cases k <;> decide), fun h => absurd h (by cases k <;> decide), fun k' h => by rw [kindNo_inj h]; exact ⟨n, rfl⟩, fun h => absurd h (by cases k <;> decide)⟩

theorem Den.un {f : Nat} {a va r : Value} (ha : Den a va) (hr : sOp f [va] = some r) : Den (term f [a]) r :=
  .node f (l := [a]) (l' := [va]) rfl (fun i v v' h1 h2 => by
    cases i with
    | zero => simp at h1 h2; subst h1; subst h2; exact ha
    | succ i => simp at h1) hr
theorem Den.bin {f : Nat} {a b va vb r : Value} (ha : Den a va) (hb : Den b vb) (hr : sOp f [va, vb] = some r) : Den (term f [a, b]) r :=
  .node f (l := [a, b]) (l' := [va, vb]) rfl (fun i v v' h1 h2 => by
    cases i with
    | zero => simp at h1 h2; subst h1; subst h2; exact ha
    | succ i =>
      cases i with
      | zero => simp at h1 h2; subst h1; subst h2; exact hb
      | succ i => simp at h1) hr
theorem Den.un_inv {f : Nat} {a r : Value} (h : Den (term f [a]) r) : ∃ va, Den a va ∧ sOp f [va] = some r := by
  generalize he : term f [a] = e at h
  cases h with
  | node f' hl hp hr =>
    rename_i l l'
    unfold term at he
    injection he with e1 e2 e3
    injection e1 with e1
    subst e1
    have : l = [a] := by simpa using (congrArg Array.toList e2).symm
    subst this
    obtain ⟨va, rfl⟩ := List.length_eq_one_iff.1 hl.symm
    exact ⟨va, hp 0 a va rfl rfl, hr⟩
  | _ => unfold term at he; cases he
theorem un0_inv {e x r : Value} (h : un0 e = some x) (hd : Den e r) : ∃ b, Den x (.bool b) ∧ r = .bool !b := by
  cases hd with
  | node f hl hp hr =>
    rename_i l l'
    unfold un0 term at h
    simp only at h
    split at h
    case isFalse => cases h
    rename_i hf
    subst hf
    have : l = [x] := by
      cases l with
      | nil => simp at h
      | cons y ys =>
        cases ys with
        | nil => simp at h; rw [h]
        | cons z zs => simp at h
    subst this
    obtain ⟨va, rfl⟩ := List.length_eq_one_iff.1 hl.symm
    have hx := hp 0 _ va rfl rfl
    have hr' : sNot [va] = some r := hr
    cases va <;> first | (cases hr'; done) | skip
    rename_i b
    exact ⟨b, hx, (Option.some.inj hr').symm⟩
  | _ => simp [un0] at h
theorem Den.not {e : Value} {b : Bool} (h : Den e (.bool b)) : Den (notE e) (.bool !b) := by
  unfold notE
  generalize hu : un0 e = u
  cases u with
  | none => exact Den.un h rfl
  | some x =>
    obtain ⟨b', h1, h2⟩ := un0_inv hu h
    cases h2
    simpa using h1

theorem VRel.tokb {ρ : Rho} {e : Value} {b : Bool} (h : Den e (.bool b)) : VRel ρ (Ev.tok 0 e) (.bool b) := .tok 0 h (.bool b)

theorem sort_val {ρ : Rho} {v v' : Value} {s : Nat} (h : sortO v = some s) (hv : VRel ρ v v') : Srt s v' ∧ Den (strip v) v' := by
  unfold sortO at h
  split at h
  · cases h; cases hv; exact ⟨.bool _, .bool _⟩
  · cases h; cases hv; exact ⟨.string _, .string _⟩
  · cases h; cases hv; exact ⟨.int _ _, .int _ _⟩
  · rename_i t e
    split at h
    case isFalse => cases h
    rename_i ht
    obtain rfl := Option.some.inj h
    have hst : strip (.iface t e) = e := if_pos ht
    rw [hst]
    clear h
    cases hv with
    | iface t ht' _ => exact absurd ht' (Nat.not_lt.2 ht)
    | tok s h hs => rw [Nat.add_sub_cancel_left]; exact ⟨hs, h⟩
  · cases h

theorem eqGuard_str {op : BinOp} {t : TypeId} {x y : Operand} (m n : ByteArray) : (eqGuard op t x y (.string m) (.string n)).run P w = .ok () w :=
  eqGuard_quiet (fun _ _ => .inl (by intro e; cases e)) (.inl (by intro e; cases e))

def opStr (op : BinOp) (a b : Value) : Option Value := match op with
  | .eql => some (Ev.tok 0 (term 1 [a, b]))
  | .neq => some (Ev.tok 0 (notE (term 1 [a, b])))
  | .lss => some (Ev.tok 0 (term 2 [a, b]))
  | .geq => some (Ev.tok 0 (notE (term 2 [a, b])))
  | .leq => some (Ev.tok 0 (term 3 [a, b]))
  | .gtr => some (Ev.tok 0 (notE (term 3 [a, b])))
  | _ => none
def opInt (s : Nat) (op : BinOp) (a b : Value) : Option Value := match op with
  | .eql => some (Ev.tok 0 (term 1 [a, b]))
  | .neq => some (Ev.tok 0 (notE (term 1 [a, b])))
  | .lss => some (Ev.tok 0 (term 2 [a, b]))
  | .geq => some (Ev.tok 0 (notE (term 2 [a, b])))
  | .leq => some (Ev.tok 0 (notE (term 2 [b, a])))
  | .gtr => some (Ev.tok 0 (term 2 [b, a]))
  | .add => some (Ev.tok s (term 10 [a, b]))
  | .sub => some (Ev.tok s (term 11 [a, b]))
  | .mul => some (Ev.tok s (term 12 [a, b]))
  | _ => none

theorem opStr_ok {op : BinOp} {t : TypeId} {a b r : Value} {m n : ByteArray} (da : Den a (.string m)) (db : Den b (.string n)) (h : opStr op a b = some r) :
    ∃ r', (binOp op t (.string m) (.string n)).run P w = .ok r' w ∧ VRel ρ r r' := by
  cases op <;> first | cases h; done | skip
  all_goals (obtain rfl := Option.some.inj h; clear h)
  · exact ⟨_, rfl, .tokb (.bin da db rfl)⟩
  · exact ⟨_, rfl, .tokb (.not (.bin da db rfl))⟩
  · exact ⟨_, rfl, .tokb (.bin da db rfl)⟩
  · exact ⟨_, rfl, .tokb (.bin da db rfl)⟩
  · exact ⟨_, rfl, .tokb (.not (.bin da db rfl))⟩
  · exact ⟨_, rfl, .tokb (.not (.bin da db rfl))⟩

theorem run_binOp_int (op : BinOp) (t : TypeId) (k : IntKind) (m n : Int) (v : Value)
    (h : (match op with | .add => some (Value.int k (k.wrap (m + n))) | .sub => some (.int k (k.wrap (m - n))) | .mul => some (.int k (k.wrap (m * n))) | .eql => some (.bool (m == n)) | .neq => some (.bool (m != n)) | .lss => some (.bool (decide (m < n))) | .leq => some (.bool (decide (m ≤ n))) | .gtr => some (.bool (decide (m > n))) | .geq => some (.bool (decide (m ≥ n))) | _ => none) = some v) :
    (binOp op t (.int k m) (.int k n)).run P w = .ok v w := by
  cases op <;> first | cases h; done | skip
  all_goals
    obtain rfl := Option.some.inj h
    simp [binOp, Op.intArith, Op.intCmp]

theorem opInt_ok {op : BinOp} {t : TypeId} {k : IntKind} {a b r : Value} {m n : Int} (da : Den a (.int k m)) (db : Den b (.int k n)) (h : opInt (kindNo k) op a b = some r) :
    ∃ r', (binOp op t (.int k m) (.int k n)).run P w = .ok r' w ∧ VRel ρ r r' := by
  have hle : ∀ m n : Int, decide (m ≤ n) = !decide (n < m) := fun m n => by
    rw [← decide_not]; exact decide_eq_decide.2 (by omega)
  have hb1 : ∀ m n : Int, sOp 1 [.int k m, .int k n] = some (.bool (m == n)) := fun m n => if_pos rfl
  have hb2 : ∀ m n : Int, sOp 2 [.int k m, .int k n] = some (.bool (decide (m < n))) := fun m n => if_pos rfl
  have hb3 : ∀ m n : Int, sOp 10 [.int k m, .int k n] = some (.int k (k.wrap (m + n))) := fun m n => if_pos rfl
  have hb4 : ∀ m n : Int, sOp 11 [.int k m, .int k n] = some (.int k (k.wrap (m - n))) := fun m n => if_pos rfl
  have hb5 : ∀ m n : Int, sOp 12 [.int k m, .int k n] = some (.int k (k.wrap (m * n))) := fun m n => if_pos rfl
  cases op <;> first | cases h; done | skip
  all_goals (obtain rfl := Option.some.inj h; clear h)
  · exact ⟨_, run_binOp_int .add _ _ _ _ _ rfl, .tok _ (.bin da db (hb3 _ _)) (.int k _)⟩
  · exact ⟨_, run_binOp_int .sub _ _ _ _ _ rfl, .tok _ (.bin da db (hb4 _ _)) (.int k _)⟩
  · exact ⟨_, run_binOp_int .mul _ _ _ _ _ rfl, .tok _ (.bin da db (hb5 _ _)) (.int k _)⟩
  · exact ⟨_, run_binOp_int .eql _ _ _ _ _ rfl, .tokb (.bin da db (hb1 _ _))⟩
  · exact ⟨_, run_binOp_int .neq _ _ _ _ _ rfl, .tokb (.not (.bin da db (hb1 _ _)))⟩
  · exact ⟨_, run_binOp_int .lss _ _ _ _ _ rfl, .tokb (.bin da db (hb2 _ _))⟩
  · exact ⟨_, run_binOp_int .leq _ _ _ _ _ rfl, by rw [hle]; exact .tokb (.not (.bin db da (hb2 _ _)))⟩
  · exact ⟨_, run_binOp_int .gtr _ _ _ _ _ rfl, .tokb (.bin db da (hb2 _ _))⟩
  · exact ⟨_, run_binOp_int .geq _ _ _ _ _ rfl, by rw [show (decide (m ≥ n)) = !decide (m < n) from hle n m]; exact .tokb (.not (.bin da db (hb2 _ _)))⟩

theorem binSym_ok {op : BinOp} {t : TypeId} {x y : Operand} {a a' b b' r : Value} (ha : VRel ρ a a') (hb : VRel ρ b b') (h : binSym (P.underlying t) op a b = some r) :
    ∃ r', (do eqGuard op t x y a' b'; binOp op t a' b').run P w = .ok r' w ∧ VRel ρ r r' := by
  unfold binSym at h
  generalize h1 : sortO a = u at h
  generalize h2 : sortO b = u' at h
  cases u with
  | none => cases h
  | some s =>
    cases u' with
    | none => cases h
    | some s' =>
      obtain ⟨sa, da⟩ := sort_val h1 ha
      obtain ⟨sb, db⟩ := sort_val h2 hb
      clear h1 h2
      by_cases e : s = s'
      case neg => simp only [if_neg e] at h; cases h
      simp only [if_pos e] at h
      subst e
      by_cases hs : s = 1
      · simp only [if_pos hs] at h
        subst hs
        obtain ⟨m, rfl⟩ := sa.2.2.1 rfl
        obtain ⟨n, rfl⟩ := sb.2.2.1 rfl
        simp only [Sem.run_bind, eqGuard_str, Result.andThen_ok]
        exact opStr_ok da db h
      · simp only [if_neg hs] at h
        by_cases hs0 : s = 0
        · simp only [if_pos hs0] at h
          subst hs0
          obtain ⟨m, rfl⟩ := sa.2.1 rfl
          obtain ⟨n, rfl⟩ := sb.2.1 rfl
          generalize hu : P.underlying t = u at h
          have hq : (Op.equal t (.bool m) (.bool n)).run P w = .ok (m == n) w ∨ u ≠ some .bool := by
            by_cases hub : u = some .bool
            · left
              subst hub
              unfold Op.equal Op.maxDepth
              rw [Op.equalIn]
              simp only [Sem.run_bind, run_underlying hu, Result.andThen_ok]
              rfl
            · exact .inr hub
          have hg : ∀ op, (eqGuard op t x y (.bool m) (.bool n)).run P w = .ok () w := fun op =>
            eqGuard_quiet (fun _ _ => .inl (by intro e; cases e)) (.inl (by intro e; cases e))
          split at h
          · rename_i hub
            obtain rfl := Option.some.inj h
            obtain hq | hq := hq
            · exact ⟨.bool (m == n), by simp only [Sem.run_bind, hg, Result.andThen_ok]; unfold binOp; simp [hq], .tokb (.bin da db rfl)⟩
            · exact absurd rfl hq
          · rename_i hub
            obtain rfl := Option.some.inj h
            obtain hq | hq := hq
            · exact ⟨.bool (!(m == n)), by simp only [Sem.run_bind, hg, Result.andThen_ok]; unfold binOp; simp [hq], .tokb (.not (.bin da db rfl))⟩
            · exact absurd rfl hq
          · cases h
        simp only [if_neg hs0] at h
        by_cases hs2 : 2 ≤ s ∧ s ≤ 9
        case neg => simp only [if_neg hs2] at h; cases h
        simp only [if_pos hs2] at h
        obtain ⟨k, rfl⟩ := kindNo_of hs2
        obtain ⟨m, rfl⟩ := sa.2.2.2.1 k rfl
        obtain ⟨n, rfl⟩ := sb.2.2.2.1 k rfl
        simp only [Sem.run_bind, eqGuard_int, Result.andThen_ok]
        exact opInt_ok da db h

theorem unSym_ok {op : UnOp} {a a' r : Value} (ha : VRel ρ a a') (h : unSym op a = some r) : ∃ r', (Op.unary op a').run P w = .ok r' w ∧ VRel ρ r r' := by
  unfold unSym at h
  split at h
  · rename_i h1
    obtain ⟨sa, da⟩ := sort_val h1 ha
    obtain ⟨b, rfl⟩ := sa.2.1 rfl
    cases h
    exact ⟨_, rfl, .tokb (.not da)⟩
  · rename_i s h1
    obtain ⟨sa, da⟩ := sort_val h1 ha
    split at h
    case isFalse => cases h
    rename_i hs
    obtain ⟨k, rfl⟩ := kindNo_of hs
    obtain ⟨m, rfl⟩ := sa.2.2.2.1 k rfl
    cases h
    exact ⟨_, rfl, .tok _ (.un da rfl) (.int k _)⟩
  · cases h

theorem binOp_ok {op : BinOp} {t : TypeId} {x y : Operand} {a a' b b' r : Value} (ha : VRel ρ a a') (hb : VRel ρ b b') (h : binOpM P op t x y a b st = some (r, st')) :
    ∃ r', (do eqGuard op t x y a' b'; binOp op t a' b').run P w = .ok r' w ∧ VRel ρ r r' ∧ st' = st := by
  unfold binOpM at h
  split at h
  case h_10 =>
    split at h
    · rename_i hp
      simp only [Bool.and_eq_true] at hp
      obtain ⟨v, s1, h1, h⟩ := bind_some.1 h
      obtain ⟨_, hr, e⟩ := ofO_some.1 h1
      cases e
      obtain ⟨hv, e⟩ := plain_some.1 h
      cases e
      rw [plainB_eq hp.1 ha, plainB_eq hp.2 hb]
      exact ⟨_, pureRun_run hr w, plainB_rel hv, rfl⟩
    · split at h
      · obtain ⟨r0, hr, e⟩ := ofO_some.1 h
        cases e
        obtain ⟨r', k1, k2⟩ := binSym_ok (P := P) (w := w) (t := t) (x := x) (y := y) ha hb hr
        exact ⟨r', k1, k2, rfl⟩
      split at h
      · obtain ⟨v, s1, h1, h⟩ := bind_some.1 h
        obtain ⟨_, hr, e⟩ := ofO_some.1 h1
        cases e
        cases (pure_some.1 h)
        obtain ⟨k1, k2, k3⟩ := eqNil_ok ha hb hr x y w
        exact ⟨_, by simp [k1, k2], .bool _, rfl⟩
      · obtain ⟨v, s1, h1, h⟩ := bind_some.1 h
        obtain ⟨_, hr, e⟩ := ofO_some.1 h1
        cases e
        cases (pure_some.1 h)
        obtain ⟨k1, k2, k3⟩ := eqNil_ok ha hb hr x y w
        exact ⟨_, by simp [k1, k3], .bool _, rfl⟩
      · exact (fail_some.1 h).elim
  all_goals
    cases ha
    cases hb
    split at h
    case isFalse => exact (fail_some.1 h).elim
    rename_i hk
    subst hk
    cases (mpure_some.1 h)
    refine ⟨_, ?_, (by first | exact VRel.int _ _ | exact VRel.bool _), rfl⟩
    simp [eqGuard_int, binOp, Op.intArith, Op.intCmp]

theorem unOp_ok {op : UnOp} {a a' r : Value} (ha : VRel ρ a a') (h : unOpM P op a st = some (r, st')) :
    ∃ r', (Op.unary op a').run P w = .ok r' w ∧ VRel ρ r r' ∧ st' = st := by
  unfold unOpM at h
  split at h
  · rename_i hp
    obtain ⟨v, s1, h1, h⟩ := bind_some.1 h
    obtain ⟨_, hr, e⟩ := ofO_some.1 h1
    cases e
    obtain ⟨hv, e⟩ := plain_some.1 h
    cases e
    rw [plainB_eq hp ha]
    exact ⟨_, pureRun_run hr w, plainB_rel hv, rfl⟩
  · split at h
    · obtain ⟨r0, hr, e⟩ := ofO_some.1 h
      cases e
      obtain ⟨r', k1, k2⟩ := unSym_ok (P := P) (w := w) ha hr
      exact ⟨r', k1, k2, rfl⟩
    · exact (fail_some.1 h).elim

theorem bytes_of : ∀ (cs : List Value) (l : List UInt8), bytesO' cs = some l → ∃ ns : List Int, cs = ns.map (Value.int .u8) ∧ l = ns.map fun n => UInt8.ofNat n.toNat := by
  intro cs
  induction cs with
  | nil => intro l h; simp [bytesO'] at h; subst h; exact ⟨[], rfl, rfl⟩
  | cons v r ih =>
    intro l h
    unfold bytesO' at h
    split at h
    · rename_i b l' h1 h2
      cases h
      obtain ⟨ns, e1, e2⟩ := ih _ h2
      unfold byteO at h1
      split at h1
      · rename_i n
        cases h1
        exact ⟨n :: ns, by simp [e1], by simp [e2]⟩
      · cases h1
    · cases h

theorem bytes_foldl (ns : List Int) : ∀ s : ByteArray, ns.foldl (fun (r : ByteArray) n => r.push (UInt8.ofNat n.toNat)) s = ⟨s.data ++ (ns.map fun n => UInt8.ofNat n.toNat).toArray⟩ := by
  induction ns with
  | nil => intro s; simp
  | cons n ns ih =>
    intro s
    rw [List.foldl_cons, ih]
    congr 1
    show s.data.push _ ++ _ = _
    apply Array.toList_inj.1
    simp

theorem ints_rel {ns : List Int} {l : List Value} (h : LRel ρ (ns.map (Value.int .u8)) l) : l = ns.map (Value.int .u8) :=
  h.eq_of fun v hv v' hr => by
    obtain ⟨n, _, rfl⟩ := List.mem_map.1 hv
    cases hr
    rfl

theorem bytesV_rel (s : ByteArray) : LRel ρ (bytesV s) (bytesV s) := LRel.refl_of fun v hv => by
  obtain ⟨b, _, rfl⟩ := List.mem_map.1 hv
  exact .int _ _

/-- A new row that owns what lies behind it. -/
theorem Sim.newGrow (hS : Sim P B w0 ρ st w) {cs cs' rest : List Value} {sz : Nat} {el : TypeId} {fz : Nat × Nat} (hn : st.heap.get st.next = none) (hc : LRel ρ cs cs')
    (hf : fz = (0, 0) ∨ cs'.length + rest.length ≤ fz.1) :
    let L : Loc := ⟨w.heap.size, 0, true, sz, cs'.length + rest.length⟩
    ρ.le (ρ.upd st.next L) ∧
    Sim P B w0 (ρ.upd st.next L) { st with heap := PT.set (.row cs true true sz) (st.next + 1) st.next st.heap, next := st.next + 1 } (w.alloc (.cells (cs' ++ rest).toArray el fz)) := by
  intro L
  have hρ := hS.fresh _ hn
  have hle := Rho.upd_le L hρ
  refine ⟨hle, hS.alloc (b := .row cs true true sz) hn rfl ?_⟩
  refine ⟨(cs' ++ rest).toArray, el, fz, ?_, by simp [L], rfl, by simp [L], by simp [L, hc.1], ?_, ?_⟩
  · show (w.heap.push (.cells (cs' ++ rest).toArray el fz))[w.heap.size]? = _
    simp
  · intro i v hi
    obtain ⟨v', h1, h2⟩ := hc.get hi
    have hlt : i < cs'.length := (List.getElem?_eq_some_iff.1 h1).1
    exact ⟨v', by rw [List.getElem?_toArray, Nat.zero_add, List.getElem?_append_left hlt]; exact h1, h2.mono hle⟩
  · intro _ j _ hj ⟨h1, h2⟩
    simp [L] at hj
    rcases hf with hf | hf
    · subst hf; simp at h2
    · omega

theorem freeze_alloc (w : World) (c : Array Value) (el : TypeId) : (w.alloc (.cells c el)).freeze ⟨w.heap.size, c.size, none⟩ 1 = w.alloc (.cells c el (c.size, c.size + 1)) := by
  unfold World.freeze
  simp only [Nat.one_ne_zero, if_false]
  show ({ w with heap := (w.heap.push (.cells c el)).modify w.heap.size _ } : World) = { w with heap := w.heap.push (.cells c el (c.size, c.size + 1)) }
  congr 1
  apply Array.ext_getElem?
  intro i
  rw [Array.getElem?_modify, Array.getElem?_push, Array.getElem?_push]
  by_cases e : i = w.heap.size
  · subst e; simp
  · simp [e, Ne.symm e]

theorem sOp_conv (k k0 : IntKind) (n : Int) : sOp (20 + kindNo k) [.int k0 n] = some (.int k (k.wrap n)) := by cases k <;> rfl

theorem convert_ok {src dst : TypeId} {a a' r : Value} (hS : Sim P B w0 ρ st w) (ha : VRel ρ a a') (h : convertM P src dst a st = some (r, st')) :
    Good P B w0 ρ st' r ((convert src dst a').run P w) := by
  unfold convertM at h
  generalize hs : P.underlying src = us at h
  generalize hd : P.underlying dst = ud at h
  split at h
  · rename_i e s
    cases ha
    · generalize hu : P.underlying e = ue at h
      split at h
      ·
        obtain ⟨β, s1, h1, h⟩ := bind_some.1 h
        obtain ⟨hn, e'⟩ := newB_some.1 h1
        cases e'
        cases (pure_some.1 h)
        let need := s.size
        let cap := (Question.appendCap s.size 0 e).cut (w.tape w.drawn (.appendCap s.size 0 e))
        have hS1 : Sim P B w0 ρ st { w with drawn := w.drawn + 1 } := hS.drew
        have hbl : (bytesV s).length = s.size := by simp [bytesV]
        have hcap : cap = s.size + (cap - s.size) := by simp only [cap, Question.cut]; omega
        obtain ⟨k1, k2⟩ := hS1.newGrow (sz := 1) (el := e) (rest := List.replicate (cap - s.size) (Value.int .u8 0)) (fz := (cap, cap + 1)) hn (bytesV_rel s)
          (.inr (by simp [hbl]; omega))
        refine ⟨_, _, _, ?_, k1, k2, .slice (Rho.upd_same _ _ _) (cap' := cap) (.inr ⟨rfl, by omega, by simp [hbl]; omega⟩)⟩
        have harr : (s.data.map fun b => Value.int .u8 b.toNat) ++ Array.replicate (cap - s.size) (Value.int .u8 0) = (bytesV s ++ List.replicate (cap - s.size) (Value.int .u8 0)).toArray := by
          apply Array.toList_inj.1
          simp [bytesV]
        have hsz : (bytesV s ++ List.replicate (cap - s.size) (Value.int .u8 0)).toArray.size = cap := by simp [hbl]; omega
        have hfr := freeze_alloc { w with drawn := w.drawn + 1 } (bytesV s ++ List.replicate (cap - s.size) (Value.int .u8 0)).toArray e
        rw [hsz] at hfr
        have hshape : (({ w with drawn := w.drawn + 1 } : World).alloc (.cells (bytesV s ++ List.replicate (cap - s.size) (Value.int .u8 0)).toArray e)).shape? w.heap.size = some (e, cap) := by
          show (match (w.heap.push _)[w.heap.size]? with | some (.cells c elem _) => some (elem, c.size) | _ => none) = _
          simp only [Array.getElem?_push_size, hsz]
        have hconv : convert src dst (.string s) = convert src dst (.string s) := rfl
        unfold convert
        simp only [Sem.run_bind, run_underlying hs, run_underlying hd, run_underlying hu, Result.andThen_ok, Conv.stringToBytes, run_choose, Question.forced, Bool.false_eq_true, if_false]
        have hnew : ∀ (c : Array Value) (W : World), (Go.newRow e c).run P W = .ok ⟨W.heap.size, 0, none⟩ (W.alloc (.cells c e)) := fun _ _ => rfl
        rw [show (Question.appendCap s.size 0 e).cut (w.tape w.drawn (.appendCap s.size 0 e)) = cap from rfl]
        rw [harr, hnew]
        simp only [Result.andThen_ok, markStringish, Sem.run_bind, run_shape, hshape, run_freeze, hfr, Sem.run_pure]
      · exact (fail_some.1 h).elim
  · rename_i e β off len cap
    cases ha with
    | slice hL hc =>
      rename_i cap' L
      generalize hu : P.underlying e = ue at h
      split at h
      ·
        obtain ⟨x, s1, h1, h⟩ := bind_some.1 h
        obtain ⟨cs, rw', g, sz, hb, e'⟩ := rowOf_some.1 h1
        cases e'
        obtain ⟨_, ⟨c, el, fz, hw, hN, _, _, _, hcc, _⟩, _⟩ := hS.get hb hL
        simp only at h
        obtain ⟨_, s2, h2, h⟩ := bind_some.1 h
        obtain ⟨hg, e'⟩ := guardM_some.1 h2
        cases e'
        obtain ⟨l, s3, h3, h⟩ := bind_some.1 h
        obtain ⟨_, hl, e'⟩ := ofO_some.1 h3
        cases e'
        cases (pure_some.1 h)
        obtain ⟨ns, hns, hl2⟩ := bytes_of _ _ hl
        obtain ⟨l', hl', hr', hcl⟩ := row_stretch hcc off len (by simpa using hg)
        rw [hns] at hr'
        have := ints_rel hr'
        subst this
        refine Good.same (w := w) (v' := .string ⟨l.toArray⟩) ?_ (hS.logs rfl hS.nextOk) (.string _)
        rw [run_convert_bytes_string w src dst e _ len cap' hs hu hd, run_bytesToString w _ len cap' ns (by rw [run_cells hw _ hl' hcl])]
        rw [bytes_foldl, hl2]
        simp [ByteArray.empty, ByteArray.emptyWithCapacity]
        rfl
      · exact (fail_some.1 h).elim
  · split at h
    · rename_i hp
      obtain ⟨v, s1, h1, h⟩ := bind_some.1 h
      obtain ⟨_, hr, e⟩ := ofO_some.1 h1
      cases e
      obtain ⟨hv, e⟩ := plain_some.1 h
      cases e
      rw [plainB_eq hp ha]
      exact Good.same (pureRun_run hr w) hS (plainB_rel hv)
    · split at h
      case isFalse => exact (fail_some.1 h).elim
      rename_i hti
      simp only [Bool.and_eq_true] at hti
      cases us with
      | none => exact absurd hti.2 (by simp)
      | some us =>
      generalize hso : sortO a = so at h
      split at h
      · rename_i k s _ _
        split at h
        case isFalse => exact (fail_some.1 h).elim
        rename_i hsr
        obtain ⟨sa, da⟩ := sort_val hso ha
        obtain ⟨k0, rfl⟩ := kindNo_of hsr
        obtain ⟨n, rfl⟩ := sa.2.2.2.1 k0 rfl
        cases (mpure_some.1 h)
        refine Good.same (w := w) (v' := .int k (k.wrap n)) ?_ hS (.tok _ (.un da (sOp_conv k k0 n)) (.int k _))
        unfold convert
        simp only [Sem.run_bind, run_underlying hs, run_underlying hd, Result.andThen_ok]
        cases us <;> rfl
      · rename_i s
        split at h
        case isFalse => exact (fail_some.1 h).elim
        rename_i hsr
        subst hsr
        obtain ⟨sa, da⟩ := sort_val hso ha
        obtain ⟨m, rfl⟩ := sa.2.2.1 rfl
        cases (mpure_some.1 h)
        refine Good.same (w := w) (v' := .string m) ?_ hS ha
        unfold convert
        simp only [Sem.run_bind, run_underlying hs, run_underlying hd, Result.andThen_ok]
        cases us <;> rfl
      · exact (fail_some.1 h).elim

theorem intO_rel {v v' : Value} {n : Int} (h : intO v = some n) (hv : VRel ρ v v') : ∃ k, v' = .int k n ∧ v = .int k n := by
  unfold intO at h
  split at h
  · cases h; cases hv; exact ⟨_, rfl, rfl⟩
  · cases h
end
end Go.Ev
