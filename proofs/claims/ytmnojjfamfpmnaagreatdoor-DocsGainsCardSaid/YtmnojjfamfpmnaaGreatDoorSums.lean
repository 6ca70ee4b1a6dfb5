/- All summaries of the Docs laws. -/
import Derived.Test.YtmnojjfamfpmnaaGreatDoorRight
set_option linter.unusedVariables false
set_option linter.unusedSimpArgs false
set_option linter.unusedSectionVars false
set_option linter.unnecessarySimpa false
namespace Go.Proofs.YtmnojjfamfpmnaaGreatDoor
open Go Go.RowKit
set_option maxRecDepth 100000
namespace Lw
def okInts : List Value → Bool
  | [a, b] => inR a && inR b
  | _ => false
def okInt : List Value → Bool
  | [a] => inR a
  | _ => false
def litInts : List Value → Option (List Int)
  | [] => some []
  | .int .i64 n :: r => (litInts r).map (n :: ·)
  | _ => none
def sumS (l : List Value) : Ev.M Value := match l with
  | [.slice (some ⟨β, off, none⟩) len _] => do
    let q ← Ev.rowOf β
    Ev.guardM (decide (1 ≤ len) && decide (len ≤ 1000) && decide (off + len ≤ q.1.length) && (((q.1.drop off).take len).map Ev.sortO == List.replicate len (some 5)) && ((q.1.drop off).take len).all (fun v => inR (Ev.strip v)))
    match litInts ((q.1.drop off).take len) with
    | some zs => pure (.tuple #[.int .i64 (sumI (nth zs) zs.length), .bool (sumB (nth zs) zs.length)])
    | none => pure (.tuple #[Ev.tok 5 (Ev.term 107 (((q.1.drop off).take len).map Ev.strip)), Ev.tok 0 (Ev.term 108 (((q.1.drop off).take len).map Ev.strip))])
  | _ => Ev.M.fail
def lens : List Value := [31,28,31,30,31,30,31,31,30,31,30,31].map (Value.int .i64)
def sumL (f : FuncId) : Option (List Value → Ev.M Value) :=
  if f = 27 ∨ f = 31 then some (Ev.sumG false okStr [1] (mkStr 0 codeB))
  else if f = 15 ∨ f = 62 then some (Ev.sumG false okStr [1] (mkStr 1 curB))
  else if f = 93 ∨ f = 103 then some (Ev.sumG false okStr [1] (mkStr 15 optB))
  else if f = 92 ∨ f = 102 then some (Ev.sumG false okLit [1] (mkStr 0 plainS))
  else if f = 26 ∨ f = 30 then some (Ev.sumG true okSetup [1, 1, 1, 1, 1, 1, 11, 5, 5] (Ev.mkT 0 4))
  else if f = 28 ∨ f = 32 then some (Ev.sumG false okInts [5, 5] mkSub)
  else if f = 29 then some (Ev.sumG false okInt [5] (Ev.mkT 5 11))
  else if f = 91 ∨ f = 101 then some (Ev.sumG false (fun _ => true) [5] (Ev.mkT 0 12))
  else if f = 134 ∨ f = 68 then some sumS
  else if f = 10 then some (Ev.sumAlone lens (.bool true))
  else none
end Lw

theorem Lcl_sumS (l : List Value) : Ev.Lcl (Lw.sumS l) := by
  unfold Lw.sumS
  split
  · refine @Ev.Lcl.bind Ev.O0 ⟨fun _ => undef, fun _ _ => none, fun _ _ => none⟩ _ _ _ _ (@Ev.Lcl.rowOf Ev.O0 ⟨fun _ => undef, fun _ _ => none, fun _ _ => none⟩ _) fun q => ?_
    refine @Ev.Lcl.bind Ev.O0 ⟨fun _ => undef, fun _ _ => none, fun _ _ => none⟩ _ _ _ _ (@Ev.Lcl.guardM Ev.O0 ⟨fun _ => undef, fun _ _ => none, fun _ _ => none⟩ _) fun _ => ?_
    generalize Lw.litInts _ = o
    cases o <;> exact @Ev.Lcl.pure Ev.O0 ⟨fun _ => undef, fun _ _ => none, fun _ _ => none⟩ _ _
  · exact @Ev.Lcl.fail Ev.O0 ⟨fun _ => undef, fun _ _ => none, fun _ _ => none⟩ _

section
variable {W : World} {cs : List Value} {bc : Bool}
theorem diff_in (a b : Int) : In64 (diffI a b) := by
  unfold diffI
  split
  · rename_i h
    simpa [fitsB] using h
  · exact ⟨by decide, by decide⟩
theorem neg_in {d : Int} (h : In64b d = true) : In64 (negI d) := by
  have h : In64 d := by simpa [In64b] using h
  obtain ⟨h1, h2⟩ := h
  unfold negI
  split
  · exact ⟨h1, h2⟩
  · exact ⟨by omega, by omega⟩
theorem inR_den (h : CellsOk W cs bc) {e : Value} {n : Int} (hok : Lw.inR e = true) (hd : @Ev.Den (etaL cs bc) e (.int .i64 n)) : In64 n := by
  letI : Ev.Eta := etaL cs bc
  unfold Lw.inR at hok
  split at hok
  · rename_i i
    exact h.int i n (Ev.Den.single (Ev.Den.var i) hd).symm
  · cases hd
    simpa [In64b] using hok
  · rename_i f a c
    cases hd with
    | node _ hl hp hr =>
      rename_i l l'
      simp only [Bool.or_eq_true, beq_iff_eq] at hok
      rcases hok with rfl | rfl
      · have hr : fnL bc 10 l' = some (.int .i64 n) := hr
        unfold fnL at hr
        split at hr <;> first | (exfalso; omega) | skip
        all_goals first
          | (cases hr; exact diff_in _ _)
          | cases hr
          | (split at hr <;> cases hr)
      · have hr : fnL bc 11 l' = some (.int .i64 n) := hr
        unfold fnL at hr
        split at hr <;> first | (exfalso; omega) | skip
        all_goals first
          | (cases hr; done)
          | (split at hr
             · cases hr; exact neg_in ‹_›
             · cases hr)
  · cases hok

theorem litInts_rel : ∀ {l l' : List Value} {zs : List Int} {ρ : Ev.Rho}, Lw.litInts l = some zs → @Ev.LRel (etaL cs bc) ρ l l' → l' = zs.map (Value.int .i64) := by
  letI : Ev.Eta := etaL cs bc
  intro l
  induction l with
  | nil => intro l' zs ρ h hl; cases h; exact hl.nil_left
  | cons v r ih =>
    intro l' zs ρ h hl
    obtain ⟨v', r', rfl, h1, h2⟩ := hl.cons_left
    unfold Lw.litInts at h
    split at h
    · rename_i he; cases he
    · rename_i n r2 he
      cases he
      obtain ⟨ys, hy, rfl⟩ := Option.map_eq_some_iff.1 h
      rw [ih hy h2, Ev.plainB_eq (v := .int .i64 n) rfl h1]
      rfl
    · cases h
theorem intsOf_map (zs : List Int) : intsOf (zs.map (Value.int .i64)) = some zs := by
  induction zs with
  | nil => rfl
  | cons n r ih => simp [intsOf, ih]

theorem sumS_ok (h : CellsOk W cs bc) {B : Nat} {w0 : World} {ρ : Ev.Rho} {st st' : Ev.St} {w : World} {l l' : List Value} {v : Value} (hS : @Ev.Sim (etaL cs bc) Tryz.prog B w0 ρ st w) (hl : @Ev.LRel (etaL cs bc) ρ l l') (hr : Lw.sumS l st = some (v, st')) {f : Nat} (hf : f = 134 ∨ f = 68) :
    Calls Tryz.prog f l'.toArray w fun e w' => ∃ v' ρ', e = .returned v' ∧ ρ.le ρ' ∧ @Ev.Sim (etaL cs bc) Tryz.prog B w0 ρ' st' w' ∧ @Ev.VRel (etaL cs bc) ρ' v v' := by
  letI : Ev.Eta := etaL cs bc
  unfold Lw.sumS at hr
  split at hr
  case h_2 => exact (Ev.fail_some.1 hr).elim
  rename_i β off len cap
  obtain ⟨v1, r1, rfl, hv1, hr1⟩ := hl.cons_left
  have := hr1.nil_left
  subst this
  cases hv1 with
  | slice hL hcap =>
    rename_i cap' L
    obtain ⟨q, s1, h1, hr⟩ := Ev.bind_some.1 hr
    obtain ⟨cells, rw', g, sz, hb, e1⟩ := Ev.rowOf_some.1 h1
    cases e1
    obtain ⟨_, s2, h2, hr⟩ := Ev.bind_some.1 hr
    obtain ⟨hg, e2⟩ := Ev.guardM_some.1 h2
    cases e2
    simp only [Bool.and_eq_true, decide_eq_true_eq, beq_iff_eq] at hg
    obtain ⟨⟨⟨⟨hl1, hl2⟩, hl3⟩, hsrt⟩, hin⟩ := hg
    obtain ⟨_, ⟨c, el, fz, hw, hN, _, _, _, hcl, _⟩, _⟩ := hS.get hb hL
    obtain ⟨xs', hxl, hxr, hxc⟩ := Ev.row_stretch hcl off len hl3
    -- each is an integer in its range
    have each : ∀ k, k < len → ∃ n, xs'[k]? = some (.int .i64 n) ∧ In64 n := by
      intro k hk
      have hk2 : k < ((cells.drop off).take len).length := by rw [hxr.1, hxl]; exact hk
      have hs : (((cells.drop off).take len).map Ev.sortO)[k]? = some (some 5) := by rw [hsrt, List.getElem?_replicate, if_pos hk]
      rw [List.getElem?_map, List.getElem?_eq_getElem hk2] at hs
      have hs : Ev.sortO ((cells.drop off).take len)[k] = some 5 := Option.some.inj hs
      have hx := List.getElem?_eq_getElem (l := xs') (i := k) (by omega)
      have hrel := hxr.2 k _ _ (List.getElem?_eq_getElem hk2) hx
      obtain ⟨hsr, hd⟩ := Ev.sort_val hs hrel
      obtain ⟨n, hn⟩ := hsr.i64
      rw [hn] at hd
      have hi := List.all_eq_true.1 hin _ (List.getElem_mem hk2)
      exact ⟨n, by rw [hx, hn], inR_den h hi hd⟩
    obtain ⟨zs, hzs⟩ : ∃ zs : List Int, xs' = zs.map (Value.int .i64) := by
      clear hxr hxc
      have : ∀ (m : Nat) (ys : List Value), ys.length = m → (∀ k, k < m → ∃ n, ys[k]? = some (.int .i64 n)) → ∃ zs : List Int, ys = zs.map (Value.int .i64) := by
        intro m
        induction m with
        | zero => intro ys hy _; exact ⟨[], by rw [List.length_eq_zero_iff.1 hy]; rfl⟩
        | succ m ih =>
          intro ys hy hk
          match ys, hy with
          | y :: r, hy =>
            obtain ⟨n, hn⟩ := hk 0 (by omega)
            obtain ⟨zs, hz⟩ := ih r (by simpa using hy) (fun k hkm => by
              obtain ⟨n, hn⟩ := hk (k + 1) (by omega)
              exact ⟨n, by simpa using hn⟩)
            exact ⟨n :: zs, by simp at hn; simp [hn, hz]⟩
      exact this len xs' hxl (fun k hk => let ⟨n, h1, _⟩ := each k hk; ⟨n, h1⟩)
    have hzl : zs.length = len := by rw [← hxl, hzs, List.length_map]
    have hzn : ∀ k, k < len → xs'[k]? = some (.int .i64 (nth zs k)) ∧ In64 (nth zs k) := by
      intro k hk
      obtain ⟨n, h1, h2⟩ := each k hk
      have h3 : zs[k]? = some n := by
        rw [hzs, List.getElem?_map] at h1
        obtain ⟨m, hm, hm2⟩ := Option.map_eq_some_iff.1 h1
        cases hm2
        exact hm
      have h4 : nth zs k = n := by simp [nth, List.getD, h3]
      rw [h4]
      exact ⟨h1, h2⟩
    have hcall : Calls Tryz.prog f #[.slice (some ⟨L.b, L.o + off, none⟩) len cap'] w fun e w' => e = .returned (.tuple #[.int .i64 (sumI (nth zs) zs.length), .bool (sumB (nth zs) zs.length)]) ∧ Below w.heap.size w w' := by
      have hcell : ∀ k, k < len → w.cell? ⟨L.b, L.o + off + k, none⟩ = some (.int .i64 (nth zs k)) := by
        intro k hk
        rw [Ev.cell_at hw]
        exact hxc k _ (hzn k hk).1
      rw [hzl]
      rcases hf with rfl | rfl
      · exact sum_ok L.b (L.o + off) len cap' (nth zs) (by omega) hl2 (fun k hk => (hzn k hk).2) w hcell
      · exact sum1_ok L.b (L.o + off) len cap' (nth zs) (by omega) hl2 (fun k hk => (hzn k hk).2) w hcell
    generalize hlit : Lw.litInts ((cells.drop off).take len) = o at hr
    cases o with
    | some ys =>
      cases (Ev.pure_some.1 hr)
      have hy := litInts_rel hlit hxr
      have : ys = zs := by
        have h5 : ys.map (Value.int .i64) = zs.map (Value.int .i64) := by rw [← hy, hzs]
        exact (List.map_inj_right (fun a b hab => by cases hab; rfl)).1 h5
      subst this
      exact Ev.sum_pure (hS.logs rfl hS.nextOk) (Ev.plainB_rel rfl) hcall
    | none =>
      cases (Ev.pure_some.1 hr)
      refine Ev.sum_pure (hS.logs rfl hS.nextOk) ?_ hcall
      have hden := Ev.strip_den hxr (fun v hv => by
        have : Ev.sortO v ∈ ((cells.drop off).take len).map Ev.sortO := List.mem_map_of_mem hv
        rw [hsrt] at this
        rw [List.eq_of_mem_replicate this]; rfl)
      have hlen : (((cells.drop off).take len).map Ev.strip).length = xs'.length := by rw [List.length_map]; exact hxr.1
      refine Ev.VRel.tuple_iff.2 ⟨_, rfl, Ev.LRel.cons ?_ (Ev.LRel.single ?_)⟩
      · refine .tok 5 (.node 107 hlen hden ?_) (Ev.Srt.int .i64 _)
        show (intsOf xs').map _ = _
        rw [hzs, intsOf_map]
        rfl
      · refine .tok 0 (.node 108 hlen hden ?_) (Ev.Srt.bool _)
        show (intsOf xs').map _ = _
        rw [hzs, intsOf_map]
        rfl

theorem agg_setup {l' cells : List Value} (h : Ev.flat true l' = some cells) : ∃ a, l' = [.agg a] ∧ a.toList = cells := by
  unfold Ev.flat at h
  simp only [if_true] at h
  split at h
  · exact ⟨_, rfl, Option.some.inj h⟩
  · cases h

theorem isX_den {i : Nat} {e v : Value} (h : Lw.isX i e = true) (hd : @Ev.Den (etaL cs bc) e v) : v = cs.getD i undef := by
  letI : Ev.Eta := etaL cs bc
  unfold Lw.isX at h
  split at h
  · rename_i j
    have : j = i := by simpa using h
    subst this
    exact Ev.Den.single (Ev.Den.var j) hd
  · cases h

set_option maxHeartbeats 1000000 in
theorem law_sums (h : CellsOk W cs bc) {e b r p g l : ByteArray} {sl : Value} {way mode : Int} (S : SetupIs cs e b r p g l sl way mode)
    (hlives : (@Ev.ev Ev.O0 Tryz.prog 2000 10 [] (Ev.st1 Lw.lens)).map (·.1) = some (.bool true)) (q : List (Value × Bool)) : @Ev.SumOk (Ev.pathOrc Lw.sumL q) (etaL cs bc) Tryz.prog W.heap.size W := by
  letI : Ev.Eta := etaL cs bc
  intro f gg hg
  have hg : Lw.sumL f = some gg := hg
  unfold Lw.sumL at hg
  split at hg
  · rename_i hf
    cases hg
    refine ⟨fun l => Ev.Lcl.sumG _ _ _ _ l, ?_⟩
    intro ρ st w l l' v st' hS hl hr
    refine sum_str h (fun s => rfl) ?_ hS hl hr
    intro s w hs
    rcases hf with rfl | rfl
    · exact below_rfl (words_code s hs w)
    · exact below_rfl (ref6_code s hs w)
  split at hg
  · rename_i hf
    cases hg
    refine ⟨fun l => Ev.Lcl.sumG _ _ _ _ l, ?_⟩
    intro ρ st w l l' v st' hS hl hr
    refine sum_str h (fun s => rfl) ?_ hS hl hr
    intro s w hs
    rcases hf with rfl | rfl
    · exact range_code s hs w
    · exact below_rfl (ref7_code s w)
  split at hg
  · rename_i hf
    cases hg
    refine ⟨fun l => Ev.Lcl.sumG _ _ _ _ l, ?_⟩
    intro ρ st w l l' v st' hS hl hr
    refine sum_str h (fun s => rfl) ?_ hS hl hr
    intro s w hs
    rcases hf with rfl | rfl
    · exact below_rfl (opt_ok s hs w)
    · exact below_rfl (opt12_ok s hs w)
  split at hg
  · rename_i hf
    cases hg
    refine ⟨fun l => Ev.Lcl.sumG _ _ _ _ l, ?_⟩
    intro ρ st w l l' v st' hS hl hr
    refine Ev.sumG_ok hS hl hr ?_
    intro cs' cells hfl hok hargs
    cases hfl
    obtain ⟨e1, v1, rfl, rfl, hd1, hs1⟩ := hargs.one
    unfold Lw.okLit at hok
    split at hok
    case h_2 => cases hok
    rename_i s ht
    cases ht
    cases hd1
    have hs : s.size ≤ 9223372036854775807 := by
      simp only [Lw.small, decide_eq_true_eq] at hok
      omega
    refine ⟨.bool (plainS s), .bool _, ?_⟩
    rcases hf with rfl | rfl
    · exact below_rfl (words_plain s hs w)
    · exact below_rfl (ref6_plain s hs w)
  split at hg
  · rename_i hf
    cases hg
    refine ⟨fun l => Ev.Lcl.sumG _ _ _ _ l, ?_⟩
    intro ρ st w l0 l' v st' hS hl hr
    refine Ev.sumG_ok hS hl hr ?_
    intro cs' cells hfl hok hargs
    obtain ⟨a, rfl, hac⟩ := agg_setup hfl
    have h1 := hargs.sl
    have h2 := hargs.len
    match cells, h1, cs', h2, hok, hargs, hac with
    | [v0, v1, v2, v3, v4, v5, v6, v7, v8], _, [e0, e1, e2, e3, e4, e5, e6, e7, e8], _, hok, hargs, hac =>
      simp only [Lw.okSetup, Bool.and_eq_true] at hok
      obtain ⟨⟨⟨⟨⟨⟨⟨⟨k0, k1⟩, k2⟩, k3⟩, k4⟩, k5⟩, k6⟩, k7⟩, k8⟩ := hok
      have g0 := (isX_den k0 (hargs.den 0 _ _ rfl rfl)).trans S.h0
      have g1 := (isX_den k1 (hargs.den 1 _ _ rfl rfl)).trans S.h1
      have g2 := (isX_den k2 (hargs.den 2 _ _ rfl rfl)).trans S.h2
      have g3 := (isX_den k3 (hargs.den 3 _ _ rfl rfl)).trans S.h3
      have g4 := (isX_den k4 (hargs.den 4 _ _ rfl rfl)).trans S.h4
      have g5 := (isX_den k5 (hargs.den 5 _ _ rfl rfl)).trans S.h5
      have g6 := (isX_den k6 (hargs.den 6 _ _ rfl rfl)).trans S.h6
      have g7 := (isX_den k7 (hargs.den 7 _ _ rfl rfl)).trans S.h7
      have g8 := (isX_den k8 (hargs.den 8 _ _ rfl rfl)).trans S.h8
      have ha : a = #[.string e, .string b, .string r, .string p, .string g, .string l, sl, .int .i64 way, .int .i64 mode] := by apply Array.ext'; rw [hac, g0, g1, g2, g3, g4, g5, g6, g7, g8]
      subst ha
      obtain ⟨a0, n0, c0, hsl⟩ := codes_srt h.codes
      have hsl : sl = .slice a0 n0 c0 := S.h6.symm.trans hsl
      refine ⟨.bool (rightB bc e b r p g l way mode), hargs.term (by rw [g0, g1, g2, g3, g4, g5, g6, g7, g8, hsl]; rfl) (Ev.Srt.bool _), ?_⟩
      rcases hf with rfl | rfl
      · exact docs_right h S hS.below
      · exact ref_right h S hS.below
  split at hg
  · rename_i hf
    cases hg
    refine ⟨fun l => Ev.Lcl.sumG _ _ _ _ l, ?_⟩
    intro ρ st w l l' v st' hS hl hr
    refine Ev.sumG_ok hS hl hr ?_
    intro cs' cells hfl hok hargs
    cases hfl
    obtain ⟨e1, e2, v1, v2, rfl, rfl, hd1, hd2, hs1, hs2⟩ := hargs.two
    obtain ⟨m, rfl⟩ := hs1.i64
    obtain ⟨n, rfl⟩ := hs2.i64
    simp only [Lw.okInts, Bool.and_eq_true] at hok
    have hm := inR_den h hok.1 hd1
    have hn := inR_den h hok.2 hd2
    refine ⟨.tuple #[.int .i64 (diffI m n), .bool (fitsB m n)], Ev.VRel.tuple_iff.2 ⟨_, rfl, Ev.LRel.cons (hargs.term (k := 10) rfl (Ev.Srt.int .i64 _)) (Ev.LRel.single (hargs.term (k := 9) rfl (Ev.Srt.bool _)))⟩, ?_⟩
    rcases hf with rfl | rfl
    · exact below_rfl (sub_ok m n hm hn w)
    · exact below_rfl (sub1_ok m n hm hn w)
  split at hg
  · rename_i hf
    subst hf
    cases hg
    refine ⟨fun l => Ev.Lcl.sumG _ _ _ _ l, ?_⟩
    intro ρ st w l l' v st' hS hl hr
    refine Ev.sumG_ok hS hl hr ?_
    intro cs' cells hfl hok hargs
    cases hfl
    obtain ⟨e1, v1, rfl, rfl, hd1, hs1⟩ := hargs.one
    obtain ⟨n, rfl⟩ := hs1.i64
    have hn := inR_den h hok hd1
    have hb : In64b n = true := by simpa [In64b] using hn
    exact ⟨.int .i64 (negI n), hargs.term (if_pos hb) (Ev.Srt.int .i64 _), below_rfl (negated_ok n hn w)⟩
  split at hg
  · rename_i hf
    cases hg
    refine ⟨fun l => Ev.Lcl.sumG _ _ _ _ l, ?_⟩
    intro ρ st w l l' v st' hS hl hr
    refine Ev.sumG_ok hS hl hr ?_
    intro cs' cells hfl hok hargs
    cases hfl
    obtain ⟨e1, v1, rfl, rfl, hd1, hs1⟩ := hargs.one
    obtain ⟨n, rfl⟩ := hs1.i64
    refine ⟨.bool (dayB n), hargs.term rfl (Ev.Srt.bool _), ?_⟩
    rcases hf with rfl | rfl
    · exact isDay_ok n w (h.laid.later hS.below)
    · exact below_rfl (day12_ok n w)
  split at hg
  · rename_i hf
    cases hg
    exact ⟨fun l => Lcl_sumS l, fun ρ st w l l' v st' hS hl hr => sumS_ok h hS hl hr hf⟩
  split at hg
  · rename_i hf
    subst hf
    cases hg
    exact ⟨fun l => @Ev.Lcl.sumAlone (etaL cs bc) Ev.O0 _ _ l, fun ρ st w l l' v st' hS hl hr => Ev.sumAlone_ok noGo mixed nglobals hlives rfl rfl ρ st w l l' v st' hS hl hr⟩
  · cases hg
end
end Go.Proofs.YtmnojjfamfpmnaaGreatDoor
