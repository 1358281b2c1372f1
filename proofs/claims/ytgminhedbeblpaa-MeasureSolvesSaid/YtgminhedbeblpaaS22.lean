/- Own texts of the proof, merged, in order. -/
import Derived.Test.YtgminhedbeblpaaS21
set_option linter.unusedVariables false
set_option linter.unusedSimpArgs false
namespace Go.Proofs.Ytgminhedbeblpaa.Cal
open Go Pl
/-- Nil slices seen as slices that nobody writes. -/
def nro : AV → AV
  | .cst v => match isNilS v with | true => .roI [] | false => .cst v
  | .agg l => .agg (nro l)
  | .cons a b => .cons (nro a) (nro b)
  | u => u
theorem nro_R {Z : Nat → Prop} {w : World} {ν : Nat → Value} : ∀ {u : AV} {m : Bool} {cs : List Value}, R Z w u ν m cs → R Z w (nro u) ν m cs
  | .cst v, m, cs, h => by
    unfold nro
    cases hv : isNilS v with
    | false => exact h
    | true =>
      have := isNil_eq hv
      subst this
      have h : cs = [_] := h
      exact ⟨none, 0, h, Nat.le_refl _, Nat.zero_le _, fun h => absurd h (Nat.lt_irrefl _)⟩
  | .agg l, true, cs, h => by
    obtain ⟨es, e, r⟩ := h
    exact ⟨es, e, nro_R r⟩
  | .agg l, false, cs, h => nro_R (u := l) (m := true) h
  | .cons a b, m, cs, h => by
    obtain ⟨v, vs, e, r1, r2⟩ := h
    exact ⟨v, vs, e, nro_R r1, nro_R r2⟩
  | .any, _, _, h => h
  | .int _ _, _, _, h => h
  | .bool _, _, _, h => h
  | .own _, _, _, h => h
  | .adr _ _ _ _, _, _, h => h
  | .roI _, _, _, h => h
  | .roB _, _, _, h => h
  | .roII _, _, _, h => h
  | .ro _ _ _, _, _, h => h
  | .rop _, _, _, h => h
  | .tup _, _, _, h => h
  | .nil, _, _, h => h
  | .fn _ _, _, _, h => h
  | .yld _, _, _, h => h
  | .whn _ _, _, _, h => h
theorem nro_men {μ : Nat → Bool} : ∀ {u : AV}, men μ u = true → men μ (nro u) = true
  | .cst v, _ => by unfold nro; cases isNilS v <;> rfl
  | .agg l, h => nro_men (u := l) h
  | .cons a b, h => by
    simp only [men, Bool.and_eq_true] at h
    show (men μ (nro a) && men μ (nro b)) = true
    rw [nro_men h.1, nro_men h.2]; rfl
  | .any, h => h
  | .int _ _, h => h
  | .bool _, h => h
  | .own _, h => h
  | .adr _ _ _ _, h => h
  | .roI _, h => h
  | .roB _, h => h
  | .roII _, h => h
  | .ro _ _ _, h => h
  | .rop _, h => h
  | .tup _, h => h
  | .nil, h => h
  | .fn _ _, h => h
  | .yld _, h => h
  | .whn _ _, h => h
section
variable {P : Program} {ro : Option Nat} {N κ : Nat}
theorem awp_nro {c : Code} {m : Nat} {env : List (Nat × AV)} {rs : List (Nat × Option Blk)} {ms : List Nat} {Q : Exit → St → Prop} (k : Nat) {u : AV} (hk : lkr rs k = some (.box u)) {rs' : List (Nat × Option Blk)} (hrs : set1 k (.box (nro u)) rs = rs')
    (h : awp P ro N κ c (CS.st ⟨m, env, rs', ms⟩) Q) : awp P ro N κ c (CS.st ⟨m, env, rs, ms⟩) Q := by
  intro n K Z ν w a hg
  refine h n K Z ν w a { hg with rs := ?_ }
  subst hrs
  obtain ⟨Ft, hF⟩ := hg.rs
  have e : (CS.st ⟨m, env, set1 k (.box (nro u)) rs, ms⟩).rs = fun j => if j = k then some (.box (nro u)) else lkr rs j := lkr_set1
  refine ⟨Ft, fun j b hj => ?_⟩
  rw [e] at hj
  have hold : ∀ j' b', (CS.st ⟨m, env, set1 k (.box (nro u)) rs, ms⟩).rs j' = some b' → ∃ b0, lkr rs j' = some b0 := fun j' b' h' => by
    rw [e] at h'
    dsimp only at h'
    by_cases h1 : j' = k
    · rw [h1]; exact ⟨_, hk⟩
    · rw [if_neg h1] at h'; exact ⟨_, h'⟩
  dsimp only at hj
  by_cases h1 : j = k
  · rw [if_pos h1] at hj
    cases hj
    subst h1
    obtain ⟨a1, a2, a3, a4, a5⟩ := hF j _ hk
    refine ⟨a1, nro_men a2, ?_, a4, fun j' b' hne hj' => ?_⟩
    · obtain ⟨b, cells, T, hx, hb, r, hFb⟩ := a3
      exact ⟨b, cells, T, hx, hb, nro_R r, hFb⟩
    · obtain ⟨b0, h0⟩ := hold j' b' hj'
      exact a5 j' b0 hne h0
  · rw [if_neg h1] at hj
    obtain ⟨a1, a2, a3, a4, a5⟩ := hF j b hj
    refine ⟨a1, a2, a3, a4, fun j' b' hne hj' => ?_⟩
    obtain ⟨b0, h0⟩ := hold j' b' hj'
    exact a5 j' b0 hne h0
end
/-- A measure as the program holds it. -/
def msA (m : Bool × List Int) : AV := .agg (.cons (.bool m.1) (.cons (.roI m.2) .nil))
theorem peta (a : Bool × List Int) : (a.1, a.2) = a := rfl
def mOf : AV → Bool × List Int
  | .agg (.cons (.bool t) (.cons (.roI xs) .nil)) => (t, xs)
  | _ => (true, [])
/-- The measures of a slice, as numbers. -/
def mlF (many : List Int) (n : Nat) (F : Nat → Bool × List Int) : List Int := (List.range n).map fun j => enM many (F j)
theorem mlF_get {many : List Int} {n j : Nat} {F : Nat → Bool × List Int} (hj : j < n) : (mlF many n F).getD j 0 = enM many (F j) := by simp [mlF, List.getD_eq_getElem?_getD, hj]
/-- The move chosen among the first r. -/
def bC (g : Gm) (odd many l : List Int) (v : Nat) : Nat → Int
  | 0 => -1
  | r + 1 => if r = 0 ∨ (g.own.getD v 0 = 0 ∧ askV g odd many l v r < bB g odd many l v r) ∨ (g.own.getD v 0 ≠ 0 ∧ bB g odd many l v r < askV g odd many l v r) then (g.nxt.getD v []).getD r 0 else bC g odd many l v r
/-- Scales that fit. -/
structure SOK (odd many : List Int) : Prop where
  len : odd.length = many.length
  l100 : odd.length ≤ 100
  bd : ∀ i, many.getD i 0 ≤ 1000000000
  ps : posL many
noncomputable def bestS : Spec
  | [.agg (.cons (.roI odd) (.cons (.roI many) .nil)), .agg (.cons (.roI o) (.cons (.roI p) (.cons (.roII x) .nil))), .ro 2 n f, .int .i64 v] =>
    some ⟨SOK odd many ∧ validB ⟨o, p, x⟩ = true ∧ n = o.length ∧ (f = fun j => msA (mOf (f j))) ∧ (∀ j, j < n → okM many (mOf (f j))) ∧ 0 ≤ v ∧ v < (n : Int),
      .tup (.cons (.agg (.cons (.bool (deM many (bestV ⟨o, p, x⟩ odd many (mlF many n fun j => mOf (f j)) v.toNat)).1) (.cons (.roI (deM many (bestV ⟨o, p, x⟩ odd many (mlF many n fun j => mOf (f j)) v.toNat)).2) .nil))) (.cons (.int .i64 (bC ⟨o, p, x⟩ odd many (mlF many n fun j => mOf (f j)) v.toNat (x.getD v.toNat []).length)) .nil)), none⟩
  | _ => none
noncomputable def spBe : Nat → Option Spec
  | 43 => some progS
  | 50 => some lessS
  | _ => none
theorem spBe_ok : SpOK Try.prog spBe := by
  intro f S h
  unfold spBe at h
  split at h
  · cases h; exact prog_ok
  · cases h; exact less_ok
  · cases h
set_option maxRecDepth 4000 in
set_option maxHeartbeats 4000000 in
theorem best_ok : FSpec Try.prog 49 bestS := by
  refine fspec_of htb (fn := Try.f49) (by kernel_rfl) (by kernel_rfl) rfl (fun args r hS => ?_) (fun args r hS hob hl => ?_)
  · unfold bestS at hS; split at hS <;> first | (cases hS; done) | (cases hS; exact Nat.le_of_ble_eq_true rfl)
  unfold bestS at hS
  split at hS
  case h_2 => cases hS
  rename_i odd many o p x n f v
  simp only [Option.some.injEq] at hS
  subst hS
  simp only [lenP, mkL, lim] at hl
  dsimp only at hob
  obtain ⟨hS, hv, rfl, hf, hok, hv0, hv1⟩ := hob
  obtain ⟨v, rfl⟩ := Int.eq_ofNat_of_zero_le hv0
  obtain ⟨F, hF⟩ : ∃ F : Nat → Bool × List Int, ∀ j, mOf (f j) = F j := ⟨_, fun _ => rfl⟩
  have hf : f = fun j => msA (F j) := by rw [hf]; funext j; rw [hF]
  have hF' : (fun j => mOf (f j)) = F := funext hF
  simp only [hF'] at hok ⊢
  simp only [hF] at hok
  subst hf
  clear hF hF'
  simp only [Int.toNat_natCast]
  have hvn : v < o.length := by omega
  have hV := validB_iff.1 hv
  obtain ⟨hn, hpl, hxl, hpos⟩ := id hV
  simp only [Gm.n] at hn hpl hxl
  have hrl : (x.getD v []).length ≤ 64 ∧ 1 ≤ (x.getD v []).length := by
    obtain ⟨⟨a1, a2, a3, a4, a5, a6⟩, _⟩ := hpos v (by simp only [Gm.n]; omega)
    exact ⟨a6, a5⟩
  have hrb : ∀ j, j < (x.getD v []).length → 0 ≤ (x.getD v []).getD j 0 ∧ (x.getD v []).getD j 0 < o.length := fun j hj => by
    obtain ⟨_, hr⟩ := hpos v (by simp only [Gm.n]; omega)
    exact ⟨(hr j hj).1, (hr j hj).2.1⟩
  have hpr : 0 ≤ p.getD v 0 ∧ p.getD v 0 ≤ 60 := by
    obtain ⟨⟨a1, a2, a3, a4, _, a6⟩, _⟩ := hpos v (by simp only [Gm.n]; omega)
    exact ⟨a3, a4⟩
  have how : 0 ≤ o.getD v 0 ∧ o.getD v 0 ≤ 1 := by
    obtain ⟨⟨a1, a2, a3, a4, _, a6⟩, _⟩ := hpos v (by simp only [Gm.n]; omega)
    exact ⟨a1, a2⟩
  generalize hL : mlF many o.length F = L
  have hLg : ∀ j, j < o.length → L.getD j 0 = enM many (F j) := fun j hj => by rw [← hL]; exact mlF_get hj
  have hask : ∀ r, r < (x.getD v []).length → askV ⟨o, p, x⟩ odd many L v r = progV odd many (enM many (F ((x.getD v []).getD r 0).toNat)) (p.getD v 0) := fun r hr => by
    have h1 := hrb r hr
    show progV odd many (L.getD ((x.getD v []).getD r 0).toNat 0) (p.getD v 0) = _
    rw [hLg _ (by omega)]
  have haskb : ∀ r, r < (x.getD v []).length → 0 ≤ askV ⟨o, p, x⟩ odd many L v r ∧ askV ⟨o, p, x⟩ odd many L v r ≤ rpr many := fun r hr => by
    have h1 := hrb r hr
    have h2 := okM_bd hS.ps (hok ((x.getD v []).getD r 0).toNat (by omega))
    rw [hask r hr]
    exact progV_bd hS.ps h2.1 h2.2
  have hbb : ∀ r, r ≤ (x.getD v []).length → 0 < r → 0 ≤ bB ⟨o, p, x⟩ odd many L v r ∧ bB ⟨o, p, x⟩ odd many L v r ≤ rpr many := fun r hr h0 => by
    by_cases h : o.getD v 0 = 0
    · obtain ⟨_, i, h1, h2⟩ := bB_min (g := ⟨o, p, x⟩) (odd := odd) (many := many) (l := L) h h0
      rw [h2]; exact haskb i (by omega)
    · obtain ⟨_, i, h1, h2⟩ := bB_max (g := ⟨o, p, x⟩) (odd := odd) (many := many) (l := L) h h0
      rw [h2]; exact haskb i (by omega)
  have hcc : ∀ r, 0 < r → r ≤ (x.getD v []).length → 0 ≤ bC ⟨o, p, x⟩ odd many L v r := by
    intro r
    induction r with
    | zero => intro h; exact absurd h (Nat.lt_irrefl _)
    | succ r ih =>
      intro _ hr
      unfold bC
      split
      · exact (hrb r (by omega)).1
      · rename_i h
        have : r ≠ 0 := fun e => h (.inl e)
        exact ih (by omega) (by omega)
  have hb1 : ∀ r, bB ⟨o, p, x⟩ odd many L v (r + 1) = if r = 0 ∨ (o.getD v 0 = 0 ∧ askV ⟨o, p, x⟩ odd many L v r < bB ⟨o, p, x⟩ odd many L v r) ∨ (o.getD v 0 ≠ 0 ∧ bB ⟨o, p, x⟩ odd many L v r < askV ⟨o, p, x⟩ odd many L v r) then askV ⟨o, p, x⟩ odd many L v r else bB ⟨o, p, x⟩ odd many L v r := fun r => rfl
  have hc1 : ∀ r, bC ⟨o, p, x⟩ odd many L v (r + 1) = if r = 0 ∨ (o.getD v 0 = 0 ∧ askV ⟨o, p, x⟩ odd many L v r < bB ⟨o, p, x⟩ odd many L v r) ∨ (o.getD v 0 ≠ 0 ∧ bB ⟨o, p, x⟩ odd many L v r < askV ⟨o, p, x⟩ odd many L v r) then (x.getD v []).getD r 0 else bC ⟨o, p, x⟩ odd many L v r := fun r => rfl
  have hc0 : bC ⟨o, p, x⟩ odd many L v 0 = -1 := rfl
  have hbe : bestV ⟨o, p, x⟩ odd many L v = bB ⟨o, p, x⟩ odd many L v (x.getD v []).length := rfl
  rw [hbe]
  generalize askV ⟨o, p, x⟩ odd many L v = A at *
  generalize bB ⟨o, p, x⟩ odd many L v = B at *
  generalize bC ⟨o, p, x⟩ odd many L v = C at *
  generalize hrw : x.getD v [] = rw at *
  have hS1 := hS.len
  have hS2 := hS.l100
  have hS3 := hS.bd
  have hS4 := hS.ps
  repeat' first
    | with_reducible first | refine awp_seq ?_ | refine awp_block ?_ | refine next_then ?_ | refine next_block ?_ | refine exit_then ?_ | refine ret_then ?_ | refine ret_block ?_ | refine exit_here ?_ | refine awp_exit ?_ | refine awp_ret ?_ | refine awp_skip ?_ | refine awp_label ?_ | refine next_noGoto ?_ | refine ret_noGoto ?_ | refine exit_noGoto ?_ | refine awp_scope ?_
    | ((with_reducible refine exit_past ?_ ?_); exact rfl)
    | ((with_reducible refine isCond ?_); refine awp_condO rfl ?_ ?_ <;> intro hb <;> (try simp only [zH] at hb))
    | ((with_reducible refine isReg ?_); (first | refine awp_textM htb hmz spBe_ok (fun _ => false) rfl rfl ?_ | refine awp_drawM hmo htb hmz spBe_ok (fun _ => false) rfl rfl (by kernel_rfl) ?_); intro m' e' l' ob h; simp only [zE0, zE1, zE2, zE3, zE4, zE5, evp, evx, ev1, evLoad, evStore, evBin, isBoolK, forall_const, z38, tb, Nat.reduceAdd, Nat.reduceSub, Nat.reduceMul, Nat.reduceEqDiff, Nat.reduceLeDiff, Nat.reduceLT, Nat.reduceBEq, Nat.reduceBNe, ↓reduceIte, reduceIte, spBe, progS, lessS, msA, nro, isNilS] at h; obtain ⟨rfl, rfl, rfl, rfl⟩ := h; refine ⟨?_, ?_⟩)
    | ((with_reducible refine Ob.mk ?_); first | exact trivial | (intros; omega) | ((repeat' first | apply And.intro | (intro hg; have hg' := hg; try simp only [zH] at hg')) <;> first | assumption | omega | (simp only [zH]; omega)))
  refine awp_nro 4 rfl rfl ?_
  refine awp_loopC (τ := Nat) (fun r => r ≤ rw.length) (fun r => ⟨13, [(21, .int .i64 r), (20, .int .i64 rw.length), (19, .roI rw), (11, .int .i64 (C r)), (10, .own 4), (8, .own 2), (5, .rop (.agg (.cons (.roI o) (.cons (.roI p) (.cons (.roII x) .nil))))), (4, .rop (.agg (.cons (.roI odd) (.cons (.roI many) .nil)))), (2, .ro 2 o.length (fun j => msA (F j))), (3, .int .i64 v)],
    [(2, some (.box (.agg (.cons (.bool false) (.cons (.cst (Value.slice none 0 0)) .nil))))), (4, some (.box (msA (if r = 0 then (false, []) else deM many (B r)))))], []⟩) (fun r => rw.length - r) 0 [] ?_ (Nat.zero_le _) ?_
  · (refine ⟨rfl, ?_, ?_⟩ <;> simp only [zE0, zE1, zE2, zE3, zE4, zE5, evp, evx, ev1, evLoad, evStore, evBin, isBoolK, forall_const, z38, tb, Nat.reduceAdd, Nat.reduceSub, Nat.reduceMul, Nat.reduceEqDiff, Nat.reduceLeDiff, Nat.reduceLT, Nat.reduceBEq, Nat.reduceBNe, ↓reduceIte, reduceIte, spBe, progS, lessS, msA, nro, isNilS, zI])
    exact ⟨by rw [hrw], hrw.symm, hc0⟩
  intro r hr
  repeat' first
    | with_reducible first | refine awp_seq ?_ | refine awp_block ?_ | refine next_then ?_ | refine next_block ?_ | refine exit_then ?_ | refine ret_then ?_ | refine ret_block ?_ | refine exit_here ?_ | refine awp_exit ?_ | refine awp_ret ?_ | refine awp_skip ?_ | refine awp_label ?_ | refine next_noGoto ?_ | refine ret_noGoto ?_ | refine exit_noGoto ?_ | refine awp_scope ?_
    | ((with_reducible refine exit_past ?_ ?_); exact rfl)
    | ((with_reducible refine isCond ?_); refine awp_condO rfl ?_ ?_ <;> intro hb <;> (try simp only [zH] at hb))
    | ((with_reducible refine isRegS 7 ?_ ?_); (· exact rfl); (with_reducible refine isRegS 10 ?_ ?_); (· exact rfl); (first | refine awp_textM htb hmz spBe_ok (fun _ => false) rfl rfl ?_ | refine awp_drawM hmo htb hmz spBe_ok (fun _ => false) rfl rfl (by kernel_rfl) ?_); intro m' e' l' ob h; simp only [zE0, zE1, zE2, zE3, zE4, zE5, evp, evx, ev1, evLoad, evStore, evBin, isBoolK, forall_const, z38, tb, Nat.reduceAdd, Nat.reduceSub, Nat.reduceMul, Nat.reduceEqDiff, Nat.reduceLeDiff, Nat.reduceLT, Nat.reduceBEq, Nat.reduceBNe, ↓reduceIte, reduceIte, spBe, progS, lessS, msA, nro, isNilS] at h; obtain ⟨rfl, rfl, rfl, rfl⟩ := h; refine ⟨?_, ?_⟩)
    | ((with_reducible refine Ob.mk ?_); first | exact trivial | (intros; omega) | ((repeat' first | apply And.intro | (intro hg; have hg' := hg; try simp only [zH] at hg')) <;> first | assumption | omega | (simp only [zH]; omega)))
  · have hrr : r < rw.length := by omega
    have h1 := hrb r hrr
    exact Ob.mk ⟨⟨h1, by omega, by omega⟩, hS1, hS2, hS3, hS4, hok _ (by omega), hpr.1⟩
  · have hrr : r < rw.length := by omega
    have h1 := hrb r hrr
    simp only [peta]
    rw [← hask r hrr]
    have hcd : (C r < 0 ∨ (lessM (deM many (A r)) (if r = 0 then (false, []) else deM many (B r)) == decide (o.getD v 0 = 0)) = true ∧ (lessM (deM many (A r)) (if r = 0 then (false, []) else deM many (B r)) = true ∨ lessM (if r = 0 then (false, []) else deM many (B r)) (deM many (A r)) = true)) ↔ (r = 0 ∨ (o.getD v 0 = 0 ∧ A r < B r) ∨ (o.getD v 0 ≠ 0 ∧ B r < A r)) := by
      by_cases hr0 : r = 0
      · subst hr0; rw [hc0]; exact ⟨fun _ => .inl rfl, fun _ => .inl (by decide)⟩
      · have h2 := haskb r hrr
        have h3 := hbb r hr (by omega)
        have h4 := hcc r (by omega) hr
        rw [if_neg hr0, lessM_V hS4 h2.1 h2.2 h3.1 h3.2, lessM_V hS4 h3.1 h3.2 h2.1 h2.2]
        simp only [beq_iff_eq, decide_eq_decide, decide_eq_true_eq]
        by_cases e : o.getD v 0 = 0
        · simp only [e, iff_true, true_and, ne_eq, not_true_eq_false, false_and, or_false]
          omega
        · simp only [e, iff_false, ne_eq, not_false_eq_true, true_and, false_and, false_or]
          omega
    have hbn := hb1 r
    have hcn := hc1 r
    generalize hO : (if r = 0 then (false, []) else deM many (B r)) = O at *
    generalize hM : deM many (A r) = M at *
    repeat' first
      | with_reducible first | refine awp_seq ?_ | refine awp_block ?_ | refine next_then ?_ | refine next_block ?_ | refine exit_then ?_ | refine ret_then ?_ | refine ret_block ?_ | refine exit_here ?_ | refine awp_exit ?_ | refine awp_ret ?_ | refine awp_skip ?_ | refine awp_label ?_ | refine next_noGoto ?_ | refine ret_noGoto ?_ | refine exit_noGoto ?_ | refine awp_scope ?_
      | ((with_reducible refine exit_past ?_ ?_); exact rfl)
      | ((with_reducible refine isCond ?_); refine awp_condO rfl ?_ ?_ <;> intro hb <;> (try simp only [zH] at hb))
      | ((with_reducible refine isReg ?_); (first | refine awp_textM htb hmz spBe_ok (fun _ => false) rfl rfl ?_ | refine awp_drawM hmo htb hmz spBe_ok (fun _ => false) rfl rfl (by kernel_rfl) ?_); intro m' e' l' ob h; simp only [zE0, zE1, zE2, zE3, zE4, zE5, evp, evx, ev1, evLoad, evStore, evBin, isBoolK, forall_const, z38, tb, Nat.reduceAdd, Nat.reduceSub, Nat.reduceMul, Nat.reduceEqDiff, Nat.reduceLeDiff, Nat.reduceLT, Nat.reduceBEq, Nat.reduceBNe, ↓reduceIte, reduceIte, spBe, progS, lessS, msA, nro, isNilS] at h; obtain ⟨rfl, rfl, rfl, rfl⟩ := h; refine ⟨?_, ?_⟩)
      | ((with_reducible refine Ob.mk ?_); first | exact trivial | (intros; omega) | ((repeat' first | apply And.intro | (intro hg; have hg' := hg; try simp only [zH] at hg')) <;> first | assumption | omega | (simp only [zH]; omega)))
    · refine Ob.mk ⟨⟨fun h => ⟨h, by omega, by omega⟩, ?_⟩, ?_⟩
      · generalize decide (C r < 0) = b1
        generalize lessM (M.1, M.2) (O.1, O.2) = b2
        generalize decide (o.getD v 0 = 0) = b3
        cases b1 <;> cases b2 <;> cases b3 <;> decide
      · generalize decide (C r < 0) = b1
        generalize lessM (M.1, M.2) (O.1, O.2) = b2
        generalize decide (o.getD v 0 = 0) = b3
        cases b1 <;> cases b2 <;> cases b3 <;> decide
    · have hc := hcd.1 hb
      rw [if_pos hc] at hbn hcn
      refine back (r + 1) [] ?_ (by omega) (by omega)
      (refine ⟨rfl, ?_, ?_⟩ <;> simp only [zE0, zE1, zE2, zE3, zE4, zE5, evp, evx, ev1, evLoad, evStore, evBin, isBoolK, forall_const, z38, tb, Nat.reduceAdd, Nat.reduceSub, Nat.reduceMul, Nat.reduceEqDiff, Nat.reduceLeDiff, Nat.reduceLT, Nat.reduceBEq, Nat.reduceBNe, ↓reduceIte, reduceIte, spBe, progS, lessS, msA, nro, isNilS, zI])
      · exact hcn
      · rw [hbn, hM]; exact ⟨rfl, rfl⟩
    · have hc : ¬ (r = 0 ∨ (o.getD v 0 = 0 ∧ A r < B r) ∨ (o.getD v 0 ≠ 0 ∧ B r < A r)) := fun h => by
        rcases hcd.2 h with h | ⟨h, h'⟩
        · omega
        · rcases hb.2 with h3 | ⟨h3, h4⟩
          · rw [show lessM M O = lessM (M.1, M.2) (O.1, O.2) from rfl, h3] at h; cases h
          · rcases h' with h' | h'
            · rw [show lessM M O = lessM (M.1, M.2) (O.1, O.2) from rfl, h3] at h'; cases h'
            · rw [show lessM O M = lessM (O.1, O.2) (M.1, M.2) from rfl, h4] at h'; cases h'
      rw [if_neg hc] at hbn hcn
      have hr0 : r ≠ 0 := fun e => hc (.inl e)
      rw [if_neg hr0] at hO
      refine back (r + 1) [] ?_ (by omega) (by omega)
      (refine ⟨rfl, ?_, ?_⟩ <;> simp only [zE0, zE1, zE2, zE3, zE4, zE5, evp, evx, ev1, evLoad, evStore, evBin, isBoolK, forall_const, z38, tb, Nat.reduceAdd, Nat.reduceSub, Nat.reduceMul, Nat.reduceEqDiff, Nat.reduceLeDiff, Nat.reduceLT, Nat.reduceBEq, Nat.reduceBNe, ↓reduceIte, reduceIte, spBe, progS, lessS, msA, nro, isNilS, zI])
      · exact hcn
      · rw [hbn, hO]; exact ⟨rfl, rfl⟩
  have hre : r = rw.length := by omega
  subst hre
  rw [if_neg (by omega)]
  repeat' first
    | with_reducible first | refine awp_seq ?_ | refine awp_block ?_ | refine next_then ?_ | refine next_block ?_ | refine exit_then ?_ | refine ret_then ?_ | refine ret_block ?_ | refine exit_here ?_ | refine awp_exit ?_ | refine awp_ret ?_ | refine awp_skip ?_ | refine awp_label ?_ | refine next_noGoto ?_ | refine ret_noGoto ?_ | refine exit_noGoto ?_ | refine awp_scope ?_
    | ((with_reducible refine exit_past ?_ ?_); exact rfl)
    | ((with_reducible refine isCond ?_); refine awp_condO rfl ?_ ?_ <;> intro hb <;> (try simp only [zH] at hb))
    | ((with_reducible refine isReg ?_); (first | refine awp_textM htb hmz spBe_ok (fun _ => false) rfl rfl ?_ | refine awp_drawM hmo htb hmz spBe_ok (fun _ => false) rfl rfl (by kernel_rfl) ?_); intro m' e' l' ob h; simp only [zE0, zE1, zE2, zE3, zE4, zE5, evp, evx, ev1, evLoad, evStore, evBin, isBoolK, forall_const, z38, tb, Nat.reduceAdd, Nat.reduceSub, Nat.reduceMul, Nat.reduceEqDiff, Nat.reduceLeDiff, Nat.reduceLT, Nat.reduceBEq, Nat.reduceBNe, ↓reduceIte, reduceIte, spBe, progS, lessS, msA, nro, isNilS] at h; obtain ⟨rfl, rfl, rfl, rfl⟩ := h; refine ⟨?_, ?_⟩)
    | ((with_reducible refine Ob.mk ?_); first | exact trivial | (intros; omega) | ((repeat' first | apply And.intro | (intro hg; have hg' := hg; try simp only [zH] at hg')) <;> first | assumption | omega | (simp only [zH]; omega)))
  refine fin_ret rfl rfl (spec_flat rfl ?_ rfl)
  rfl
set_option maxRecDepth 4000 in
set_option maxHeartbeats 4000000 in
theorem best_fg {odd many o p : List Int} {x : List (List Int)} {F : Nat → Bool × List Int} {v : Nat} (hS : SOK odd many) (hv : validB ⟨o, p, x⟩ = true) (hok : ∀ j, j < o.length → okM many (F j)) (hvn : v < o.length) :
    FG Try.prog 49 [.agg (.cons (.roI odd) (.cons (.roI many) .nil)), .agg (.cons (.roI o) (.cons (.roI p) (.cons (.roII x) .nil))), .own 0, .int .i64 v] [(0, some (.avs 2 o.length fun j => msA (F j)))] 1
      fun g => g = ⟨1, .tup (.cons (msA (deM many (bestV ⟨o, p, x⟩ odd many (mlF many o.length F) v))) (.cons (.int .i64 (bC ⟨o, p, x⟩ odd many (mlF many o.length F) v (x.getD v []).length)) .nil)), [(0, some (.avs 2 o.length fun j => msA (F j)))]⟩ := by
  refine fg_of htb (fn := Try.f49) (by kernel_rfl) (by kernel_rfl) rfl (Nat.le_of_ble_eq_true rfl) fun hl => ?_
  simp only [lenP, mkL, lim] at hl
  have hV := validB_iff.1 hv
  obtain ⟨hn, hpl, hxl, hpos⟩ := id hV
  simp only [Gm.n] at hn hpl hxl
  have hrl : (x.getD v []).length ≤ 64 ∧ 1 ≤ (x.getD v []).length := by
    obtain ⟨⟨a1, a2, a3, a4, a5, a6⟩, _⟩ := hpos v (by simp only [Gm.n]; omega)
    exact ⟨a6, a5⟩
  have hrb : ∀ j, j < (x.getD v []).length → 0 ≤ (x.getD v []).getD j 0 ∧ (x.getD v []).getD j 0 < o.length := fun j hj => by
    obtain ⟨_, hr⟩ := hpos v (by simp only [Gm.n]; omega)
    exact ⟨(hr j hj).1, (hr j hj).2.1⟩
  have hpr : 0 ≤ p.getD v 0 ∧ p.getD v 0 ≤ 60 := by
    obtain ⟨⟨a1, a2, a3, a4, _, a6⟩, _⟩ := hpos v (by simp only [Gm.n]; omega)
    exact ⟨a3, a4⟩
  have how : 0 ≤ o.getD v 0 ∧ o.getD v 0 ≤ 1 := by
    obtain ⟨⟨a1, a2, a3, a4, _, a6⟩, _⟩ := hpos v (by simp only [Gm.n]; omega)
    exact ⟨a1, a2⟩
  generalize hL : mlF many o.length F = L
  have hLg : ∀ j, j < o.length → L.getD j 0 = enM many (F j) := fun j hj => by rw [← hL]; exact mlF_get hj
  have hask : ∀ r, r < (x.getD v []).length → askV ⟨o, p, x⟩ odd many L v r = progV odd many (enM many (F ((x.getD v []).getD r 0).toNat)) (p.getD v 0) := fun r hr => by
    have h1 := hrb r hr
    show progV odd many (L.getD ((x.getD v []).getD r 0).toNat 0) (p.getD v 0) = _
    rw [hLg _ (by omega)]
  have haskb : ∀ r, r < (x.getD v []).length → 0 ≤ askV ⟨o, p, x⟩ odd many L v r ∧ askV ⟨o, p, x⟩ odd many L v r ≤ rpr many := fun r hr => by
    have h1 := hrb r hr
    have h2 := okM_bd hS.ps (hok ((x.getD v []).getD r 0).toNat (by omega))
    rw [hask r hr]
    exact progV_bd hS.ps h2.1 h2.2
  have hbb : ∀ r, r ≤ (x.getD v []).length → 0 < r → 0 ≤ bB ⟨o, p, x⟩ odd many L v r ∧ bB ⟨o, p, x⟩ odd many L v r ≤ rpr many := fun r hr h0 => by
    by_cases h : o.getD v 0 = 0
    · obtain ⟨_, i, h1, h2⟩ := bB_min (g := ⟨o, p, x⟩) (odd := odd) (many := many) (l := L) h h0
      rw [h2]; exact haskb i (by omega)
    · obtain ⟨_, i, h1, h2⟩ := bB_max (g := ⟨o, p, x⟩) (odd := odd) (many := many) (l := L) h h0
      rw [h2]; exact haskb i (by omega)
  have hcc : ∀ r, 0 < r → r ≤ (x.getD v []).length → 0 ≤ bC ⟨o, p, x⟩ odd many L v r := by
    intro r
    induction r with
    | zero => intro h; exact absurd h (Nat.lt_irrefl _)
    | succ r ih =>
      intro _ hr
      unfold bC
      split
      · exact (hrb r (by omega)).1
      · rename_i h
        have : r ≠ 0 := fun e => h (.inl e)
        exact ih (by omega) (by omega)
  have hb1 : ∀ r, bB ⟨o, p, x⟩ odd many L v (r + 1) = if r = 0 ∨ (o.getD v 0 = 0 ∧ askV ⟨o, p, x⟩ odd many L v r < bB ⟨o, p, x⟩ odd many L v r) ∨ (o.getD v 0 ≠ 0 ∧ bB ⟨o, p, x⟩ odd many L v r < askV ⟨o, p, x⟩ odd many L v r) then askV ⟨o, p, x⟩ odd many L v r else bB ⟨o, p, x⟩ odd many L v r := fun r => rfl
  have hc1 : ∀ r, bC ⟨o, p, x⟩ odd many L v (r + 1) = if r = 0 ∨ (o.getD v 0 = 0 ∧ askV ⟨o, p, x⟩ odd many L v r < bB ⟨o, p, x⟩ odd many L v r) ∨ (o.getD v 0 ≠ 0 ∧ bB ⟨o, p, x⟩ odd many L v r < askV ⟨o, p, x⟩ odd many L v r) then (x.getD v []).getD r 0 else bC ⟨o, p, x⟩ odd many L v r := fun r => rfl
  have hc0 : bC ⟨o, p, x⟩ odd many L v 0 = -1 := rfl
  have hbe : bestV ⟨o, p, x⟩ odd many L v = bB ⟨o, p, x⟩ odd many L v (x.getD v []).length := rfl
  rw [hbe]
  generalize askV ⟨o, p, x⟩ odd many L v = A at *
  generalize bB ⟨o, p, x⟩ odd many L v = B at *
  generalize bC ⟨o, p, x⟩ odd many L v = C at *
  generalize hrw : x.getD v [] = rw at *
  have hS1 := hS.len
  have hS2 := hS.l100
  have hS3 := hS.bd
  have hS4 := hS.ps
  repeat' first
    | with_reducible first | refine awp_seq ?_ | refine awp_block ?_ | refine next_then ?_ | refine next_block ?_ | refine exit_then ?_ | refine ret_then ?_ | refine ret_block ?_ | refine exit_here ?_ | refine awp_exit ?_ | refine awp_ret ?_ | refine awp_skip ?_ | refine awp_label ?_ | refine next_noGoto ?_ | refine ret_noGoto ?_ | refine exit_noGoto ?_ | refine awp_scope ?_
    | ((with_reducible refine exit_past ?_ ?_); exact rfl)
    | ((with_reducible refine isCond ?_); refine awp_condO rfl ?_ ?_ <;> intro hb <;> (try simp only [zH] at hb))
    | ((with_reducible refine isReg ?_); (first | refine awp_textM htb hmz spBe_ok (fun _ => false) rfl rfl ?_ | refine awp_drawM hmo htb hmz spBe_ok (fun _ => false) rfl rfl (by kernel_rfl) ?_); intro m' e' l' ob h; simp only [zE0, zE1, zE2, zE3, zE4, zE5, evp, evx, ev1, evLoad, evStore, evBin, isBoolK, forall_const, z38, tb, Nat.reduceAdd, Nat.reduceSub, Nat.reduceMul, Nat.reduceEqDiff, Nat.reduceLeDiff, Nat.reduceLT, Nat.reduceBEq, Nat.reduceBNe, ↓reduceIte, reduceIte, spBe, progS, lessS, msA, nro, isNilS] at h; obtain ⟨rfl, rfl, rfl, rfl⟩ := h; refine ⟨?_, ?_⟩)
    | ((with_reducible refine Ob.mk ?_); first | exact trivial | (intros; omega) | ((repeat' first | apply And.intro | (intro hg; have hg' := hg; try simp only [zH] at hg')) <;> first | assumption | omega | (simp only [zH]; omega)))
  refine awp_nro 5 rfl rfl ?_
  refine awp_loopC (τ := Nat) (fun r => r ≤ rw.length) (fun r => ⟨14, [(21, .int .i64 r), (20, .int .i64 rw.length), (19, .roI rw), (11, .int .i64 (C r)), (10, .own 5), (8, .own 3), (5, .rop (.agg (.cons (.roI o) (.cons (.roI p) (.cons (.roII x) .nil))))), (4, .rop (.agg (.cons (.roI odd) (.cons (.roI many) .nil)))), (2, .own 0), (3, .int .i64 v)],
    [(0, some (.avs 2 o.length fun j => msA (F j))),(3, some (.box (.agg (.cons (.bool false) (.cons (.cst (Value.slice none 0 0)) .nil))))), (5, some (.box (msA (if r = 0 then (false, []) else deM many (B r)))))], []⟩) (fun r => rw.length - r) 0 [] ?_ (Nat.zero_le _) ?_
  · (refine ⟨rfl, ?_, ?_⟩ <;> simp only [zE0, zE1, zE2, zE3, zE4, zE5, evp, evx, ev1, evLoad, evStore, evBin, isBoolK, forall_const, z38, tb, Nat.reduceAdd, Nat.reduceSub, Nat.reduceMul, Nat.reduceEqDiff, Nat.reduceLeDiff, Nat.reduceLT, Nat.reduceBEq, Nat.reduceBNe, ↓reduceIte, reduceIte, spBe, progS, lessS, msA, nro, isNilS, zI])
    exact ⟨by rw [hrw], hrw.symm, hc0⟩
  intro r hr
  repeat' first
    | with_reducible first | refine awp_seq ?_ | refine awp_block ?_ | refine next_then ?_ | refine next_block ?_ | refine exit_then ?_ | refine ret_then ?_ | refine ret_block ?_ | refine exit_here ?_ | refine awp_exit ?_ | refine awp_ret ?_ | refine awp_skip ?_ | refine awp_label ?_ | refine next_noGoto ?_ | refine ret_noGoto ?_ | refine exit_noGoto ?_ | refine awp_scope ?_
    | ((with_reducible refine exit_past ?_ ?_); exact rfl)
    | ((with_reducible refine isCond ?_); refine awp_condO rfl ?_ ?_ <;> intro hb <;> (try simp only [zH] at hb))
    | ((with_reducible refine isRegS 7 ?_ ?_); (· exact rfl); (with_reducible refine isRegS 10 ?_ ?_); (· exact rfl); (first | refine awp_textM htb hmz spBe_ok (fun _ => false) rfl rfl ?_ | refine awp_drawM hmo htb hmz spBe_ok (fun _ => false) rfl rfl (by kernel_rfl) ?_); intro m' e' l' ob h; simp only [zE0, zE1, zE2, zE3, zE4, zE5, evp, evx, ev1, evLoad, evStore, evBin, isBoolK, forall_const, z38, tb, Nat.reduceAdd, Nat.reduceSub, Nat.reduceMul, Nat.reduceEqDiff, Nat.reduceLeDiff, Nat.reduceLT, Nat.reduceBEq, Nat.reduceBNe, ↓reduceIte, reduceIte, spBe, progS, lessS, msA, nro, isNilS] at h; obtain ⟨rfl, rfl, rfl, rfl⟩ := h; refine ⟨?_, ?_⟩)
    | ((with_reducible refine Ob.mk ?_); first | exact trivial | (intros; omega) | ((repeat' first | apply And.intro | (intro hg; have hg' := hg; try simp only [zH] at hg')) <;> first | assumption | omega | (simp only [zH]; omega)))
  · have hrr : r < rw.length := by omega
    have h1 := hrb r hrr
    exact Ob.mk ⟨⟨⟨h1, by omega⟩, by omega, by omega⟩, hS1, hS2, hS3, hS4, hok _ (by omega), hpr.1⟩
  · have hrr : r < rw.length := by omega
    have h1 := hrb r hrr
    simp only [peta]
    rw [← hask r hrr]
    have hcd : (C r < 0 ∨ (lessM (deM many (A r)) (if r = 0 then (false, []) else deM many (B r)) == decide (o.getD v 0 = 0)) = true ∧ (lessM (deM many (A r)) (if r = 0 then (false, []) else deM many (B r)) = true ∨ lessM (if r = 0 then (false, []) else deM many (B r)) (deM many (A r)) = true)) ↔ (r = 0 ∨ (o.getD v 0 = 0 ∧ A r < B r) ∨ (o.getD v 0 ≠ 0 ∧ B r < A r)) := by
      by_cases hr0 : r = 0
      · subst hr0; rw [hc0]; exact ⟨fun _ => .inl rfl, fun _ => .inl (by decide)⟩
      · have h2 := haskb r hrr
        have h3 := hbb r hr (by omega)
        have h4 := hcc r (by omega) hr
        rw [if_neg hr0, lessM_V hS4 h2.1 h2.2 h3.1 h3.2, lessM_V hS4 h3.1 h3.2 h2.1 h2.2]
        simp only [beq_iff_eq, decide_eq_decide, decide_eq_true_eq]
        by_cases e : o.getD v 0 = 0
        · simp only [e, iff_true, true_and, ne_eq, not_true_eq_false, false_and, or_false]
          omega
        · simp only [e, iff_false, ne_eq, not_false_eq_true, true_and, false_and, false_or]
          omega
    have hbn := hb1 r
    have hcn := hc1 r
    generalize hO : (if r = 0 then (false, []) else deM many (B r)) = O at *
    generalize hM : deM many (A r) = M at *
    repeat' first
      | with_reducible first | refine awp_seq ?_ | refine awp_block ?_ | refine next_then ?_ | refine next_block ?_ | refine exit_then ?_ | refine ret_then ?_ | refine ret_block ?_ | refine exit_here ?_ | refine awp_exit ?_ | refine awp_ret ?_ | refine awp_skip ?_ | refine awp_label ?_ | refine next_noGoto ?_ | refine ret_noGoto ?_ | refine exit_noGoto ?_ | refine awp_scope ?_
      | ((with_reducible refine exit_past ?_ ?_); exact rfl)
      | ((with_reducible refine isCond ?_); refine awp_condO rfl ?_ ?_ <;> intro hb <;> (try simp only [zH] at hb))
      | ((with_reducible refine isReg ?_); (first | refine awp_textM htb hmz spBe_ok (fun _ => false) rfl rfl ?_ | refine awp_drawM hmo htb hmz spBe_ok (fun _ => false) rfl rfl (by kernel_rfl) ?_); intro m' e' l' ob h; simp only [zE0, zE1, zE2, zE3, zE4, zE5, evp, evx, ev1, evLoad, evStore, evBin, isBoolK, forall_const, z38, tb, Nat.reduceAdd, Nat.reduceSub, Nat.reduceMul, Nat.reduceEqDiff, Nat.reduceLeDiff, Nat.reduceLT, Nat.reduceBEq, Nat.reduceBNe, ↓reduceIte, reduceIte, spBe, progS, lessS, msA, nro, isNilS] at h; obtain ⟨rfl, rfl, rfl, rfl⟩ := h; refine ⟨?_, ?_⟩)
      | ((with_reducible refine Ob.mk ?_); first | exact trivial | (intros; omega) | ((repeat' first | apply And.intro | (intro hg; have hg' := hg; try simp only [zH] at hg')) <;> first | assumption | omega | (simp only [zH]; omega)))
    · refine Ob.mk ⟨⟨fun h => ⟨h, by omega, by omega⟩, ?_⟩, ?_⟩
      · generalize decide (C r < 0) = b1
        generalize lessM (M.1, M.2) (O.1, O.2) = b2
        generalize decide (o.getD v 0 = 0) = b3
        cases b1 <;> cases b2 <;> cases b3 <;> decide
      · generalize decide (C r < 0) = b1
        generalize lessM (M.1, M.2) (O.1, O.2) = b2
        generalize decide (o.getD v 0 = 0) = b3
        cases b1 <;> cases b2 <;> cases b3 <;> decide
    · have hc := hcd.1 hb
      rw [if_pos hc] at hbn hcn
      refine back (r + 1) [] ?_ (by omega) (by omega)
      (refine ⟨rfl, ?_, ?_⟩ <;> simp only [zE0, zE1, zE2, zE3, zE4, zE5, evp, evx, ev1, evLoad, evStore, evBin, isBoolK, forall_const, z38, tb, Nat.reduceAdd, Nat.reduceSub, Nat.reduceMul, Nat.reduceEqDiff, Nat.reduceLeDiff, Nat.reduceLT, Nat.reduceBEq, Nat.reduceBNe, ↓reduceIte, reduceIte, spBe, progS, lessS, msA, nro, isNilS, zI])
      · exact hcn
      · rw [hbn, hM]; exact ⟨rfl, rfl⟩
    · have hc : ¬ (r = 0 ∨ (o.getD v 0 = 0 ∧ A r < B r) ∨ (o.getD v 0 ≠ 0 ∧ B r < A r)) := fun h => by
        rcases hcd.2 h with h | ⟨h, h'⟩
        · omega
        · rcases hb.2 with h3 | ⟨h3, h4⟩
          · rw [show lessM M O = lessM (M.1, M.2) (O.1, O.2) from rfl, h3] at h; cases h
          · rcases h' with h' | h'
            · rw [show lessM M O = lessM (M.1, M.2) (O.1, O.2) from rfl, h3] at h'; cases h'
            · rw [show lessM O M = lessM (O.1, O.2) (M.1, M.2) from rfl, h4] at h'; cases h'
      rw [if_neg hc] at hbn hcn
      have hr0 : r ≠ 0 := fun e => hc (.inl e)
      rw [if_neg hr0] at hO
      refine back (r + 1) [] ?_ (by omega) (by omega)
      (refine ⟨rfl, ?_, ?_⟩ <;> simp only [zE0, zE1, zE2, zE3, zE4, zE5, evp, evx, ev1, evLoad, evStore, evBin, isBoolK, forall_const, z38, tb, Nat.reduceAdd, Nat.reduceSub, Nat.reduceMul, Nat.reduceEqDiff, Nat.reduceLeDiff, Nat.reduceLT, Nat.reduceBEq, Nat.reduceBNe, ↓reduceIte, reduceIte, spBe, progS, lessS, msA, nro, isNilS, zI])
      · exact hcn
      · rw [hbn, hO]; exact ⟨rfl, rfl⟩
  have hre : r = rw.length := by omega
  subst hre
  rw [if_neg (by omega)]
  repeat' first
    | with_reducible first | refine awp_seq ?_ | refine awp_block ?_ | refine next_then ?_ | refine next_block ?_ | refine exit_then ?_ | refine ret_then ?_ | refine ret_block ?_ | refine exit_here ?_ | refine awp_exit ?_ | refine awp_ret ?_ | refine awp_skip ?_ | refine awp_label ?_ | refine next_noGoto ?_ | refine ret_noGoto ?_ | refine exit_noGoto ?_ | refine awp_scope ?_
    | ((with_reducible refine exit_past ?_ ?_); exact rfl)
    | ((with_reducible refine isCond ?_); refine awp_condO rfl ?_ ?_ <;> intro hb <;> (try simp only [zH] at hb))
    | ((with_reducible refine isReg ?_); (first | refine awp_textM htb hmz spBe_ok (fun _ => false) rfl rfl ?_ | refine awp_drawM hmo htb hmz spBe_ok (fun _ => false) rfl rfl (by kernel_rfl) ?_); intro m' e' l' ob h; simp only [zE0, zE1, zE2, zE3, zE4, zE5, evp, evx, ev1, evLoad, evStore, evBin, isBoolK, forall_const, z38, tb, Nat.reduceAdd, Nat.reduceSub, Nat.reduceMul, Nat.reduceEqDiff, Nat.reduceLeDiff, Nat.reduceLT, Nat.reduceBEq, Nat.reduceBNe, ↓reduceIte, reduceIte, spBe, progS, lessS, msA, nro, isNilS] at h; obtain ⟨rfl, rfl, rfl, rfl⟩ := h; refine ⟨?_, ?_⟩)
    | ((with_reducible refine Ob.mk ?_); first | exact trivial | (intros; omega) | ((repeat' first | apply And.intro | (intro hg; have hg' := hg; try simp only [zH] at hg')) <;> first | assumption | omega | (simp only [zH]; omega)))
  refine fin_ret rfl rfl (gq_of (⟨1, .tup (.cons (msA (deM many (B rw.length))) (.cons (.int .i64 (C rw.length)) .nil)), [(0, some (.avs 2 o.length fun j => msA (F j)))]⟩) ([]) rfl rfl (imp_eq rfl) ?_)
  simp only [grR, zE0, zE1, zE2, zE3, zE4, zE5, evp, evx, ev1, evLoad, evStore, evBin, isBoolK, forall_const, z38, tb, Nat.reduceAdd, Nat.reduceSub, Nat.reduceMul, Nat.reduceEqDiff, Nat.reduceLeDiff, Nat.reduceLT, Nat.reduceBEq, Nat.reduceBNe, ↓reduceIte, reduceIte, spBe, progS, lessS, msA, nro, isNilS]
end Go.Proofs.Ytgminhedbeblpaa.Cal
namespace Go.Proofs.Ytgminhedbeblpaa.Cal
open Go Pl
set_option maxRecDepth 4000 in
set_option maxHeartbeats 4000000 in
theorem queue1_fg {τ : Type} (I : τ → Prop) (ql : τ → List Int) (ms : τ → Nat) (A : τ → SemA) (hq : ∀ t, I t → (ql t).length ≤ 1000000000)
    (hY : ∀ t, I t → 0 < (ql t).length → YCall Try.prog [.int .i64 ((ql t).getD 0 0)] [(1, some (.box (.own 2))), (2, some (.ints ((ql t).drop 1))), (3, some (.sem [0, 1] (A t)))] 4
      (fun g => ∃ t', I t' ∧ ms t' < ms t ∧ g = ⟨5, .bool true, [(1, some (.box (.own 4))), (4, some (.ints (ql t'))), (3, some (.sem [0, 1] (A t')))]⟩))
    (t0 : τ) (h0 : I t0) :
    FG Try.prog 60 [.yld 0, .own 1] [(1, some (.box (.own 2))), (2, some (.box (.own 3))), (3, some (.ints (ql t0))), (4, some (.sem [0, 2] (A t0)))] 5
      (fun g => ∃ t', I t' ∧ ql t' = [] ∧ g = ⟨6, resV [], [(1, some (.box (.own 2))), (2, some (.box (.own 5))), (5, some (.ints (ql t'))), (4, some (.sem [0, 2] (A t')))]⟩) := by
  refine fg_of htb (fn := Try.f60) (by kernel_rfl) (by kernel_rfl) rfl (Nat.le_of_ble_eq_true rfl) fun hl => ?_
  simp only [lenP, mkL, lim] at hl
  repeat' first
    | with_reducible first | refine awp_seq ?_ | refine awp_block ?_ | refine next_then ?_ | refine next_block ?_ | refine exit_then ?_ | refine ret_then ?_ | refine ret_block ?_ | refine exit_here ?_ | refine awp_exit ?_ | refine awp_ret ?_ | refine awp_skip ?_ | refine awp_label ?_ | refine next_noGoto ?_ | refine ret_noGoto ?_ | refine exit_noGoto ?_ | refine awp_scope ?_
    | ((with_reducible refine exit_past ?_ ?_); exact rfl)
    | ((with_reducible refine isCond ?_); refine awp_condO rfl ?_ ?_ <;> intro hb <;> (try simp only [zH] at hb))
    | ((with_reducible refine isReg ?_); (first | refine awp_textM htb hmz noSp (fun _ => false) rfl rfl ?_ | refine awp_drawM hmo htb hmz noSp (fun _ => false) rfl rfl (by kernel_rfl) ?_); intro m' e' l' ob h; simp only [zE0, zE1, zE2, zE3, zE4, zE5, evp, evx, ev1, evLoad, evStore, evBin, isBoolK, forall_const, z38, tb, Nat.reduceAdd, Nat.reduceSub, Nat.reduceMul, Nat.reduceEqDiff, Nat.reduceLeDiff, Nat.reduceLT, Nat.reduceBEq, Nat.reduceBNe, ↓reduceIte, reduceIte] at h; obtain ⟨rfl, rfl, rfl, rfl⟩ := h; refine ⟨?_, ?_⟩)
    | ((with_reducible refine Ob.mk ?_); first | exact trivial | (intros; omega) | ((repeat' first | apply And.intro | (intro hg; have hg' := hg; try simp only [zH] at hg')) <;> first | assumption | omega | (simp only [zH]; omega)))
  refine awp_loopC I (fun t => ⟨6, [(0, .yld 0), (1, .own 1)], [(1, some (.box (.own 2))), (2, some (.box (.own 5))), (5, some (.ints (ql t))), (4, some (.sem [0, 2] (A t)))], []⟩) ms t0 [(5, 3)] ?_ h0 ?_
  · refine ⟨rfl, ?_, ?_⟩ <;> simp only [zE0, zE1, zE2, zE3, zE4, zE5, evp, evx, ev1, evLoad, evStore, evBin, isBoolK, forall_const, z38, tb, Nat.reduceAdd, Nat.reduceSub, Nat.reduceMul, Nat.reduceEqDiff, Nat.reduceLeDiff, Nat.reduceLT, Nat.reduceBEq, Nat.reduceBNe, ↓reduceIte, reduceIte, zI]
    intro k hk
    simp only [List.mem_cons, List.not_mem_nil, or_false] at hk
    simp only [decide_eq_true_eq]
    omega
  intro t ht
  have hq := hq t ht
  repeat' first
    | with_reducible first | refine awp_seq ?_ | refine awp_block ?_ | refine next_then ?_ | refine next_block ?_ | refine exit_then ?_ | refine ret_then ?_ | refine ret_block ?_ | refine exit_here ?_ | refine awp_exit ?_ | refine awp_ret ?_ | refine awp_skip ?_ | refine awp_label ?_ | refine next_noGoto ?_ | refine ret_noGoto ?_ | refine exit_noGoto ?_ | refine awp_scope ?_
    | ((with_reducible refine exit_past ?_ ?_); exact rfl)
    | ((with_reducible refine isCond ?_); refine awp_condO rfl ?_ ?_ <;> intro hb <;> (try simp only [zH] at hb))
    | ((with_reducible refine isRegS 3 ?_ ?_); (· exact rfl); (first | refine awp_textM htb hmz noSp (fun _ => false) rfl rfl ?_ | refine awp_drawM hmo htb hmz noSp (fun _ => false) rfl rfl (by kernel_rfl) ?_); intro m' e' l' ob h; simp only [zE0, zE1, zE2, zE3, zE4, zE5, evp, evx, ev1, evLoad, evStore, evBin, isBoolK, forall_const, z38, tb, Nat.reduceAdd, Nat.reduceSub, Nat.reduceMul, Nat.reduceEqDiff, Nat.reduceLeDiff, Nat.reduceLT, Nat.reduceBEq, Nat.reduceBNe, ↓reduceIte, reduceIte] at h; obtain ⟨rfl, rfl, rfl, rfl⟩ := h; refine ⟨?_, ?_⟩)
    | ((with_reducible refine Ob.mk ?_); first | exact trivial | (intros; omega) | ((repeat' first | apply And.intro | (intro hg; have hg' := hg; try simp only [zH] at hg')) <;> first | assumption | omega | (simp only [zH]; omega)))
  · have hl : 0 < (ql t).length := by omega
    refine awp_cut ([_, _]) ([_]) rfl rfl ?_
    refine awpL_text htb hmz noSp (fun _ => false) rfl rfl rfl ?_; intro m' e' l' ob h; simp only [zE0, zE1, zE2, zE3, zE4, zE5, evp, evx, ev1, evLoad, evStore, evBin, isBoolK, forall_const, z38, tb, Nat.reduceAdd, Nat.reduceSub, Nat.reduceMul, Nat.reduceEqDiff, Nat.reduceLeDiff, Nat.reduceLT, Nat.reduceBEq, Nat.reduceBNe, ↓reduceIte, reduceIte] at h; obtain ⟨rfl, rfl, rfl, rfl⟩ := h; refine ⟨?_, next_then ?_⟩
    · first | ((with_reducible refine Ob.mk ?_); first | exact trivial | (intros; omega) | ((repeat' first | apply And.intro | (intro hg; have hg' := hg; try simp only [zH] at hg')) <;> first | assumption | omega | (simp only [zH]; omega))) | skip
    refine awpL_yield [0, 2, 21, 4] (hY t ht hl) rfl rfl rfl rfl rfl rfl rfl rfl ?_ ?_
    · simp only [rinR, rhoC, zE0, zE1, zE2, zE3, zE4, zE5, evp, evx, ev1, evLoad, evStore, evBin, isBoolK, forall_const, z38, tb, Nat.reduceAdd, Nat.reduceSub, Nat.reduceMul, Nat.reduceEqDiff, Nat.reduceLeDiff, Nat.reduceLT, Nat.reduceBEq, Nat.reduceBNe, ↓reduceIte, reduceIte]
      intro k hk
      simp only [List.mem_cons, List.not_mem_nil, or_false] at hk
      simp only [decide_eq_true_eq]
      omega
    intro gm gv gr hq' m' e' l' h
    obtain ⟨t', ht', hi', hge⟩ := hq'
    simp only [GR.mk.injEq] at hge
    obtain ⟨rfl, rfl, rfl⟩ := hge
    simp only [rhoC, outR, renR, dels, zE0, zE1, zE2, zE3, zE4, zE5, evp, evx, ev1, evLoad, evStore, evBin, isBoolK, forall_const, z38, tb, Nat.reduceAdd, Nat.reduceSub, Nat.reduceMul, Nat.reduceEqDiff, Nat.reduceLeDiff, Nat.reduceLT, Nat.reduceBEq, Nat.reduceBNe, ↓reduceIte, reduceIte] at h
    obtain ⟨rfl, rfl, rfl⟩ := h
    refine next_then ?_
    refine awpL_text htb hmz noSp (fun _ => false) rfl rfl rfl ?_; intro m' e' l' ob h; simp only [zE0, zE1, zE2, zE3, zE4, zE5, evp, evx, ev1, evLoad, evStore, evBin, isBoolK, forall_const, z38, tb, Nat.reduceAdd, Nat.reduceSub, Nat.reduceMul, Nat.reduceEqDiff, Nat.reduceLeDiff, Nat.reduceLT, Nat.reduceBEq, Nat.reduceBNe, ↓reduceIte, reduceIte] at h; obtain ⟨rfl, rfl, rfl, rfl⟩ := h; refine ⟨?_, ?_⟩
    · first | ((with_reducible refine Ob.mk ?_); first | exact trivial | (intros; omega) | ((repeat' first | apply And.intro | (intro hg; have hg' := hg; try simp only [zH] at hg')) <;> first | assumption | omega | (simp only [zH]; omega))) | skip
    repeat' first
      | with_reducible first | refine awp_seq ?_ | refine awp_block ?_ | refine next_then ?_ | refine next_block ?_ | refine exit_then ?_ | refine ret_then ?_ | refine ret_block ?_ | refine exit_here ?_ | refine awp_exit ?_ | refine awp_ret ?_ | refine awp_skip ?_ | refine awp_label ?_ | refine next_noGoto ?_ | refine ret_noGoto ?_ | refine exit_noGoto ?_ | refine awp_scope ?_
      | ((with_reducible refine exit_past ?_ ?_); exact rfl)
      | ((with_reducible refine isCond ?_); refine awp_condO rfl ?_ ?_ <;> intro hb <;> (try simp only [zH] at hb))
      | ((with_reducible refine isReg ?_); (first | refine awp_textM htb hmz noSp (fun _ => false) rfl rfl ?_ | refine awp_drawM hmo htb hmz noSp (fun _ => false) rfl rfl (by kernel_rfl) ?_); intro m' e' l' ob h; simp only [zE0, zE1, zE2, zE3, zE4, zE5, evp, evx, ev1, evLoad, evStore, evBin, isBoolK, forall_const, z38, tb, Nat.reduceAdd, Nat.reduceSub, Nat.reduceMul, Nat.reduceEqDiff, Nat.reduceLeDiff, Nat.reduceLT, Nat.reduceBEq, Nat.reduceBNe, ↓reduceIte, reduceIte] at h; obtain ⟨rfl, rfl, rfl, rfl⟩ := h; refine ⟨?_, ?_⟩)
      | ((with_reducible refine Ob.mk ?_); first | exact trivial | (intros; omega) | ((repeat' first | apply And.intro | (intro hg; have hg' := hg; try simp only [zH] at hg')) <;> first | assumption | omega | (simp only [zH]; omega)))
    · cases hb
    · refine back t' [(5, 26)] ?_ ht' hi'
      refine ⟨rfl, ?_, ?_⟩ <;> simp only [zE0, zE1, zE2, zE3, zE4, zE5, evp, evx, ev1, evLoad, evStore, evBin, isBoolK, forall_const, z38, tb, Nat.reduceAdd, Nat.reduceSub, Nat.reduceMul, Nat.reduceEqDiff, Nat.reduceLeDiff, Nat.reduceLT, Nat.reduceBEq, Nat.reduceBNe, ↓reduceIte, reduceIte, zI]
      intro k hk
      simp only [List.mem_cons, List.not_mem_nil, or_false] at hk
      simp only [decide_eq_true_eq]
      omega
  · have hnil : ql t = [] := List.eq_nil_of_length_eq_zero (by omega)
    refine fin_normal rfl rfl (gq_of ⟨6, resV [], [(1, some (.box (.own 2))), (2, some (.box (.own 5))), (5, some (.ints (ql t))), (4, some (.sem [0, 2] (A t)))]⟩ [] ⟨t, ht, hnil, rfl⟩ rfl (imp_eq rfl) ?_)
    simp only [grR, zE0, zE1, zE2, zE3, zE4, zE5, evp, evx, ev1, evLoad, evStore, evBin, isBoolK, forall_const, z38, tb, Nat.reduceAdd, Nat.reduceSub, Nat.reduceMul, Nat.reduceEqDiff, Nat.reduceLeDiff, Nat.reduceLT, Nat.reduceBEq, Nat.reduceBNe, ↓reduceIte, reduceIte]
    intro k hk
    simp only [List.mem_cons, List.not_mem_nil, or_false] at hk
    simp only [decide_eq_true_eq]
    omega
theorem queue1_iter : IterP Try.prog 60 := fun I ql ms hq A hY t0 h0 _ => queue1_fg I ql ms A hq hY t0 h0
set_option maxRecDepth 4000 in
set_option maxHeartbeats 4000000 in
theorem queue_fg (q : List Int) : FG Try.prog 51 [.own 0] [(0, some (.box (.own 1))), (1, some (.ints q))] 2
    fun g => g = ⟨3, .fn 60 (.cons (.own 2) .nil), [(2, some (.box (.own 0))), (0, some (.box (.own 1))), (1, some (.ints q))]⟩ := by
  refine fg_of htb (fn := Try.f51) (by kernel_rfl) (by kernel_rfl) rfl (Nat.le_of_ble_eq_true rfl) fun hl => ?_
  simp only [lenP, mkL, lim] at hl
  repeat' first
    | with_reducible first | refine awp_seq ?_ | refine awp_block ?_ | refine next_then ?_ | refine next_block ?_ | refine exit_then ?_ | refine ret_then ?_ | refine ret_block ?_ | refine exit_here ?_ | refine awp_exit ?_ | refine awp_ret ?_ | refine awp_skip ?_ | refine awp_label ?_ | refine next_noGoto ?_ | refine ret_noGoto ?_ | refine exit_noGoto ?_ | refine awp_scope ?_
    | ((with_reducible refine exit_past ?_ ?_); exact rfl)
    | ((with_reducible refine isCond ?_); refine awp_condO rfl ?_ ?_ <;> intro hb <;> (try simp only [zH] at hb))
    | ((with_reducible refine isReg ?_); (first | refine awp_textM htb hmz noSp (fun _ => false) rfl rfl ?_ | refine awp_drawM hmo htb hmz noSp (fun _ => false) rfl rfl (by kernel_rfl) ?_); intro m' e' l' ob h; simp only [zE0, zE1, zE2, zE3, zE4, zE5, evp, evx, ev1, evLoad, evStore, evBin, isBoolK, forall_const, z38, tb, Nat.reduceAdd, Nat.reduceSub, Nat.reduceMul, Nat.reduceEqDiff, Nat.reduceLeDiff, Nat.reduceLT, Nat.reduceBEq, Nat.reduceBNe, ↓reduceIte, reduceIte, noK] at h; obtain ⟨rfl, rfl, rfl, rfl⟩ := h; refine ⟨?_, ?_⟩)
    | ((with_reducible refine Ob.mk ?_); first | exact trivial | (intros; omega) | ((repeat' first | apply And.intro | (intro hg; have hg' := hg; try simp only [zH] at hg')) <;> first | assumption | omega | (simp only [zH]; omega)))
  refine fin_ret rfl rfl (gq_of (⟨3, .fn 60 (.cons (.own 2) .nil), [(2, some (.box (.own 0))), (0, some (.box (.own 1))), (1, some (.ints q))]⟩) ([]) rfl rfl (imp_eq rfl) ?_)
  simp only [grR, zE0, zE1, zE2, zE3, zE4, zE5, evp, evx, ev1, evLoad, evStore, evBin, isBoolK, forall_const, z38, tb, Nat.reduceAdd, Nat.reduceSub, Nat.reduceMul, Nat.reduceEqDiff, Nat.reduceLeDiff, Nat.reduceLT, Nat.reduceBEq, Nat.reduceBNe, ↓reduceIte, reduceIte, noK]
end Go.Proofs.Ytgminhedbeblpaa.Cal
