/- Own texts of the proof, merged, in order. -/
import Derived.Test.YtbcghiagomkadaaS16
set_option linter.unusedVariables false
set_option linter.unusedSimpArgs false
namespace Go.Proofs.Ytbcghiagomkadaa.Cal
open Go
/-- Nil slices seen as slices that nobody writes. -/
def nro : AV → AV
  | .cst v => match isNilS v with | true => .roI [] | false => .cst v
  | .agg l => .agg (nro l)
  | .cons a b => .cons (nro a) (nro b)
  | u => u
theorem nro_R {Z : Nat → Prop} {w : World} {ν : Nat → Value} : ∀ {u : AV} {m : Bool} {cs : List Value}, R Z w u ν m cs → R Z w (nro u) ν m cs
  | .cst v, m, cs, h => by
    unfold nro
    cases hv : isNilS v with
    | false => exact h
    | true =>
      have := isNil_eq hv
      subst this
      have h : cs = [_] := h
      exact ⟨none, 0, h, Nat.le_refl _, Nat.zero_le _, fun h => absurd h (Nat.lt_irrefl _)⟩
  | .agg l, true, cs, h => by
    obtain ⟨es, e, r⟩ := h
    exact ⟨es, e, nro_R r⟩
  | .agg l, false, cs, h => nro_R (u := l) (m := true) h
  | .cons a b, m, cs, h => by
    obtain ⟨v, vs, e, r1, r2⟩ := h
    exact ⟨v, vs, e, nro_R r1, nro_R r2⟩
  | .any, _, _, h => h
  | .int _ _, _, _, h => h
  | .bool _, _, _, h => h
  | .own _, _, _, h => h
  | .adr _ _ _ _, _, _, h => h
  | .roI _, _, _, h => h
  | .roB _, _, _, h => h
  | .roII _, _, _, h => h
  | .ro _ _ _, _, _, h => h
  | .rop _, _, _, h => h
  | .tup _, _, _, h => h
  | .nil, _, _, h => h
  | .fn _ _, _, _, h => h
  | .yld _, _, _, h => h
  | .whn _ _, _, _, h => h
theorem nro_men {μ : Nat → Bool} : ∀ {u : AV}, men μ u = true → men μ (nro u) = true
  | .cst v, _ => by unfold nro; cases isNilS v <;> rfl
  | .agg l, h => nro_men (u := l) h
  | .cons a b, h => by
    simp only [men, Bool.and_eq_true] at h
    show (men μ (nro a) && men μ (nro b)) = true
    rw [nro_men h.1, nro_men h.2]; rfl
  | .any, h => h
  | .int _ _, h => h
  | .bool _, h => h
  | .own _, h => h
  | .adr _ _ _ _, h => h
  | .roI _, h => h
  | .roB _, h => h
  | .roII _, h => h
  | .ro _ _ _, h => h
  | .rop _, h => h
  | .tup _, h => h
  | .nil, h => h
  | .fn _ _, h => h
  | .yld _, h => h
  | .whn _ _, h => h
section
variable {P : Program} {ro : Option Nat} {N κ : Nat}
theorem awp_nro {c : Code} {m : Nat} {env : List (Nat × AV)} {rs : List (Nat × Option Blk)} {ms : List Nat} {Q : Exit → St → Prop} (k : Nat) {u : AV} (hk : lkr rs k = some (.box u)) {rs' : List (Nat × Option Blk)} (hrs : set1 k (.box (nro u)) rs = rs')
    (h : awp P ro N κ c (CS.st ⟨m, env, rs', ms⟩) Q) : awp P ro N κ c (CS.st ⟨m, env, rs, ms⟩) Q := by
  intro n K Z ν w a hg
  refine h n K Z ν w a { hg with rs := ?_ }
  subst hrs
  obtain ⟨Ft, hF⟩ := hg.rs
  have e : (CS.st ⟨m, env, set1 k (.box (nro u)) rs, ms⟩).rs = fun j => if j = k then some (.box (nro u)) else lkr rs j := lkr_set1
  refine ⟨Ft, fun j b hj => ?_⟩
  rw [e] at hj
  have hold : ∀ j' b', (CS.st ⟨m, env, set1 k (.box (nro u)) rs, ms⟩).rs j' = some b' → ∃ b0, lkr rs j' = some b0 := fun j' b' h' => by
    rw [e] at h'
    dsimp only at h'
    by_cases h1 : j' = k
    · rw [h1]; exact ⟨_, hk⟩
    · rw [if_neg h1] at h'; exact ⟨_, h'⟩
  dsimp only at hj
  by_cases h1 : j = k
  · rw [if_pos h1] at hj
    cases hj
    subst h1
    obtain ⟨a1, a2, a3, a4, a5⟩ := hF j _ hk
    refine ⟨a1, nro_men a2, ?_, a4, fun j' b' hne hj' => ?_⟩
    · obtain ⟨b, cells, T, hx, hb, r, hFb⟩ := a3
      exact ⟨b, cells, T, hx, hb, nro_R r, hFb⟩
    · obtain ⟨b0, h0⟩ := hold j' b' hj'
      exact a5 j' b0 hne h0
  · rw [if_neg h1] at hj
    obtain ⟨a1, a2, a3, a4, a5⟩ := hF j b hj
    refine ⟨a1, a2, a3, a4, fun j' b' hne hj' => ?_⟩
    obtain ⟨b0, h0⟩ := hold j' b' hj'
    exact a5 j' b0 hne h0
end
section
variable {P : Program} {ro : Option Nat} {N κ : Nat}
/-- Nil fields of a slice's structs seen as slices that nobody writes. -/
theorem awp_nroA {c : Code} {m : Nat} {env : List (Nat × AV)} {rs : List (Nat × Option Blk)} {ms : List Nat} {Q : Exit → St → Prop} (k : Nat) {sz n : Nat} {f : Nat → AV} (f' : Nat → AV) (hk : lkr rs k = some (.avs sz n f)) (hf : ∀ j, j < n → nro (f j) = f' j) {rs' : List (Nat × Option Blk)} (hrs : set1 k (.avs sz n f') rs = rs')
    (h : awp P ro N κ c (CS.st ⟨m, env, rs', ms⟩) Q) : awp P ro N κ c (CS.st ⟨m, env, rs, ms⟩) Q := by
  intro n0 K Z ν w a hg
  refine h n0 K Z ν w a { hg with rs := ?_ }
  subst hrs
  obtain ⟨Ft, hF⟩ := hg.rs
  have e : (CS.st ⟨m, env, set1 k (.avs sz n f') rs, ms⟩).rs = fun j => if j = k then some (.avs sz n f') else lkr rs j := lkr_set1
  refine ⟨Ft, fun j b hj => ?_⟩
  rw [e] at hj
  have hold : ∀ j' b', (CS.st ⟨m, env, set1 k (.avs sz n f') rs, ms⟩).rs j' = some b' → ∃ b0, lkr rs j' = some b0 := fun j' b' h' => by
    rw [e] at h'
    dsimp only at h'
    by_cases h1 : j' = k
    · rw [h1]; exact ⟨_, hk⟩
    · rw [if_neg h1] at h'; exact ⟨_, h'⟩
  dsimp only at hj
  by_cases h1 : j = k
  · rw [if_pos h1] at hj
    cases hj
    subst h1
    obtain ⟨a1, a2, a3, a4, a5⟩ := hF j _ hk
    refine ⟨a1, fun i hi => ?_, ?_, a4, fun j' b' hne hj' => ?_⟩
    · rw [← hf i hi]; exact nro_men (a2 i hi)
    · exact row_mono (fun _ _ => rfl) (fun i es hi h => by rw [← hf i hi]; exact nro_R h) a3
    · obtain ⟨b0, h0⟩ := hold j' b' hj'
      exact a5 j' b0 hne h0
  · rw [if_neg h1] at hj
    obtain ⟨a1, a2, a3, a4, a5⟩ := hF j b hj
    refine ⟨a1, a2, a3, a4, fun j' b' hne hj' => ?_⟩
    obtain ⟨b0, h0⟩ := hold j' b' hj'
    exact a5 j' b0 hne h0
end
end Go.Proofs.Ytbcghiagomkadaa.Cal
namespace Go.Proofs.Ytbcghiagomkadaa.Cal
open Go Pl
def nanS : Spec
  | [.int .i64 _] => some ⟨True, .bool false, none⟩
  | _ => none
set_option maxRecDepth 4000 in
set_option maxHeartbeats 4000000 in
theorem nan_ok : FSpec Try.prog 63 nanS := by
  refine fspec_of htb (fn := Try.f63) (by kernel_rfl) (by kernel_rfl) rfl (fun args r hS => ?_) (fun args r hS hob hl => ?_)
  · unfold nanS at hS; split at hS <;> first | (cases hS; done) | (cases hS; exact Nat.le_of_ble_eq_true rfl)
  unfold nanS at hS
  split at hS
  case h_2 => cases hS
  rename_i a
  simp only [Option.some.injEq] at hS
  subst hS
  simp only [lenP, mkL, lim] at hl
  dsimp only at hob
  repeat' first
    | with_reducible first | refine awp_seq ?_ | refine awp_block ?_ | refine next_then ?_ | refine next_block ?_ | refine exit_then ?_ | refine ret_then ?_ | refine ret_block ?_ | refine exit_here ?_ | refine awp_exit ?_ | refine awp_ret ?_ | refine awp_skip ?_ | refine awp_label ?_ | refine next_noGoto ?_ | refine ret_noGoto ?_ | refine exit_noGoto ?_ | refine awp_scope ?_
    | ((with_reducible refine exit_past ?_ ?_); exact rfl)
    | ((with_reducible refine isCond ?_); refine awp_condO rfl ?_ ?_ <;> intro hb <;> (try simp only [zH] at hb))
    | ((with_reducible refine isReg ?_); (first | refine awp_textM htb hmz noSp (fun _ => false) rfl rfl ?_ | refine awp_drawM hmo htb hmz noSp (fun _ => false) rfl rfl (by kernel_rfl) ?_); intro m' e' l' ob h; simp only [zE0, zE1, zE2, zE3, zE4, zE5, evp, evx, ev1, evLoad, evStore, evBin, isBoolK, forall_const, z38, tb, Nat.reduceAdd, Nat.reduceSub, Nat.reduceMul, Nat.reduceEqDiff, Nat.reduceLeDiff, Nat.reduceLT, Nat.reduceBEq, Nat.reduceBNe, ↓reduceIte, reduceIte] at h; obtain ⟨rfl, rfl, rfl, rfl⟩ := h; refine ⟨?_, ?_⟩)
    | ((with_reducible refine Ob.mk ?_); first | exact trivial | (intros; omega) | ((repeat' first | apply And.intro | (intro hg; have hg' := hg; try simp only [zH] at hg')) <;> first | assumption | omega | (simp only [zH]; omega)))
  refine fin_ret rfl rfl (spec_flat rfl ?_ rfl)
  rfl
def sgnI (a b : Int) : Int := if a < b then -1 else if b < a then 1 else 0
def cmpS : Spec
  | [.int .i64 a, .int .i64 b] => some ⟨True, .int .i64 (sgnI a b), none⟩
  | _ => none
def spCm : Nat → Option Spec
  | 63 => some nanS
  | _ => none
theorem spCm_ok : SpOK Try.prog spCm := by
  intro f S h
  unfold spCm at h
  split at h
  · cases h; exact nan_ok
  · cases h
set_option maxRecDepth 4000 in
set_option maxHeartbeats 4000000 in
theorem cmp_ok : FSpec Try.prog 61 cmpS := by
  refine fspec_of htb (fn := Try.f61) (by kernel_rfl) (by kernel_rfl) rfl (fun args r hS => ?_) (fun args r hS hob hl => ?_)
  · unfold cmpS at hS; split at hS <;> first | (cases hS; done) | (cases hS; exact Nat.le_of_ble_eq_true rfl)
  unfold cmpS at hS
  split at hS
  case h_2 => cases hS
  rename_i a b
  simp only [Option.some.injEq] at hS
  subst hS
  simp only [lenP, mkL, lim] at hl
  dsimp only at hob
  repeat' first
    | with_reducible first | refine awp_seq ?_ | refine awp_block ?_ | refine next_then ?_ | refine next_block ?_ | refine exit_then ?_ | refine ret_then ?_ | refine ret_block ?_ | refine exit_here ?_ | refine awp_exit ?_ | refine awp_ret ?_ | refine awp_skip ?_ | refine awp_label ?_ | refine next_noGoto ?_ | refine ret_noGoto ?_ | refine exit_noGoto ?_ | refine awp_scope ?_
    | ((with_reducible refine exit_past ?_ ?_); exact rfl)
    | ((with_reducible refine isCond ?_); refine awp_condO rfl ?_ ?_ <;> intro hb <;> (try simp only [zH] at hb))
    | ((with_reducible refine isReg ?_); (first | refine awp_textM htb hmz spCm_ok (fun _ => false) rfl rfl ?_ | refine awp_drawM hmo htb hmz spCm_ok (fun _ => false) rfl rfl (by kernel_rfl) ?_); intro m' e' l' ob h; simp only [zE0, zE1, zE2, zE3, zE4, zE5, evp, evx, ev1, evLoad, evStore, evBin, isBoolK, forall_const, z38, tb, Nat.reduceAdd, Nat.reduceSub, Nat.reduceMul, Nat.reduceEqDiff, Nat.reduceLeDiff, Nat.reduceLT, Nat.reduceBEq, Nat.reduceBNe, ↓reduceIte, reduceIte, spCm, nanS] at h; obtain ⟨rfl, rfl, rfl, rfl⟩ := h; refine ⟨?_, ?_⟩)
    | ((with_reducible refine Ob.mk ?_); first | exact trivial | (intros; omega) | ((repeat' first | apply And.intro | (intro hg; have hg' := hg; try simp only [zH] at hg')) <;> first | assumption | omega | (simp only [zH]; omega)))
  · cases hb
  · rename_i h
    cases h
  · cases hb
  · refine fin_ret rfl rfl (spec_flat rfl ?_ rfl)
    rw [show sgnI a b = -1 from if_pos hb]; rfl
  · rename_i h
    refine fin_ret rfl rfl (spec_flat rfl ?_ rfl)
    rw [show sgnI a b = 1 by unfold sgnI; rw [if_neg (by omega), if_pos hb]]; rfl
  · rename_i h
    refine fin_ret rfl rfl (spec_flat rfl ?_ rfl)
    rw [show sgnI a b = 0 by unfold sgnI; rw [if_neg (by omega), if_neg (by omega)]]; rfl
/-- A value of a play. -/
structure Vl where
  e : Bool
  n : Bool
  m : List Int
def vlA (v : Vl) : AV := .agg (.cons (.bool v.e) (.cons (.bool v.n) (.cons (.roI v.m) .nil)))
def plusV (v : Vl) (p : Nat) : Vl := if v.e = true ∨ v.n = true then v else ⟨false, false, v.m.set p (v.m.getD p 0 + 1)⟩
def rankV (v : Vl) : Int := if v.n = true then -1 else if v.e = true then 1 else 0
/-- The numbers compared from the place before k on downwards. -/
def cmpK (pl : Int) (a b : List Int) : Nat → Int
  | 0 => 0
  | k + 1 => if sgnI (a.getD k 0) (b.getD k 0) ≠ 0 then (if (k : Int) % 2 ≠ pl then -(sgnI (a.getD k 0) (b.getD k 0)) else sgnI (a.getD k 0) (b.getD k 0)) else cmpK pl a b k
def cmpV (pl : Int) (a b : Vl) : Int := if sgnI (rankV a) (rankV b) ≠ 0 ∨ rankV a ≠ 0 then sgnI (rankV a) (rankV b) else cmpK pl a.m b.m a.m.length
def rankS : Spec
  | [.agg (.cons (.bool e) (.cons (.bool n) (.cons (.roI m) .nil)))] => some ⟨True, .int .i64 (rankV ⟨e, n, m⟩), none⟩
  | _ => none
set_option maxRecDepth 4000 in
set_option maxHeartbeats 4000000 in
theorem rank_ok : FSpec Try.prog 62 rankS := by
  refine fspec_of htb (fn := Try.f62) (by kernel_rfl) (by kernel_rfl) rfl (fun args r hS => ?_) (fun args r hS hob hl => ?_)
  · unfold rankS at hS; split at hS <;> first | (cases hS; done) | (cases hS; exact Nat.le_of_ble_eq_true rfl)
  unfold rankS at hS
  split at hS
  case h_2 => cases hS
  rename_i e n m
  simp only [Option.some.injEq] at hS
  subst hS
  simp only [lenP, mkL, lim] at hl
  dsimp only at hob
  repeat' first
    | with_reducible first | refine awp_seq ?_ | refine awp_block ?_ | refine next_then ?_ | refine next_block ?_ | refine exit_then ?_ | refine ret_then ?_ | refine ret_block ?_ | refine exit_here ?_ | refine awp_exit ?_ | refine awp_ret ?_ | refine awp_skip ?_ | refine awp_label ?_ | refine next_noGoto ?_ | refine ret_noGoto ?_ | refine exit_noGoto ?_ | refine awp_scope ?_
    | ((with_reducible refine exit_past ?_ ?_); exact rfl)
    | ((with_reducible refine isCond ?_); refine awp_condO rfl ?_ ?_ <;> intro hb <;> (try simp only [zH] at hb))
    | ((with_reducible refine isReg ?_); (first | refine awp_textM htb hmz noSp (fun _ => false) rfl rfl ?_ | refine awp_drawM hmo htb hmz noSp (fun _ => false) rfl rfl (by kernel_rfl) ?_); intro m' e' l' ob h; simp only [zE0, zE1, zE2, zE3, zE4, zE5, evp, evx, ev1, evLoad, evStore, evBin, isBoolK, forall_const, z38, tb, Nat.reduceAdd, Nat.reduceSub, Nat.reduceMul, Nat.reduceEqDiff, Nat.reduceLeDiff, Nat.reduceLT, Nat.reduceBEq, Nat.reduceBNe, ↓reduceIte, reduceIte] at h; obtain ⟨rfl, rfl, rfl, rfl⟩ := h; refine ⟨?_, ?_⟩)
    | ((with_reducible refine Ob.mk ?_); first | exact trivial | (intros; omega) | ((repeat' first | apply And.intro | (intro hg; have hg' := hg; try simp only [zH] at hg')) <;> first | assumption | omega | (simp only [zH]; omega)))
  · refine fin_ret rfl rfl (spec_flat rfl ?_ rfl)
    rw [show rankV ⟨e, n, m⟩ = -1 from if_pos hb]; rfl
  · rename_i h
    refine fin_ret rfl rfl (spec_flat rfl ?_ rfl)
    rw [show rankV ⟨e, n, m⟩ = 1 by unfold rankV; rw [if_neg (by simp [h]), if_pos hb]]; rfl
  · rename_i h
    refine fin_ret rfl rfl (spec_flat rfl ?_ rfl)
    rw [show rankV ⟨e, n, m⟩ = 0 by unfold rankV; rw [if_neg (by simp [h]), if_neg (by simp [hb])]]; rfl
def compareS : Spec
  | [.agg (.cons (.bool e) (.cons (.bool n) (.cons (.roI m) .nil))), .agg (.cons (.bool e') (.cons (.bool n') (.cons (.roI m') .nil))), .int .i64 pl] => some ⟨m.length ≤ 1000000 ∧ (rankV ⟨e, n, m⟩ = 0 → rankV ⟨e', n', m'⟩ = 0 → m.length ≤ m'.length), .int .i64 (cmpV pl ⟨e, n, m⟩ ⟨e', n', m'⟩), none⟩
  | _ => none
def spCo : Nat → Option Spec
  | 62 => some rankS
  | 61 => some cmpS
  | _ => none
theorem spCo_ok : SpOK Try.prog spCo := by
  intro f S h
  unfold spCo at h
  split at h
  · cases h; exact rank_ok
  · cases h; exact cmp_ok
  · cases h
theorem sgn_0 {a b : Int} (h : sgnI a b = 0) : a = b := by
  unfold sgnI at h
  split at h
  · cases h
  · split at h
    · cases h
    · omega
set_option maxRecDepth 4000 in
set_option maxHeartbeats 4000000 in
theorem compare_ok : FSpec Try.prog 59 compareS := by
  refine fspec_of htb (fn := Try.f59) (by kernel_rfl) (by kernel_rfl) rfl (fun args r hS => ?_) (fun args r hS hob hl => ?_)
  · unfold compareS at hS; split at hS <;> first | (cases hS; done) | (cases hS; exact Nat.le_of_ble_eq_true rfl)
  unfold compareS at hS
  split at hS
  case h_2 => cases hS
  rename_i e n m e' n' m' pl
  simp only [Option.some.injEq] at hS
  subst hS
  simp only [lenP, mkL, lim] at hl
  dsimp only at hob
  obtain ⟨hm6, hmm⟩ := hob
  have hC : cmpV pl ⟨e, n, m⟩ ⟨e', n', m'⟩ = if sgnI (rankV ⟨e, n, m⟩) (rankV ⟨e', n', m'⟩) ≠ 0 ∨ rankV ⟨e, n, m⟩ ≠ 0 then sgnI (rankV ⟨e, n, m⟩) (rankV ⟨e', n', m'⟩) else cmpK pl m m' m.length := rfl
  have hs0 := @sgn_0 (rankV ⟨e, n, m⟩) (rankV ⟨e', n', m'⟩)
  repeat' first
    | with_reducible first | refine awp_seq ?_ | refine awp_block ?_ | refine next_then ?_ | refine next_block ?_ | refine exit_then ?_ | refine ret_then ?_ | refine ret_block ?_ | refine exit_here ?_ | refine awp_exit ?_ | refine awp_ret ?_ | refine awp_skip ?_ | refine awp_label ?_ | refine next_noGoto ?_ | refine ret_noGoto ?_ | refine exit_noGoto ?_ | refine awp_scope ?_
    | ((with_reducible refine exit_past ?_ ?_); exact rfl)
    | ((with_reducible refine isCond ?_); refine awp_condO rfl ?_ ?_ <;> intro hb <;> (try simp only [zH] at hb))
    | ((with_reducible refine isRegS 3 ?_ ?_); (· exact rfl); (with_reducible refine isRegS 4 ?_ ?_); (· exact rfl); (first | refine awp_textM htb hmz spCo_ok (fun _ => false) rfl rfl ?_ | refine awp_drawM hmo htb hmz spCo_ok (fun _ => false) rfl rfl (by kernel_rfl) ?_); intro m' e' l' ob h; simp only [zE0, zE1, zE2, zE3, zE4, zE5, evp, evx, ev1, evLoad, evStore, evBin, isBoolK, forall_const, z38, tb, Nat.reduceAdd, Nat.reduceSub, Nat.reduceMul, Nat.reduceEqDiff, Nat.reduceLeDiff, Nat.reduceLT, Nat.reduceBEq, Nat.reduceBNe, ↓reduceIte, reduceIte, spCo, rankS, cmpS] at h; obtain ⟨rfl, rfl, rfl, rfl⟩ := h; refine ⟨?_, ?_⟩)
    | ((with_reducible refine Ob.mk ?_); first | exact trivial | (intros; omega) | ((repeat' first | apply And.intro | (intro hg; have hg' := hg; try simp only [zH] at hg')) <;> first | assumption | omega | (simp only [zH]; omega)))
  · repeat' first
      | with_reducible first | refine awp_seq ?_ | refine awp_block ?_ | refine next_then ?_ | refine next_block ?_ | refine exit_then ?_ | refine ret_then ?_ | refine ret_block ?_ | refine exit_here ?_ | refine awp_exit ?_ | refine awp_ret ?_ | refine awp_skip ?_ | refine awp_label ?_ | refine next_noGoto ?_ | refine ret_noGoto ?_ | refine exit_noGoto ?_ | refine awp_scope ?_
      | ((with_reducible refine exit_past ?_ ?_); exact rfl)
      | ((with_reducible refine isCond ?_); refine awp_condO rfl ?_ ?_ <;> intro hb <;> (try simp only [zH] at hb))
      | ((with_reducible refine isReg ?_); (first | refine awp_textM htb hmz spCo_ok (fun _ => false) rfl rfl ?_ | refine awp_drawM hmo htb hmz spCo_ok (fun _ => false) rfl rfl (by kernel_rfl) ?_); intro m' e' l' ob h; simp only [zE0, zE1, zE2, zE3, zE4, zE5, evp, evx, ev1, evLoad, evStore, evBin, isBoolK, forall_const, z38, tb, Nat.reduceAdd, Nat.reduceSub, Nat.reduceMul, Nat.reduceEqDiff, Nat.reduceLeDiff, Nat.reduceLT, Nat.reduceBEq, Nat.reduceBNe, ↓reduceIte, reduceIte, spCo, rankS, cmpS] at h; obtain ⟨rfl, rfl, rfl, rfl⟩ := h; refine ⟨?_, ?_⟩)
      | ((with_reducible refine Ob.mk ?_); first | exact trivial | (intros; omega) | ((repeat' first | apply And.intro | (intro hg; have hg' := hg; try simp only [zH] at hg')) <;> first | assumption | omega | (simp only [zH]; omega)))
    refine fin_ret rfl rfl (spec_flat rfl ?_ rfl)
    rw [hC, if_pos hb]
    rfl
  have hr0 : rankV ⟨e, n, m⟩ = 0 := hb.2
  have hsg : sgnI (rankV ⟨e, n, m⟩) (rankV ⟨e', n', m'⟩) = 0 := hb.1
  have hr1 := hs0 hsg
  have hml := hmm hr0 (by rw [← hr1]; exact hr0)
  have hC : cmpV pl ⟨e, n, m⟩ ⟨e', n', m'⟩ = cmpK pl m m' m.length := by rw [hC, if_neg (fun h => h.elim (fun h => h hsg) (fun h => h hr0))]
  rw [hC]
  clear hC hs0 hmm hr1 hsg hr0 hb
  repeat' first
    | with_reducible first | refine awp_seq ?_ | refine awp_block ?_ | refine next_then ?_ | refine next_block ?_ | refine exit_then ?_ | refine ret_then ?_ | refine ret_block ?_ | refine exit_here ?_ | refine awp_exit ?_ | refine awp_ret ?_ | refine awp_skip ?_ | refine awp_label ?_ | refine next_noGoto ?_ | refine ret_noGoto ?_ | refine exit_noGoto ?_ | refine awp_scope ?_
    | ((with_reducible refine exit_past ?_ ?_); exact rfl)
    | ((with_reducible refine isCond ?_); refine awp_condO rfl ?_ ?_ <;> intro hb <;> (try simp only [zH] at hb))
    | ((with_reducible refine isReg ?_); (first | refine awp_textM htb hmz spCo_ok (fun _ => false) rfl rfl ?_ | refine awp_drawM hmo htb hmz spCo_ok (fun _ => false) rfl rfl (by kernel_rfl) ?_); intro m' e' l' ob h; simp only [zE0, zE1, zE2, zE3, zE4, zE5, evp, evx, ev1, evLoad, evStore, evBin, isBoolK, forall_const, z38, tb, Nat.reduceAdd, Nat.reduceSub, Nat.reduceMul, Nat.reduceEqDiff, Nat.reduceLeDiff, Nat.reduceLT, Nat.reduceBEq, Nat.reduceBNe, ↓reduceIte, reduceIte, spCo, rankS, cmpS] at h; obtain ⟨rfl, rfl, rfl, rfl⟩ := h; refine ⟨?_, ?_⟩)
    | ((with_reducible refine Ob.mk ?_); first | exact trivial | (intros; omega) | ((repeat' first | apply And.intro | (intro hg; have hg' := hg; try simp only [zH] at hg')) <;> first | assumption | omega | (simp only [zH]; omega)))
  refine awp_loopC (τ := Nat) (fun k => k ≤ m.length ∧ cmpK pl m m' m.length = cmpK pl m m' k) (fun k => ⟨16, [(8, .int .i64 ((k : Int) - 1)), (4, .rop (.agg (.cons (.bool e') (.cons (.bool n') (.cons (.roI m') .nil))))), (3, .rop (.agg (.cons (.bool e) (.cons (.bool n) (.cons (.roI m) .nil))))), (2, .int .i64 pl)], [], []⟩) (fun k => k) m.length [] ?_ ⟨Nat.le_refl _, rfl⟩ ?_
  · (refine ⟨rfl, ?_, ?_⟩ <;> simp only [zE0, zE1, zE2, zE3, zE4, zE5, evp, evx, ev1, evLoad, evStore, evBin, isBoolK, forall_const, z38, tb, Nat.reduceAdd, Nat.reduceSub, Nat.reduceMul, Nat.reduceEqDiff, Nat.reduceLeDiff, Nat.reduceLT, Nat.reduceBEq, Nat.reduceBNe, ↓reduceIte, reduceIte, spCo, rankS, cmpS, zI])
  rintro k ⟨hk, hck⟩
  repeat' first
    | with_reducible first | refine awp_seq ?_ | refine awp_block ?_ | refine next_then ?_ | refine next_block ?_ | refine exit_then ?_ | refine ret_then ?_ | refine ret_block ?_ | refine exit_here ?_ | refine awp_exit ?_ | refine awp_ret ?_ | refine awp_skip ?_ | refine awp_label ?_ | refine next_noGoto ?_ | refine ret_noGoto ?_ | refine exit_noGoto ?_ | refine awp_scope ?_
    | ((with_reducible refine exit_past ?_ ?_); exact rfl)
    | ((with_reducible refine isCond ?_); refine awp_condO rfl ?_ ?_ <;> intro hb <;> (try simp only [zH] at hb))
    | ((with_reducible refine isRegS 7 ?_ ?_); (· exact rfl); (with_reducible refine isRegS 12 ?_ ?_); (· exact rfl); (first | refine awp_textM htb hmz spCo_ok (fun _ => false) rfl rfl ?_ | refine awp_drawM hmo htb hmz spCo_ok (fun _ => false) rfl rfl (by kernel_rfl) ?_); intro m' e' l' ob h; simp only [zE0, zE1, zE2, zE3, zE4, zE5, evp, evx, ev1, evLoad, evStore, evBin, isBoolK, forall_const, z38, tb, Nat.reduceAdd, Nat.reduceSub, Nat.reduceMul, Nat.reduceEqDiff, Nat.reduceLeDiff, Nat.reduceLT, Nat.reduceBEq, Nat.reduceBNe, ↓reduceIte, reduceIte, spCo, rankS, cmpS] at h; obtain ⟨rfl, rfl, rfl, rfl⟩ := h; refine ⟨?_, ?_⟩)
    | ((with_reducible refine Ob.mk ?_); first | exact trivial | (intros; omega) | ((repeat' first | apply And.intro | (intro hg; have hg' := hg; try simp only [zH] at hg')) <;> first | assumption | omega | (simp only [zH]; omega)))
  · cases k with
    | zero => exfalso; omega
    | succ k =>
      have e1 : ((k + 1 : Nat) : Int) - 1 = (k : Int) := by omega
      rw [e1]
      have hcs : cmpK pl m m' (k + 1) = if sgnI (m.getD k 0) (m'.getD k 0) ≠ 0 then (if (k : Int) % 2 ≠ pl then -(sgnI (m.getD k 0) (m'.getD k 0)) else sgnI (m.getD k 0) (m'.getD k 0)) else cmpK pl m m' k := rfl
      have hsr : -1 ≤ sgnI (m.getD k 0) (m'.getD k 0) ∧ sgnI (m.getD k 0) (m'.getD k 0) ≤ 1 := by unfold sgnI; split <;> (try split) <;> omega
      repeat' first
        | with_reducible first | refine awp_seq ?_ | refine awp_block ?_ | refine next_then ?_ | refine next_block ?_ | refine exit_then ?_ | refine ret_then ?_ | refine ret_block ?_ | refine exit_here ?_ | refine awp_exit ?_ | refine awp_ret ?_ | refine awp_skip ?_ | refine awp_label ?_ | refine next_noGoto ?_ | refine ret_noGoto ?_ | refine exit_noGoto ?_ | refine awp_scope ?_
        | ((with_reducible refine exit_past ?_ ?_); exact rfl)
        | ((with_reducible refine isCond ?_); refine awp_condO rfl ?_ ?_ <;> intro hb <;> (try simp only [zH] at hb))
        | ((with_reducible refine isRegS 9 ?_ ?_); (· exact rfl); (with_reducible refine isRegS 6 ?_ ?_); (· exact rfl); (first | refine awp_textM htb hmz spCo_ok (fun _ => false) rfl rfl ?_ | refine awp_drawM hmo htb hmz spCo_ok (fun _ => false) rfl rfl (by kernel_rfl) ?_); intro m' e' l' ob h; simp only [zE0, zE1, zE2, zE3, zE4, zE5, evp, evx, ev1, evLoad, evStore, evBin, isBoolK, forall_const, z38, tb, Nat.reduceAdd, Nat.reduceSub, Nat.reduceMul, Nat.reduceEqDiff, Nat.reduceLeDiff, Nat.reduceLT, Nat.reduceBEq, Nat.reduceBNe, ↓reduceIte, reduceIte, spCo, rankS, cmpS] at h; obtain ⟨rfl, rfl, rfl, rfl⟩ := h; refine ⟨?_, ?_⟩)
        | ((with_reducible refine Ob.mk ?_); first | exact trivial | (intros; omega) | ((repeat' first | apply And.intro | (intro hg; have hg' := hg; try simp only [zH] at hg')) <;> first | assumption | omega | (simp only [zH]; omega)))
      · repeat' first
          | with_reducible first | refine awp_seq ?_ | refine awp_block ?_ | refine next_then ?_ | refine next_block ?_ | refine exit_then ?_ | refine ret_then ?_ | refine ret_block ?_ | refine exit_here ?_ | refine awp_exit ?_ | refine awp_ret ?_ | refine awp_skip ?_ | refine awp_label ?_ | refine next_noGoto ?_ | refine ret_noGoto ?_ | refine exit_noGoto ?_ | refine awp_scope ?_
          | ((with_reducible refine exit_past ?_ ?_); exact rfl)
          | ((with_reducible refine isCond ?_); refine awp_condO rfl ?_ ?_ <;> intro hb <;> (try simp only [zH] at hb))
          | ((with_reducible refine isReg ?_); (first | refine awp_textM htb hmz spCo_ok (fun _ => false) rfl rfl ?_ | refine awp_drawM hmo htb hmz spCo_ok (fun _ => false) rfl rfl (by kernel_rfl) ?_); intro m' e' l' ob h; simp only [zE0, zE1, zE2, zE3, zE4, zE5, evp, evx, ev1, evLoad, evStore, evBin, isBoolK, forall_const, z38, tb, Nat.reduceAdd, Nat.reduceSub, Nat.reduceMul, Nat.reduceEqDiff, Nat.reduceLeDiff, Nat.reduceLT, Nat.reduceBEq, Nat.reduceBNe, ↓reduceIte, reduceIte, spCo, rankS, cmpS] at h; obtain ⟨rfl, rfl, rfl, rfl⟩ := h; refine ⟨?_, ?_⟩)
          | ((with_reducible refine Ob.mk ?_); first | exact trivial | (intros; omega) | ((repeat' first | apply And.intro | (intro hg; have hg' := hg; try simp only [zH] at hg')) <;> first | assumption | omega | (simp only [zH]; omega)))
        · refine fin_ret rfl rfl (spec_flat rfl ?_ rfl)
          rename_i h
          have hw : IntKind.i64.wrap (-sgnI (m.getD k 0) (m'.getD k 0)) = -sgnI (m.getD k 0) (m'.getD k 0) := by
            rcases (show sgnI (m.getD k 0) (m'.getD k 0) = -1 ∨ sgnI (m.getD k 0) (m'.getD k 0) = 0 ∨ sgnI (m.getD k 0) (m'.getD k 0) = 1 by omega) with h3 | h3 | h3 <;> rw [h3] <;> rfl
          rw [hck, hcs, if_pos h, if_pos hb, hw]; rfl
        · refine fin_ret rfl rfl (spec_flat rfl ?_ rfl)
          rename_i h
          rw [hck, hcs, if_pos h, if_neg (fun h2 => h2 hb)]; rfl
      · have h0 : sgnI (m.getD k 0) (m'.getD k 0) = 0 := hb
        rw [if_neg (fun h => h h0)] at hcs
        repeat' first
          | with_reducible first | refine awp_seq ?_ | refine awp_block ?_ | refine next_then ?_ | refine next_block ?_ | refine exit_then ?_ | refine ret_then ?_ | refine ret_block ?_ | refine exit_here ?_ | refine awp_exit ?_ | refine awp_ret ?_ | refine awp_skip ?_ | refine awp_label ?_ | refine next_noGoto ?_ | refine ret_noGoto ?_ | refine exit_noGoto ?_ | refine awp_scope ?_
          | ((with_reducible refine exit_past ?_ ?_); exact rfl)
          | ((with_reducible refine isCond ?_); refine awp_condO rfl ?_ ?_ <;> intro hb <;> (try simp only [zH] at hb))
          | ((with_reducible refine isReg ?_); (first | refine awp_textM htb hmz spCo_ok (fun _ => false) rfl rfl ?_ | refine awp_drawM hmo htb hmz spCo_ok (fun _ => false) rfl rfl (by kernel_rfl) ?_); intro m' e' l' ob h; simp only [zE0, zE1, zE2, zE3, zE4, zE5, evp, evx, ev1, evLoad, evStore, evBin, isBoolK, forall_const, z38, tb, Nat.reduceAdd, Nat.reduceSub, Nat.reduceMul, Nat.reduceEqDiff, Nat.reduceLeDiff, Nat.reduceLT, Nat.reduceBEq, Nat.reduceBNe, ↓reduceIte, reduceIte, spCo, rankS, cmpS] at h; obtain ⟨rfl, rfl, rfl, rfl⟩ := h; refine ⟨?_, ?_⟩)
          | ((with_reducible refine Ob.mk ?_); first | exact trivial | (intros; omega) | ((repeat' first | apply And.intro | (intro hg; have hg' := hg; try simp only [zH] at hg')) <;> first | assumption | omega | (simp only [zH]; omega)))
        refine back k [] ?_ ⟨by omega, by rw [hck, hcs]⟩ (by omega)
        (refine ⟨rfl, ?_, ?_⟩ <;> simp only [zE0, zE1, zE2, zE3, zE4, zE5, evp, evx, ev1, evLoad, evStore, evBin, isBoolK, forall_const, z38, tb, Nat.reduceAdd, Nat.reduceSub, Nat.reduceMul, Nat.reduceEqDiff, Nat.reduceLeDiff, Nat.reduceLT, Nat.reduceBEq, Nat.reduceBNe, ↓reduceIte, reduceIte, spCo, rankS, cmpS, zI])
  have hk0 : k = 0 := by omega
  subst hk0
  repeat' first
    | with_reducible first | refine awp_seq ?_ | refine awp_block ?_ | refine next_then ?_ | refine next_block ?_ | refine exit_then ?_ | refine ret_then ?_ | refine ret_block ?_ | refine exit_here ?_ | refine awp_exit ?_ | refine awp_ret ?_ | refine awp_skip ?_ | refine awp_label ?_ | refine next_noGoto ?_ | refine ret_noGoto ?_ | refine exit_noGoto ?_ | refine awp_scope ?_
    | ((with_reducible refine exit_past ?_ ?_); exact rfl)
    | ((with_reducible refine isCond ?_); refine awp_condO rfl ?_ ?_ <;> intro hb <;> (try simp only [zH] at hb))
    | ((with_reducible refine isReg ?_); (first | refine awp_textM htb hmz spCo_ok (fun _ => false) rfl rfl ?_ | refine awp_drawM hmo htb hmz spCo_ok (fun _ => false) rfl rfl (by kernel_rfl) ?_); intro m' e' l' ob h; simp only [zE0, zE1, zE2, zE3, zE4, zE5, evp, evx, ev1, evLoad, evStore, evBin, isBoolK, forall_const, z38, tb, Nat.reduceAdd, Nat.reduceSub, Nat.reduceMul, Nat.reduceEqDiff, Nat.reduceLeDiff, Nat.reduceLT, Nat.reduceBEq, Nat.reduceBNe, ↓reduceIte, reduceIte, spCo, rankS, cmpS] at h; obtain ⟨rfl, rfl, rfl, rfl⟩ := h; refine ⟨?_, ?_⟩)
    | ((with_reducible refine Ob.mk ?_); first | exact trivial | (intros; omega) | ((repeat' first | apply And.intro | (intro hg; have hg' := hg; try simp only [zH] at hg')) <;> first | assumption | omega | (simp only [zH]; omega)))
  refine fin_ret rfl rfl (spec_flat rfl ?_ rfl)
  rw [hck]
  rfl
def plusS : Spec
  | [.agg (.cons (.bool e) (.cons (.bool n) (.cons (.roI m) .nil))), .int .i64 p] => some ⟨e = false → n = false → (m.length ≤ 1000000 ∧ 0 ≤ p ∧ p < m.length ∧ 0 ≤ m.getD p.toNat 0 ∧ m.getD p.toNat 0 ≤ 1000000000000), .agg (.cons (.bool (plusV ⟨e, n, m⟩ p.toNat).e) (.cons (.bool (plusV ⟨e, n, m⟩ p.toNat).n) (.cons (.roI (plusV ⟨e, n, m⟩ p.toNat).m) .nil))), none⟩
  | _ => none
set_option maxRecDepth 4000 in
set_option maxHeartbeats 4000000 in
theorem plus_ok : FSpec Try.prog 60 plusS := by
  refine fspec_of htb (fn := Try.f60) (by kernel_rfl) (by kernel_rfl) rfl (fun args r hS => ?_) (fun args r hS hob hl => ?_)
  · unfold plusS at hS; split at hS <;> first | (cases hS; done) | (cases hS; exact Nat.le_of_ble_eq_true rfl)
  unfold plusS at hS
  split at hS
  case h_2 => cases hS
  rename_i e n m p
  simp only [Option.some.injEq] at hS
  subst hS
  simp only [lenP, mkL, lim] at hl
  dsimp only at hob
  repeat' first
    | with_reducible first | refine awp_seq ?_ | refine awp_block ?_ | refine next_then ?_ | refine next_block ?_ | refine exit_then ?_ | refine ret_then ?_ | refine ret_block ?_ | refine exit_here ?_ | refine awp_exit ?_ | refine awp_ret ?_ | refine awp_skip ?_ | refine awp_label ?_ | refine next_noGoto ?_ | refine ret_noGoto ?_ | refine exit_noGoto ?_ | refine awp_scope ?_
    | ((with_reducible refine exit_past ?_ ?_); exact rfl)
    | ((with_reducible refine isCond ?_); refine awp_condO rfl ?_ ?_ <;> intro hb <;> (try simp only [zH] at hb))
    | ((with_reducible refine isRegS 2 ?_ ?_); (· exact rfl); (with_reducible refine isRegS 3 ?_ ?_); (· exact rfl); (first | refine awp_textM htb hmz noSp (fun _ => false) rfl rfl ?_ | refine awp_drawM hmo htb hmz noSp (fun _ => false) rfl rfl (by kernel_rfl) ?_); intro m' e' l' ob h; simp only [zE0, zE1, zE2, zE3, zE4, zE5, evp, evx, ev1, evLoad, evStore, evBin, isBoolK, forall_const, z38, tb, Nat.reduceAdd, Nat.reduceSub, Nat.reduceMul, Nat.reduceEqDiff, Nat.reduceLeDiff, Nat.reduceLT, Nat.reduceBEq, Nat.reduceBNe, ↓reduceIte, reduceIte] at h; obtain ⟨rfl, rfl, rfl, rfl⟩ := h; refine ⟨?_, ?_⟩)
    | ((with_reducible refine Ob.mk ?_); first | exact trivial | (intros; omega) | ((repeat' first | apply And.intro | (intro hg; have hg' := hg; try simp only [zH] at hg')) <;> first | assumption | omega | (simp only [zH]; omega)))
  · repeat' first
      | with_reducible first | refine awp_seq ?_ | refine awp_block ?_ | refine next_then ?_ | refine next_block ?_ | refine exit_then ?_ | refine ret_then ?_ | refine ret_block ?_ | refine exit_here ?_ | refine awp_exit ?_ | refine awp_ret ?_ | refine awp_skip ?_ | refine awp_label ?_ | refine next_noGoto ?_ | refine ret_noGoto ?_ | refine exit_noGoto ?_ | refine awp_scope ?_
      | ((with_reducible refine exit_past ?_ ?_); exact rfl)
      | ((with_reducible refine isCond ?_); refine awp_condO rfl ?_ ?_ <;> intro hb <;> (try simp only [zH] at hb))
      | ((with_reducible refine isReg ?_); (first | refine awp_textM htb hmz noSp (fun _ => false) rfl rfl ?_ | refine awp_drawM hmo htb hmz noSp (fun _ => false) rfl rfl (by kernel_rfl) ?_); intro m' e' l' ob h; simp only [zE0, zE1, zE2, zE3, zE4, zE5, evp, evx, ev1, evLoad, evStore, evBin, isBoolK, forall_const, z38, tb, Nat.reduceAdd, Nat.reduceSub, Nat.reduceMul, Nat.reduceEqDiff, Nat.reduceLeDiff, Nat.reduceLT, Nat.reduceBEq, Nat.reduceBNe, ↓reduceIte, reduceIte] at h; obtain ⟨rfl, rfl, rfl, rfl⟩ := h; refine ⟨?_, ?_⟩)
      | ((with_reducible refine Ob.mk ?_); first | exact trivial | (intros; omega) | ((repeat' first | apply And.intro | (intro hg; have hg' := hg; try simp only [zH] at hg')) <;> first | assumption | omega | (simp only [zH]; omega)))
    refine fin_ret rfl rfl (spec_flat rfl ?_ rfl)
    rw [show plusV ⟨e, n, m⟩ p.toNat = ⟨e, n, m⟩ from if_pos hb]
    rfl
  have he : e = false := by cases e with | false => rfl | true => simp at hb
  have hne : n = false := by cases n with | false => rfl | true => simp at hb
  subst he hne
  obtain ⟨h1, h2, h3, h4, h5⟩ := hob rfl rfl
  (refine awp_textM htb hmz noSp (fun i => Nat.beq i 0) rfl rfl ?_; intro m' e' l' ob h; simp only [zE0, zE1, zE2, zE3, zE4, zE5, evp, evx, ev1, evLoad, evStore, evBin, isBoolK, forall_const, z38, tb, Nat.reduceAdd, Nat.reduceSub, Nat.reduceMul, Nat.reduceEqDiff, Nat.reduceLeDiff, Nat.reduceLT, Nat.reduceBEq, Nat.reduceBNe, ↓reduceIte, reduceIte] at h; obtain ⟨rfl, rfl, rfl, rfl⟩ := h; refine ⟨?_, ?_⟩)
  · first | ((with_reducible refine Ob.mk ?_); first | exact trivial | (intros; omega) | ((repeat' first | apply And.intro | (intro hg; have hg' := hg; try simp only [zH] at hg')) <;> first | assumption | omega | (simp only [zH]; omega))) | skip
  refine next_then ?_
  repeat' first
    | with_reducible first | refine awp_seq ?_ | refine awp_block ?_ | refine next_then ?_ | refine next_block ?_ | refine exit_then ?_ | refine ret_then ?_ | refine ret_block ?_ | refine exit_here ?_ | refine awp_exit ?_ | refine awp_ret ?_ | refine awp_skip ?_ | refine awp_label ?_ | refine next_noGoto ?_ | refine ret_noGoto ?_ | refine exit_noGoto ?_ | refine awp_scope ?_
    | ((with_reducible refine exit_past ?_ ?_); exact rfl)
    | ((with_reducible refine isCond ?_); refine awp_condO rfl ?_ ?_ <;> intro hb <;> (try simp only [zH] at hb))
    | ((with_reducible refine isRegS 5 ?_ ?_); (· exact rfl); (first | refine awp_textM htb hmz noSp (fun _ => false) rfl rfl ?_ | refine awp_drawM hmo htb hmz noSp (fun _ => false) rfl rfl (by kernel_rfl) ?_); intro m' e' l' ob h; simp only [zE0, zE1, zE2, zE3, zE4, zE5, evp, evx, ev1, evLoad, evStore, evBin, isBoolK, forall_const, z38, tb, Nat.reduceAdd, Nat.reduceSub, Nat.reduceMul, Nat.reduceEqDiff, Nat.reduceLeDiff, Nat.reduceLT, Nat.reduceBEq, Nat.reduceBNe, ↓reduceIte, reduceIte] at h; obtain ⟨rfl, rfl, rfl, rfl⟩ := h; refine ⟨?_, ?_⟩)
    | ((with_reducible refine Ob.mk ?_); first | exact trivial | (intros; omega) | ((repeat' first | apply And.intro | (intro hg; have hg' := hg; try simp only [zH] at hg')) <;> first | assumption | omega | (simp only [zH]; omega)))
  refine awp_fzN 11 (.roI (m.set p.toNat (m.getD p.toNat 0 + 1))) (by simp only [lkr_cons, lkr_nil, fzE, fzA, fzR, fzB, set1, nbeq, Nat.reduceEqDiff, decide_true, decide_false, ↓reduceIte, reduceIte, cond_true, cond_false, List.take_length, Option.some.injEq]; rfl) (by first | exact rfl | (refine ⟨?_, rfl⟩; first | rfl | (intros; rfl))) (by simp only [lkr_cons, lkr_nil, fzE, fzA, fzR, fzB, set1, nbeq, Nat.reduceEqDiff, decide_true, decide_false, ↓reduceIte, reduceIte, cond_true, cond_false, List.take_length, Option.some.injEq]; rfl) (by simp only [lkr_cons, lkr_nil, fzE, fzA, fzR, fzB, set1, nbeq, Nat.reduceEqDiff, decide_true, decide_false, ↓reduceIte, reduceIte, cond_true, cond_false, List.take_length, Option.some.injEq]; rfl) ?_
  repeat' first
    | with_reducible first | refine awp_seq ?_ | refine awp_block ?_ | refine next_then ?_ | refine next_block ?_ | refine exit_then ?_ | refine ret_then ?_ | refine ret_block ?_ | refine exit_here ?_ | refine awp_exit ?_ | refine awp_ret ?_ | refine awp_skip ?_ | refine awp_label ?_ | refine next_noGoto ?_ | refine ret_noGoto ?_ | refine exit_noGoto ?_ | refine awp_scope ?_
    | ((with_reducible refine exit_past ?_ ?_); exact rfl)
    | ((with_reducible refine isCond ?_); refine awp_condO rfl ?_ ?_ <;> intro hb <;> (try simp only [zH] at hb))
    | ((with_reducible refine isReg ?_); (first | refine awp_textM htb hmz noSp (fun _ => false) rfl rfl ?_ | refine awp_drawM hmo htb hmz noSp (fun _ => false) rfl rfl (by kernel_rfl) ?_); intro m' e' l' ob h; simp only [zE0, zE1, zE2, zE3, zE4, zE5, evp, evx, ev1, evLoad, evStore, evBin, isBoolK, forall_const, z38, tb, Nat.reduceAdd, Nat.reduceSub, Nat.reduceMul, Nat.reduceEqDiff, Nat.reduceLeDiff, Nat.reduceLT, Nat.reduceBEq, Nat.reduceBNe, ↓reduceIte, reduceIte] at h; obtain ⟨rfl, rfl, rfl, rfl⟩ := h; refine ⟨?_, ?_⟩)
    | ((with_reducible refine Ob.mk ?_); first | exact trivial | (intros; omega) | ((repeat' first | apply And.intro | (intro hg; have hg' := hg; try simp only [zH] at hg')) <;> first | assumption | omega | (simp only [zH]; omega)))
  refine fin_ret rfl rfl (spec_flat rfl ?_ rfl)
  rfl
end Go.Proofs.Ytbcghiagomkadaa.Cal
