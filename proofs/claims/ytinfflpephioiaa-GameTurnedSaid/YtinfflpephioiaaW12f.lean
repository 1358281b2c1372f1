/- What the walk finds: the example of chapter 12 holds. -/
import Derived.Test.YtinfflpephioiaaW12d
set_option linter.unusedVariables false
set_option linter.unusedSimpArgs false
namespace Go.Proofs.Ytinfflpephioiaa.Cal
open Go Pl

def g0 : Gm := ⟨[0, 1], [1, 2], [[0, 1], [0]]⟩
theorem g0_valid : Valid g0 := by
  refine ⟨by decide, rfl, rfl, fun v hv => ?_⟩
  have hv : v < 2 := hv
  have : v = 0 ∨ v = 1 := by omega
  rcases this with rfl | rfl
  · refine ⟨by decide, fun i hi => ?_⟩
    have hi : i < 2 := hi
    have : i = 0 ∨ i = 1 := by omega
    rcases this with rfl | rfl <;> exact ⟨by decide, by decide, by decide⟩
  · refine ⟨by decide, fun i hi => ?_⟩
    have hi : i < 1 := hi
    obtain rfl : i = 0 := by omega
    exact ⟨by decide, by decide, by decide⟩
theorem g0_play1 : playR g0 [1, 0] 0 = ⟨[], [0, 1], 0, 0⟩ := by
  have hag : Again (chF [1, 0]) 0 2 0 := by
    refine ⟨fun i j hij hj => ?_, by decide, rfl⟩
    have : i = 0 ∧ j = 1 := by omega
    obtain ⟨rfl, rfl⟩ := this
    decide
  have := play_e5 (g := g0) (c := [1, 0]) (f := 0) (validB_true g0_valid) rfl (by decide) (fun v hv => by
    have hv : v < 2 := hv
    have : v = 0 ∨ v = 1 := by omega
    rcases this with rfl | rfl <;> decide) hag
  rw [this]
  rfl
theorem g0_play2 : playR g0 [0, 0] 0 = ⟨[], [0], 1, 0⟩ := by
  have hag : Again (chF [0, 0]) 0 1 0 := by
    refine ⟨fun i j hij hj => ?_, by decide, rfl⟩
    omega
  have := play_e5 (g := g0) (c := [0, 0]) (f := 0) (validB_true g0_valid) rfl (by decide) (fun v hv => by
    have hv : v < 2 := hv
    have : v = 0 ∨ v = 1 := by omega
    rcases this with rfl | rfl <;> decide) hag
  rw [this]
  rfl

def trueS : Spec
  | [] => some ⟨True, .bool true, none⟩
  | _ => none

noncomputable def spAw : Nat → Option Spec
  | 12 => some playS
  | 16 => some listS
  | _ => none
theorem spAw_ok : SpOK Try.prog spAw := by
  intro f S h
  unfold spAw at h
  split at h
  · cases h; exact play_ok
  · cases h; exact list_ok
  · cases h
theorem g0_play1' : playR ⟨[0, 1], [1, 2], [[0, 1], [0]]⟩ [1, 0] 0 = ⟨[], [0, 1], 0, 0⟩ := g0_play1
theorem g0_play2' : playR ⟨[0, 1], [1, 2], [[0, 1], [0]]⟩ [0, 0] 0 = ⟨[], [0], 1, 0⟩ := g0_play2

set_option maxRecDepth 4000 in
set_option maxHeartbeats 4000000 in
theorem awake12_ok : FSpec Try.prog 9 trueS := by
  refine fspec_of htb (fn := Try.f9) (by kernel_rfl) (by kernel_rfl) rfl (fun args r hS => ?_) (fun args r hS hob hl => ?_)
  · unfold trueS at hS; split at hS <;> first | (cases hS; done) | (cases hS; exact Nat.le_of_ble_eq_true rfl)
  unfold trueS at hS
  split at hS
  case h_2 => cases hS
  rename_i xx
  simp only [Option.some.injEq] at hS
  subst hS
  simp only [lenP, mkL, lim] at hl
  dsimp only at hob
  repeat' first
    | with_reducible first | refine awp_seq ?_ | refine awp_block ?_ | refine next_then ?_ | refine next_block ?_ | refine exit_then ?_ | refine ret_then ?_ | refine ret_block ?_ | refine exit_here ?_ | refine awp_exit ?_ | refine awp_ret ?_ | refine awp_skip ?_ | refine awp_label ?_ | refine next_noGoto ?_ | refine ret_noGoto ?_ | refine exit_noGoto ?_ | refine awp_scope ?_
    | ((with_reducible refine exit_past ?_ ?_); exact rfl)
    | ((with_reducible refine isCond ?_); refine awp_condO rfl ?_ ?_ <;> intro hb <;> (try simp only [Bool.and_eq_false_iff, decide_eq_true_eq, decide_eq_false_iff_not, Bool.or_eq_true, Bool.or_eq_false_iff, Bool.and_eq_true, Bool.not_eq_true', Bool.not_eq_false', not_or, Int.not_lt, Int.not_le] at hb))
    | ((with_reducible refine isReg ?_); (first | refine awp_textM htb hmz spAw_ok (fun _ => false) rfl rfl ?_ | refine awp_drawM hmo htb hmz spAw_ok (fun _ => false) rfl rfl (by kernel_rfl) ?_); intro m' e' l' ob h; simp only [evOut, evStep, eq_self, evo, ev1, evx, evp, ofP, guardOf, opv, lke_cons, lke_nil, lkr_nil, lkr_cons, isC, isCC, isCL, men, putE, setW, set1, del, evLoad, evField, evIndex, evBin, lenOf, evSlice, bnd, cutI, subv, selv, isV, isAg, cellsL, lenL, properL, nthL, dropL, takeL, appL, setL, updv, tb, TI.isStr, strip, gd, gds, whnR, evPick, evStore, stBox, evApp, srcI, srcB, srcR, evBuildS, evTake, makeB, isNilS, partsOK, elemsOf, collI, collB, collII, allC, allN, fillL, evCut, evFz, lko, z0, renB, z1, z2, z3, z4, notD, chkG, evCopy, evCall, ofSR, viewA, lsOf, ofL, zfree, zfreeB, freeB, isOne, ren, zipE, Op.operands, Call.operands, Nat.reduceAdd, Nat.reduceSub, Nat.reduceMul, Nat.reduceEqDiff, Nat.reduceLeDiff, Nat.reduceLT, Nat.reduceBEq, Nat.reduceBNe, ↓reduceIte, reduceIte, nbeq, nble, nblt, z5, z6, z7, z8, z9, z10, z11, z12, z13, z14, z15, z16, z17, z18, z19, z20, z21, z22, z23, z24, z25, z26, z27, z28, z29, z30, z31, z32, z33, z34, z35, z36, z37, imp_self, forall_const, z38, EO.mk.injEq, z39, z40, z41, z42, z43, z44, z45, z46, z47, z48, z49, z50, ne_eq, z51, z52, z53, z54, z55, z56, z57, inI, evRes, resV, mkL, ltK, rhoL, leE, leR, menB, menE, fzA, fzE, fzB, fzR, spAw, playS, listS, PlayR.av, g0_play1', g0_play2', Nat.reduceLT, Nat.zero_lt_succ, Int.reduceEq, Int.reduceLT, Int.reduceLE, List.length_nil, List.length_cons, Int.natCast_zero, Int.cast_ofNat_Int, List.cons.injEq, Int.reduceNeg, reduceCtorEq, and_false, and_true] at h; obtain ⟨rfl, rfl, rfl, rfl⟩ := h; refine ⟨?_, ?_⟩)
    | ((with_reducible refine Ob.mk ?_); first | exact trivial | (intros; omega) | ((repeat' first | apply And.intro | (intro hg; have hg' := hg; try simp only [Bool.and_eq_false_iff, decide_eq_true_eq, decide_eq_false_iff_not, Bool.or_eq_true, Bool.or_eq_false_iff, Bool.and_eq_true, Bool.not_eq_true', Bool.not_eq_false', not_or, Int.not_lt, Int.not_le] at hg')) <;> first | assumption | omega | (simp only [Bool.and_eq_false_iff, decide_eq_true_eq, decide_eq_false_iff_not, Bool.or_eq_true, Bool.or_eq_false_iff, Bool.and_eq_true, Bool.not_eq_true', Bool.not_eq_false', not_or, Int.not_lt, Int.not_le]; omega)))
  refine fin_ret rfl rfl (spec_flat rfl ?_ rfl)
  rfl

end Go.Proofs.Ytinfflpephioiaa.Cal
