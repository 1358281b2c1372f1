/- What the walk finds: the examples of chapter 14. -/
import Derived.Test.YtgminhedbeblpaaW14g
set_option linter.unusedVariables false
set_option linter.unusedSimpArgs false
namespace Go.Proofs.Ytgminhedbeblpaa.Cal
open Go Pl

def gotS : Spec
  | [.agg (.cons (.bool t) (.cons (.roI xs) .nil))] => some ⟨True, .agg (.cons (.bool t) (.cons (.roI xs) .nil)), none⟩
  | _ => none
def sameS : Spec
  | [.agg (.cons (.bool t) (.cons (.roI xs) .nil)), .agg (.cons (.bool t') (.cons (.roI ys) .nil))] => some ⟨True, .bool (decide (t = t' ∧ xs = ys)), none⟩
  | _ => none
set_option maxRecDepth 4000 in
set_option maxHeartbeats 4000000 in
theorem got_ok : FSpec Try.prog 13 gotS := by
  refine fspec_of htb (fn := Try.f13) (by kernel_rfl) (by kernel_rfl) rfl (fun args r hS => ?_) (fun args r hS hob hl => ?_)
  · unfold gotS at hS; split at hS <;> first | (cases hS; done) | (cases hS; exact Nat.le_of_ble_eq_true rfl)
  unfold gotS at hS
  split at hS
  case h_2 => cases hS
  rename_i t xs
  simp only [Option.some.injEq] at hS
  subst hS
  simp only [lenP, mkL, lim] at hl
  dsimp only at hob
  repeat' first
    | with_reducible first | refine awp_seq ?_ | refine awp_block ?_ | refine next_then ?_ | refine next_block ?_ | refine exit_then ?_ | refine ret_then ?_ | refine ret_block ?_ | refine exit_here ?_ | refine awp_exit ?_ | refine awp_ret ?_ | refine awp_skip ?_ | refine awp_label ?_ | refine next_noGoto ?_ | refine ret_noGoto ?_ | refine exit_noGoto ?_ | refine awp_scope ?_
    | ((with_reducible refine exit_past ?_ ?_); exact rfl)
    | ((with_reducible refine isCond ?_); refine awp_condO rfl ?_ ?_ <;> intro hb <;> (try simp only [Bool.and_eq_false_iff, decide_eq_true_eq, decide_eq_false_iff_not, Bool.or_eq_true, Bool.or_eq_false_iff, Bool.and_eq_true, Bool.not_eq_true', Bool.not_eq_false', not_or, Int.not_lt, Int.not_le] at hb))
    | ((with_reducible refine isReg ?_); (first | refine awp_textM htb hmz noSp (fun _ => false) rfl rfl ?_ | refine awp_drawM hmo htb hmz noSp (fun _ => false) rfl rfl (by kernel_rfl) ?_); intro m' e' l' ob h; simp only [evOut, evStep, evCap, evMap, isIntS, gua, eq_self, evo, ev1, evx, evp, ofP, guardOf, opv, lke_cons, lke_nil, lkr_nil, lkr_cons, isC, isCC, isCL, men, putE, setW, set1, del, evLoad, evField, evIndex, evBin, lenOf, evSlice, bnd, cutI, subv, selv, isV, isAg, cellsL, lenL, properL, nthL, dropL, takeL, appL, setL, updv, tb, TI.isStr, strip, gd, gds, whnR, evPick, evStore, stBox, evApp, evAppS, List.getD_cons_zero, srcI, srcB, srcR, evBuildS, evTake, makeB, isNilS, partsOK, elemsOf, collI, collB, collII, allC, allN, fillL, evCut, evFz, lko, z0, renB, z1, z2, z3, z4, notD, chkG, evCopy, evCall, ofSR, viewA, lsOf, ofL, zfree, zfreeB, freeB, isOne, ren, zipE, Op.operands, Call.operands, Nat.reduceAdd, Nat.reduceSub, Nat.reduceMul, Nat.reduceEqDiff, Nat.reduceLeDiff, Nat.reduceLT, Nat.reduceBEq, Nat.reduceBNe, ↓reduceIte, reduceIte, nbeq, nble, nblt, z5, z6, z7, z8, z9, z10, z11, z12, z13, z14, z15, z16, z17, z18, z19, z20, z21, z22, z23, z24, z25, z26, z27, z28, z29, z30, z31, z32, z33, z34, z35, z36, z37, imp_self, forall_const, z38, EO.mk.injEq, z39, z40, z41, z42, z43, z44, z45, z46, z47, z48, z49, z50, ne_eq, z51, z52, z53, z54, z55, z56, z57, inI, evRes, resV, mkL, ltK, rhoL, leE, leR, menB, menE, fzA, fzE, fzB, fzR] at h; obtain ⟨rfl, rfl, rfl, rfl⟩ := h; refine ⟨?_, ?_⟩)
    | ((with_reducible refine Ob.mk ?_); first | exact trivial | (intros; omega) | ((repeat' first | apply And.intro | (intro hg; have hg' := hg; try simp only [Bool.and_eq_false_iff, decide_eq_true_eq, decide_eq_false_iff_not, Bool.or_eq_true, Bool.or_eq_false_iff, Bool.and_eq_true, Bool.not_eq_true', Bool.not_eq_false', not_or, Int.not_lt, Int.not_le] at hg')) <;> first | assumption | omega | (simp only [Bool.and_eq_false_iff, decide_eq_true_eq, decide_eq_false_iff_not, Bool.or_eq_true, Bool.or_eq_false_iff, Bool.and_eq_true, Bool.not_eq_true', Bool.not_eq_false', not_or, Int.not_lt, Int.not_le]; omega)))
  refine fin_ret rfl rfl (spec_flat rfl ?_ rfl)
  rfl
set_option maxRecDepth 4000 in
set_option maxHeartbeats 4000000 in
theorem same_ok : FSpec Try.prog 12 sameS := by
  refine fspec_of htb (fn := Try.f12) (by kernel_rfl) (by kernel_rfl) rfl (fun args r hS => ?_) (fun args r hS hob hl => ?_)
  · unfold sameS at hS; split at hS <;> first | (cases hS; done) | (cases hS; exact Nat.le_of_ble_eq_true rfl)
  unfold sameS at hS
  split at hS
  case h_2 => cases hS
  rename_i t xs t' ys
  simp only [Option.some.injEq] at hS
  subst hS
  simp only [lenP, mkL, lim] at hl
  dsimp only at hob
  repeat' first
    | with_reducible first | refine awp_seq ?_ | refine awp_block ?_ | refine next_then ?_ | refine next_block ?_ | refine exit_then ?_ | refine ret_then ?_ | refine ret_block ?_ | refine exit_here ?_ | refine awp_exit ?_ | refine awp_ret ?_ | refine awp_skip ?_ | refine awp_label ?_ | refine next_noGoto ?_ | refine ret_noGoto ?_ | refine exit_noGoto ?_ | refine awp_scope ?_
    | ((with_reducible refine exit_past ?_ ?_); exact rfl)
    | ((with_reducible refine isCond ?_); refine awp_condO rfl ?_ ?_ <;> intro hb <;> (try simp only [Bool.and_eq_false_iff, decide_eq_true_eq, decide_eq_false_iff_not, Bool.or_eq_true, Bool.or_eq_false_iff, Bool.and_eq_true, Bool.not_eq_true', Bool.not_eq_false', not_or, Int.not_lt, Int.not_le] at hb))
    | ((with_reducible refine isReg ?_); (first | refine awp_textM htb hmz noSp (fun _ => false) rfl rfl ?_ | refine awp_drawM hmo htb hmz noSp (fun _ => false) rfl rfl (by kernel_rfl) ?_); intro m' e' l' ob h; simp only [evOut, evStep, evCap, evMap, isIntS, gua, eq_self, evo, ev1, evx, evp, ofP, guardOf, opv, lke_cons, lke_nil, lkr_nil, lkr_cons, isC, isCC, isCL, men, putE, setW, set1, del, evLoad, evField, evIndex, evBin, lenOf, evSlice, bnd, cutI, subv, selv, isV, isAg, cellsL, lenL, properL, nthL, dropL, takeL, appL, setL, updv, tb, TI.isStr, strip, gd, gds, whnR, evPick, evStore, stBox, evApp, evAppS, List.getD_cons_zero, srcI, srcB, srcR, evBuildS, evTake, makeB, isNilS, partsOK, elemsOf, collI, collB, collII, allC, allN, fillL, evCut, evFz, lko, z0, renB, z1, z2, z3, z4, notD, chkG, evCopy, evCall, ofSR, viewA, lsOf, ofL, zfree, zfreeB, freeB, isOne, ren, zipE, Op.operands, Call.operands, Nat.reduceAdd, Nat.reduceSub, Nat.reduceMul, Nat.reduceEqDiff, Nat.reduceLeDiff, Nat.reduceLT, Nat.reduceBEq, Nat.reduceBNe, ↓reduceIte, reduceIte, nbeq, nble, nblt, z5, z6, z7, z8, z9, z10, z11, z12, z13, z14, z15, z16, z17, z18, z19, z20, z21, z22, z23, z24, z25, z26, z27, z28, z29, z30, z31, z32, z33, z34, z35, z36, z37, imp_self, forall_const, z38, EO.mk.injEq, z39, z40, z41, z42, z43, z44, z45, z46, z47, z48, z49, z50, ne_eq, z51, z52, z53, z54, z55, z56, z57, inI, evRes, resV, mkL, ltK, rhoL, leE, leR, menB, menE, fzA, fzE, fzB, fzR] at h; obtain ⟨rfl, rfl, rfl, rfl⟩ := h; refine ⟨?_, ?_⟩)
    | ((with_reducible refine Ob.mk ?_); first | exact trivial | (intros; omega) | ((repeat' first | apply And.intro | (intro hg; have hg' := hg; try simp only [Bool.and_eq_false_iff, decide_eq_true_eq, decide_eq_false_iff_not, Bool.or_eq_true, Bool.or_eq_false_iff, Bool.and_eq_true, Bool.not_eq_true', Bool.not_eq_false', not_or, Int.not_lt, Int.not_le] at hg')) <;> first | assumption | omega | (simp only [Bool.and_eq_false_iff, decide_eq_true_eq, decide_eq_false_iff_not, Bool.or_eq_true, Bool.or_eq_false_iff, Bool.and_eq_true, Bool.not_eq_true', Bool.not_eq_false', not_or, Int.not_lt, Int.not_le]; omega)))
  · refine fin_ret rfl rfl (spec_flat rfl ?_ rfl)
    show AV.bool false = AV.bool (decide (t = t' ∧ xs = ys))
    rw [decide_eq_false]
    rintro ⟨rfl, rfl⟩
    simp at hb
  have htt : t = t' := by
    have := hb.1
    cases t <;> cases t' <;> first | rfl | exact absurd this (by decide)
  have hlen : xs.length = ys.length := by omega
  subst htt
  clear hb
  refine awp_loopC (τ := Nat) (fun i => i ≤ xs.length ∧ ∀ j, j < i → xs.getD j 0 = ys.getD j 0) (fun i => ⟨5, [(23, .int .i64 i), (22, .int .i64 xs.length), (3, .rop (.agg (.cons (.bool t) (.cons (.roI ys) .nil)))), (2, .rop (.agg (.cons (.bool t) (.cons (.roI xs) .nil))))], [], []⟩) (fun i => xs.length - i) 0 [] ?_ ⟨Nat.zero_le _, fun j hj => absurd hj (Nat.not_lt_zero j)⟩ ?_
  · (refine ⟨rfl, ?_, ?_⟩ <;> simp only [evOut, evStep, evCap, evMap, isIntS, gua, eq_self, evo, ev1, evx, evp, ofP, guardOf, opv, lke_cons, lke_nil, lkr_nil, lkr_cons, isC, isCC, isCL, men, putE, setW, set1, del, evLoad, evField, evIndex, evBin, lenOf, evSlice, bnd, cutI, subv, selv, isV, isAg, cellsL, lenL, properL, nthL, dropL, takeL, appL, setL, updv, tb, TI.isStr, strip, gd, gds, whnR, evPick, evStore, stBox, evApp, evAppS, List.getD_cons_zero, srcI, srcB, srcR, evBuildS, evTake, makeB, isNilS, partsOK, elemsOf, collI, collB, collII, allC, allN, fillL, evCut, evFz, lko, z0, renB, z1, z2, z3, z4, notD, chkG, evCopy, evCall, ofSR, viewA, lsOf, ofL, zfree, zfreeB, freeB, isOne, ren, zipE, Op.operands, Call.operands, Nat.reduceAdd, Nat.reduceSub, Nat.reduceMul, Nat.reduceEqDiff, Nat.reduceLeDiff, Nat.reduceLT, Nat.reduceBEq, Nat.reduceBNe, ↓reduceIte, reduceIte, nbeq, nble, nblt, z5, z6, z7, z8, z9, z10, z11, z12, z13, z14, z15, z16, z17, z18, z19, z20, z21, z22, z23, z24, z25, z26, z27, z28, z29, z30, z31, z32, z33, z34, z35, z36, z37, imp_self, forall_const, z38, EO.mk.injEq, z39, z40, z41, z42, z43, z44, z45, z46, z47, z48, z49, z50, ne_eq, z51, z52, z53, z54, z55, z56, z57, inI, evRes, resV, mkL, ltK, rhoL, leE, leR, menB, menE, fzA, fzE, fzB, fzR, AV.int.injEq, AV.bool.injEq, AV.roI.injEq, AV.roB.injEq, AV.roII.injEq, AV.rop.injEq, AV.agg.injEq, AV.tup.injEq, AV.cons.injEq, AV.own.injEq, AV.whn.injEq, Blk.ints.injEq, Blk.bools.injEq, Blk.rows.injEq, Blk.rowsR.injEq, Blk.box.injEq, Option.some.injEq, Int.natCast_add, Int.natCast_one, Int.cast_ofNat_Int])
  rintro i ⟨hi, hj⟩
  repeat' first
    | with_reducible first | refine awp_seq ?_ | refine awp_block ?_ | refine next_then ?_ | refine next_block ?_ | refine exit_then ?_ | refine ret_then ?_ | refine ret_block ?_ | refine exit_here ?_ | refine awp_exit ?_ | refine awp_ret ?_ | refine awp_skip ?_ | refine awp_label ?_ | refine next_noGoto ?_ | refine ret_noGoto ?_ | refine exit_noGoto ?_ | refine awp_scope ?_
    | ((with_reducible refine exit_past ?_ ?_); exact rfl)
    | ((with_reducible refine isCond ?_); refine awp_condO rfl ?_ ?_ <;> intro hb <;> (try simp only [Bool.and_eq_false_iff, decide_eq_true_eq, decide_eq_false_iff_not, Bool.or_eq_true, Bool.or_eq_false_iff, Bool.and_eq_true, Bool.not_eq_true', Bool.not_eq_false', not_or, Int.not_lt, Int.not_le] at hb))
    | ((with_reducible refine isReg ?_); (first | refine awp_textM htb hmz noSp (fun _ => false) rfl rfl ?_ | refine awp_drawM hmo htb hmz noSp (fun _ => false) rfl rfl (by kernel_rfl) ?_); intro m' e' l' ob h; simp only [evOut, evStep, evCap, evMap, isIntS, gua, eq_self, evo, ev1, evx, evp, ofP, guardOf, opv, lke_cons, lke_nil, lkr_nil, lkr_cons, isC, isCC, isCL, men, putE, setW, set1, del, evLoad, evField, evIndex, evBin, lenOf, evSlice, bnd, cutI, subv, selv, isV, isAg, cellsL, lenL, properL, nthL, dropL, takeL, appL, setL, updv, tb, TI.isStr, strip, gd, gds, whnR, evPick, evStore, stBox, evApp, evAppS, List.getD_cons_zero, srcI, srcB, srcR, evBuildS, evTake, makeB, isNilS, partsOK, elemsOf, collI, collB, collII, allC, allN, fillL, evCut, evFz, lko, z0, renB, z1, z2, z3, z4, notD, chkG, evCopy, evCall, ofSR, viewA, lsOf, ofL, zfree, zfreeB, freeB, isOne, ren, zipE, Op.operands, Call.operands, Nat.reduceAdd, Nat.reduceSub, Nat.reduceMul, Nat.reduceEqDiff, Nat.reduceLeDiff, Nat.reduceLT, Nat.reduceBEq, Nat.reduceBNe, ↓reduceIte, reduceIte, nbeq, nble, nblt, z5, z6, z7, z8, z9, z10, z11, z12, z13, z14, z15, z16, z17, z18, z19, z20, z21, z22, z23, z24, z25, z26, z27, z28, z29, z30, z31, z32, z33, z34, z35, z36, z37, imp_self, forall_const, z38, EO.mk.injEq, z39, z40, z41, z42, z43, z44, z45, z46, z47, z48, z49, z50, ne_eq, z51, z52, z53, z54, z55, z56, z57, inI, evRes, resV, mkL, ltK, rhoL, leE, leR, menB, menE, fzA, fzE, fzB, fzR] at h; obtain ⟨rfl, rfl, rfl, rfl⟩ := h; refine ⟨?_, ?_⟩)
    | ((with_reducible refine Ob.mk ?_); first | exact trivial | (intros; omega) | ((repeat' first | apply And.intro | (intro hg; have hg' := hg; try simp only [Bool.and_eq_false_iff, decide_eq_true_eq, decide_eq_false_iff_not, Bool.or_eq_true, Bool.or_eq_false_iff, Bool.and_eq_true, Bool.not_eq_true', Bool.not_eq_false', not_or, Int.not_lt, Int.not_le] at hg')) <;> first | assumption | omega | (simp only [Bool.and_eq_false_iff, decide_eq_true_eq, decide_eq_false_iff_not, Bool.or_eq_true, Bool.or_eq_false_iff, Bool.and_eq_true, Bool.not_eq_true', Bool.not_eq_false', not_or, Int.not_lt, Int.not_le]; omega)))
  · refine fin_ret rfl rfl (spec_flat rfl ?_ rfl)
    show AV.bool false = AV.bool (decide (t = t ∧ xs = ys))
    rw [decide_eq_false]
    rintro ⟨_, rfl⟩
    exact hb rfl
  · refine back (i + 1) [] ?_ ⟨by omega, fun j hj' => ?_⟩ (by omega)
    · (refine ⟨rfl, ?_, ?_⟩ <;> simp only [evOut, evStep, evCap, evMap, isIntS, gua, eq_self, evo, ev1, evx, evp, ofP, guardOf, opv, lke_cons, lke_nil, lkr_nil, lkr_cons, isC, isCC, isCL, men, putE, setW, set1, del, evLoad, evField, evIndex, evBin, lenOf, evSlice, bnd, cutI, subv, selv, isV, isAg, cellsL, lenL, properL, nthL, dropL, takeL, appL, setL, updv, tb, TI.isStr, strip, gd, gds, whnR, evPick, evStore, stBox, evApp, evAppS, List.getD_cons_zero, srcI, srcB, srcR, evBuildS, evTake, makeB, isNilS, partsOK, elemsOf, collI, collB, collII, allC, allN, fillL, evCut, evFz, lko, z0, renB, z1, z2, z3, z4, notD, chkG, evCopy, evCall, ofSR, viewA, lsOf, ofL, zfree, zfreeB, freeB, isOne, ren, zipE, Op.operands, Call.operands, Nat.reduceAdd, Nat.reduceSub, Nat.reduceMul, Nat.reduceEqDiff, Nat.reduceLeDiff, Nat.reduceLT, Nat.reduceBEq, Nat.reduceBNe, ↓reduceIte, reduceIte, nbeq, nble, nblt, z5, z6, z7, z8, z9, z10, z11, z12, z13, z14, z15, z16, z17, z18, z19, z20, z21, z22, z23, z24, z25, z26, z27, z28, z29, z30, z31, z32, z33, z34, z35, z36, z37, imp_self, forall_const, z38, EO.mk.injEq, z39, z40, z41, z42, z43, z44, z45, z46, z47, z48, z49, z50, ne_eq, z51, z52, z53, z54, z55, z56, z57, inI, evRes, resV, mkL, ltK, rhoL, leE, leR, menB, menE, fzA, fzE, fzB, fzR, AV.int.injEq, AV.bool.injEq, AV.roI.injEq, AV.roB.injEq, AV.roII.injEq, AV.rop.injEq, AV.agg.injEq, AV.tup.injEq, AV.cons.injEq, AV.own.injEq, AV.whn.injEq, Blk.ints.injEq, Blk.bools.injEq, Blk.rows.injEq, Blk.rowsR.injEq, Blk.box.injEq, Option.some.injEq, Int.natCast_add, Int.natCast_one, Int.cast_ofNat_Int])
    · rcases Nat.lt_succ_iff_lt_or_eq.1 hj' with h | rfl
      · exact hj j h
      · exact hb
  · refine fin_ret rfl rfl (spec_flat rfl ?_ rfl)
    show AV.bool true = AV.bool (decide (t = t ∧ xs = ys))
    rw [decide_eq_true ⟨rfl, ext0 hlen fun j hj' => hj j (by omega)⟩]

def exG1 : Gm := ⟨[0, 1], [1, 2], [[0, 1], [0, 1]]⟩
def exG2 : Gm := ⟨[1], [3], [[0]]⟩
theorem ex1_valid : Valid exG1 := by
  refine ⟨by decide, rfl, rfl, fun v hv => ?_⟩
  have hv : v < 2 := hv
  have : v = 0 ∨ v = 1 := by omega
  rcases this with rfl | rfl
  · refine ⟨by decide, fun i hi => ?_⟩
    have hi : i < 2 := hi
    have : i = 0 ∨ i = 1 := by omega
    rcases this with rfl | rfl <;> exact ⟨by decide, by decide, by decide⟩
  · refine ⟨by decide, fun i hi => ?_⟩
    have hi : i < 2 := hi
    have : i = 0 ∨ i = 1 := by omega
    rcases this with rfl | rfl <;> exact ⟨by decide, by decide, by decide⟩
theorem ex2_valid : Valid exG2 := by
  refine ⟨by decide, rfl, rfl, fun v hv => ?_⟩
  have hv : v < 1 := hv
  obtain rfl : v = 0 := by omega
  refine ⟨by decide, fun i hi => ?_⟩
  have hi : i < 1 := hi
  obtain rfl : i = 0 := by omega
  exact ⟨by decide, by decide, by decide⟩
theorem ex1_od : odN [1, 2] 61 = [1] := by kernel_rfl
theorem ex1_mn : mnN [1, 2] 61 = [1] := by kernel_rfl
theorem ex2_od : odN [3] 61 = [3] := by kernel_rfl
theorem ex2_mn : mnN [3] 61 = [1] := by kernel_rfl
theorem pos1 : posL [1] := fun m hm => by rw [List.mem_singleton.1 hm]; decide
theorem ex1_least : leastL exG1 [1] [1] = [1, 0] := by
  refine leastL_eq { len := rfl, rng := fun v hv => ?_, ok := fun v hv => ?_, low := fun l' h v hv => ?_ }
  · have hv : v < 2 := hv
    have : v = 0 ∨ v = 1 := by omega
    rcases this with rfl | rfl <;> decide
  · have hv : v < 2 := hv
    have : v = 0 ∨ v = 1 := by omega
    rcases this with rfl | rfl <;> decide
  · have hv : v < 2 := hv
    have : v = 0 ∨ v = 1 := by omega
    rcases this with rfl | rfl
    · obtain ⟨i, h1, h2⟩ := best_ask (g := exG1) (odd := [1]) (many := [1]) (l := l') (v := 0) (by decide)
      have h3 := h.ok 0 (by decide)
      rw [h2] at h3
      have h1 : i < 2 := h1
      have key : ∀ V : Int, 0 ≤ V → V ≤ 2 → 1 ≤ progV [1] [1] V 1 := fun V a b => by
        have : V = 0 ∨ V = 1 ∨ V = 2 := by omega
        rcases this with rfl | rfl | rfl <;> decide
      have hi : i = 0 ∨ i = 1 := by omega
      rcases hi with rfl | rfl
      · have hr := h.rng 0 (by decide)
        have := key (l'.getD 0 0) hr.1 hr.2
        exact Int.le_trans this h3
      · have hr := h.rng 1 (by decide)
        have := key (l'.getD 1 0) hr.1 hr.2
        exact Int.le_trans this h3
    · exact (h.rng 1 (by decide)).1
theorem ex2_least : leastL exG2 [3] [1] = [2] := by
  refine leastL_eq { len := rfl, rng := fun v hv => ?_, ok := fun v hv => ?_, low := fun l' h v hv => ?_ }
  · have hv : v < 1 := hv
    obtain rfl : v = 0 := by omega
    decide
  · have hv : v < 1 := hv
    obtain rfl : v = 0 := by omega
    decide
  · have hv : v < 1 := hv
    obtain rfl : v = 0 := by omega
    have h3 := h.ok 0 (by decide)
    have hr := h.rng 0 (by decide)
    have e : bestV exG2 [3] [1] l' 0 = progV [3] [1] (l'.getD 0 0) 3 := rfl
    rw [e] at h3
    have hr2 : l'.getD 0 0 ≤ 2 := hr.2
    show 2 ≤ l'.getD 0 0
    generalize l'.getD 0 0 = V at *
    have : V = 0 ∨ V = 1 ∨ V = 2 := by have := hr.1; omega
    rcases this with rfl | rfl | rfl
    · exact absurd h3 (by decide)
    · exact absurd h3 (by decide)
    · exact Int.le_refl _

theorem ex1_F0 : meaF exG1 0 = (false, [1]) := by
  show deM (mnN [1, 2] 61) ((leastL exG1 (odN [1, 2] 61) (mnN [1, 2] 61)).getD 0 0) = _
  rw [ex1_od, ex1_mn, ex1_least]; decide
theorem ex1_F1 : meaF exG1 1 = (false, [0]) := by
  show deM (mnN [1, 2] 61) ((leastL exG1 (odN [1, 2] 61) (mnN [1, 2] 61)).getD 1 0) = _
  rw [ex1_od, ex1_mn, ex1_least]; decide
theorem ex2_F0 : meaF exG2 0 = (true, []) := by
  show deM (mnN [3] 61) ((leastL exG2 (odN [3] 61) (mnN [3] 61)).getD 0 0) = _
  rw [ex2_od, ex2_mn, ex2_least]; decide
theorem ex1_N : meaN exG1 = 2 := by unfold meaN; rw [validB_true ex1_valid]; rfl
theorem ex1_E : meaE exG1 = 0 := by unfold meaE; rw [validB_true ex1_valid]; rfl
theorem ex2_N : meaN exG2 = 1 := by unfold meaN; rw [validB_true ex2_valid]; rfl
theorem ex2_E : meaE exG2 = 0 := by unfold meaE; rw [validB_true ex2_valid]; rfl

def exS : Spec
  | [] => some ⟨True, .agg (.cons (.roI [0, 1]) (.cons (.roI [1, 2]) (.cons (.roII [[0, 1], [0, 1]]) .nil))), none⟩
  | _ => none
set_option maxRecDepth 4000 in
set_option maxHeartbeats 4000000 in
theorem ex_ok : FSpec Try.prog 28 exS := by
  refine fspec_of htb (fn := Try.f28) (by kernel_rfl) (by kernel_rfl) rfl (fun args r hS => ?_) (fun args r hS hob hl => ?_)
  · unfold exS at hS; split at hS <;> first | (cases hS; done) | (cases hS; exact Nat.le_of_ble_eq_true rfl)
  unfold exS at hS
  split at hS
  case h_2 => cases hS
  simp only [Option.some.injEq] at hS
  subst hS
  repeat' first
    | with_reducible first | refine awp_seq ?_ | refine awp_block ?_ | refine next_then ?_ | refine next_block ?_ | refine exit_then ?_ | refine ret_then ?_ | refine ret_block ?_ | refine exit_here ?_ | refine awp_exit ?_ | refine awp_ret ?_ | refine awp_skip ?_ | refine awp_label ?_ | refine next_noGoto ?_ | refine ret_noGoto ?_ | refine exit_noGoto ?_ | refine awp_scope ?_
    | ((with_reducible refine exit_past ?_ ?_); exact rfl)
    | ((with_reducible refine isCond ?_); refine awp_condO rfl ?_ ?_ <;> intro hb <;> (try simp only [Bool.and_eq_false_iff, decide_eq_true_eq, decide_eq_false_iff_not, Bool.or_eq_true, Bool.or_eq_false_iff, Bool.and_eq_true, Bool.not_eq_true', Bool.not_eq_false', not_or, Int.not_lt, Int.not_le] at hb))
    | ((with_reducible refine isReg ?_); (first | refine awp_textM htb hmz noSp (fun _ => false) rfl rfl ?_ | refine awp_drawM hmo htb hmz noSp (fun _ => false) rfl rfl (by kernel_rfl) ?_); intro m' e' l' ob h; simp only [evOut, evStep, evCap, evMap, isIntS, gua, eq_self, evo, ev1, evx, evp, ofP, guardOf, opv, lke_cons, lke_nil, lkr_nil, lkr_cons, isC, isCC, isCL, men, putE, setW, set1, del, evLoad, evField, evIndex, evBin, lenOf, evSlice, bnd, cutI, subv, selv, isV, isAg, cellsL, lenL, properL, nthL, dropL, takeL, appL, setL, updv, tb, TI.isStr, strip, gd, gds, whnR, evPick, evStore, stBox, evApp, evAppS, List.getD_cons_zero, srcI, srcB, srcR, evBuildS, evTake, makeB, isNilS, partsOK, elemsOf, collI, collB, collII, allC, allN, fillL, evCut, evFz, lko, z0, renB, z1, z2, z3, z4, notD, chkG, evCopy, evCall, ofSR, viewA, lsOf, ofL, zfree, zfreeB, freeB, isOne, ren, zipE, Op.operands, Call.operands, Nat.reduceAdd, Nat.reduceSub, Nat.reduceMul, Nat.reduceEqDiff, Nat.reduceLeDiff, Nat.reduceLT, Nat.reduceBEq, Nat.reduceBNe, ↓reduceIte, reduceIte, nbeq, nble, nblt, z5, z6, z7, z8, z9, z10, z11, z12, z13, z14, z15, z16, z17, z18, z19, z20, z21, z22, z23, z24, z25, z26, z27, z28, z29, z30, z31, z32, z33, z34, z35, z36, z37, imp_self, forall_const, z38, EO.mk.injEq, z39, z40, z41, z42, z43, z44, z45, z46, z47, z48, z49, z50, ne_eq, z51, z52, z53, z54, z55, z56, z57, inI, evRes, resV, mkL, ltK, rhoL, leE, leR, menB, menE, fzA, fzE, fzB, fzR] at h; obtain ⟨rfl, rfl, rfl, rfl⟩ := h; refine ⟨?_, ?_⟩)
    | ((with_reducible refine Ob.mk ?_); first | exact trivial | (intros; omega) | ((repeat' first | apply And.intro | (intro hg; have hg' := hg; try simp only [Bool.and_eq_false_iff, decide_eq_true_eq, decide_eq_false_iff_not, Bool.or_eq_true, Bool.or_eq_false_iff, Bool.and_eq_true, Bool.not_eq_true', Bool.not_eq_false', not_or, Int.not_lt, Int.not_le] at hg')) <;> first | assumption | omega | (simp only [Bool.and_eq_false_iff, decide_eq_true_eq, decide_eq_false_iff_not, Bool.or_eq_true, Bool.or_eq_false_iff, Bool.and_eq_true, Bool.not_eq_true', Bool.not_eq_false', not_or, Int.not_lt, Int.not_le]; omega)))
  refine fin_ret rfl rfl (spec_flat rfl ?_ rfl)
  rfl

def awkS : Spec
  | [] => some ⟨True, .bool true, none⟩
  | _ => none
noncomputable def spAw : Nat → Option Spec
  | 28 => some exS
  | 9 => some meaS
  | 17 => some listS
  | _ => none
theorem spAw_ok : SpOK Try.prog spAw := by
  intro f S h
  unfold spAw at h
  split at h
  · cases h; exact ex_ok
  · cases h; exact mea_ok
  · cases h; exact list_ok
  · cases h
set_option maxRecDepth 4000 in
set_option maxHeartbeats 4000000 in
theorem awk_ok : FSpec Try.prog 8 awkS := by
  refine fspec_of htb (fn := Try.f8) (by kernel_rfl) (by kernel_rfl) rfl (fun args r hS => ?_) (fun args r hS hob hl => ?_)
  · unfold awkS at hS; split at hS <;> first | (cases hS; done) | (cases hS; exact Nat.le_of_ble_eq_true rfl)
  unfold awkS at hS
  split at hS
  case h_2 => cases hS
  simp only [Option.some.injEq] at hS
  subst hS
  repeat' first
    | with_reducible first | refine awp_seq ?_ | refine awp_block ?_ | refine next_then ?_ | refine next_block ?_ | refine exit_then ?_ | refine ret_then ?_ | refine ret_block ?_ | refine exit_here ?_ | refine awp_exit ?_ | refine awp_ret ?_ | refine awp_skip ?_ | refine awp_label ?_ | refine next_noGoto ?_ | refine ret_noGoto ?_ | refine exit_noGoto ?_ | refine awp_scope ?_
    | ((with_reducible refine exit_past ?_ ?_); exact rfl)
    | ((with_reducible refine isCond ?_); refine awp_condO rfl ?_ ?_ <;> intro hb <;> (try simp only [Bool.and_eq_false_iff, decide_eq_true_eq, decide_eq_false_iff_not, Bool.or_eq_true, Bool.or_eq_false_iff, Bool.and_eq_true, Bool.not_eq_true', Bool.not_eq_false', not_or, Int.not_lt, Int.not_le] at hb))
    | ((with_reducible refine isReg ?_); (first | refine awp_textM htb hmz spAw_ok (fun _ => false) rfl rfl ?_ | refine awp_drawM hmo htb hmz spAw_ok (fun _ => false) rfl rfl (by kernel_rfl) ?_); intro m' e' l' ob h; simp only [evOut, evStep, evCap, evMap, isIntS, gua, eq_self, evo, ev1, evx, evp, ofP, guardOf, opv, lke_cons, lke_nil, lkr_nil, lkr_cons, isC, isCC, isCL, men, putE, setW, set1, del, evLoad, evField, evIndex, evBin, lenOf, evSlice, bnd, cutI, subv, selv, isV, isAg, cellsL, lenL, properL, nthL, dropL, takeL, appL, setL, updv, tb, TI.isStr, strip, gd, gds, whnR, evPick, evStore, stBox, evApp, evAppS, List.getD_cons_zero, srcI, srcB, srcR, evBuildS, evTake, makeB, isNilS, partsOK, elemsOf, collI, collB, collII, allC, allN, fillL, evCut, evFz, lko, z0, renB, z1, z2, z3, z4, notD, chkG, evCopy, evCall, ofSR, viewA, lsOf, ofL, zfree, zfreeB, freeB, isOne, ren, zipE, Op.operands, Call.operands, Nat.reduceAdd, Nat.reduceSub, Nat.reduceMul, Nat.reduceEqDiff, Nat.reduceLeDiff, Nat.reduceLT, Nat.reduceBEq, Nat.reduceBNe, ↓reduceIte, reduceIte, nbeq, nble, nblt, z5, z6, z7, z8, z9, z10, z11, z12, z13, z14, z15, z16, z17, z18, z19, z20, z21, z22, z23, z24, z25, z26, z27, z28, z29, z30, z31, z32, z33, z34, z35, z36, z37, imp_self, forall_const, z38, EO.mk.injEq, z39, z40, z41, z42, z43, z44, z45, z46, z47, z48, z49, z50, ne_eq, z51, z52, z53, z54, z55, z56, z57, inI, evRes, resV, mkL, ltK, rhoL, leE, leR, menB, menE, fzA, fzE, fzB, fzR, spAw, exS, meaS, listS, msA, show meaN ⟨[0, 1], [1, 2], [[0, 1], [0, 1]]⟩ = 2 from ex1_N, show meaE ⟨[0, 1], [1, 2], [[0, 1], [0, 1]]⟩ = 0 from ex1_E, show meaN ⟨[1], [3], [[0]]⟩ = 1 from ex2_N, show meaE ⟨[1], [3], [[0]]⟩ = 0 from ex2_E, show meaF ⟨[0, 1], [1, 2], [[0, 1], [0, 1]]⟩ 0 = (false, [1]) from ex1_F0, show meaF ⟨[0, 1], [1, 2], [[0, 1], [0, 1]]⟩ 1 = (false, [0]) from ex1_F1, show meaF ⟨[1], [3], [[0]]⟩ 0 = (true, []) from ex2_F0] at h; obtain ⟨rfl, rfl, rfl, rfl⟩ := h; refine ⟨?_, ?_⟩)
    | ((with_reducible refine Ob.mk ?_); first | exact trivial | (intros; omega) | ((repeat' first | apply And.intro | (intro hg; have hg' := hg; try simp only [Bool.and_eq_false_iff, decide_eq_true_eq, decide_eq_false_iff_not, Bool.or_eq_true, Bool.or_eq_false_iff, Bool.and_eq_true, Bool.not_eq_true', Bool.not_eq_false', not_or, Int.not_lt, Int.not_le] at hg')) <;> first | assumption | omega | (simp only [Bool.and_eq_false_iff, decide_eq_true_eq, decide_eq_false_iff_not, Bool.or_eq_true, Bool.or_eq_false_iff, Bool.and_eq_true, Bool.not_eq_true', Bool.not_eq_false', not_or, Int.not_lt, Int.not_le]; omega)))
  refine fin_ret rfl rfl (spec_flat rfl ?_ rfl)
  rfl

end Go.Proofs.Ytgminhedbeblpaa.Cal
