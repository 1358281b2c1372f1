/- What the walk finds: the statement GameOne. -/
import Derived.Test.YtinfflpephioiaaW12b1
import Derived.Test.YtinfflpephioiaaPl8
set_option linter.unusedVariables false
set_option linter.unusedSimpArgs false
namespace Go.Proofs.Ytinfflpephioiaa.Cal
open Go Pl

noncomputable def spGOne : Nat → Option Spec
  | 8 => some fewS
  | 9 => some trueS
  | 25 => some oneS
  | 26 => some oneS
  | 12 => some playS
  | _ => none
theorem spGOne_ok : SpOK Try.prog spGOne := by
  intro f S h
  unfold spGOne at h
  split at h
  · cases h; exact few_ok
  · cases h; exact awake12_ok
  · cases h; exact one_ok
  · cases h; exact one12_ok
  · cases h; exact play_ok
  · cases h
def goneS : Spec
  | [.agg (.cons (.roI o) (.cons (.roI p) (.cons (.roII x) .nil))), .int .i64 q, .roI c] => some ⟨True, .bool true, none⟩
  | _ => none

set_option maxRecDepth 4000 in
set_option maxHeartbeats 4000000 in
theorem gone_ok : FSpec Try.prog 6 goneS := by
  refine fspec_of htb (fn := Try.f6) (by kernel_rfl) (by kernel_rfl) rfl (fun args r hS => ?_) (fun args r hS hob hl => ?_)
  · unfold goneS at hS; split at hS <;> first | (cases hS; done) | (cases hS; exact Nat.le_of_ble_eq_true rfl)
  unfold goneS at hS
  split at hS
  case h_2 => cases hS
  rename_i o p x q c
  simp only [Option.some.injEq] at hS
  subst hS
  simp only [lenP, mkL, lim] at hl
  dsimp only at hob
  repeat' first
    | with_reducible refine awp_seq ?_
    | with_reducible refine awp_block ?_
    | with_reducible refine next_then ?_
    | with_reducible refine next_block ?_
    | with_reducible refine exit_then ?_
    | with_reducible refine ret_then ?_
    | with_reducible refine ret_block ?_
    | with_reducible refine exit_here ?_
    | with_reducible refine awp_exit ?_
    | with_reducible refine awp_ret ?_
    | with_reducible refine awp_skip ?_
    | with_reducible refine awp_label ?_
    | with_reducible refine next_noGoto ?_
    | with_reducible refine ret_noGoto ?_
    | with_reducible refine exit_noGoto ?_
    | with_reducible refine awp_scope ?_
    | ((with_reducible refine exit_past ?_ ?_); exact rfl)
    | ((with_reducible refine isCond ?_); refine awp_condO rfl ?_ ?_ <;> intro hb <;> (try simp only [Bool.and_eq_false_iff, decide_eq_true_eq, decide_eq_false_iff_not, Bool.or_eq_true, Bool.or_eq_false_iff, Bool.and_eq_true, Bool.not_eq_true', Bool.not_eq_false', not_or, Int.not_lt, Int.not_le] at hb))
    | ((with_reducible refine isRegS 3 ?_ ?_); (· exact rfl); (first | refine awp_textM htb hmz spGOne_ok (fun _ => false) rfl rfl ?_ | refine awp_drawM hmo htb hmz spGOne_ok (fun _ => false) rfl rfl (by kernel_rfl) ?_); intro m' e' l' ob h; simp only [evOut, evStep, eq_self, evo, ev1, evx, evp, ofP, guardOf, opv, lke_cons, lke_nil, lkr_nil, lkr_cons, isC, isCC, isCL, men, putE, setW, set1, del, evLoad, evField, evIndex, evBin, lenOf, evSlice, bnd, cutI, subv, selv, isV, isAg, cellsL, lenL, properL, nthL, dropL, takeL, appL, setL, updv, tb, TI.isStr, strip, gd, gds, whnR, evPick, evStore, stBox, evApp, srcI, srcB, srcR, evBuildS, evTake, makeB, isNilS, partsOK, elemsOf, collI, collB, collII, allC, allN, fillL, evCut, evFz, lko, Option.isNone_none, renB, List.length_set, List.length_nil, Nat.sub_zero, Nat.add_zero, notD, chkG, evCopy, evCall, ofSR, viewA, lsOf, ofL, appL, zfree, zfreeB, freeB, isOne, ren, zipE, Op.operands, Call.operands, Nat.reduceAdd, Nat.reduceSub, Nat.reduceMul, Nat.reduceEqDiff, Nat.reduceLeDiff, Nat.reduceLT, Nat.reduceBEq, Nat.reduceBNe, ↓reduceIte, reduceIte, nbeq, nble, nblt, decide_true, decide_false, Bool.not_false, Bool.not_true, Bool.and_true, Bool.true_and, Bool.and_false, Bool.false_and, Bool.and_self, Bool.or_true, Bool.true_or, Bool.or_false, Bool.false_or, Bool.or_self, cond_true, cond_false, List.toList_toArray, List.map_cons, List.map_nil, List.getElem?_cons_zero, List.getElem?_cons_succ, Option.map_some, Option.map_none, List.zipIdx_nil, List.zipIdx_cons, List.all_nil, List.all_cons, List.isEmpty_nil, List.isEmpty_cons, List.cons_append, List.nil_append, true_and, and_true, imp_self, forall_const, implies_true, EO.mk.injEq, Bool.false_eq_true, Bool.true_eq_false, List.length_cons, List.length_nil, Array.toList_append, Bool.not_eq_true', Bool.not_eq_false', Bool.cond_true_left, Bool.cond_false_right, Bool.cond_false_left, Bool.cond_true_right, and_self, Bool.not_not, ne_eq, not_true_eq_false, not_false_eq_true, Int.toNat_natCast, Int.toNat_zero, Int.toNat_one, List.take_length, List.drop_zero, inI, evRes, resV, mkL, ltK, rhoL, leE, leR, menB, renB, menE, fzA, fzE, fzB, fzR, spGOne, fewS, trueS, oneS, playS, gmA, PlayR.av, beq_self_eq_true] at h; obtain ⟨rfl, rfl, rfl, rfl⟩ := h; refine ⟨?_, ?_⟩)
    | ((with_reducible refine Ob.mk ?_); first | exact trivial | (intros; omega) | ((repeat' first | apply And.intro | (intro hg; have hg' := hg; try simp only [Bool.and_eq_false_iff, decide_eq_true_eq, decide_eq_false_iff_not, Bool.or_eq_true, Bool.or_eq_false_iff, Bool.and_eq_true, Bool.not_eq_true', Bool.not_eq_false', not_or, Int.not_lt, Int.not_le] at hg')) <;> first | assumption | omega | (simp only [Bool.and_eq_false_iff, decide_eq_true_eq, decide_eq_false_iff_not, Bool.or_eq_true, Bool.or_eq_false_iff, Bool.and_eq_true, Bool.not_eq_true', Bool.not_eq_false', not_or, Int.not_lt, Int.not_le]; omega)))
  · refine fin_ret rfl rfl (spec_flat rfl ?_ rfl)
    rfl
  have hcl : c.length ≤ 400 := by omega
  have hfl : o.length ≤ 60 := by
    have hfew := hb.1
    unfold few at hfew
    simp only [Bool.and_eq_true, Bool.not_eq_true', Bool.or_eq_false_iff, decide_eq_false_iff_not] at hfew
    have := hfew.1.1.1
    omega
  have hon := fun i => @one_play ⟨o, p, x⟩ c q i
  have hol : (oneR ⟨o, p, x⟩ q).1.length ≤ o.length := by
    unfold oneR; split
    · split
      · exact Nat.zero_le _
      · split
        · exact Nat.zero_le _
        · simp [aloneL]
    · exact Nat.zero_le _
  repeat' first
    | with_reducible refine awp_seq ?_
    | with_reducible refine awp_block ?_
    | with_reducible refine next_then ?_
    | with_reducible refine next_block ?_
    | with_reducible refine exit_then ?_
    | with_reducible refine ret_then ?_
    | with_reducible refine ret_block ?_
    | with_reducible refine exit_here ?_
    | with_reducible refine awp_exit ?_
    | with_reducible refine awp_ret ?_
    | with_reducible refine awp_skip ?_
    | with_reducible refine awp_label ?_
    | with_reducible refine next_noGoto ?_
    | with_reducible refine ret_noGoto ?_
    | with_reducible refine exit_noGoto ?_
    | with_reducible refine awp_scope ?_
    | ((with_reducible refine exit_past ?_ ?_); exact rfl)
    | ((with_reducible refine isCond ?_); refine awp_condO rfl ?_ ?_ <;> intro hb <;> (try simp only [Bool.and_eq_false_iff, decide_eq_true_eq, decide_eq_false_iff_not, Bool.or_eq_true, Bool.or_eq_false_iff, Bool.and_eq_true, Bool.not_eq_true', Bool.not_eq_false', not_or, Int.not_lt, Int.not_le] at hb))
    | ((with_reducible refine isRegS 5 ?_ ?_); (· exact rfl); (first | refine awp_textM htb hmz spGOne_ok (fun _ => false) rfl rfl ?_ | refine awp_drawM hmo htb hmz spGOne_ok (fun _ => false) rfl rfl (by kernel_rfl) ?_); intro m' e' l' ob h; simp only [evOut, evStep, eq_self, evo, ev1, evx, evp, ofP, guardOf, opv, lke_cons, lke_nil, lkr_nil, lkr_cons, isC, isCC, isCL, men, putE, setW, set1, del, evLoad, evField, evIndex, evBin, lenOf, evSlice, bnd, cutI, subv, selv, isV, isAg, cellsL, lenL, properL, nthL, dropL, takeL, appL, setL, updv, tb, TI.isStr, strip, gd, gds, whnR, evPick, evStore, stBox, evApp, srcI, srcB, srcR, evBuildS, evTake, makeB, isNilS, partsOK, elemsOf, collI, collB, collII, allC, allN, fillL, evCut, evFz, lko, Option.isNone_none, renB, List.length_set, List.length_nil, Nat.sub_zero, Nat.add_zero, notD, chkG, evCopy, evCall, ofSR, viewA, lsOf, ofL, appL, zfree, zfreeB, freeB, isOne, ren, zipE, Op.operands, Call.operands, Nat.reduceAdd, Nat.reduceSub, Nat.reduceMul, Nat.reduceEqDiff, Nat.reduceLeDiff, Nat.reduceLT, Nat.reduceBEq, Nat.reduceBNe, ↓reduceIte, reduceIte, nbeq, nble, nblt, decide_true, decide_false, Bool.not_false, Bool.not_true, Bool.and_true, Bool.true_and, Bool.and_false, Bool.false_and, Bool.and_self, Bool.or_true, Bool.true_or, Bool.or_false, Bool.false_or, Bool.or_self, cond_true, cond_false, List.toList_toArray, List.map_cons, List.map_nil, List.getElem?_cons_zero, List.getElem?_cons_succ, Option.map_some, Option.map_none, List.zipIdx_nil, List.zipIdx_cons, List.all_nil, List.all_cons, List.isEmpty_nil, List.isEmpty_cons, List.cons_append, List.nil_append, true_and, and_true, imp_self, forall_const, implies_true, EO.mk.injEq, Bool.false_eq_true, Bool.true_eq_false, List.length_cons, List.length_nil, Array.toList_append, Bool.not_eq_true', Bool.not_eq_false', Bool.cond_true_left, Bool.cond_false_right, Bool.cond_false_left, Bool.cond_true_right, and_self, Bool.not_not, ne_eq, not_true_eq_false, not_false_eq_true, Int.toNat_natCast, Int.toNat_zero, Int.toNat_one, List.take_length, List.drop_zero, inI, evRes, resV, mkL, ltK, rhoL, leE, leR, menB, renB, menE, fzA, fzE, fzB, fzR, spGOne, fewS, trueS, oneS, playS, gmA, PlayR.av, beq_self_eq_true] at h; obtain ⟨rfl, rfl, rfl, rfl⟩ := h; refine ⟨?_, ?_⟩)
    | ((with_reducible refine Ob.mk ?_); first | exact trivial | (intros; omega) | ((repeat' first | apply And.intro | (intro hg; have hg' := hg; try simp only [Bool.and_eq_false_iff, decide_eq_true_eq, decide_eq_false_iff_not, Bool.or_eq_true, Bool.or_eq_false_iff, Bool.and_eq_true, Bool.not_eq_true', Bool.not_eq_false', not_or, Int.not_lt, Int.not_le] at hg')) <;> first | assumption | omega | (simp only [Bool.and_eq_false_iff, decide_eq_true_eq, decide_eq_false_iff_not, Bool.or_eq_true, Bool.or_eq_false_iff, Bool.and_eq_true, Bool.not_eq_true', Bool.not_eq_false', not_or, Int.not_lt, Int.not_le]; omega)))
  generalize oneR ⟨o, p, x⟩ q = R at *
  obtain ⟨a, e⟩ := R
  dsimp only at hon hol
  repeat' first
    | with_reducible refine awp_seq ?_
    | with_reducible refine awp_block ?_
    | with_reducible refine next_then ?_
    | with_reducible refine next_block ?_
    | with_reducible refine exit_then ?_
    | with_reducible refine ret_then ?_
    | with_reducible refine ret_block ?_
    | with_reducible refine exit_here ?_
    | with_reducible refine awp_exit ?_
    | with_reducible refine awp_ret ?_
    | with_reducible refine awp_skip ?_
    | with_reducible refine awp_label ?_
    | with_reducible refine next_noGoto ?_
    | with_reducible refine ret_noGoto ?_
    | with_reducible refine exit_noGoto ?_
    | with_reducible refine awp_scope ?_
    | ((with_reducible refine exit_past ?_ ?_); exact rfl)
    | ((with_reducible refine isCond ?_); refine awp_condO rfl ?_ ?_ <;> intro hb <;> (try simp only [Bool.and_eq_false_iff, decide_eq_true_eq, decide_eq_false_iff_not, Bool.or_eq_true, Bool.or_eq_false_iff, Bool.and_eq_true, Bool.not_eq_true', Bool.not_eq_false', not_or, Int.not_lt, Int.not_le] at hb))
    | ((with_reducible refine isReg ?_); (first | refine awp_textM htb hmz spGOne_ok (fun _ => false) rfl rfl ?_ | refine awp_drawM hmo htb hmz spGOne_ok (fun _ => false) rfl rfl (by kernel_rfl) ?_); intro m' e' l' ob h; simp only [evOut, evStep, eq_self, evo, ev1, evx, evp, ofP, guardOf, opv, lke_cons, lke_nil, lkr_nil, lkr_cons, isC, isCC, isCL, men, putE, setW, set1, del, evLoad, evField, evIndex, evBin, lenOf, evSlice, bnd, cutI, subv, selv, isV, isAg, cellsL, lenL, properL, nthL, dropL, takeL, appL, setL, updv, tb, TI.isStr, strip, gd, gds, whnR, evPick, evStore, stBox, evApp, srcI, srcB, srcR, evBuildS, evTake, makeB, isNilS, partsOK, elemsOf, collI, collB, collII, allC, allN, fillL, evCut, evFz, lko, Option.isNone_none, renB, List.length_set, List.length_nil, Nat.sub_zero, Nat.add_zero, notD, chkG, evCopy, evCall, ofSR, viewA, lsOf, ofL, appL, zfree, zfreeB, freeB, isOne, ren, zipE, Op.operands, Call.operands, Nat.reduceAdd, Nat.reduceSub, Nat.reduceMul, Nat.reduceEqDiff, Nat.reduceLeDiff, Nat.reduceLT, Nat.reduceBEq, Nat.reduceBNe, ↓reduceIte, reduceIte, nbeq, nble, nblt, decide_true, decide_false, Bool.not_false, Bool.not_true, Bool.and_true, Bool.true_and, Bool.and_false, Bool.false_and, Bool.and_self, Bool.or_true, Bool.true_or, Bool.or_false, Bool.false_or, Bool.or_self, cond_true, cond_false, List.toList_toArray, List.map_cons, List.map_nil, List.getElem?_cons_zero, List.getElem?_cons_succ, Option.map_some, Option.map_none, List.zipIdx_nil, List.zipIdx_cons, List.all_nil, List.all_cons, List.isEmpty_nil, List.isEmpty_cons, List.cons_append, List.nil_append, true_and, and_true, imp_self, forall_const, implies_true, EO.mk.injEq, Bool.false_eq_true, Bool.true_eq_false, List.length_cons, List.length_nil, Array.toList_append, Bool.not_eq_true', Bool.not_eq_false', Bool.cond_true_left, Bool.cond_false_right, Bool.cond_false_left, Bool.cond_true_right, and_self, Bool.not_not, ne_eq, not_true_eq_false, not_false_eq_true, Int.toNat_natCast, Int.toNat_zero, Int.toNat_one, List.take_length, List.drop_zero, inI, evRes, resV, mkL, ltK, rhoL, leE, leR, menB, renB, menE, fzA, fzE, fzB, fzR, spGOne, fewS, trueS, oneS, playS, gmA, PlayR.av, beq_self_eq_true] at h; obtain ⟨rfl, rfl, rfl, rfl⟩ := h; refine ⟨?_, ?_⟩)
    | ((with_reducible refine Ob.mk ?_); first | exact trivial | (intros; omega) | ((repeat' first | apply And.intro | (intro hg; have hg' := hg; try simp only [Bool.and_eq_false_iff, decide_eq_true_eq, decide_eq_false_iff_not, Bool.or_eq_true, Bool.or_eq_false_iff, Bool.and_eq_true, Bool.not_eq_true', Bool.not_eq_false', not_or, Int.not_lt, Int.not_le] at hg')) <;> first | assumption | omega | (simp only [Bool.and_eq_false_iff, decide_eq_true_eq, decide_eq_false_iff_not, Bool.or_eq_true, Bool.or_eq_false_iff, Bool.and_eq_true, Bool.not_eq_true', Bool.not_eq_false', not_or, Int.not_lt, Int.not_le]; omega)))
  · cases hb
  refine awp_loopC (τ := Nat) (fun i => i ≤ a.length) (fun i => ⟨39, [(49, .int .i64 i), (48, .int .i64 a.length), (9, .roB a), (7, .roB a), (3, .rop (.agg (.cons (.roI o) (.cons (.roI p) (.cons (.roII x) .nil))))), (2, .roI c), (1, .int .i64 q)], [], []⟩) (fun i => a.length - i) 0 [] ?_ (Nat.zero_le _) ?_
  · (refine ⟨rfl, ?_, ?_⟩ <;> simp only [evOut, evStep, eq_self, evo, ev1, evx, evp, ofP, guardOf, opv, lke_cons, lke_nil, lkr_nil, lkr_cons, isC, isCC, isCL, men, putE, setW, set1, del, evLoad, evField, evIndex, evBin, lenOf, evSlice, bnd, cutI, subv, selv, isV, isAg, cellsL, lenL, properL, nthL, dropL, takeL, appL, setL, updv, tb, TI.isStr, strip, gd, gds, whnR, evPick, evStore, stBox, evApp, srcI, srcB, srcR, evBuildS, evTake, makeB, isNilS, partsOK, elemsOf, collI, collB, collII, allC, allN, fillL, evCut, evFz, lko, Option.isNone_none, renB, List.length_set, List.length_nil, Nat.sub_zero, Nat.add_zero, notD, chkG, evCopy, evCall, ofSR, viewA, lsOf, ofL, appL, zfree, zfreeB, freeB, isOne, ren, zipE, Op.operands, Call.operands, Nat.reduceAdd, Nat.reduceSub, Nat.reduceMul, Nat.reduceEqDiff, Nat.reduceLeDiff, Nat.reduceLT, Nat.reduceBEq, Nat.reduceBNe, ↓reduceIte, reduceIte, nbeq, nble, nblt, decide_true, decide_false, Bool.not_false, Bool.not_true, Bool.and_true, Bool.true_and, Bool.and_false, Bool.false_and, Bool.and_self, Bool.or_true, Bool.true_or, Bool.or_false, Bool.false_or, Bool.or_self, cond_true, cond_false, List.toList_toArray, List.map_cons, List.map_nil, List.getElem?_cons_zero, List.getElem?_cons_succ, Option.map_some, Option.map_none, List.zipIdx_nil, List.zipIdx_cons, List.all_nil, List.all_cons, List.isEmpty_nil, List.isEmpty_cons, List.cons_append, List.nil_append, true_and, and_true, imp_self, forall_const, implies_true, EO.mk.injEq, Bool.false_eq_true, Bool.true_eq_false, List.length_cons, List.length_nil, Array.toList_append, Bool.not_eq_true', Bool.not_eq_false', Bool.cond_true_left, Bool.cond_false_right, Bool.cond_false_left, Bool.cond_true_right, and_self, Bool.not_not, ne_eq, not_true_eq_false, not_false_eq_true, Int.toNat_natCast, Int.toNat_zero, Int.toNat_one, List.take_length, List.drop_zero, inI, evRes, resV, mkL, ltK, rhoL, leE, leR, menB, renB, menE, fzA, fzE, fzB, fzR, spGOne, fewS, trueS, oneS, playS, gmA, PlayR.av, beq_self_eq_true, AV.int.injEq, AV.bool.injEq, AV.roI.injEq, AV.roB.injEq, AV.roII.injEq, AV.rop.injEq, AV.agg.injEq, AV.tup.injEq, AV.cons.injEq, AV.own.injEq, AV.whn.injEq, Blk.ints.injEq, Blk.bools.injEq, Blk.rows.injEq, Blk.rowsR.injEq, Blk.box.injEq, Option.some.injEq, Int.natCast_add, Int.natCast_one, Int.cast_ofNat_Int])
  intro i hi
  have hon := hon i
  repeat' first
    | with_reducible refine awp_seq ?_
    | with_reducible refine awp_block ?_
    | with_reducible refine next_then ?_
    | with_reducible refine next_block ?_
    | with_reducible refine exit_then ?_
    | with_reducible refine ret_then ?_
    | with_reducible refine ret_block ?_
    | with_reducible refine exit_here ?_
    | with_reducible refine awp_exit ?_
    | with_reducible refine awp_ret ?_
    | with_reducible refine awp_skip ?_
    | with_reducible refine awp_label ?_
    | with_reducible refine next_noGoto ?_
    | with_reducible refine ret_noGoto ?_
    | with_reducible refine exit_noGoto ?_
    | with_reducible refine awp_scope ?_
    | ((with_reducible refine exit_past ?_ ?_); exact rfl)
    | ((with_reducible refine isCond ?_); refine awp_condO rfl ?_ ?_ <;> intro hb <;> (try simp only [Bool.and_eq_false_iff, decide_eq_true_eq, decide_eq_false_iff_not, Bool.or_eq_true, Bool.or_eq_false_iff, Bool.and_eq_true, Bool.not_eq_true', Bool.not_eq_false', not_or, Int.not_lt, Int.not_le] at hb))
    | ((with_reducible refine isRegS 13 ?_ ?_); (· exact rfl); (with_reducible refine isRegS 16 ?_ ?_); (· exact rfl); (first | refine awp_textM htb hmz spGOne_ok (fun _ => false) rfl rfl ?_ | refine awp_drawM hmo htb hmz spGOne_ok (fun _ => false) rfl rfl (by kernel_rfl) ?_); intro m' e' l' ob h; simp only [evOut, evStep, eq_self, evo, ev1, evx, evp, ofP, guardOf, opv, lke_cons, lke_nil, lkr_nil, lkr_cons, isC, isCC, isCL, men, putE, setW, set1, del, evLoad, evField, evIndex, evBin, lenOf, evSlice, bnd, cutI, subv, selv, isV, isAg, cellsL, lenL, properL, nthL, dropL, takeL, appL, setL, updv, tb, TI.isStr, strip, gd, gds, whnR, evPick, evStore, stBox, evApp, srcI, srcB, srcR, evBuildS, evTake, makeB, isNilS, partsOK, elemsOf, collI, collB, collII, allC, allN, fillL, evCut, evFz, lko, Option.isNone_none, renB, List.length_set, List.length_nil, Nat.sub_zero, Nat.add_zero, notD, chkG, evCopy, evCall, ofSR, viewA, lsOf, ofL, appL, zfree, zfreeB, freeB, isOne, ren, zipE, Op.operands, Call.operands, Nat.reduceAdd, Nat.reduceSub, Nat.reduceMul, Nat.reduceEqDiff, Nat.reduceLeDiff, Nat.reduceLT, Nat.reduceBEq, Nat.reduceBNe, ↓reduceIte, reduceIte, nbeq, nble, nblt, decide_true, decide_false, Bool.not_false, Bool.not_true, Bool.and_true, Bool.true_and, Bool.and_false, Bool.false_and, Bool.and_self, Bool.or_true, Bool.true_or, Bool.or_false, Bool.false_or, Bool.or_self, cond_true, cond_false, List.toList_toArray, List.map_cons, List.map_nil, List.getElem?_cons_zero, List.getElem?_cons_succ, Option.map_some, Option.map_none, List.zipIdx_nil, List.zipIdx_cons, List.all_nil, List.all_cons, List.isEmpty_nil, List.isEmpty_cons, List.cons_append, List.nil_append, true_and, and_true, imp_self, forall_const, implies_true, EO.mk.injEq, Bool.false_eq_true, Bool.true_eq_false, List.length_cons, List.length_nil, Array.toList_append, Bool.not_eq_true', Bool.not_eq_false', Bool.cond_true_left, Bool.cond_false_right, Bool.cond_false_left, Bool.cond_true_right, and_self, Bool.not_not, ne_eq, not_true_eq_false, not_false_eq_true, Int.toNat_natCast, Int.toNat_zero, Int.toNat_one, List.take_length, List.drop_zero, inI, evRes, resV, mkL, ltK, rhoL, leE, leR, menB, renB, menE, fzA, fzE, fzB, fzR, spGOne, fewS, trueS, oneS, playS, gmA, PlayR.av, beq_self_eq_true] at h; obtain ⟨rfl, rfl, rfl, rfl⟩ := h; refine ⟨?_, ?_⟩)
    | ((with_reducible refine Ob.mk ?_); first | exact trivial | (intros; omega) | ((repeat' first | apply And.intro | (intro hg; have hg' := hg; try simp only [Bool.and_eq_false_iff, decide_eq_true_eq, decide_eq_false_iff_not, Bool.or_eq_true, Bool.or_eq_false_iff, Bool.and_eq_true, Bool.not_eq_true', Bool.not_eq_false', not_or, Int.not_lt, Int.not_le] at hg')) <;> first | assumption | omega | (simp only [Bool.and_eq_false_iff, decide_eq_true_eq, decide_eq_false_iff_not, Bool.or_eq_true, Bool.or_eq_false_iff, Bool.and_eq_true, Bool.not_eq_true', Bool.not_eq_false', not_or, Int.not_lt, Int.not_le]; omega)))
  · simp at hb
  · generalize playR ⟨o, p, x⟩ c i = rp at *
    repeat' first
      | with_reducible refine awp_seq ?_
      | with_reducible refine awp_block ?_
      | with_reducible refine next_then ?_
      | with_reducible refine next_block ?_
      | with_reducible refine exit_then ?_
      | with_reducible refine ret_then ?_
      | with_reducible refine ret_block ?_
      | with_reducible refine exit_here ?_
      | with_reducible refine awp_exit ?_
      | with_reducible refine awp_ret ?_
      | with_reducible refine awp_skip ?_
      | with_reducible refine awp_label ?_
      | with_reducible refine next_noGoto ?_
      | with_reducible refine ret_noGoto ?_
      | with_reducible refine exit_noGoto ?_
      | with_reducible refine awp_scope ?_
      | ((with_reducible refine exit_past ?_ ?_); exact rfl)
      | ((with_reducible refine isCond ?_); refine awp_condO rfl ?_ ?_ <;> intro hb <;> (try simp only [Bool.and_eq_false_iff, decide_eq_true_eq, decide_eq_false_iff_not, Bool.or_eq_true, Bool.or_eq_false_iff, Bool.and_eq_true, Bool.not_eq_true', Bool.not_eq_false', not_or, Int.not_lt, Int.not_le] at hb))
      | ((with_reducible refine isReg ?_); (first | refine awp_textM htb hmz spGOne_ok (fun _ => false) rfl rfl ?_ | refine awp_drawM hmo htb hmz spGOne_ok (fun _ => false) rfl rfl (by kernel_rfl) ?_); intro m' e' l' ob h; simp only [evOut, evStep, eq_self, evo, ev1, evx, evp, ofP, guardOf, opv, lke_cons, lke_nil, lkr_nil, lkr_cons, isC, isCC, isCL, men, putE, setW, set1, del, evLoad, evField, evIndex, evBin, lenOf, evSlice, bnd, cutI, subv, selv, isV, isAg, cellsL, lenL, properL, nthL, dropL, takeL, appL, setL, updv, tb, TI.isStr, strip, gd, gds, whnR, evPick, evStore, stBox, evApp, srcI, srcB, srcR, evBuildS, evTake, makeB, isNilS, partsOK, elemsOf, collI, collB, collII, allC, allN, fillL, evCut, evFz, lko, Option.isNone_none, renB, List.length_set, List.length_nil, Nat.sub_zero, Nat.add_zero, notD, chkG, evCopy, evCall, ofSR, viewA, lsOf, ofL, appL, zfree, zfreeB, freeB, isOne, ren, zipE, Op.operands, Call.operands, Nat.reduceAdd, Nat.reduceSub, Nat.reduceMul, Nat.reduceEqDiff, Nat.reduceLeDiff, Nat.reduceLT, Nat.reduceBEq, Nat.reduceBNe, ↓reduceIte, reduceIte, nbeq, nble, nblt, decide_true, decide_false, Bool.not_false, Bool.not_true, Bool.and_true, Bool.true_and, Bool.and_false, Bool.false_and, Bool.and_self, Bool.or_true, Bool.true_or, Bool.or_false, Bool.false_or, Bool.or_self, cond_true, cond_false, List.toList_toArray, List.map_cons, List.map_nil, List.getElem?_cons_zero, List.getElem?_cons_succ, Option.map_some, Option.map_none, List.zipIdx_nil, List.zipIdx_cons, List.all_nil, List.all_cons, List.isEmpty_nil, List.isEmpty_cons, List.cons_append, List.nil_append, true_and, and_true, imp_self, forall_const, implies_true, EO.mk.injEq, Bool.false_eq_true, Bool.true_eq_false, List.length_cons, List.length_nil, Array.toList_append, Bool.not_eq_true', Bool.not_eq_false', Bool.cond_true_left, Bool.cond_false_right, Bool.cond_false_left, Bool.cond_true_right, and_self, Bool.not_not, ne_eq, not_true_eq_false, not_false_eq_true, Int.toNat_natCast, Int.toNat_zero, Int.toNat_one, List.take_length, List.drop_zero, inI, evRes, resV, mkL, ltK, rhoL, leE, leR, menB, renB, menE, fzA, fzE, fzB, fzR, spGOne, fewS, trueS, oneS, playS, gmA, PlayR.av, beq_self_eq_true] at h; obtain ⟨rfl, rfl, rfl, rfl⟩ := h; refine ⟨?_, ?_⟩)
      | ((with_reducible refine Ob.mk ?_); first | exact trivial | (intros; omega) | ((repeat' first | apply And.intro | (intro hg; have hg' := hg; try simp only [Bool.and_eq_false_iff, decide_eq_true_eq, decide_eq_false_iff_not, Bool.or_eq_true, Bool.or_eq_false_iff, Bool.and_eq_true, Bool.not_eq_true', Bool.not_eq_false', not_or, Int.not_lt, Int.not_le] at hg')) <;> first | assumption | omega | (simp only [Bool.and_eq_false_iff, decide_eq_true_eq, decide_eq_false_iff_not, Bool.or_eq_true, Bool.or_eq_false_iff, Bool.and_eq_true, Bool.not_eq_true', Bool.not_eq_false', not_or, Int.not_lt, Int.not_le]; omega)))
    · exfalso
      have := hon (by omega) hb.1.1 hb.1.2
      rw [hb.2] at this
      cases this
    · refine back (i + 1) [] ?_ (by omega) (by omega)
      (refine ⟨rfl, ?_, ?_⟩ <;> simp only [evOut, evStep, eq_self, evo, ev1, evx, evp, ofP, guardOf, opv, lke_cons, lke_nil, lkr_nil, lkr_cons, isC, isCC, isCL, men, putE, setW, set1, del, evLoad, evField, evIndex, evBin, lenOf, evSlice, bnd, cutI, subv, selv, isV, isAg, cellsL, lenL, properL, nthL, dropL, takeL, appL, setL, updv, tb, TI.isStr, strip, gd, gds, whnR, evPick, evStore, stBox, evApp, srcI, srcB, srcR, evBuildS, evTake, makeB, isNilS, partsOK, elemsOf, collI, collB, collII, allC, allN, fillL, evCut, evFz, lko, Option.isNone_none, renB, List.length_set, List.length_nil, Nat.sub_zero, Nat.add_zero, notD, chkG, evCopy, evCall, ofSR, viewA, lsOf, ofL, appL, zfree, zfreeB, freeB, isOne, ren, zipE, Op.operands, Call.operands, Nat.reduceAdd, Nat.reduceSub, Nat.reduceMul, Nat.reduceEqDiff, Nat.reduceLeDiff, Nat.reduceLT, Nat.reduceBEq, Nat.reduceBNe, ↓reduceIte, reduceIte, nbeq, nble, nblt, decide_true, decide_false, Bool.not_false, Bool.not_true, Bool.and_true, Bool.true_and, Bool.and_false, Bool.false_and, Bool.and_self, Bool.or_true, Bool.true_or, Bool.or_false, Bool.false_or, Bool.or_self, cond_true, cond_false, List.toList_toArray, List.map_cons, List.map_nil, List.getElem?_cons_zero, List.getElem?_cons_succ, Option.map_some, Option.map_none, List.zipIdx_nil, List.zipIdx_cons, List.all_nil, List.all_cons, List.isEmpty_nil, List.isEmpty_cons, List.cons_append, List.nil_append, true_and, and_true, imp_self, forall_const, implies_true, EO.mk.injEq, Bool.false_eq_true, Bool.true_eq_false, List.length_cons, List.length_nil, Array.toList_append, Bool.not_eq_true', Bool.not_eq_false', Bool.cond_true_left, Bool.cond_false_right, Bool.cond_false_left, Bool.cond_true_right, and_self, Bool.not_not, ne_eq, not_true_eq_false, not_false_eq_true, Int.toNat_natCast, Int.toNat_zero, Int.toNat_one, List.take_length, List.drop_zero, inI, evRes, resV, mkL, ltK, rhoL, leE, leR, menB, renB, menE, fzA, fzE, fzB, fzR, spGOne, fewS, trueS, oneS, playS, gmA, PlayR.av, beq_self_eq_true, AV.int.injEq, AV.bool.injEq, AV.roI.injEq, AV.roB.injEq, AV.roII.injEq, AV.rop.injEq, AV.agg.injEq, AV.tup.injEq, AV.cons.injEq, AV.own.injEq, AV.whn.injEq, Blk.ints.injEq, Blk.bools.injEq, Blk.rows.injEq, Blk.rowsR.injEq, Blk.box.injEq, Option.some.injEq, Int.natCast_add, Int.natCast_one, Int.cast_ofNat_Int])
  repeat' first
    | with_reducible refine awp_seq ?_
    | with_reducible refine awp_block ?_
    | with_reducible refine next_then ?_
    | with_reducible refine next_block ?_
    | with_reducible refine exit_then ?_
    | with_reducible refine ret_then ?_
    | with_reducible refine ret_block ?_
    | with_reducible refine exit_here ?_
    | with_reducible refine awp_exit ?_
    | with_reducible refine awp_ret ?_
    | with_reducible refine awp_skip ?_
    | with_reducible refine awp_label ?_
    | with_reducible refine next_noGoto ?_
    | with_reducible refine ret_noGoto ?_
    | with_reducible refine exit_noGoto ?_
    | with_reducible refine awp_scope ?_
    | ((with_reducible refine exit_past ?_ ?_); exact rfl)
    | ((with_reducible refine isCond ?_); refine awp_condO rfl ?_ ?_ <;> intro hb <;> (try simp only [Bool.and_eq_false_iff, decide_eq_true_eq, decide_eq_false_iff_not, Bool.or_eq_true, Bool.or_eq_false_iff, Bool.and_eq_true, Bool.not_eq_true', Bool.not_eq_false', not_or, Int.not_lt, Int.not_le] at hb))
    | ((with_reducible refine isReg ?_); (first | refine awp_textM htb hmz spGOne_ok (fun _ => false) rfl rfl ?_ | refine awp_drawM hmo htb hmz spGOne_ok (fun _ => false) rfl rfl (by kernel_rfl) ?_); intro m' e' l' ob h; simp only [evOut, evStep, eq_self, evo, ev1, evx, evp, ofP, guardOf, opv, lke_cons, lke_nil, lkr_nil, lkr_cons, isC, isCC, isCL, men, putE, setW, set1, del, evLoad, evField, evIndex, evBin, lenOf, evSlice, bnd, cutI, subv, selv, isV, isAg, cellsL, lenL, properL, nthL, dropL, takeL, appL, setL, updv, tb, TI.isStr, strip, gd, gds, whnR, evPick, evStore, stBox, evApp, srcI, srcB, srcR, evBuildS, evTake, makeB, isNilS, partsOK, elemsOf, collI, collB, collII, allC, allN, fillL, evCut, evFz, lko, Option.isNone_none, renB, List.length_set, List.length_nil, Nat.sub_zero, Nat.add_zero, notD, chkG, evCopy, evCall, ofSR, viewA, lsOf, ofL, appL, zfree, zfreeB, freeB, isOne, ren, zipE, Op.operands, Call.operands, Nat.reduceAdd, Nat.reduceSub, Nat.reduceMul, Nat.reduceEqDiff, Nat.reduceLeDiff, Nat.reduceLT, Nat.reduceBEq, Nat.reduceBNe, ↓reduceIte, reduceIte, nbeq, nble, nblt, decide_true, decide_false, Bool.not_false, Bool.not_true, Bool.and_true, Bool.true_and, Bool.and_false, Bool.false_and, Bool.and_self, Bool.or_true, Bool.true_or, Bool.or_false, Bool.false_or, Bool.or_self, cond_true, cond_false, List.toList_toArray, List.map_cons, List.map_nil, List.getElem?_cons_zero, List.getElem?_cons_succ, Option.map_some, Option.map_none, List.zipIdx_nil, List.zipIdx_cons, List.all_nil, List.all_cons, List.isEmpty_nil, List.isEmpty_cons, List.cons_append, List.nil_append, true_and, and_true, imp_self, forall_const, implies_true, EO.mk.injEq, Bool.false_eq_true, Bool.true_eq_false, List.length_cons, List.length_nil, Array.toList_append, Bool.not_eq_true', Bool.not_eq_false', Bool.cond_true_left, Bool.cond_false_right, Bool.cond_false_left, Bool.cond_true_right, and_self, Bool.not_not, ne_eq, not_true_eq_false, not_false_eq_true, Int.toNat_natCast, Int.toNat_zero, Int.toNat_one, List.take_length, List.drop_zero, inI, evRes, resV, mkL, ltK, rhoL, leE, leR, menB, renB, menE, fzA, fzE, fzB, fzR, spGOne, fewS, trueS, oneS, playS, gmA, PlayR.av, beq_self_eq_true] at h; obtain ⟨rfl, rfl, rfl, rfl⟩ := h; refine ⟨?_, ?_⟩)
    | ((with_reducible refine Ob.mk ?_); first | exact trivial | (intros; omega) | ((repeat' first | apply And.intro | (intro hg; have hg' := hg; try simp only [Bool.and_eq_false_iff, decide_eq_true_eq, decide_eq_false_iff_not, Bool.or_eq_true, Bool.or_eq_false_iff, Bool.and_eq_true, Bool.not_eq_true', Bool.not_eq_false', not_or, Int.not_lt, Int.not_le] at hg')) <;> first | assumption | omega | (simp only [Bool.and_eq_false_iff, decide_eq_true_eq, decide_eq_false_iff_not, Bool.or_eq_true, Bool.or_eq_false_iff, Bool.and_eq_true, Bool.not_eq_true', Bool.not_eq_false', not_or, Int.not_lt, Int.not_le]; omega)))
  refine fin_ret rfl rfl (spec_flat rfl ?_ rfl)
  rfl

end Go.Proofs.Ytinfflpephioiaa.Cal
