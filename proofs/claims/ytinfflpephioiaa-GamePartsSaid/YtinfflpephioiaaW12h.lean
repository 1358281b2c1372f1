/- What the walk finds: the dual game. -/
import Derived.Test.YtinfflpephioiaaW12g
import Derived.Test.YtinfflpephioiaaCal27
set_option linter.unusedVariables false
set_option linter.unusedSimpArgs false
namespace Go.Proofs.Ytinfflpephioiaa.Cal
open Go Pl

/-- The first i, turned. -/
def du (f : Int → Int) (xs : List Int) (i : Nat) : List Int := (xs.take i).map f ++ xs.drop i
theorem du_len {f : Int → Int} {xs : List Int} {i : Nat} : (du f xs i).length = xs.length := by simp [du]; omega
theorem du_getD {f : Int → Int} {xs : List Int} {i : Nat} (h : i < xs.length) : (du f xs i).getD i 0 = xs.getD i 0 := by
  have hl : ((xs.take i).map f).length = i := by simp; omega
  simp only [du, List.getD_eq_getElem?_getD]
  rw [List.getElem?_append_right (by omega), hl, Nat.sub_self, List.getElem?_drop, Nat.add_zero]
theorem du_next {f : Int → Int} {xs : List Int} {i : Nat} (h : i < xs.length) : (du f xs i).set i (f (xs.getD i 0)) = du f xs (i + 1) := by
  have hl : ((xs.take i).map f).length = i := by simp; omega
  have hd : xs.drop i = xs.getD i 0 :: xs.drop (i + 1) := by
    rw [List.drop_eq_getElem_cons h, List.getD_eq_getElem?_getD, List.getElem?_eq_getElem h]; rfl
  unfold du
  rw [List.set_append_right _ _ (by omega), hl, Nat.sub_self, hd, List.set_cons_zero, take1 (d := 0) h, List.map_append, List.append_assoc]
  rfl
theorem du_all {f : Int → Int} {xs : List Int} : du f xs xs.length = xs.map f := by simp [du]
theorem du_zero {f : Int → Int} {xs : List Int} : du f xs 0 = xs := by simp [du]

noncomputable def dualR (g : Gm) : Gm × Int :=
  if validB g = true then (if ∃ v, v < g.n ∧ g.pri.getD v 0 = 60 then (⟨[], [], []⟩, 3) else (⟨g.own.map fun o => 1 - o, g.pri.map fun p => p + 1, g.nxt⟩, 0)) else (⟨[], [], []⟩, 1)
noncomputable def dualS : Spec
  | [.agg (.cons (.roI o) (.cons (.roI p) (.cons (.roII x) .nil)))] => some ⟨True, .tup (.cons (gmA (dualR ⟨o, p, x⟩).1) (.cons (.int .i64 (dualR ⟨o, p, x⟩).2) .nil)), none⟩
  | _ => none

noncomputable def spDual : Nat → Option Spec
  | 14 => some validS
  | _ => none
theorem spDual_ok : SpOK Try.prog spDual := by
  intro f S h
  unfold spDual at h
  split at h
  · cases h; exact valid_ok
  · cases h

set_option maxRecDepth 4000 in
set_option maxHeartbeats 4000000 in
theorem dual_ok : FSpec Try.prog 18 dualS := by
  refine fspec_of htb (fn := Try.f18) (by kernel_rfl) (by kernel_rfl) rfl (fun args r hS => ?_) (fun args r hS hob hl => ?_)
  · unfold dualS at hS; split at hS <;> first | (cases hS; done) | (cases hS; exact Nat.le_of_ble_eq_true rfl)
  unfold dualS at hS
  split at hS
  case h_2 => cases hS
  rename_i o p x
  simp only [Option.some.injEq] at hS
  subst hS
  simp only [lenP, mkL, lim] at hl
  dsimp only at hob
  repeat' first
    | with_reducible refine awp_seq ?_
    | with_reducible refine awp_block ?_
    | with_reducible refine next_then ?_
    | with_reducible refine next_block ?_
    | with_reducible refine exit_then ?_
    | with_reducible refine ret_then ?_
    | with_reducible refine ret_block ?_
    | with_reducible refine exit_here ?_
    | with_reducible refine awp_exit ?_
    | with_reducible refine awp_ret ?_
    | with_reducible refine awp_skip ?_
    | with_reducible refine awp_label ?_
    | with_reducible refine next_noGoto ?_
    | with_reducible refine ret_noGoto ?_
    | with_reducible refine exit_noGoto ?_
    | with_reducible refine awp_scope ?_
    | ((with_reducible refine exit_past ?_ ?_); exact rfl)
    | ((with_reducible refine isCond ?_); refine awp_condO rfl ?_ ?_ <;> intro hb <;> (try simp only [Bool.and_eq_false_iff, decide_eq_true_eq, decide_eq_false_iff_not, Bool.or_eq_true, Bool.or_eq_false_iff, Bool.and_eq_true, Bool.not_eq_true', Bool.not_eq_false', not_or, Int.not_lt, Int.not_le] at hb))
    | ((with_reducible refine isRegS 3 ?_ ?_); (· exact rfl); (first | refine awp_textM htb hmz spDual_ok (fun _ => false) rfl rfl ?_ | refine awp_drawM hmo htb hmz spDual_ok (fun _ => false) rfl rfl (by kernel_rfl) ?_); intro m' e' l' ob h; simp only [evOut, evStep, eq_self, evo, ev1, evx, evp, ofP, guardOf, opv, lke_cons, lke_nil, lkr_nil, lkr_cons, isC, isCC, isCL, men, putE, setW, set1, del, evLoad, evField, evIndex, evBin, lenOf, evSlice, bnd, cutI, subv, selv, isV, isAg, cellsL, lenL, properL, nthL, dropL, takeL, appL, setL, updv, tb, TI.isStr, strip, gd, gds, whnR, evPick, evStore, stBox, evApp, srcI, srcB, srcR, evBuildS, evTake, makeB, isNilS, partsOK, elemsOf, collI, collB, collII, allC, allN, fillL, evFz, lko, Option.isNone_none, renB, List.length_set, List.length_nil, Nat.sub_zero, Nat.add_zero, notD, chkG, evCopy, evCall, ofSR, viewA, lsOf, ofL, appL, zfree, zfreeB, freeB, isOne, ren, zipE, Op.operands, Call.operands, Nat.reduceAdd, Nat.reduceSub, Nat.reduceMul, Nat.reduceEqDiff, Nat.reduceLeDiff, Nat.reduceLT, Nat.reduceBEq, Nat.reduceBNe, ↓reduceIte, reduceIte, nbeq, nble, nblt, decide_true, decide_false, Bool.not_false, Bool.not_true, Bool.and_true, Bool.true_and, Bool.and_false, Bool.false_and, Bool.and_self, Bool.or_true, Bool.true_or, Bool.or_false, Bool.false_or, Bool.or_self, cond_true, cond_false, List.toList_toArray, List.map_cons, List.map_nil, List.getElem?_cons_zero, List.getElem?_cons_succ, Option.map_some, Option.map_none, List.zipIdx_nil, List.zipIdx_cons, List.all_nil, List.all_cons, List.isEmpty_nil, List.isEmpty_cons, List.cons_append, List.nil_append, true_and, and_true, imp_self, forall_const, implies_true, EO.mk.injEq, Bool.false_eq_true, Bool.true_eq_false, List.length_cons, List.length_nil, Array.toList_append, Bool.not_eq_true', Bool.not_eq_false', Bool.cond_true_left, Bool.cond_false_right, Bool.cond_false_left, Bool.cond_true_right, and_self, Bool.not_not, ne_eq, not_true_eq_false, not_false_eq_true, Int.toNat_natCast, Int.toNat_zero, Int.toNat_one, List.take_length, List.drop_zero, inI, evRes, resV, mkL, ltK, rhoL, leE, leR, menB, renB, menE, fzA, fzE, fzB, fzR, spDual, validS] at h; obtain ⟨rfl, rfl, rfl, rfl⟩ := h; refine ⟨?_, ?_⟩)
    | ((with_reducible refine Ob.mk ?_); first | exact trivial | (intros; omega) | ((repeat' first | apply And.intro | (intro hg; have hg' := hg; try simp only [Bool.and_eq_false_iff, decide_eq_true_eq, decide_eq_false_iff_not, Bool.or_eq_true, Bool.or_eq_false_iff, Bool.and_eq_true, Bool.not_eq_true', Bool.not_eq_false', not_or, Int.not_lt, Int.not_le] at hg')) <;> first | assumption | omega | (simp only [Bool.and_eq_false_iff, decide_eq_true_eq, decide_eq_false_iff_not, Bool.or_eq_true, Bool.or_eq_false_iff, Bool.and_eq_true, Bool.not_eq_true', Bool.not_eq_false', not_or, Int.not_lt, Int.not_le]; omega)))
  · refine fin_ret rfl rfl (spec_imp rfl ?_ rfl)
    simp only [dualR, hb, Bool.false_eq_true, if_false]
    exact imp_tup (imp_cons (imp_agg (imp_cons imp_nilI (imp_cons imp_nilI (imp_cons imp_nilII (imp_eq rfl))))) (imp_eq rfl))
  have hV := validB_iff.1 hb
  obtain ⟨hn, hpl, hxl, hpos⟩ := id hV
  simp only [Gm.n] at hn hpl hxl
  refine awp_cut ([_]) ([_, _]) rfl rfl ?_
  refine awpL_text htb hmz spDual_ok (fun _ => false) rfl rfl rfl ?_; intro m' e' l' ob h; simp only [evOut, evStep, eq_self, evo, ev1, evx, evp, ofP, guardOf, opv, lke_cons, lke_nil, lkr_nil, lkr_cons, isC, isCC, isCL, men, putE, setW, set1, del, evLoad, evField, evIndex, evBin, lenOf, evSlice, bnd, cutI, subv, selv, isV, isAg, cellsL, lenL, properL, nthL, dropL, takeL, appL, setL, updv, tb, TI.isStr, strip, gd, gds, whnR, evPick, evStore, stBox, evApp, srcI, srcB, srcR, evBuildS, evTake, makeB, isNilS, partsOK, elemsOf, collI, collB, collII, allC, allN, fillL, evFz, lko, Option.isNone_none, renB, List.length_set, List.length_nil, Nat.sub_zero, Nat.add_zero, notD, chkG, evCopy, evCall, ofSR, viewA, lsOf, ofL, appL, zfree, zfreeB, freeB, isOne, ren, zipE, Op.operands, Call.operands, Nat.reduceAdd, Nat.reduceSub, Nat.reduceMul, Nat.reduceEqDiff, Nat.reduceLeDiff, Nat.reduceLT, Nat.reduceBEq, Nat.reduceBNe, ↓reduceIte, reduceIte, nbeq, nble, nblt, decide_true, decide_false, Bool.not_false, Bool.not_true, Bool.and_true, Bool.true_and, Bool.and_false, Bool.false_and, Bool.and_self, Bool.or_true, Bool.true_or, Bool.or_false, Bool.false_or, Bool.or_self, cond_true, cond_false, List.toList_toArray, List.map_cons, List.map_nil, List.getElem?_cons_zero, List.getElem?_cons_succ, Option.map_some, Option.map_none, List.zipIdx_nil, List.zipIdx_cons, List.all_nil, List.all_cons, List.isEmpty_nil, List.isEmpty_cons, List.cons_append, List.nil_append, true_and, and_true, imp_self, forall_const, implies_true, EO.mk.injEq, Bool.false_eq_true, Bool.true_eq_false, List.length_cons, List.length_nil, Array.toList_append, Bool.not_eq_true', Bool.not_eq_false', Bool.cond_true_left, Bool.cond_false_right, Bool.cond_false_left, Bool.cond_true_right, and_self, Bool.not_not, ne_eq, not_true_eq_false, not_false_eq_true, Int.toNat_natCast, Int.toNat_zero, Int.toNat_one, List.take_length, List.drop_zero, inI, evRes, resV, mkL, ltK, rhoL, leE, leR, menB, renB, menE, fzA, fzE, fzB, fzR, spDual, validS] at h; obtain ⟨rfl, rfl, rfl, rfl⟩ := h; refine ⟨?_, next_then ?_⟩
  · first | ((with_reducible refine Ob.mk ?_); first | exact trivial | (intros; omega) | ((repeat' first | apply And.intro | (intro hg; have hg' := hg; try simp only [Bool.and_eq_false_iff, decide_eq_true_eq, decide_eq_false_iff_not, Bool.or_eq_true, Bool.or_eq_false_iff, Bool.and_eq_true, Bool.not_eq_true', Bool.not_eq_false', not_or, Int.not_lt, Int.not_le] at hg')) <;> first | assumption | omega | (simp only [Bool.and_eq_false_iff, decide_eq_true_eq, decide_eq_false_iff_not, Bool.or_eq_true, Bool.or_eq_false_iff, Bool.and_eq_true, Bool.not_eq_true', Bool.not_eq_false', not_or, Int.not_lt, Int.not_le]; omega))) | skip
  refine awpL_callG ([]) (copy_fg (by omega) (by omega) (by omega) (fun v hv => by have := (hpos v (by simp only [Gm.n]; omega)).1; simp only [Gm.x] at this; omega)) rfl rfl rfl rfl rfl rfl rfl rfl rfl (by simp only [rinR, rhoC, evOut, evStep, eq_self, evo, ev1, evx, evp, ofP, guardOf, opv, lke_cons, lke_nil, lkr_nil, lkr_cons, isC, isCC, isCL, men, putE, setW, set1, del, evLoad, evField, evIndex, evBin, lenOf, evSlice, bnd, cutI, subv, selv, isV, isAg, cellsL, lenL, properL, nthL, dropL, takeL, appL, setL, updv, tb, TI.isStr, strip, gd, gds, whnR, evPick, evStore, stBox, evApp, srcI, srcB, srcR, evBuildS, evTake, makeB, isNilS, partsOK, elemsOf, collI, collB, collII, allC, allN, fillL, evFz, lko, Option.isNone_none, renB, List.length_set, List.length_nil, Nat.sub_zero, Nat.add_zero, notD, chkG, evCopy, evCall, ofSR, viewA, lsOf, ofL, appL, zfree, zfreeB, freeB, isOne, ren, zipE, Op.operands, Call.operands, Nat.reduceAdd, Nat.reduceSub, Nat.reduceMul, Nat.reduceEqDiff, Nat.reduceLeDiff, Nat.reduceLT, Nat.reduceBEq, Nat.reduceBNe, ↓reduceIte, reduceIte, nbeq, nble, nblt, decide_true, decide_false, Bool.not_false, Bool.not_true, Bool.and_true, Bool.true_and, Bool.and_false, Bool.false_and, Bool.and_self, Bool.or_true, Bool.true_or, Bool.or_false, Bool.false_or, Bool.or_self, cond_true, cond_false, List.toList_toArray, List.map_cons, List.map_nil, List.getElem?_cons_zero, List.getElem?_cons_succ, Option.map_some, Option.map_none, List.zipIdx_nil, List.zipIdx_cons, List.all_nil, List.all_cons, List.isEmpty_nil, List.isEmpty_cons, List.cons_append, List.nil_append, true_and, and_true, imp_self, forall_const, implies_true, EO.mk.injEq, Bool.false_eq_true, Bool.true_eq_false, List.length_cons, List.length_nil, Array.toList_append, Bool.not_eq_true', Bool.not_eq_false', Bool.cond_true_left, Bool.cond_false_right, Bool.cond_false_left, Bool.cond_true_right, and_self, Bool.not_not, ne_eq, not_true_eq_false, not_false_eq_true, Int.toNat_natCast, Int.toNat_zero, Int.toNat_one, List.take_length, List.drop_zero, inI, evRes, resV, mkL, ltK, rhoL, leE, leR, menB, renB, menE, fzA, fzE, fzB, fzR, spDual, validS]) ?_; intro gm gv gr hq m' e' l' h; simp only [GR.mk.injEq] at hq; obtain ⟨rfl, rfl, rfl⟩ := hq; simp only [rhoC, outR, renR, dels, evOut, evStep, eq_self, evo, ev1, evx, evp, ofP, guardOf, opv, lke_cons, lke_nil, lkr_nil, lkr_cons, isC, isCC, isCL, men, putE, setW, set1, del, evLoad, evField, evIndex, evBin, lenOf, evSlice, bnd, cutI, subv, selv, isV, isAg, cellsL, lenL, properL, nthL, dropL, takeL, appL, setL, updv, tb, TI.isStr, strip, gd, gds, whnR, evPick, evStore, stBox, evApp, srcI, srcB, srcR, evBuildS, evTake, makeB, isNilS, partsOK, elemsOf, collI, collB, collII, allC, allN, fillL, evFz, lko, Option.isNone_none, renB, List.length_set, List.length_nil, Nat.sub_zero, Nat.add_zero, notD, chkG, evCopy, evCall, ofSR, viewA, lsOf, ofL, appL, zfree, zfreeB, freeB, isOne, ren, zipE, Op.operands, Call.operands, Nat.reduceAdd, Nat.reduceSub, Nat.reduceMul, Nat.reduceEqDiff, Nat.reduceLeDiff, Nat.reduceLT, Nat.reduceBEq, Nat.reduceBNe, ↓reduceIte, reduceIte, nbeq, nble, nblt, decide_true, decide_false, Bool.not_false, Bool.not_true, Bool.and_true, Bool.true_and, Bool.and_false, Bool.false_and, Bool.and_self, Bool.or_true, Bool.true_or, Bool.or_false, Bool.false_or, Bool.or_self, cond_true, cond_false, List.toList_toArray, List.map_cons, List.map_nil, List.getElem?_cons_zero, List.getElem?_cons_succ, Option.map_some, Option.map_none, List.zipIdx_nil, List.zipIdx_cons, List.all_nil, List.all_cons, List.isEmpty_nil, List.isEmpty_cons, List.cons_append, List.nil_append, true_and, and_true, imp_self, forall_const, implies_true, EO.mk.injEq, Bool.false_eq_true, Bool.true_eq_false, List.length_cons, List.length_nil, Array.toList_append, Bool.not_eq_true', Bool.not_eq_false', Bool.cond_true_left, Bool.cond_false_right, Bool.cond_false_left, Bool.cond_true_right, and_self, Bool.not_not, ne_eq, not_true_eq_false, not_false_eq_true, Int.toNat_natCast, Int.toNat_zero, Int.toNat_one, List.take_length, List.drop_zero, inI, evRes, resV, mkL, ltK, rhoL, leE, leR, menB, renB, menE, fzA, fzE, fzB, fzR, spDual, validS] at h; obtain ⟨rfl, rfl, rfl⟩ := h; refine next_then ?_
  refine awpL_text htb hmz spDual_ok (fun _ => false) rfl rfl rfl ?_; intro m' e' l' ob h; simp only [evOut, evStep, eq_self, evo, ev1, evx, evp, ofP, guardOf, opv, lke_cons, lke_nil, lkr_nil, lkr_cons, isC, isCC, isCL, men, putE, setW, set1, del, evLoad, evField, evIndex, evBin, lenOf, evSlice, bnd, cutI, subv, selv, isV, isAg, cellsL, lenL, properL, nthL, dropL, takeL, appL, setL, updv, tb, TI.isStr, strip, gd, gds, whnR, evPick, evStore, stBox, evApp, srcI, srcB, srcR, evBuildS, evTake, makeB, isNilS, partsOK, elemsOf, collI, collB, collII, allC, allN, fillL, evFz, lko, Option.isNone_none, renB, List.length_set, List.length_nil, Nat.sub_zero, Nat.add_zero, notD, chkG, evCopy, evCall, ofSR, viewA, lsOf, ofL, appL, zfree, zfreeB, freeB, isOne, ren, zipE, Op.operands, Call.operands, Nat.reduceAdd, Nat.reduceSub, Nat.reduceMul, Nat.reduceEqDiff, Nat.reduceLeDiff, Nat.reduceLT, Nat.reduceBEq, Nat.reduceBNe, ↓reduceIte, reduceIte, nbeq, nble, nblt, decide_true, decide_false, Bool.not_false, Bool.not_true, Bool.and_true, Bool.true_and, Bool.and_false, Bool.false_and, Bool.and_self, Bool.or_true, Bool.true_or, Bool.or_false, Bool.false_or, Bool.or_self, cond_true, cond_false, List.toList_toArray, List.map_cons, List.map_nil, List.getElem?_cons_zero, List.getElem?_cons_succ, Option.map_some, Option.map_none, List.zipIdx_nil, List.zipIdx_cons, List.all_nil, List.all_cons, List.isEmpty_nil, List.isEmpty_cons, List.cons_append, List.nil_append, true_and, and_true, imp_self, forall_const, implies_true, EO.mk.injEq, Bool.false_eq_true, Bool.true_eq_false, List.length_cons, List.length_nil, Array.toList_append, Bool.not_eq_true', Bool.not_eq_false', Bool.cond_true_left, Bool.cond_false_right, Bool.cond_false_left, Bool.cond_true_right, and_self, Bool.not_not, ne_eq, not_true_eq_false, not_false_eq_true, Int.toNat_natCast, Int.toNat_zero, Int.toNat_one, List.take_length, List.drop_zero, inI, evRes, resV, mkL, ltK, rhoL, leE, leR, menB, renB, menE, fzA, fzE, fzB, fzR, spDual, validS] at h; obtain ⟨rfl, rfl, rfl, rfl⟩ := h; refine ⟨?_, ?_⟩
  · first | ((with_reducible refine Ob.mk ?_); first | exact trivial | (intros; omega) | ((repeat' first | apply And.intro | (intro hg; have hg' := hg; try simp only [Bool.and_eq_false_iff, decide_eq_true_eq, decide_eq_false_iff_not, Bool.or_eq_true, Bool.or_eq_false_iff, Bool.and_eq_true, Bool.not_eq_true', Bool.not_eq_false', not_or, Int.not_lt, Int.not_le] at hg')) <;> first | assumption | omega | (simp only [Bool.and_eq_false_iff, decide_eq_true_eq, decide_eq_false_iff_not, Bool.or_eq_true, Bool.or_eq_false_iff, Bool.and_eq_true, Bool.not_eq_true', Bool.not_eq_false', not_or, Int.not_lt, Int.not_le]; omega))) | skip
  repeat' first
    | with_reducible refine awp_seq ?_
    | with_reducible refine awp_block ?_
    | with_reducible refine next_then ?_
    | with_reducible refine next_block ?_
    | with_reducible refine exit_then ?_
    | with_reducible refine ret_then ?_
    | with_reducible refine ret_block ?_
    | with_reducible refine exit_here ?_
    | with_reducible refine awp_exit ?_
    | with_reducible refine awp_ret ?_
    | with_reducible refine awp_skip ?_
    | with_reducible refine awp_label ?_
    | with_reducible refine next_noGoto ?_
    | with_reducible refine ret_noGoto ?_
    | with_reducible refine exit_noGoto ?_
    | with_reducible refine awp_scope ?_
    | ((with_reducible refine exit_past ?_ ?_); exact rfl)
    | ((with_reducible refine isCond ?_); refine awp_condO rfl ?_ ?_ <;> intro hb <;> (try simp only [Bool.and_eq_false_iff, decide_eq_true_eq, decide_eq_false_iff_not, Bool.or_eq_true, Bool.or_eq_false_iff, Bool.and_eq_true, Bool.not_eq_true', Bool.not_eq_false', not_or, Int.not_lt, Int.not_le] at hb))
    | ((with_reducible refine isReg ?_); (first | refine awp_textM htb hmz spDual_ok (fun _ => false) rfl rfl ?_ | refine awp_drawM hmo htb hmz spDual_ok (fun _ => false) rfl rfl (by kernel_rfl) ?_); intro m' e' l' ob h; simp only [evOut, evStep, eq_self, evo, ev1, evx, evp, ofP, guardOf, opv, lke_cons, lke_nil, lkr_nil, lkr_cons, isC, isCC, isCL, men, putE, setW, set1, del, evLoad, evField, evIndex, evBin, lenOf, evSlice, bnd, cutI, subv, selv, isV, isAg, cellsL, lenL, properL, nthL, dropL, takeL, appL, setL, updv, tb, TI.isStr, strip, gd, gds, whnR, evPick, evStore, stBox, evApp, srcI, srcB, srcR, evBuildS, evTake, makeB, isNilS, partsOK, elemsOf, collI, collB, collII, allC, allN, fillL, evFz, lko, Option.isNone_none, renB, List.length_set, List.length_nil, Nat.sub_zero, Nat.add_zero, notD, chkG, evCopy, evCall, ofSR, viewA, lsOf, ofL, appL, zfree, zfreeB, freeB, isOne, ren, zipE, Op.operands, Call.operands, Nat.reduceAdd, Nat.reduceSub, Nat.reduceMul, Nat.reduceEqDiff, Nat.reduceLeDiff, Nat.reduceLT, Nat.reduceBEq, Nat.reduceBNe, ↓reduceIte, reduceIte, nbeq, nble, nblt, decide_true, decide_false, Bool.not_false, Bool.not_true, Bool.and_true, Bool.true_and, Bool.and_false, Bool.false_and, Bool.and_self, Bool.or_true, Bool.true_or, Bool.or_false, Bool.false_or, Bool.or_self, cond_true, cond_false, List.toList_toArray, List.map_cons, List.map_nil, List.getElem?_cons_zero, List.getElem?_cons_succ, Option.map_some, Option.map_none, List.zipIdx_nil, List.zipIdx_cons, List.all_nil, List.all_cons, List.isEmpty_nil, List.isEmpty_cons, List.cons_append, List.nil_append, true_and, and_true, imp_self, forall_const, implies_true, EO.mk.injEq, Bool.false_eq_true, Bool.true_eq_false, List.length_cons, List.length_nil, Array.toList_append, Bool.not_eq_true', Bool.not_eq_false', Bool.cond_true_left, Bool.cond_false_right, Bool.cond_false_left, Bool.cond_true_right, and_self, Bool.not_not, ne_eq, not_true_eq_false, not_false_eq_true, Int.toNat_natCast, Int.toNat_zero, Int.toNat_one, List.take_length, List.drop_zero, inI, evRes, resV, mkL, ltK, rhoL, leE, leR, menB, renB, menE, fzA, fzE, fzB, fzR, spDual, validS] at h; obtain ⟨rfl, rfl, rfl, rfl⟩ := h; refine ⟨?_, ?_⟩)
    | ((with_reducible refine Ob.mk ?_); first | exact trivial | (intros; omega) | ((repeat' first | apply And.intro | (intro hg; have hg' := hg; try simp only [Bool.and_eq_false_iff, decide_eq_true_eq, decide_eq_false_iff_not, Bool.or_eq_true, Bool.or_eq_false_iff, Bool.and_eq_true, Bool.not_eq_true', Bool.not_eq_false', not_or, Int.not_lt, Int.not_le] at hg')) <;> first | assumption | omega | (simp only [Bool.and_eq_false_iff, decide_eq_true_eq, decide_eq_false_iff_not, Bool.or_eq_true, Bool.or_eq_false_iff, Bool.and_eq_true, Bool.not_eq_true', Bool.not_eq_false', not_or, Int.not_lt, Int.not_le]; omega)))
  refine awp_loopC (τ := Nat) (fun i => i ≤ o.length ∧ ∀ v, v < i → p.getD v 0 ≠ 60) (fun i => ⟨16, [(15, .int .i64 i), (14, .int .i64 o.length), (4, .own 10), (3, .int .i64 0), (2, .own 1), (1, .rop (.agg (.cons (.roI o) (.cons (.roI p) (.cons (.roII x) .nil)))))],
    [(7, some (.ints (du (fun o => 1 - o) o i))), (8, some (.ints (du (fun p => p + 1) p i))), (9, some (.rowsR x)), (1, some (.box (.agg (.cons (.cst (.slice none 0 0)) (.cons (.cst (.slice none 0 0)) (.cons (.cst (.slice none 0 0)) .nil)))))), (10, some (.box (.agg (.cons (.own 7) (.cons (.own 8) (.cons (.own 9) .nil))))))], []⟩) (fun i => o.length - i) 0 [] ?_ ⟨Nat.zero_le _, fun v hv => absurd hv (Nat.not_lt_zero v)⟩ ?_
  · refine ⟨rfl, ?_, ?_⟩ <;> simp only [evOut, evStep, eq_self, evo, ev1, evx, evp, ofP, guardOf, opv, lke_cons, lke_nil, lkr_nil, lkr_cons, isC, isCC, isCL, men, putE, setW, set1, del, evLoad, evField, evIndex, evBin, lenOf, evSlice, bnd, cutI, subv, selv, isV, isAg, cellsL, lenL, properL, nthL, dropL, takeL, appL, setL, updv, tb, TI.isStr, strip, gd, gds, whnR, evPick, evStore, stBox, evApp, srcI, srcB, srcR, evBuildS, evTake, makeB, isNilS, partsOK, elemsOf, collI, collB, collII, allC, allN, fillL, evFz, lko, Option.isNone_none, renB, List.length_set, List.length_nil, Nat.sub_zero, Nat.add_zero, notD, chkG, evCopy, evCall, ofSR, viewA, lsOf, ofL, appL, zfree, zfreeB, freeB, isOne, ren, zipE, Op.operands, Call.operands, Nat.reduceAdd, Nat.reduceSub, Nat.reduceMul, Nat.reduceEqDiff, Nat.reduceLeDiff, Nat.reduceLT, Nat.reduceBEq, Nat.reduceBNe, ↓reduceIte, reduceIte, nbeq, nble, nblt, decide_true, decide_false, Bool.not_false, Bool.not_true, Bool.and_true, Bool.true_and, Bool.and_false, Bool.false_and, Bool.and_self, Bool.or_true, Bool.true_or, Bool.or_false, Bool.false_or, Bool.or_self, cond_true, cond_false, List.toList_toArray, List.map_cons, List.map_nil, List.getElem?_cons_zero, List.getElem?_cons_succ, Option.map_some, Option.map_none, List.zipIdx_nil, List.zipIdx_cons, List.all_nil, List.all_cons, List.isEmpty_nil, List.isEmpty_cons, List.cons_append, List.nil_append, true_and, and_true, imp_self, forall_const, implies_true, EO.mk.injEq, Bool.false_eq_true, Bool.true_eq_false, List.length_cons, List.length_nil, Array.toList_append, Bool.not_eq_true', Bool.not_eq_false', Bool.cond_true_left, Bool.cond_false_right, Bool.cond_false_left, Bool.cond_true_right, and_self, Bool.not_not, ne_eq, not_true_eq_false, not_false_eq_true, Int.toNat_natCast, Int.toNat_zero, Int.toNat_one, List.take_length, List.drop_zero, inI, evRes, resV, mkL, ltK, rhoL, leE, leR, menB, renB, menE, fzA, fzE, fzB, fzR, spDual, validS, AV.int.injEq, AV.bool.injEq, AV.roI.injEq, AV.roB.injEq, AV.roII.injEq, AV.rop.injEq, AV.agg.injEq, AV.tup.injEq, AV.cons.injEq, AV.own.injEq, AV.whn.injEq, Blk.ints.injEq, Blk.bools.injEq, Blk.rows.injEq, Blk.rowsR.injEq, Blk.box.injEq, Option.some.injEq, Int.natCast_add, Int.natCast_one, Int.cast_ofNat_Int, du_zero]
  rintro i ⟨hi, hno⟩
  have hl1 := du_len (f := fun o => 1 - o) (xs := o) (i := i)
  have hl2 := du_len (f := fun p => p + 1) (xs := p) (i := i)
  have hf1 : i < o.length → (du (fun o => 1 - o) o i).getD i 0 = o.getD i 0 ∧ 0 ≤ o.getD i 0 ∧ o.getD i 0 ≤ 1 := fun h => by
    obtain ⟨⟨a1, a2, a3⟩, _⟩ := hpos i h
    exact ⟨du_getD h, a1, a2⟩
  have hf2 : i < o.length → (du (fun p => p + 1) p i).getD i 0 = p.getD i 0 ∧ 0 ≤ p.getD i 0 ∧ p.getD i 0 ≤ 60 := fun h => by
    obtain ⟨⟨a1, a2, a3, a4, _⟩, _⟩ := hpos i h
    exact ⟨du_getD (by omega), a3, a4⟩
  repeat' first
    | with_reducible refine awp_seq ?_
    | with_reducible refine awp_block ?_
    | with_reducible refine next_then ?_
    | with_reducible refine next_block ?_
    | with_reducible refine exit_then ?_
    | with_reducible refine ret_then ?_
    | with_reducible refine ret_block ?_
    | with_reducible refine exit_here ?_
    | with_reducible refine awp_exit ?_
    | with_reducible refine awp_ret ?_
    | with_reducible refine awp_skip ?_
    | with_reducible refine awp_label ?_
    | with_reducible refine next_noGoto ?_
    | with_reducible refine ret_noGoto ?_
    | with_reducible refine exit_noGoto ?_
    | with_reducible refine awp_scope ?_
    | ((with_reducible refine exit_past ?_ ?_); exact rfl)
    | ((with_reducible refine isCond ?_); refine awp_condO rfl ?_ ?_ <;> intro hb <;> (try simp only [Bool.and_eq_false_iff, decide_eq_true_eq, decide_eq_false_iff_not, Bool.or_eq_true, Bool.or_eq_false_iff, Bool.and_eq_true, Bool.not_eq_true', Bool.not_eq_false', not_or, Int.not_lt, Int.not_le] at hb))
    | ((with_reducible refine isRegS 12 ?_ ?_); (· exact rfl); (first | refine awp_textM htb hmz spDual_ok (fun _ => false) rfl rfl ?_ | refine awp_drawM hmo htb hmz spDual_ok (fun _ => false) rfl rfl (by kernel_rfl) ?_); intro m' e' l' ob h; simp only [evOut, evStep, eq_self, evo, ev1, evx, evp, ofP, guardOf, opv, lke_cons, lke_nil, lkr_nil, lkr_cons, isC, isCC, isCL, men, putE, setW, set1, del, evLoad, evField, evIndex, evBin, lenOf, evSlice, bnd, cutI, subv, selv, isV, isAg, cellsL, lenL, properL, nthL, dropL, takeL, appL, setL, updv, tb, TI.isStr, strip, gd, gds, whnR, evPick, evStore, stBox, evApp, srcI, srcB, srcR, evBuildS, evTake, makeB, isNilS, partsOK, elemsOf, collI, collB, collII, allC, allN, fillL, evFz, lko, Option.isNone_none, renB, List.length_set, List.length_nil, Nat.sub_zero, Nat.add_zero, notD, chkG, evCopy, evCall, ofSR, viewA, lsOf, ofL, appL, zfree, zfreeB, freeB, isOne, ren, zipE, Op.operands, Call.operands, Nat.reduceAdd, Nat.reduceSub, Nat.reduceMul, Nat.reduceEqDiff, Nat.reduceLeDiff, Nat.reduceLT, Nat.reduceBEq, Nat.reduceBNe, ↓reduceIte, reduceIte, nbeq, nble, nblt, decide_true, decide_false, Bool.not_false, Bool.not_true, Bool.and_true, Bool.true_and, Bool.and_false, Bool.false_and, Bool.and_self, Bool.or_true, Bool.true_or, Bool.or_false, Bool.false_or, Bool.or_self, cond_true, cond_false, List.toList_toArray, List.map_cons, List.map_nil, List.getElem?_cons_zero, List.getElem?_cons_succ, Option.map_some, Option.map_none, List.zipIdx_nil, List.zipIdx_cons, List.all_nil, List.all_cons, List.isEmpty_nil, List.isEmpty_cons, List.cons_append, List.nil_append, true_and, and_true, imp_self, forall_const, implies_true, EO.mk.injEq, Bool.false_eq_true, Bool.true_eq_false, List.length_cons, List.length_nil, Array.toList_append, Bool.not_eq_true', Bool.not_eq_false', Bool.cond_true_left, Bool.cond_false_right, Bool.cond_false_left, Bool.cond_true_right, and_self, Bool.not_not, ne_eq, not_true_eq_false, not_false_eq_true, Int.toNat_natCast, Int.toNat_zero, Int.toNat_one, List.take_length, List.drop_zero, inI, evRes, resV, mkL, ltK, rhoL, leE, leR, menB, renB, menE, fzA, fzE, fzB, fzR, spDual, validS] at h; obtain ⟨rfl, rfl, rfl, rfl⟩ := h; refine ⟨?_, ?_⟩)
    | ((with_reducible refine Ob.mk ?_); first | exact trivial | (intros; omega) | ((repeat' first | apply And.intro | (intro hg; have hg' := hg; try simp only [Bool.and_eq_false_iff, decide_eq_true_eq, decide_eq_false_iff_not, Bool.or_eq_true, Bool.or_eq_false_iff, Bool.and_eq_true, Bool.not_eq_true', Bool.not_eq_false', not_or, Int.not_lt, Int.not_le] at hg')) <;> first | assumption | omega | (simp only [Bool.and_eq_false_iff, decide_eq_true_eq, decide_eq_false_iff_not, Bool.or_eq_true, Bool.or_eq_false_iff, Bool.and_eq_true, Bool.not_eq_true', Bool.not_eq_false', not_or, Int.not_lt, Int.not_le]; omega)))
  · have hil : i < o.length := by omega
    have hge : ((du (fun p => p + 1) p i).set i ((du (fun p => p + 1) p i).getD i 0 + 1)).getD i 0 = p.getD i 0 + 1 := by
      rw [getD_set (by omega), if_pos rfl, (hf2 hil).1]
    rw [hge] at hb
    refine fin_ret rfl rfl (spec_imp rfl ?_ rfl)
    have hex : ∃ v, v < (Gm.mk o p x).n ∧ p.getD v 0 = 60 := ⟨i, hil, by have := hf2 hil; omega⟩
    simp only [dualR, validB_true hV, if_pos hex]
    exact imp_tup (imp_cons (imp_agg (imp_cons imp_nilI (imp_cons imp_nilI (imp_cons imp_nilII (imp_eq rfl))))) (imp_eq rfl))
  · have hil : i < o.length := by omega
    have hge : ((du (fun p => p + 1) p i).set i ((du (fun p => p + 1) p i).getD i 0 + 1)).getD i 0 = p.getD i 0 + 1 := by
      rw [getD_set (by omega), if_pos rfl, (hf2 hil).1]
    rw [hge] at hb
    refine back (i + 1) [] ?_ ⟨by omega, fun v hv => ?_⟩ (by omega)
    · (refine ⟨rfl, ?_, ?_⟩ <;> simp only [evOut, evStep, eq_self, evo, ev1, evx, evp, ofP, guardOf, opv, lke_cons, lke_nil, lkr_nil, lkr_cons, isC, isCC, isCL, men, putE, setW, set1, del, evLoad, evField, evIndex, evBin, lenOf, evSlice, bnd, cutI, subv, selv, isV, isAg, cellsL, lenL, properL, nthL, dropL, takeL, appL, setL, updv, tb, TI.isStr, strip, gd, gds, whnR, evPick, evStore, stBox, evApp, srcI, srcB, srcR, evBuildS, evTake, makeB, isNilS, partsOK, elemsOf, collI, collB, collII, allC, allN, fillL, evFz, lko, Option.isNone_none, renB, List.length_set, List.length_nil, Nat.sub_zero, Nat.add_zero, notD, chkG, evCopy, evCall, ofSR, viewA, lsOf, ofL, appL, zfree, zfreeB, freeB, isOne, ren, zipE, Op.operands, Call.operands, Nat.reduceAdd, Nat.reduceSub, Nat.reduceMul, Nat.reduceEqDiff, Nat.reduceLeDiff, Nat.reduceLT, Nat.reduceBEq, Nat.reduceBNe, ↓reduceIte, reduceIte, nbeq, nble, nblt, decide_true, decide_false, Bool.not_false, Bool.not_true, Bool.and_true, Bool.true_and, Bool.and_false, Bool.false_and, Bool.and_self, Bool.or_true, Bool.true_or, Bool.or_false, Bool.false_or, Bool.or_self, cond_true, cond_false, List.toList_toArray, List.map_cons, List.map_nil, List.getElem?_cons_zero, List.getElem?_cons_succ, Option.map_some, Option.map_none, List.zipIdx_nil, List.zipIdx_cons, List.all_nil, List.all_cons, List.isEmpty_nil, List.isEmpty_cons, List.cons_append, List.nil_append, true_and, and_true, imp_self, forall_const, implies_true, EO.mk.injEq, Bool.false_eq_true, Bool.true_eq_false, List.length_cons, List.length_nil, Array.toList_append, Bool.not_eq_true', Bool.not_eq_false', Bool.cond_true_left, Bool.cond_false_right, Bool.cond_false_left, Bool.cond_true_right, and_self, Bool.not_not, ne_eq, not_true_eq_false, not_false_eq_true, Int.toNat_natCast, Int.toNat_zero, Int.toNat_one, List.take_length, List.drop_zero, inI, evRes, resV, mkL, ltK, rhoL, leE, leR, menB, renB, menE, fzA, fzE, fzB, fzR, spDual, validS, AV.int.injEq, AV.bool.injEq, AV.roI.injEq, AV.roB.injEq, AV.roII.injEq, AV.rop.injEq, AV.agg.injEq, AV.tup.injEq, AV.cons.injEq, AV.own.injEq, AV.whn.injEq, Blk.ints.injEq, Blk.bools.injEq, Blk.rows.injEq, Blk.rowsR.injEq, Blk.box.injEq, Option.some.injEq, Int.natCast_add, Int.natCast_one, Int.cast_ofNat_Int])
      rw [(hf1 hil).1, (hf2 hil).1]
      exact ⟨du_next (f := fun o => 1 - o) hil, du_next (f := fun p => p + 1) (by omega)⟩
    · rcases Nat.lt_succ_iff_lt_or_eq.1 hv with h | rfl
      · exact hno v h
      · omega
  have hie : i = o.length := by omega
  subst hie
  refine awp_fzN 7 (.roI (du (fun o => 1 - o) o o.length)) (by simp only [lkr_cons, lkr_nil, fzE, fzA, fzR, fzB, set1, nbeq, Nat.reduceEqDiff, decide_true, decide_false, ↓reduceIte, reduceIte, cond_true, cond_false, List.take_length, Option.some.injEq]; rfl) (by first | exact rfl | (refine ⟨?_, rfl⟩; first | rfl | (intros; rfl))) (by simp only [lkr_cons, lkr_nil, fzE, fzA, fzR, fzB, set1, nbeq, Nat.reduceEqDiff, decide_true, decide_false, ↓reduceIte, reduceIte, cond_true, cond_false, List.take_length, Option.some.injEq]; rfl) (by simp only [lkr_cons, lkr_nil, fzE, fzA, fzR, fzB, set1, nbeq, Nat.reduceEqDiff, decide_true, decide_false, ↓reduceIte, reduceIte, cond_true, cond_false, List.take_length, Option.some.injEq]; rfl) ?_
  refine awp_fzN 8 (.roI (du (fun p => p + 1) p o.length)) (by simp only [lkr_cons, lkr_nil, fzE, fzA, fzR, fzB, set1, nbeq, Nat.reduceEqDiff, decide_true, decide_false, ↓reduceIte, reduceIte, cond_true, cond_false, List.take_length, Option.some.injEq]; rfl) (by first | exact rfl | (refine ⟨?_, rfl⟩; first | rfl | (intros; rfl))) (by simp only [lkr_cons, lkr_nil, fzE, fzA, fzR, fzB, set1, nbeq, Nat.reduceEqDiff, decide_true, decide_false, ↓reduceIte, reduceIte, cond_true, cond_false, List.take_length, Option.some.injEq]; rfl) (by simp only [lkr_cons, lkr_nil, fzE, fzA, fzR, fzB, set1, nbeq, Nat.reduceEqDiff, decide_true, decide_false, ↓reduceIte, reduceIte, cond_true, cond_false, List.take_length, Option.some.injEq]; rfl) ?_
  refine awp_fzN 9 (.roII x) (by simp only [lkr_cons, lkr_nil, fzE, fzA, fzR, fzB, set1, nbeq, Nat.reduceEqDiff, decide_true, decide_false, ↓reduceIte, reduceIte, cond_true, cond_false, List.take_length, Option.some.injEq]; rfl) (by first | exact rfl | (refine ⟨?_, rfl⟩; first | rfl | (intros; rfl))) (by simp only [lkr_cons, lkr_nil, fzE, fzA, fzR, fzB, set1, nbeq, Nat.reduceEqDiff, decide_true, decide_false, ↓reduceIte, reduceIte, cond_true, cond_false, List.take_length, Option.some.injEq]; rfl) (by simp only [lkr_cons, lkr_nil, fzE, fzA, fzR, fzB, set1, nbeq, Nat.reduceEqDiff, decide_true, decide_false, ↓reduceIte, reduceIte, cond_true, cond_false, List.take_length, Option.some.injEq]; rfl) ?_
  repeat' first
    | with_reducible refine awp_seq ?_
    | with_reducible refine awp_block ?_
    | with_reducible refine next_then ?_
    | with_reducible refine next_block ?_
    | with_reducible refine exit_then ?_
    | with_reducible refine ret_then ?_
    | with_reducible refine ret_block ?_
    | with_reducible refine exit_here ?_
    | with_reducible refine awp_exit ?_
    | with_reducible refine awp_ret ?_
    | with_reducible refine awp_skip ?_
    | with_reducible refine awp_label ?_
    | with_reducible refine next_noGoto ?_
    | with_reducible refine ret_noGoto ?_
    | with_reducible refine exit_noGoto ?_
    | with_reducible refine awp_scope ?_
    | ((with_reducible refine exit_past ?_ ?_); exact rfl)
    | ((with_reducible refine isCond ?_); refine awp_condO rfl ?_ ?_ <;> intro hb <;> (try simp only [Bool.and_eq_false_iff, decide_eq_true_eq, decide_eq_false_iff_not, Bool.or_eq_true, Bool.or_eq_false_iff, Bool.and_eq_true, Bool.not_eq_true', Bool.not_eq_false', not_or, Int.not_lt, Int.not_le] at hb))
    | ((with_reducible refine isReg ?_); (first | refine awp_textM htb hmz spDual_ok (fun _ => false) rfl rfl ?_ | refine awp_drawM hmo htb hmz spDual_ok (fun _ => false) rfl rfl (by kernel_rfl) ?_); intro m' e' l' ob h; simp only [evOut, evStep, eq_self, evo, ev1, evx, evp, ofP, guardOf, opv, lke_cons, lke_nil, lkr_nil, lkr_cons, isC, isCC, isCL, men, putE, setW, set1, del, evLoad, evField, evIndex, evBin, lenOf, evSlice, bnd, cutI, subv, selv, isV, isAg, cellsL, lenL, properL, nthL, dropL, takeL, appL, setL, updv, tb, TI.isStr, strip, gd, gds, whnR, evPick, evStore, stBox, evApp, srcI, srcB, srcR, evBuildS, evTake, makeB, isNilS, partsOK, elemsOf, collI, collB, collII, allC, allN, fillL, evFz, lko, Option.isNone_none, renB, List.length_set, List.length_nil, Nat.sub_zero, Nat.add_zero, notD, chkG, evCopy, evCall, ofSR, viewA, lsOf, ofL, appL, zfree, zfreeB, freeB, isOne, ren, zipE, Op.operands, Call.operands, Nat.reduceAdd, Nat.reduceSub, Nat.reduceMul, Nat.reduceEqDiff, Nat.reduceLeDiff, Nat.reduceLT, Nat.reduceBEq, Nat.reduceBNe, ↓reduceIte, reduceIte, nbeq, nble, nblt, decide_true, decide_false, Bool.not_false, Bool.not_true, Bool.and_true, Bool.true_and, Bool.and_false, Bool.false_and, Bool.and_self, Bool.or_true, Bool.true_or, Bool.or_false, Bool.false_or, Bool.or_self, cond_true, cond_false, List.toList_toArray, List.map_cons, List.map_nil, List.getElem?_cons_zero, List.getElem?_cons_succ, Option.map_some, Option.map_none, List.zipIdx_nil, List.zipIdx_cons, List.all_nil, List.all_cons, List.isEmpty_nil, List.isEmpty_cons, List.cons_append, List.nil_append, true_and, and_true, imp_self, forall_const, implies_true, EO.mk.injEq, Bool.false_eq_true, Bool.true_eq_false, List.length_cons, List.length_nil, Array.toList_append, Bool.not_eq_true', Bool.not_eq_false', Bool.cond_true_left, Bool.cond_false_right, Bool.cond_false_left, Bool.cond_true_right, and_self, Bool.not_not, ne_eq, not_true_eq_false, not_false_eq_true, Int.toNat_natCast, Int.toNat_zero, Int.toNat_one, List.take_length, List.drop_zero, inI, evRes, resV, mkL, ltK, rhoL, leE, leR, menB, renB, menE, fzA, fzE, fzB, fzR, spDual, validS] at h; obtain ⟨rfl, rfl, rfl, rfl⟩ := h; refine ⟨?_, ?_⟩)
    | ((with_reducible refine Ob.mk ?_); first | exact trivial | (intros; omega) | ((repeat' first | apply And.intro | (intro hg; have hg' := hg; try simp only [Bool.and_eq_false_iff, decide_eq_true_eq, decide_eq_false_iff_not, Bool.or_eq_true, Bool.or_eq_false_iff, Bool.and_eq_true, Bool.not_eq_true', Bool.not_eq_false', not_or, Int.not_lt, Int.not_le] at hg')) <;> first | assumption | omega | (simp only [Bool.and_eq_false_iff, decide_eq_true_eq, decide_eq_false_iff_not, Bool.or_eq_true, Bool.or_eq_false_iff, Bool.and_eq_true, Bool.not_eq_true', Bool.not_eq_false', not_or, Int.not_lt, Int.not_le]; omega)))
  refine fin_ret rfl rfl (spec_flat rfl ?_ rfl)
  have hex : ¬ ∃ v, v < (Gm.mk o p x).n ∧ p.getD v 0 = 60 := fun ⟨v, h1, h2⟩ => hno v h1 h2
  simp only [dualR, validB_true hV, if_neg hex]
  rw [du_all, ← hpl, du_all]
  rfl

end Go.Proofs.Ytinfflpephioiaa.Cal
