/- What the walk finds: the dual game of the reference. -/
import Derived.Test.YtinfflpephioiaaW12h
set_option linter.unusedVariables false
set_option linter.unusedSimpArgs false
namespace Go.Proofs.Ytinfflpephioiaa.Cal
open Go Pl

noncomputable def spDual12 : Nat → Option Spec
  | 15 => some validS
  | _ => none
theorem spDual12_ok : SpOK Try.prog spDual12 := by
  intro f S h
  unfold spDual12 at h
  split at h
  · cases h; exact valid12_ok
  · cases h

set_option maxRecDepth 4000 in
set_option maxHeartbeats 4000000 in
theorem dual12_ok : FSpec Try.prog 19 dualS := by
  refine fspec_of htb (fn := Try.f19) (by kernel_rfl) (by kernel_rfl) rfl (fun args r hS => ?_) (fun args r hS hob hl => ?_)
  · unfold dualS at hS; split at hS <;> first | (cases hS; done) | (cases hS; exact Nat.le_of_ble_eq_true rfl)
  unfold dualS at hS
  split at hS
  case h_2 => cases hS
  rename_i o p x
  simp only [Option.some.injEq] at hS
  subst hS
  simp only [lenP, mkL, lim] at hl
  dsimp only at hob
  repeat' first
    | with_reducible refine awp_seq ?_
    | with_reducible refine awp_block ?_
    | with_reducible refine next_then ?_
    | with_reducible refine next_block ?_
    | with_reducible refine exit_then ?_
    | with_reducible refine ret_then ?_
    | with_reducible refine ret_block ?_
    | with_reducible refine exit_here ?_
    | with_reducible refine awp_exit ?_
    | with_reducible refine awp_ret ?_
    | with_reducible refine awp_skip ?_
    | with_reducible refine awp_label ?_
    | with_reducible refine next_noGoto ?_
    | with_reducible refine ret_noGoto ?_
    | with_reducible refine exit_noGoto ?_
    | with_reducible refine awp_scope ?_
    | ((with_reducible refine exit_past ?_ ?_); exact rfl)
    | ((with_reducible refine isCond ?_); refine awp_condO rfl ?_ ?_ <;> intro hb <;> (try simp only [Bool.and_eq_false_iff, decide_eq_true_eq, decide_eq_false_iff_not, Bool.or_eq_true, Bool.or_eq_false_iff, Bool.and_eq_true, Bool.not_eq_true', Bool.not_eq_false', not_or, Int.not_lt, Int.not_le] at hb))
    | ((with_reducible refine isReg ?_); (first | refine awp_textM htb hmz spDual12_ok (fun _ => false) rfl rfl ?_ | refine awp_drawM hmo htb hmz spDual12_ok (fun _ => false) rfl rfl (by kernel_rfl) ?_); intro m' e' l' ob h; simp only [evOut, evStep, eq_self, evo, ev1, evx, evp, ofP, guardOf, opv, lke_cons, lke_nil, lkr_nil, lkr_cons, isC, isCC, isCL, men, putE, setW, set1, del, evLoad, evField, evIndex, evBin, lenOf, evSlice, bnd, cutI, subv, selv, isV, isAg, cellsL, lenL, properL, nthL, dropL, takeL, appL, setL, updv, tb, TI.isStr, strip, gd, gds, whnR, evPick, evStore, stBox, evApp, srcI, srcB, srcR, evBuildS, evTake, makeB, isNilS, partsOK, elemsOf, collI, collB, collII, allC, allN, fillL, evFz, lko, Option.isNone_none, renB, List.length_set, List.length_nil, Nat.sub_zero, Nat.add_zero, notD, chkG, evCopy, evCall, ofSR, viewA, lsOf, ofL, appL, zfree, zfreeB, freeB, isOne, ren, zipE, Op.operands, Call.operands, Nat.reduceAdd, Nat.reduceSub, Nat.reduceMul, Nat.reduceEqDiff, Nat.reduceLeDiff, Nat.reduceLT, Nat.reduceBEq, Nat.reduceBNe, ↓reduceIte, reduceIte, nbeq, nble, nblt, decide_true, decide_false, Bool.not_false, Bool.not_true, Bool.and_true, Bool.true_and, Bool.and_false, Bool.false_and, Bool.and_self, Bool.or_true, Bool.true_or, Bool.or_false, Bool.false_or, Bool.or_self, cond_true, cond_false, List.toList_toArray, List.map_cons, List.map_nil, List.getElem?_cons_zero, List.getElem?_cons_succ, Option.map_some, Option.map_none, List.zipIdx_nil, List.zipIdx_cons, List.all_nil, List.all_cons, List.isEmpty_nil, List.isEmpty_cons, List.cons_append, List.nil_append, true_and, and_true, imp_self, forall_const, implies_true, EO.mk.injEq, Bool.false_eq_true, Bool.true_eq_false, List.length_cons, List.length_nil, Array.toList_append, Bool.not_eq_true', Bool.not_eq_false', Bool.cond_true_left, Bool.cond_false_right, Bool.cond_false_left, Bool.cond_true_right, and_self, Bool.not_not, ne_eq, not_true_eq_false, not_false_eq_true, Int.toNat_natCast, Int.toNat_zero, Int.toNat_one, List.take_length, List.drop_zero, inI, evRes, resV, mkL, ltK, rhoL, leE, leR, menB, renB, menE, fzA, fzE, fzB, fzR, spDual12, validS] at h; obtain ⟨rfl, rfl, rfl, rfl⟩ := h; refine ⟨?_, ?_⟩)
    | ((with_reducible refine Ob.mk ?_); first | exact trivial | (intros; omega) | ((repeat' first | apply And.intro | (intro hg; have hg' := hg; try simp only [Bool.and_eq_false_iff, decide_eq_true_eq, decide_eq_false_iff_not, Bool.or_eq_true, Bool.or_eq_false_iff, Bool.and_eq_true, Bool.not_eq_true', Bool.not_eq_false', not_or, Int.not_lt, Int.not_le] at hg')) <;> first | assumption | omega | (simp only [Bool.and_eq_false_iff, decide_eq_true_eq, decide_eq_false_iff_not, Bool.or_eq_true, Bool.or_eq_false_iff, Bool.and_eq_true, Bool.not_eq_true', Bool.not_eq_false', not_or, Int.not_lt, Int.not_le]; omega)))
  · refine fin_ret rfl rfl (spec_imp rfl ?_ rfl)
    simp only [dualR, hb, Bool.false_eq_true, if_false]
    exact imp_tup (imp_cons (imp_agg (imp_cons imp_nilI (imp_cons imp_nilI (imp_cons imp_nilII (imp_eq rfl))))) (imp_eq rfl))
  have hV := validB_iff.1 hb
  obtain ⟨hn, hpl, hxl, hpos⟩ := id hV
  simp only [Gm.n] at hn hpl hxl
  have hf1 : ∀ i, i < o.length → 0 ≤ o.getD i 0 ∧ o.getD i 0 ≤ 1 := fun i h => by
    obtain ⟨⟨a1, a2, a3⟩, _⟩ := hpos i h
    exact ⟨a1, a2⟩
  have hf2 : ∀ i, i < o.length → 0 ≤ p.getD i 0 ∧ p.getD i 0 ≤ 60 ∧ (x.getD i []).length ≤ 64 := fun i h => by
    obtain ⟨⟨a1, a2, a3, a4, _, a6⟩, _⟩ := hpos i h
    exact ⟨a3, a4, a6⟩
  refine awp_nilbox 6 (.ints []) (.agg (.cons (.own 11) (.cons (.cst (.slice none 0 0)) (.cons (.cst (.slice none 0 0)) .nil)))) rfl rfl rfl (by first | exact .inl rfl | exact .inr (.inl rfl) | exact .inr (.inr (.inl rfl)) | exact .inr (.inr (.inr rfl))) (by simp only [lkr_cons, lkr_nil, fzE, fzA, fzR, fzB, set1, nbeq, Nat.reduceEqDiff, decide_true, decide_false, ↓reduceIte, reduceIte, cond_true, cond_false, List.take_length, Option.some.injEq] <;> rfl) rfl ?_
  refine awp_nilbox 6 (.ints []) (.agg (.cons (.own 11) (.cons (.own 12) (.cons (.cst (.slice none 0 0)) .nil)))) rfl rfl rfl (by first | exact .inl rfl | exact .inr (.inl rfl) | exact .inr (.inr (.inl rfl)) | exact .inr (.inr (.inr rfl))) (by simp only [lkr_cons, lkr_nil, fzE, fzA, fzR, fzB, set1, nbeq, Nat.reduceEqDiff, decide_true, decide_false, ↓reduceIte, reduceIte, cond_true, cond_false, List.take_length, Option.some.injEq] <;> rfl) rfl ?_
  refine awp_nilbox 6 (.rowsR []) (.agg (.cons (.own 11) (.cons (.own 12) (.cons (.own 13) .nil)))) rfl rfl rfl (by first | exact .inl rfl | exact .inr (.inl rfl) | exact .inr (.inr (.inl rfl)) | exact .inr (.inr (.inr rfl))) (by simp only [lkr_cons, lkr_nil, fzE, fzA, fzR, fzB, set1, nbeq, Nat.reduceEqDiff, decide_true, decide_false, ↓reduceIte, reduceIte, cond_true, cond_false, List.take_length, Option.some.injEq] <;> rfl) rfl ?_
  refine awp_loopC (τ := Nat) (fun i => i ≤ o.length ∧ ∀ v, v < i → p.getD v 0 ≠ 60) (fun i => ⟨14, [(13, .int .i64 i), (12, .int .i64 o.length), (4, .own 6), (3, .int .i64 0), (2, .own 1), (1, .rop (.agg (.cons (.roI o) (.cons (.roI p) (.cons (.roII x) .nil)))))],
    [(11, some (.ints ((o.take i).map fun o => 1 - o))), (12, some (.ints ((p.take i).map fun p => p + 1))), (13, some (.rowsR (x.take i))), (1, some (.box (.agg (.cons (.cst (.slice none 0 0)) (.cons (.cst (.slice none 0 0)) (.cons (.cst (.slice none 0 0)) .nil)))))), (6, some (.box (.agg (.cons (.own 11) (.cons (.own 12) (.cons (.own 13) .nil))))))], []⟩) (fun i => o.length - i) 0 [] ?_ ⟨Nat.zero_le _, fun v hv => absurd hv (Nat.not_lt_zero v)⟩ ?_
  · refine ⟨rfl, ?_, ?_⟩ <;> simp only [evOut, evStep, eq_self, evo, ev1, evx, evp, ofP, guardOf, opv, lke_cons, lke_nil, lkr_nil, lkr_cons, isC, isCC, isCL, men, putE, setW, set1, del, evLoad, evField, evIndex, evBin, lenOf, evSlice, bnd, cutI, subv, selv, isV, isAg, cellsL, lenL, properL, nthL, dropL, takeL, appL, setL, updv, tb, TI.isStr, strip, gd, gds, whnR, evPick, evStore, stBox, evApp, srcI, srcB, srcR, evBuildS, evTake, makeB, isNilS, partsOK, elemsOf, collI, collB, collII, allC, allN, fillL, evFz, lko, Option.isNone_none, renB, List.length_set, List.length_nil, Nat.sub_zero, Nat.add_zero, notD, chkG, evCopy, evCall, ofSR, viewA, lsOf, ofL, appL, zfree, zfreeB, freeB, isOne, ren, zipE, Op.operands, Call.operands, Nat.reduceAdd, Nat.reduceSub, Nat.reduceMul, Nat.reduceEqDiff, Nat.reduceLeDiff, Nat.reduceLT, Nat.reduceBEq, Nat.reduceBNe, ↓reduceIte, reduceIte, nbeq, nble, nblt, decide_true, decide_false, Bool.not_false, Bool.not_true, Bool.and_true, Bool.true_and, Bool.and_false, Bool.false_and, Bool.and_self, Bool.or_true, Bool.true_or, Bool.or_false, Bool.false_or, Bool.or_self, cond_true, cond_false, List.toList_toArray, List.map_cons, List.map_nil, List.getElem?_cons_zero, List.getElem?_cons_succ, Option.map_some, Option.map_none, List.zipIdx_nil, List.zipIdx_cons, List.all_nil, List.all_cons, List.isEmpty_nil, List.isEmpty_cons, List.cons_append, List.nil_append, true_and, and_true, imp_self, forall_const, implies_true, EO.mk.injEq, Bool.false_eq_true, Bool.true_eq_false, List.length_cons, List.length_nil, Array.toList_append, Bool.not_eq_true', Bool.not_eq_false', Bool.cond_true_left, Bool.cond_false_right, Bool.cond_false_left, Bool.cond_true_right, and_self, Bool.not_not, ne_eq, not_true_eq_false, not_false_eq_true, Int.toNat_natCast, Int.toNat_zero, Int.toNat_one, List.take_length, List.drop_zero, inI, evRes, resV, mkL, ltK, rhoL, leE, leR, menB, renB, menE, fzA, fzE, fzB, fzR, spDual12, validS, AV.int.injEq, AV.bool.injEq, AV.roI.injEq, AV.roB.injEq, AV.roII.injEq, AV.rop.injEq, AV.agg.injEq, AV.tup.injEq, AV.cons.injEq, AV.own.injEq, AV.whn.injEq, Blk.ints.injEq, Blk.bools.injEq, Blk.rows.injEq, Blk.rowsR.injEq, Blk.box.injEq, Option.some.injEq, Int.natCast_add, Int.natCast_one, Int.cast_ofNat_Int, List.take_zero]
  rintro i ⟨hi, hno⟩
  have hf1 := hf1 i
  have hf2 := hf2 i
  have hl1 : ((o.take i).map fun o => 1 - o).length = i := by simp; omega
  have hl2 : ((p.take i).map fun p => p + 1).length = i := by simp; omega
  have hl3 : (x.take i).length = i := by simp; omega
  repeat' first
    | with_reducible refine awp_seq ?_
    | with_reducible refine awp_block ?_
    | with_reducible refine next_then ?_
    | with_reducible refine next_block ?_
    | with_reducible refine exit_then ?_
    | with_reducible refine ret_then ?_
    | with_reducible refine ret_block ?_
    | with_reducible refine exit_here ?_
    | with_reducible refine awp_exit ?_
    | with_reducible refine awp_ret ?_
    | with_reducible refine awp_skip ?_
    | with_reducible refine awp_label ?_
    | with_reducible refine next_noGoto ?_
    | with_reducible refine ret_noGoto ?_
    | with_reducible refine exit_noGoto ?_
    | with_reducible refine awp_scope ?_
    | ((with_reducible refine exit_past ?_ ?_); exact rfl)
    | ((with_reducible refine isCond ?_); refine awp_condO rfl ?_ ?_ <;> intro hb <;> (try simp only [Bool.and_eq_false_iff, decide_eq_true_eq, decide_eq_false_iff_not, Bool.or_eq_true, Bool.or_eq_false_iff, Bool.and_eq_true, Bool.not_eq_true', Bool.not_eq_false', not_or, Int.not_lt, Int.not_le] at hb))
    | ((with_reducible refine isRegS 11 ?_ ?_); (· exact rfl); (with_reducible refine isRegS 13 ?_ ?_); (· exact rfl); (first | refine awp_textM htb hmz spDual12_ok (fun _ => false) rfl rfl ?_ | refine awp_drawM hmo htb hmz spDual12_ok (fun _ => false) rfl rfl (by kernel_rfl) ?_); intro m' e' l' ob h; simp only [evOut, evStep, eq_self, evo, ev1, evx, evp, ofP, guardOf, opv, lke_cons, lke_nil, lkr_nil, lkr_cons, isC, isCC, isCL, men, putE, setW, set1, del, evLoad, evField, evIndex, evBin, lenOf, evSlice, bnd, cutI, subv, selv, isV, isAg, cellsL, lenL, properL, nthL, dropL, takeL, appL, setL, updv, tb, TI.isStr, strip, gd, gds, whnR, evPick, evStore, stBox, evApp, srcI, srcB, srcR, evBuildS, evTake, makeB, isNilS, partsOK, elemsOf, collI, collB, collII, allC, allN, fillL, evFz, lko, Option.isNone_none, renB, List.length_set, List.length_nil, Nat.sub_zero, Nat.add_zero, notD, chkG, evCopy, evCall, ofSR, viewA, lsOf, ofL, appL, zfree, zfreeB, freeB, isOne, ren, zipE, Op.operands, Call.operands, Nat.reduceAdd, Nat.reduceSub, Nat.reduceMul, Nat.reduceEqDiff, Nat.reduceLeDiff, Nat.reduceLT, Nat.reduceBEq, Nat.reduceBNe, ↓reduceIte, reduceIte, nbeq, nble, nblt, decide_true, decide_false, Bool.not_false, Bool.not_true, Bool.and_true, Bool.true_and, Bool.and_false, Bool.false_and, Bool.and_self, Bool.or_true, Bool.true_or, Bool.or_false, Bool.false_or, Bool.or_self, cond_true, cond_false, List.toList_toArray, List.map_cons, List.map_nil, List.getElem?_cons_zero, List.getElem?_cons_succ, Option.map_some, Option.map_none, List.zipIdx_nil, List.zipIdx_cons, List.all_nil, List.all_cons, List.isEmpty_nil, List.isEmpty_cons, List.cons_append, List.nil_append, true_and, and_true, imp_self, forall_const, implies_true, EO.mk.injEq, Bool.false_eq_true, Bool.true_eq_false, List.length_cons, List.length_nil, Array.toList_append, Bool.not_eq_true', Bool.not_eq_false', Bool.cond_true_left, Bool.cond_false_right, Bool.cond_false_left, Bool.cond_true_right, and_self, Bool.not_not, ne_eq, not_true_eq_false, not_false_eq_true, Int.toNat_natCast, Int.toNat_zero, Int.toNat_one, List.take_length, List.drop_zero, inI, evRes, resV, mkL, ltK, rhoL, leE, leR, menB, renB, menE, fzA, fzE, fzB, fzR, spDual12, validS] at h; obtain ⟨rfl, rfl, rfl, rfl⟩ := h; refine ⟨?_, ?_⟩)
    | ((with_reducible refine Ob.mk ?_); first | exact trivial | (intros; omega) | ((repeat' first | apply And.intro | (intro hg; have hg' := hg; try simp only [Bool.and_eq_false_iff, decide_eq_true_eq, decide_eq_false_iff_not, Bool.or_eq_true, Bool.or_eq_false_iff, Bool.and_eq_true, Bool.not_eq_true', Bool.not_eq_false', not_or, Int.not_lt, Int.not_le] at hg')) <;> first | assumption | omega | (simp only [Bool.and_eq_false_iff, decide_eq_true_eq, decide_eq_false_iff_not, Bool.or_eq_true, Bool.or_eq_false_iff, Bool.and_eq_true, Bool.not_eq_true', Bool.not_eq_false', not_or, Int.not_lt, Int.not_le]; omega)))
  · have hil : i < o.length := by omega
    refine fin_ret rfl rfl (spec_imp rfl ?_ rfl)
    have hex : ∃ v, v < (Gm.mk o p x).n ∧ p.getD v 0 = 60 := ⟨i, hil, by omega⟩
    simp only [dualR, validB_true hV, if_pos hex]
    exact imp_tup (imp_cons (imp_agg (imp_cons imp_nilI (imp_cons imp_nilI (imp_cons imp_nilII (imp_eq rfl))))) (imp_eq rfl))
  · have hil : i < o.length := by omega
    (refine awp_drawM hmo htb hmz spDual12_ok (fun i => Nat.beq i 2 || Nat.beq i 8) rfl rfl (by kernel_rfl) ?_; intro m' e' l' ob h; simp only [evOut, evStep, eq_self, evo, ev1, evx, evp, ofP, guardOf, opv, lke_cons, lke_nil, lkr_nil, lkr_cons, isC, isCC, isCL, men, putE, setW, set1, del, evLoad, evField, evIndex, evBin, lenOf, evSlice, bnd, cutI, subv, selv, isV, isAg, cellsL, lenL, properL, nthL, dropL, takeL, appL, setL, updv, tb, TI.isStr, strip, gd, gds, whnR, evPick, evStore, stBox, evApp, srcI, srcB, srcR, evBuildS, evTake, makeB, isNilS, partsOK, elemsOf, collI, collB, collII, allC, allN, fillL, evFz, lko, Option.isNone_none, renB, List.length_set, List.length_nil, Nat.sub_zero, Nat.add_zero, notD, chkG, evCopy, evCall, ofSR, viewA, lsOf, ofL, appL, zfree, zfreeB, freeB, isOne, ren, zipE, Op.operands, Call.operands, Nat.reduceAdd, Nat.reduceSub, Nat.reduceMul, Nat.reduceEqDiff, Nat.reduceLeDiff, Nat.reduceLT, Nat.reduceBEq, Nat.reduceBNe, ↓reduceIte, reduceIte, nbeq, nble, nblt, decide_true, decide_false, Bool.not_false, Bool.not_true, Bool.and_true, Bool.true_and, Bool.and_false, Bool.false_and, Bool.and_self, Bool.or_true, Bool.true_or, Bool.or_false, Bool.false_or, Bool.or_self, cond_true, cond_false, List.toList_toArray, List.map_cons, List.map_nil, List.getElem?_cons_zero, List.getElem?_cons_succ, Option.map_some, Option.map_none, List.zipIdx_nil, List.zipIdx_cons, List.all_nil, List.all_cons, List.isEmpty_nil, List.isEmpty_cons, List.cons_append, List.nil_append, true_and, and_true, imp_self, forall_const, implies_true, EO.mk.injEq, Bool.false_eq_true, Bool.true_eq_false, List.length_cons, List.length_nil, Array.toList_append, Bool.not_eq_true', Bool.not_eq_false', Bool.cond_true_left, Bool.cond_false_right, Bool.cond_false_left, Bool.cond_true_right, and_self, Bool.not_not, ne_eq, not_true_eq_false, not_false_eq_true, Int.toNat_natCast, Int.toNat_zero, Int.toNat_one, List.take_length, List.drop_zero, inI, evRes, resV, mkL, ltK, rhoL, leE, leR, menB, renB, menE, fzA, fzE, fzB, fzR, spDual12, validS] at h; obtain ⟨rfl, rfl, rfl, rfl⟩ := h; refine ⟨?_, ?_⟩)
    · first | ((with_reducible refine Ob.mk ?_); first | exact trivial | (intros; omega) | ((repeat' first | apply And.intro | (intro hg; have hg' := hg; try simp only [Bool.and_eq_false_iff, decide_eq_true_eq, decide_eq_false_iff_not, Bool.or_eq_true, Bool.or_eq_false_iff, Bool.and_eq_true, Bool.not_eq_true', Bool.not_eq_false', not_or, Int.not_lt, Int.not_le] at hg')) <;> first | assumption | omega | (simp only [Bool.and_eq_false_iff, decide_eq_true_eq, decide_eq_false_iff_not, Bool.or_eq_true, Bool.or_eq_false_iff, Bool.and_eq_true, Bool.not_eq_true', Bool.not_eq_false', not_or, Int.not_lt, Int.not_le]; omega))) | skip
    repeat' first
      | with_reducible refine awp_seq ?_
      | with_reducible refine awp_block ?_
      | with_reducible refine next_then ?_
      | with_reducible refine next_block ?_
      | with_reducible refine exit_then ?_
      | with_reducible refine ret_then ?_
      | with_reducible refine ret_block ?_
      | with_reducible refine exit_here ?_
      | with_reducible refine awp_exit ?_
      | with_reducible refine awp_ret ?_
      | with_reducible refine awp_skip ?_
      | with_reducible refine awp_label ?_
      | with_reducible refine next_noGoto ?_
      | with_reducible refine ret_noGoto ?_
      | with_reducible refine exit_noGoto ?_
      | with_reducible refine awp_scope ?_
      | ((with_reducible refine exit_past ?_ ?_); exact rfl)
      | ((with_reducible refine isCond ?_); refine awp_condO rfl ?_ ?_ <;> intro hb <;> (try simp only [Bool.and_eq_false_iff, decide_eq_true_eq, decide_eq_false_iff_not, Bool.or_eq_true, Bool.or_eq_false_iff, Bool.and_eq_true, Bool.not_eq_true', Bool.not_eq_false', not_or, Int.not_lt, Int.not_le] at hb))
      | ((with_reducible refine isReg ?_); (first | refine awp_textM htb hmz spDual12_ok (fun _ => false) rfl rfl ?_ | refine awp_drawM hmo htb hmz spDual12_ok (fun _ => false) rfl rfl (by kernel_rfl) ?_); intro m' e' l' ob h; simp only [evOut, evStep, eq_self, evo, ev1, evx, evp, ofP, guardOf, opv, lke_cons, lke_nil, lkr_nil, lkr_cons, isC, isCC, isCL, men, putE, setW, set1, del, evLoad, evField, evIndex, evBin, lenOf, evSlice, bnd, cutI, subv, selv, isV, isAg, cellsL, lenL, properL, nthL, dropL, takeL, appL, setL, updv, tb, TI.isStr, strip, gd, gds, whnR, evPick, evStore, stBox, evApp, srcI, srcB, srcR, evBuildS, evTake, makeB, isNilS, partsOK, elemsOf, collI, collB, collII, allC, allN, fillL, evFz, lko, Option.isNone_none, renB, List.length_set, List.length_nil, Nat.sub_zero, Nat.add_zero, notD, chkG, evCopy, evCall, ofSR, viewA, lsOf, ofL, appL, zfree, zfreeB, freeB, isOne, ren, zipE, Op.operands, Call.operands, Nat.reduceAdd, Nat.reduceSub, Nat.reduceMul, Nat.reduceEqDiff, Nat.reduceLeDiff, Nat.reduceLT, Nat.reduceBEq, Nat.reduceBNe, ↓reduceIte, reduceIte, nbeq, nble, nblt, decide_true, decide_false, Bool.not_false, Bool.not_true, Bool.and_true, Bool.true_and, Bool.and_false, Bool.false_and, Bool.and_self, Bool.or_true, Bool.true_or, Bool.or_false, Bool.false_or, Bool.or_self, cond_true, cond_false, List.toList_toArray, List.map_cons, List.map_nil, List.getElem?_cons_zero, List.getElem?_cons_succ, Option.map_some, Option.map_none, List.zipIdx_nil, List.zipIdx_cons, List.all_nil, List.all_cons, List.isEmpty_nil, List.isEmpty_cons, List.cons_append, List.nil_append, true_and, and_true, imp_self, forall_const, implies_true, EO.mk.injEq, Bool.false_eq_true, Bool.true_eq_false, List.length_cons, List.length_nil, Array.toList_append, Bool.not_eq_true', Bool.not_eq_false', Bool.cond_true_left, Bool.cond_false_right, Bool.cond_false_left, Bool.cond_true_right, and_self, Bool.not_not, ne_eq, not_true_eq_false, not_false_eq_true, Int.toNat_natCast, Int.toNat_zero, Int.toNat_one, List.take_length, List.drop_zero, inI, evRes, resV, mkL, ltK, rhoL, leE, leR, menB, renB, menE, fzA, fzE, fzB, fzR, spDual12, validS] at h; obtain ⟨rfl, rfl, rfl, rfl⟩ := h; refine ⟨?_, ?_⟩)
      | ((with_reducible refine Ob.mk ?_); first | exact trivial | (intros; omega) | ((repeat' first | apply And.intro | (intro hg; have hg' := hg; try simp only [Bool.and_eq_false_iff, decide_eq_true_eq, decide_eq_false_iff_not, Bool.or_eq_true, Bool.or_eq_false_iff, Bool.and_eq_true, Bool.not_eq_true', Bool.not_eq_false', not_or, Int.not_lt, Int.not_le] at hg')) <;> first | assumption | omega | (simp only [Bool.and_eq_false_iff, decide_eq_true_eq, decide_eq_false_iff_not, Bool.or_eq_true, Bool.or_eq_false_iff, Bool.and_eq_true, Bool.not_eq_true', Bool.not_eq_false', not_or, Int.not_lt, Int.not_le]; omega)))
    refine back (i + 1) [(11, 32), (12, 44), (13, 57)] ?_ ⟨by omega, fun v hv => ?_⟩ (by omega)
    · (refine ⟨rfl, ?_, ?_⟩ <;> simp only [evOut, evStep, eq_self, evo, ev1, evx, evp, ofP, guardOf, opv, lke_cons, lke_nil, lkr_nil, lkr_cons, isC, isCC, isCL, men, putE, setW, set1, del, evLoad, evField, evIndex, evBin, lenOf, evSlice, bnd, cutI, subv, selv, isV, isAg, cellsL, lenL, properL, nthL, dropL, takeL, appL, setL, updv, tb, TI.isStr, strip, gd, gds, whnR, evPick, evStore, stBox, evApp, srcI, srcB, srcR, evBuildS, evTake, makeB, isNilS, partsOK, elemsOf, collI, collB, collII, allC, allN, fillL, evFz, lko, Option.isNone_none, renB, List.length_set, List.length_nil, Nat.sub_zero, Nat.add_zero, notD, chkG, evCopy, evCall, ofSR, viewA, lsOf, ofL, appL, zfree, zfreeB, freeB, isOne, ren, zipE, Op.operands, Call.operands, Nat.reduceAdd, Nat.reduceSub, Nat.reduceMul, Nat.reduceEqDiff, Nat.reduceLeDiff, Nat.reduceLT, Nat.reduceBEq, Nat.reduceBNe, ↓reduceIte, reduceIte, nbeq, nble, nblt, decide_true, decide_false, Bool.not_false, Bool.not_true, Bool.and_true, Bool.true_and, Bool.and_false, Bool.false_and, Bool.and_self, Bool.or_true, Bool.true_or, Bool.or_false, Bool.false_or, Bool.or_self, cond_true, cond_false, List.toList_toArray, List.map_cons, List.map_nil, List.getElem?_cons_zero, List.getElem?_cons_succ, Option.map_some, Option.map_none, List.zipIdx_nil, List.zipIdx_cons, List.all_nil, List.all_cons, List.isEmpty_nil, List.isEmpty_cons, List.cons_append, List.nil_append, true_and, and_true, imp_self, forall_const, implies_true, EO.mk.injEq, Bool.false_eq_true, Bool.true_eq_false, List.length_cons, List.length_nil, Array.toList_append, Bool.not_eq_true', Bool.not_eq_false', Bool.cond_true_left, Bool.cond_false_right, Bool.cond_false_left, Bool.cond_true_right, and_self, Bool.not_not, ne_eq, not_true_eq_false, not_false_eq_true, Int.toNat_natCast, Int.toNat_zero, Int.toNat_one, List.take_length, List.drop_zero, inI, evRes, resV, mkL, ltK, rhoL, leE, leR, menB, renB, menE, fzA, fzE, fzB, fzR, spDual12, validS, AV.int.injEq, AV.bool.injEq, AV.roI.injEq, AV.roB.injEq, AV.roII.injEq, AV.rop.injEq, AV.agg.injEq, AV.tup.injEq, AV.cons.injEq, AV.own.injEq, AV.whn.injEq, Blk.ints.injEq, Blk.bools.injEq, Blk.rows.injEq, Blk.rowsR.injEq, Blk.box.injEq, Option.some.injEq, Int.natCast_add, Int.natCast_one, Int.cast_ofNat_Int])
      rw [take1 (d := 0) hil, take1 (d := 0) (by omega : i < p.length), take1 (d := []) (by omega : i < x.length), List.map_append, List.map_append]
      exact ⟨rfl, rfl, rfl⟩
    · rcases Nat.lt_succ_iff_lt_or_eq.1 hv with h | rfl
      · exact hno v h
      · omega
  have hie : i = o.length := by omega
  subst hie
  refine awp_fzN 11 (.roI (o.map fun o => 1 - o)) (by simp only [lkr_cons, lkr_nil, fzE, fzA, fzR, fzB, set1, nbeq, Nat.reduceEqDiff, decide_true, decide_false, ↓reduceIte, reduceIte, cond_true, cond_false, List.take_length, Option.some.injEq]; rfl) (by first | exact rfl | (refine ⟨?_, rfl⟩; first | rfl | (intros; rfl))) (by simp only [lkr_cons, lkr_nil, fzE, fzA, fzR, fzB, set1, nbeq, Nat.reduceEqDiff, decide_true, decide_false, ↓reduceIte, reduceIte, cond_true, cond_false, List.take_length, Option.some.injEq]; rfl) (by simp only [lkr_cons, lkr_nil, fzE, fzA, fzR, fzB, set1, nbeq, Nat.reduceEqDiff, decide_true, decide_false, ↓reduceIte, reduceIte, cond_true, cond_false, List.take_length, Option.some.injEq]; rfl) ?_
  refine awp_fzN 12 (.roI ((p.take o.length).map fun p => p + 1)) (by simp only [lkr_cons, lkr_nil, fzE, fzA, fzR, fzB, set1, nbeq, Nat.reduceEqDiff, decide_true, decide_false, ↓reduceIte, reduceIte, cond_true, cond_false, List.take_length, Option.some.injEq]; rfl) (by first | exact rfl | (refine ⟨?_, rfl⟩; first | rfl | (intros; rfl))) (by simp only [lkr_cons, lkr_nil, fzE, fzA, fzR, fzB, set1, nbeq, Nat.reduceEqDiff, decide_true, decide_false, ↓reduceIte, reduceIte, cond_true, cond_false, List.take_length, Option.some.injEq]; rfl) (by simp only [lkr_cons, lkr_nil, fzE, fzA, fzR, fzB, set1, nbeq, Nat.reduceEqDiff, decide_true, decide_false, ↓reduceIte, reduceIte, cond_true, cond_false, List.take_length, Option.some.injEq]; rfl) ?_
  refine awp_fzN 13 (.roII (x.take o.length)) (by simp only [lkr_cons, lkr_nil, fzE, fzA, fzR, fzB, set1, nbeq, Nat.reduceEqDiff, decide_true, decide_false, ↓reduceIte, reduceIte, cond_true, cond_false, List.take_length, Option.some.injEq]; rfl) (by first | exact rfl | (refine ⟨?_, rfl⟩; first | rfl | (intros; rfl))) (by simp only [lkr_cons, lkr_nil, fzE, fzA, fzR, fzB, set1, nbeq, Nat.reduceEqDiff, decide_true, decide_false, ↓reduceIte, reduceIte, cond_true, cond_false, List.take_length, Option.some.injEq]; rfl) (by simp only [lkr_cons, lkr_nil, fzE, fzA, fzR, fzB, set1, nbeq, Nat.reduceEqDiff, decide_true, decide_false, ↓reduceIte, reduceIte, cond_true, cond_false, List.take_length, Option.some.injEq]; rfl) ?_
  repeat' first
    | with_reducible refine awp_seq ?_
    | with_reducible refine awp_block ?_
    | with_reducible refine next_then ?_
    | with_reducible refine next_block ?_
    | with_reducible refine exit_then ?_
    | with_reducible refine ret_then ?_
    | with_reducible refine ret_block ?_
    | with_reducible refine exit_here ?_
    | with_reducible refine awp_exit ?_
    | with_reducible refine awp_ret ?_
    | with_reducible refine awp_skip ?_
    | with_reducible refine awp_label ?_
    | with_reducible refine next_noGoto ?_
    | with_reducible refine ret_noGoto ?_
    | with_reducible refine exit_noGoto ?_
    | with_reducible refine awp_scope ?_
    | ((with_reducible refine exit_past ?_ ?_); exact rfl)
    | ((with_reducible refine isCond ?_); refine awp_condO rfl ?_ ?_ <;> intro hb <;> (try simp only [Bool.and_eq_false_iff, decide_eq_true_eq, decide_eq_false_iff_not, Bool.or_eq_true, Bool.or_eq_false_iff, Bool.and_eq_true, Bool.not_eq_true', Bool.not_eq_false', not_or, Int.not_lt, Int.not_le] at hb))
    | ((with_reducible refine isReg ?_); (first | refine awp_textM htb hmz spDual12_ok (fun _ => false) rfl rfl ?_ | refine awp_drawM hmo htb hmz spDual12_ok (fun _ => false) rfl rfl (by kernel_rfl) ?_); intro m' e' l' ob h; simp only [evOut, evStep, eq_self, evo, ev1, evx, evp, ofP, guardOf, opv, lke_cons, lke_nil, lkr_nil, lkr_cons, isC, isCC, isCL, men, putE, setW, set1, del, evLoad, evField, evIndex, evBin, lenOf, evSlice, bnd, cutI, subv, selv, isV, isAg, cellsL, lenL, properL, nthL, dropL, takeL, appL, setL, updv, tb, TI.isStr, strip, gd, gds, whnR, evPick, evStore, stBox, evApp, srcI, srcB, srcR, evBuildS, evTake, makeB, isNilS, partsOK, elemsOf, collI, collB, collII, allC, allN, fillL, evFz, lko, Option.isNone_none, renB, List.length_set, List.length_nil, Nat.sub_zero, Nat.add_zero, notD, chkG, evCopy, evCall, ofSR, viewA, lsOf, ofL, appL, zfree, zfreeB, freeB, isOne, ren, zipE, Op.operands, Call.operands, Nat.reduceAdd, Nat.reduceSub, Nat.reduceMul, Nat.reduceEqDiff, Nat.reduceLeDiff, Nat.reduceLT, Nat.reduceBEq, Nat.reduceBNe, ↓reduceIte, reduceIte, nbeq, nble, nblt, decide_true, decide_false, Bool.not_false, Bool.not_true, Bool.and_true, Bool.true_and, Bool.and_false, Bool.false_and, Bool.and_self, Bool.or_true, Bool.true_or, Bool.or_false, Bool.false_or, Bool.or_self, cond_true, cond_false, List.toList_toArray, List.map_cons, List.map_nil, List.getElem?_cons_zero, List.getElem?_cons_succ, Option.map_some, Option.map_none, List.zipIdx_nil, List.zipIdx_cons, List.all_nil, List.all_cons, List.isEmpty_nil, List.isEmpty_cons, List.cons_append, List.nil_append, true_and, and_true, imp_self, forall_const, implies_true, EO.mk.injEq, Bool.false_eq_true, Bool.true_eq_false, List.length_cons, List.length_nil, Array.toList_append, Bool.not_eq_true', Bool.not_eq_false', Bool.cond_true_left, Bool.cond_false_right, Bool.cond_false_left, Bool.cond_true_right, and_self, Bool.not_not, ne_eq, not_true_eq_false, not_false_eq_true, Int.toNat_natCast, Int.toNat_zero, Int.toNat_one, List.take_length, List.drop_zero, inI, evRes, resV, mkL, ltK, rhoL, leE, leR, menB, renB, menE, fzA, fzE, fzB, fzR, spDual12, validS] at h; obtain ⟨rfl, rfl, rfl, rfl⟩ := h; refine ⟨?_, ?_⟩)
    | ((with_reducible refine Ob.mk ?_); first | exact trivial | (intros; omega) | ((repeat' first | apply And.intro | (intro hg; have hg' := hg; try simp only [Bool.and_eq_false_iff, decide_eq_true_eq, decide_eq_false_iff_not, Bool.or_eq_true, Bool.or_eq_false_iff, Bool.and_eq_true, Bool.not_eq_true', Bool.not_eq_false', not_or, Int.not_lt, Int.not_le] at hg')) <;> first | assumption | omega | (simp only [Bool.and_eq_false_iff, decide_eq_true_eq, decide_eq_false_iff_not, Bool.or_eq_true, Bool.or_eq_false_iff, Bool.and_eq_true, Bool.not_eq_true', Bool.not_eq_false', not_or, Int.not_lt, Int.not_le]; omega)))
  refine fin_ret rfl rfl (spec_flat rfl ?_ rfl)
  have hex : ¬ ∃ v, v < (Gm.mk o p x).n ∧ p.getD v 0 = 60 := fun ⟨v, h1, h2⟩ => hno v h1 h2
  simp only [dualR, validB_true hV, if_neg hex]
  show AV.tup _ = AV.tup _
  have e1 : p.take o.length = p := by rw [← hpl, List.take_length]
  have e2 : x.take o.length = x := by rw [← hxl, List.take_length]
  simp only [e1, e2, if_true]
  rfl

end Go.Proofs.Ytinfflpephioiaa.Cal
