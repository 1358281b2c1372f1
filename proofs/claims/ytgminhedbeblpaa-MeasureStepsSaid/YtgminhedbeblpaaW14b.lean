/- What the walk finds: progress. -/
import Derived.Test.YtgminhedbeblpaaW14a
set_option linter.unusedVariables false
set_option linter.unusedSimpArgs false
namespace Go.Proofs.Ytgminhedbeblpaa.Cal
open Go Pl

def aboveS : Spec
  | [.agg (.cons (.roI odd) (.cons (.roI many) .nil)), .int .i64 q] => some ⟨True, .int .i64 (abv odd q), none⟩
  | _ => none
set_option maxRecDepth 4000 in
set_option maxHeartbeats 4000000 in
theorem above_ok : FSpec Try.prog 55 aboveS := by
  refine fspec_of htb (fn := Try.f55) (by kernel_rfl) (by kernel_rfl) rfl (fun args r hS => ?_) (fun args r hS hob hl => ?_)
  · unfold aboveS at hS; split at hS <;> first | (cases hS; done) | (cases hS; exact Nat.le_of_ble_eq_true rfl)
  unfold aboveS at hS
  split at hS
  case h_2 => cases hS
  rename_i odd many q
  simp only [Option.some.injEq] at hS
  subst hS
  simp only [lenP, mkL, lim] at hl
  dsimp only at hob
  repeat' first
    | with_reducible first | refine awp_seq ?_ | refine awp_block ?_ | refine next_then ?_ | refine next_block ?_ | refine exit_then ?_ | refine ret_then ?_ | refine ret_block ?_ | refine exit_here ?_ | refine awp_exit ?_ | refine awp_ret ?_ | refine awp_skip ?_ | refine awp_label ?_ | refine next_noGoto ?_ | refine ret_noGoto ?_ | refine exit_noGoto ?_ | refine awp_scope ?_
    | ((with_reducible refine exit_past ?_ ?_); exact rfl)
    | ((with_reducible refine isCond ?_); refine awp_condO rfl ?_ ?_ <;> intro hb <;> (try simp only [Bool.and_eq_false_iff, decide_eq_true_eq, decide_eq_false_iff_not, Bool.or_eq_true, Bool.or_eq_false_iff, Bool.and_eq_true, Bool.not_eq_true', Bool.not_eq_false', not_or, Int.not_lt, Int.not_le] at hb))
    | ((with_reducible refine isReg ?_); (first | refine awp_textM htb hmz noSp (fun _ => false) rfl rfl ?_ | refine awp_drawM hmo htb hmz noSp (fun _ => false) rfl rfl (by kernel_rfl) ?_); intro m' e' l' ob h; simp only [evOut, evStep, evCap, evMap, isIntS, gua, eq_self, evo, ev1, evx, evp, ofP, guardOf, opv, lke_cons, lke_nil, lkr_nil, lkr_cons, isC, isCC, isCL, men, putE, setW, set1, del, evLoad, evField, evIndex, evBin, lenOf, evSlice, bnd, cutI, subv, selv, isV, isAg, cellsL, lenL, properL, nthL, dropL, takeL, appL, setL, updv, tb, TI.isStr, strip, gd, gds, whnR, evPick, evStore, stBox, evApp, evAppS, List.getD_cons_zero, srcI, srcB, srcR, evBuildS, evTake, makeB, isNilS, partsOK, elemsOf, collI, collB, collII, allC, allN, fillL, evCut, evFz, lko, z0, renB, z1, z2, z3, z4, notD, chkG, evCopy, evCall, ofSR, viewA, lsOf, ofL, zfree, zfreeB, freeB, isOne, ren, zipE, Op.operands, Call.operands, Nat.reduceAdd, Nat.reduceSub, Nat.reduceMul, Nat.reduceEqDiff, Nat.reduceLeDiff, Nat.reduceLT, Nat.reduceBEq, Nat.reduceBNe, ↓reduceIte, reduceIte, nbeq, nble, nblt, z5, z6, z7, z8, z9, z10, z11, z12, z13, z14, z15, z16, z17, z18, z19, z20, z21, z22, z23, z24, z25, z26, z27, z28, z29, z30, z31, z32, z33, z34, z35, z36, z37, imp_self, forall_const, z38, EO.mk.injEq, z39, z40, z41, z42, z43, z44, z45, z46, z47, z48, z49, z50, ne_eq, z51, z52, z53, z54, z55, z56, z57, inI, evRes, resV, mkL, ltK, rhoL, leE, leR, menB, menE, fzA, fzE, fzB, fzR] at h; obtain ⟨rfl, rfl, rfl, rfl⟩ := h; refine ⟨?_, ?_⟩)
    | ((with_reducible refine Ob.mk ?_); first | exact trivial | (intros; omega) | ((repeat' first | apply And.intro | (intro hg; have hg' := hg; try simp only [Bool.and_eq_false_iff, decide_eq_true_eq, decide_eq_false_iff_not, Bool.or_eq_true, Bool.or_eq_false_iff, Bool.and_eq_true, Bool.not_eq_true', Bool.not_eq_false', not_or, Int.not_lt, Int.not_le] at hg')) <;> first | assumption | omega | (simp only [Bool.and_eq_false_iff, decide_eq_true_eq, decide_eq_false_iff_not, Bool.or_eq_true, Bool.or_eq_false_iff, Bool.and_eq_true, Bool.not_eq_true', Bool.not_eq_false', not_or, Int.not_lt, Int.not_le]; omega)))
  refine awp_loopC (τ := Nat) (fun j => j ≤ abv odd q) (fun j => ⟨3, [(5, .int .i64 j), (2, .rop (.agg (.cons (.roI odd) (.cons (.roI many) .nil)))), (1, .int .i64 q)], [], []⟩) (fun j => abv odd q - j) 0 [] ?_ (Nat.zero_le _) ?_
  · (refine ⟨rfl, ?_, ?_⟩ <;> simp only [evOut, evStep, evCap, evMap, isIntS, gua, eq_self, evo, ev1, evx, evp, ofP, guardOf, opv, lke_cons, lke_nil, lkr_nil, lkr_cons, isC, isCC, isCL, men, putE, setW, set1, del, evLoad, evField, evIndex, evBin, lenOf, evSlice, bnd, cutI, subv, selv, isV, isAg, cellsL, lenL, properL, nthL, dropL, takeL, appL, setL, updv, tb, TI.isStr, strip, gd, gds, whnR, evPick, evStore, stBox, evApp, evAppS, List.getD_cons_zero, srcI, srcB, srcR, evBuildS, evTake, makeB, isNilS, partsOK, elemsOf, collI, collB, collII, allC, allN, fillL, evCut, evFz, lko, z0, renB, z1, z2, z3, z4, notD, chkG, evCopy, evCall, ofSR, viewA, lsOf, ofL, zfree, zfreeB, freeB, isOne, ren, zipE, Op.operands, Call.operands, Nat.reduceAdd, Nat.reduceSub, Nat.reduceMul, Nat.reduceEqDiff, Nat.reduceLeDiff, Nat.reduceLT, Nat.reduceBEq, Nat.reduceBNe, ↓reduceIte, reduceIte, nbeq, nble, nblt, z5, z6, z7, z8, z9, z10, z11, z12, z13, z14, z15, z16, z17, z18, z19, z20, z21, z22, z23, z24, z25, z26, z27, z28, z29, z30, z31, z32, z33, z34, z35, z36, z37, imp_self, forall_const, z38, EO.mk.injEq, z39, z40, z41, z42, z43, z44, z45, z46, z47, z48, z49, z50, ne_eq, z51, z52, z53, z54, z55, z56, z57, inI, evRes, resV, mkL, ltK, rhoL, leE, leR, menB, menE, fzA, fzE, fzB, fzR, AV.int.injEq, AV.bool.injEq, AV.roI.injEq, AV.roB.injEq, AV.roII.injEq, AV.rop.injEq, AV.agg.injEq, AV.tup.injEq, AV.cons.injEq, AV.own.injEq, AV.whn.injEq, Blk.ints.injEq, Blk.bools.injEq, Blk.rows.injEq, Blk.rowsR.injEq, Blk.box.injEq, Option.some.injEq, Int.natCast_add, Int.natCast_one, Int.cast_ofNat_Int])
  intro j hj
  have hs := abv_step hj
  have hl : abv odd q ≤ odd.length := abv_le
  repeat' first
    | with_reducible first | refine awp_seq ?_ | refine awp_block ?_ | refine next_then ?_ | refine next_block ?_ | refine exit_then ?_ | refine ret_then ?_ | refine ret_block ?_ | refine exit_here ?_ | refine awp_exit ?_ | refine awp_ret ?_ | refine awp_skip ?_ | refine awp_label ?_ | refine next_noGoto ?_ | refine ret_noGoto ?_ | refine exit_noGoto ?_ | refine awp_scope ?_
    | ((with_reducible refine exit_past ?_ ?_); exact rfl)
    | ((with_reducible refine isCond ?_); refine awp_condO rfl ?_ ?_ <;> intro hb <;> (try simp only [Bool.and_eq_false_iff, decide_eq_true_eq, decide_eq_false_iff_not, Bool.or_eq_true, Bool.or_eq_false_iff, Bool.and_eq_true, Bool.not_eq_true', Bool.not_eq_false', not_or, Int.not_lt, Int.not_le] at hb))
    | ((with_reducible refine isReg ?_); (first | refine awp_textM htb hmz noSp (fun _ => false) rfl rfl ?_ | refine awp_drawM hmo htb hmz noSp (fun _ => false) rfl rfl (by kernel_rfl) ?_); intro m' e' l' ob h; simp only [evOut, evStep, evCap, evMap, isIntS, gua, eq_self, evo, ev1, evx, evp, ofP, guardOf, opv, lke_cons, lke_nil, lkr_nil, lkr_cons, isC, isCC, isCL, men, putE, setW, set1, del, evLoad, evField, evIndex, evBin, lenOf, evSlice, bnd, cutI, subv, selv, isV, isAg, cellsL, lenL, properL, nthL, dropL, takeL, appL, setL, updv, tb, TI.isStr, strip, gd, gds, whnR, evPick, evStore, stBox, evApp, evAppS, List.getD_cons_zero, srcI, srcB, srcR, evBuildS, evTake, makeB, isNilS, partsOK, elemsOf, collI, collB, collII, allC, allN, fillL, evCut, evFz, lko, z0, renB, z1, z2, z3, z4, notD, chkG, evCopy, evCall, ofSR, viewA, lsOf, ofL, zfree, zfreeB, freeB, isOne, ren, zipE, Op.operands, Call.operands, Nat.reduceAdd, Nat.reduceSub, Nat.reduceMul, Nat.reduceEqDiff, Nat.reduceLeDiff, Nat.reduceLT, Nat.reduceBEq, Nat.reduceBNe, ↓reduceIte, reduceIte, nbeq, nble, nblt, z5, z6, z7, z8, z9, z10, z11, z12, z13, z14, z15, z16, z17, z18, z19, z20, z21, z22, z23, z24, z25, z26, z27, z28, z29, z30, z31, z32, z33, z34, z35, z36, z37, imp_self, forall_const, z38, EO.mk.injEq, z39, z40, z41, z42, z43, z44, z45, z46, z47, z48, z49, z50, ne_eq, z51, z52, z53, z54, z55, z56, z57, inI, evRes, resV, mkL, ltK, rhoL, leE, leR, menB, menE, fzA, fzE, fzB, fzR] at h; obtain ⟨rfl, rfl, rfl, rfl⟩ := h; refine ⟨?_, ?_⟩)
    | ((with_reducible refine Ob.mk ?_); first | exact trivial | (intros; omega) | ((repeat' first | apply And.intro | (intro hg; have hg' := hg; try simp only [Bool.and_eq_false_iff, decide_eq_true_eq, decide_eq_false_iff_not, Bool.or_eq_true, Bool.or_eq_false_iff, Bool.and_eq_true, Bool.not_eq_true', Bool.not_eq_false', not_or, Int.not_lt, Int.not_le] at hg')) <;> first | assumption | omega | (simp only [Bool.and_eq_false_iff, decide_eq_true_eq, decide_eq_false_iff_not, Bool.or_eq_true, Bool.or_eq_false_iff, Bool.and_eq_true, Bool.not_eq_true', Bool.not_eq_false', not_or, Int.not_lt, Int.not_le]; omega)))
  · have hjl : j < abv odd q := hs.1 ⟨by omega, hb.2⟩
    refine back (j + 1) [] ?_ (by omega) (by omega)
    (refine ⟨rfl, ?_, ?_⟩ <;> simp only [evOut, evStep, evCap, evMap, isIntS, gua, eq_self, evo, ev1, evx, evp, ofP, guardOf, opv, lke_cons, lke_nil, lkr_nil, lkr_cons, isC, isCC, isCL, men, putE, setW, set1, del, evLoad, evField, evIndex, evBin, lenOf, evSlice, bnd, cutI, subv, selv, isV, isAg, cellsL, lenL, properL, nthL, dropL, takeL, appL, setL, updv, tb, TI.isStr, strip, gd, gds, whnR, evPick, evStore, stBox, evApp, evAppS, List.getD_cons_zero, srcI, srcB, srcR, evBuildS, evTake, makeB, isNilS, partsOK, elemsOf, collI, collB, collII, allC, allN, fillL, evCut, evFz, lko, z0, renB, z1, z2, z3, z4, notD, chkG, evCopy, evCall, ofSR, viewA, lsOf, ofL, zfree, zfreeB, freeB, isOne, ren, zipE, Op.operands, Call.operands, Nat.reduceAdd, Nat.reduceSub, Nat.reduceMul, Nat.reduceEqDiff, Nat.reduceLeDiff, Nat.reduceLT, Nat.reduceBEq, Nat.reduceBNe, ↓reduceIte, reduceIte, nbeq, nble, nblt, z5, z6, z7, z8, z9, z10, z11, z12, z13, z14, z15, z16, z17, z18, z19, z20, z21, z22, z23, z24, z25, z26, z27, z28, z29, z30, z31, z32, z33, z34, z35, z36, z37, imp_self, forall_const, z38, EO.mk.injEq, z39, z40, z41, z42, z43, z44, z45, z46, z47, z48, z49, z50, ne_eq, z51, z52, z53, z54, z55, z56, z57, inI, evRes, resV, mkL, ltK, rhoL, leE, leR, menB, menE, fzA, fzE, fzB, fzR, AV.int.injEq, AV.bool.injEq, AV.roI.injEq, AV.roB.injEq, AV.roII.injEq, AV.rop.injEq, AV.agg.injEq, AV.tup.injEq, AV.cons.injEq, AV.own.injEq, AV.whn.injEq, Blk.ints.injEq, Blk.bools.injEq, Blk.rows.injEq, Blk.rowsR.injEq, Blk.box.injEq, Option.some.injEq, Int.natCast_add, Int.natCast_one, Int.cast_ofNat_Int])
  · refine fin_ret rfl rfl (spec_flat rfl ?_ rfl)
    have : j = abv odd q := by
      refine Nat.le_antisymm hj (Nat.le_of_not_lt fun h => ?_)
      have := hs.2 h
      rcases hb with h2 | h2
      · omega
      · omega
    rw [this]
    rfl

def enM (many : List Int) (m : Bool × List Int) : Int := bif m.1 then rpr many else nvl many m.2
def okM (many : List Int) (m : Bool × List Int) : Prop := (m.1 = true ∧ m.2 = []) ∨ (m.1 = false ∧ wfL many m.2)
theorem okM_bd {many : List Int} {m : Bool × List Int} (hp : posL many) (h : okM many m) : 0 ≤ enM many m ∧ enM many m ≤ rpr many := by
  have := rpr_pos hp
  rcases h with ⟨h1, h2⟩ | ⟨h1, h2⟩
  · unfold enM; rw [h1]; exact ⟨Int.le_of_lt this, Int.le_refl _⟩
  · have := nvl_bd h2
    unfold enM; rw [h1]
    exact ⟨this.1, Int.le_of_lt this.2⟩
theorem de_en {many : List Int} {m : Bool × List Int} (h : okM many m) : deM many (enM many m) = m := by
  obtain ⟨t, xs⟩ := m
  rcases h with ⟨h1, h2⟩ | ⟨h1, h2⟩
  · have h1 : t = true := h1
    have h2 : xs = [] := h2
    subst h1 h2
    exact deM_top
  · have h1 : t = false := h1
    subst h1
    exact deM_low h2
theorem en_de {many : List Int} (hp : posL many) {V : Int} (h0 : 0 ≤ V) (h1 : V ≤ rpr many) : enM many (deM many V) = V ∧ okM many (deM many V) := by
  rcases deM_cases hp h0 h1 with ⟨a1, a2⟩ | ⟨a1, a2, a3, a4⟩
  · rw [a2]; exact ⟨a1.symm, .inl ⟨rfl, rfl⟩⟩
  · rw [a4]; exact ⟨a3, .inr ⟨rfl, a2⟩⟩
def progS : Spec
  | [.agg (.cons (.roI odd) (.cons (.roI many) .nil)), .agg (.cons (.bool t) (.cons (.roI xs) .nil)), .int .i64 q] =>
    some ⟨odd.length = many.length ∧ odd.length ≤ 100 ∧ (∀ i, many.getD i 0 ≤ 1000000000) ∧ posL many ∧ okM many (t, xs) ∧ 0 ≤ q, .agg (.cons (.bool (deM many (progV odd many (enM many (t, xs)) q)).1) (.cons (.roI (deM many (progV odd many (enM many (t, xs)) q)).2) .nil)), none⟩
  | _ => none
def spPr : Nat → Option Spec
  | 55 => some aboveS
  | _ => none
theorem spPr_ok : SpOK Try.prog spPr := by
  intro f S h
  unfold spPr at h
  split at h
  · cases h; exact above_ok
  · cases h
theorem cpL_pad {k j : Nat} {xs : List Int} (hx : xs.length = k) (hj : j ≤ k) : cpL (List.replicate k (0 : Int)) (xs.take j) = xs.take j ++ List.replicate (k - j) 0 := by
  unfold cpL
  have h1 : (xs.take j).length = j := by rw [List.length_take]; omega
  rw [List.length_replicate, h1, List.drop_replicate, List.take_take, Nat.min_eq_right hj]
/-- What the loop of progress keeps: the digits from i on are nought. -/
structure PI (many : List Int) (X : Int) (i : Nat) (out : List Int) : Prop where
  wf : wfL many out
  zr : ∀ t, i ≤ t → out.getD t 0 = 0
  vl : nvl many out + rpr (many.drop i) = X
theorem PI_up {many : List Int} {X : Int} {i : Nat} {out : List Int} (h : PI many X (i + 1) out) (hi : i < many.length) (hlt : out.getD i 0 < many.getD i 0) : wfL many (out.set i (out.getD i 0 + 1)) ∧ nvl many (out.set i (out.getD i 0 + 1)) = X := by
  have hg := wfL_get h.wf hi
  refine ⟨wfL_set h.wf (by omega) (by omega), ?_⟩
  rw [nvl_set h.wf hi, show out.getD i 0 + 1 - out.getD i 0 = 1 by omega, Int.one_mul]
  exact h.vl
theorem PI_down {many : List Int} {X : Int} {i : Nat} {out : List Int} (h : PI many X (i + 1) out) (hi : i < many.length) (hge : ¬ out.getD i 0 < many.getD i 0) : PI many X i (out.set i 0) := by
  have hg := wfL_get h.wf hi
  have hol := wfL_len h.wf
  have hp := wfL_pos h.wf
  refine ⟨wfL_set h.wf (Int.le_refl _) (by omega), fun t ht => ?_, ?_⟩
  · rw [getD_set (by omega)]
    split
    · rfl
    · exact h.zr t (by omega)
  · have hv := h.vl
    have e : out.getD i 0 = many.getD i 0 := by omega
    rw [nvl_set h.wf hi, rpr_drop hi, e, Int.add_mul, Int.sub_mul]
    omega
theorem PI_top {many : List Int} {X : Int} {out : List Int} (h : PI many X 0 out) : X = rpr many := by
  have e : out = List.replicate many.length 0 := by
    refine List.ext_getElem (by rw [wfL_len h.wf]; simp) fun j h1 h2 => ?_
    have := h.zr j (Nat.zero_le _)
    rw [List.getD_eq_getElem?_getD, List.getElem?_eq_getElem h1] at this
    simpa using this
  have := (zero_wf (wfL_pos h.wf)).2
  have hv := h.vl
  rw [e, this, List.drop_zero] at hv
  omega
structure PS where
  i : Nat
  out : List Int

set_option maxRecDepth 4000 in
set_option maxHeartbeats 4000000 in
theorem prog_ok : FSpec Try.prog 43 progS := by
  refine fspec_of htb (fn := Try.f43) (by kernel_rfl) (by kernel_rfl) rfl (fun args r hS => ?_) (fun args r hS hob hl => ?_)
  · unfold progS at hS; split at hS <;> first | (cases hS; done) | (cases hS; exact Nat.le_of_ble_eq_true rfl)
  unfold progS at hS
  split at hS
  case h_2 => cases hS
  rename_i odd many t xs q
  simp only [Option.some.injEq] at hS
  subst hS
  simp only [lenP, mkL, lim] at hl
  dsimp only at hob
  obtain ⟨hl2, hl3, hmb, hp, hok, hq⟩ := hob
  have hj : abv odd q ≤ odd.length := abv_le
  repeat' first
    | with_reducible first | refine awp_seq ?_ | refine awp_block ?_ | refine next_then ?_ | refine next_block ?_ | refine exit_then ?_ | refine ret_then ?_ | refine ret_block ?_ | refine exit_here ?_ | refine awp_exit ?_ | refine awp_ret ?_ | refine awp_skip ?_ | refine awp_label ?_ | refine next_noGoto ?_ | refine ret_noGoto ?_ | refine exit_noGoto ?_ | refine awp_scope ?_
    | ((with_reducible refine exit_past ?_ ?_); exact rfl)
    | ((with_reducible refine isCond ?_); refine awp_condO rfl ?_ ?_ <;> intro hb <;> (try simp only [Bool.and_eq_false_iff, decide_eq_true_eq, decide_eq_false_iff_not, Bool.or_eq_true, Bool.or_eq_false_iff, Bool.and_eq_true, Bool.not_eq_true', Bool.not_eq_false', not_or, Int.not_lt, Int.not_le] at hb))
    | ((with_reducible refine isRegS 3 ?_ ?_); (· exact rfl); (with_reducible refine isRegS 3 ?_ ?_); (· exact rfl); (first | refine awp_textM htb hmz spPr_ok (fun _ => false) rfl rfl ?_ | refine awp_drawM hmo htb hmz spPr_ok (fun _ => false) rfl rfl (by kernel_rfl) ?_); intro m' e' l' ob h; simp only [evOut, evStep, evCap, evMap, isIntS, gua, eq_self, evo, ev1, evx, evp, ofP, guardOf, opv, lke_cons, lke_nil, lkr_nil, lkr_cons, isC, isCC, isCL, men, putE, setW, set1, del, evLoad, evField, evIndex, evBin, lenOf, evSlice, bnd, cutI, subv, selv, isV, isAg, cellsL, lenL, properL, nthL, dropL, takeL, appL, setL, updv, tb, TI.isStr, strip, gd, gds, whnR, evPick, evStore, stBox, evApp, evAppS, List.getD_cons_zero, srcI, srcB, srcR, evBuildS, evTake, makeB, isNilS, partsOK, elemsOf, collI, collB, collII, allC, allN, fillL, evCut, evFz, lko, z0, renB, z1, z2, z3, z4, notD, chkG, evCopy, evCall, ofSR, viewA, lsOf, ofL, zfree, zfreeB, freeB, isOne, ren, zipE, Op.operands, Call.operands, Nat.reduceAdd, Nat.reduceSub, Nat.reduceMul, Nat.reduceEqDiff, Nat.reduceLeDiff, Nat.reduceLT, Nat.reduceBEq, Nat.reduceBNe, ↓reduceIte, reduceIte, nbeq, nble, nblt, z5, z6, z7, z8, z9, z10, z11, z12, z13, z14, z15, z16, z17, z18, z19, z20, z21, z22, z23, z24, z25, z26, z27, z28, z29, z30, z31, z32, z33, z34, z35, z36, z37, imp_self, forall_const, z38, EO.mk.injEq, z39, z40, z41, z42, z43, z44, z45, z46, z47, z48, z49, z50, ne_eq, z51, z52, z53, z54, z55, z56, z57, inI, evRes, resV, mkL, ltK, rhoL, leE, leR, menB, menE, fzA, fzE, fzB, fzR, spPr, aboveS] at h; obtain ⟨rfl, rfl, rfl, rfl⟩ := h; refine ⟨?_, ?_⟩)
    | ((with_reducible refine Ob.mk ?_); first | exact trivial | (intros; omega) | ((repeat' first | apply And.intro | (intro hg; have hg' := hg; try simp only [Bool.and_eq_false_iff, decide_eq_true_eq, decide_eq_false_iff_not, Bool.or_eq_true, Bool.or_eq_false_iff, Bool.and_eq_true, Bool.not_eq_true', Bool.not_eq_false', not_or, Int.not_lt, Int.not_le] at hg')) <;> first | assumption | omega | (simp only [Bool.and_eq_false_iff, decide_eq_true_eq, decide_eq_false_iff_not, Bool.or_eq_true, Bool.or_eq_false_iff, Bool.and_eq_true, Bool.not_eq_true', Bool.not_eq_false', not_or, Int.not_lt, Int.not_le]; omega)))
  · refine fin_ret rfl rfl (spec_imp rfl ?_ rfl)
    obtain ⟨rfl, rfl⟩ : t = true ∧ xs = [] := by
      rcases hok with h | h
      · exact h
      · have h1 : t = false := h.1
        rw [h1] at hb; cases hb
    have : deM many (progV odd many (enM many (true, [])) q) = (true, []) := by
      have e : enM many (true, []) = rpr many := rfl
      unfold progV
      rw [e, if_pos rfl, deM_top]
    rw [this]
    exact imp_agg (imp_cons (imp_eq rfl) (imp_cons imp_nilI (imp_eq rfl)))
  have hwf : wfL many xs := by
    rcases hok with h | h
    · have h1 : t = true := h.1
      rw [h1] at hb; cases hb
    · exact h.2
  subst hb
  have hxl := wfL_len hwf
  have hbd := nvl_bd hwf
  obtain ⟨hw0, hv0⟩ := pad_nv hwf (j := abv odd q) (by omega)
  have hen : enM many (false, xs) = nvl many xs := rfl
  rw [hen]
  have hpv : progV odd many (nvl many xs) q = if q % 2 = 0 then nvl many (xs.take (abv odd q) ++ List.replicate (many.length - abv odd q) 0) else nvl many (xs.take (abv odd q) ++ List.replicate (many.length - abv odd q) 0) + rpr (many.drop (abv odd q)) := by
    rw [hv0]; unfold progV; rw [if_neg (by omega)]
  repeat' first
    | with_reducible first | refine awp_seq ?_ | refine awp_block ?_ | refine next_then ?_ | refine next_block ?_ | refine exit_then ?_ | refine ret_then ?_ | refine ret_block ?_ | refine exit_here ?_ | refine awp_exit ?_ | refine awp_ret ?_ | refine awp_skip ?_ | refine awp_label ?_ | refine next_noGoto ?_ | refine ret_noGoto ?_ | refine exit_noGoto ?_ | refine awp_scope ?_
    | ((with_reducible refine exit_past ?_ ?_); exact rfl)
    | ((with_reducible refine isCond ?_); refine awp_condO rfl ?_ ?_ <;> intro hb <;> (try simp only [Bool.and_eq_false_iff, decide_eq_true_eq, decide_eq_false_iff_not, Bool.or_eq_true, Bool.or_eq_false_iff, Bool.and_eq_true, Bool.not_eq_true', Bool.not_eq_false', not_or, Int.not_lt, Int.not_le] at hb))
    | ((with_reducible refine isRegS 6 ?_ ?_); (· exact rfl); (first | refine awp_textM htb hmz spPr_ok (fun _ => false) rfl rfl ?_ | refine awp_drawM hmo htb hmz spPr_ok (fun _ => false) rfl rfl (by kernel_rfl) ?_); intro m' e' l' ob h; simp only [evOut, evStep, evCap, evMap, isIntS, gua, eq_self, evo, ev1, evx, evp, ofP, guardOf, opv, lke_cons, lke_nil, lkr_nil, lkr_cons, isC, isCC, isCL, men, putE, setW, set1, del, evLoad, evField, evIndex, evBin, lenOf, evSlice, bnd, cutI, subv, selv, isV, isAg, cellsL, lenL, properL, nthL, dropL, takeL, appL, setL, updv, tb, TI.isStr, strip, gd, gds, whnR, evPick, evStore, stBox, evApp, evAppS, List.getD_cons_zero, srcI, srcB, srcR, evBuildS, evTake, makeB, isNilS, partsOK, elemsOf, collI, collB, collII, allC, allN, fillL, evCut, evFz, lko, z0, renB, z1, z2, z3, z4, notD, chkG, evCopy, evCall, ofSR, viewA, lsOf, ofL, zfree, zfreeB, freeB, isOne, ren, zipE, Op.operands, Call.operands, Nat.reduceAdd, Nat.reduceSub, Nat.reduceMul, Nat.reduceEqDiff, Nat.reduceLeDiff, Nat.reduceLT, Nat.reduceBEq, Nat.reduceBNe, ↓reduceIte, reduceIte, nbeq, nble, nblt, z5, z6, z7, z8, z9, z10, z11, z12, z13, z14, z15, z16, z17, z18, z19, z20, z21, z22, z23, z24, z25, z26, z27, z28, z29, z30, z31, z32, z33, z34, z35, z36, z37, imp_self, forall_const, z38, EO.mk.injEq, z39, z40, z41, z42, z43, z44, z45, z46, z47, z48, z49, z50, ne_eq, z51, z52, z53, z54, z55, z56, z57, inI, evRes, resV, mkL, ltK, rhoL, leE, leR, menB, menE, fzA, fzE, fzB, fzR, spPr, aboveS] at h; obtain ⟨rfl, rfl, rfl, rfl⟩ := h; refine ⟨?_, ?_⟩)
    | ((with_reducible refine Ob.mk ?_); first | exact trivial | (intros; omega) | ((repeat' first | apply And.intro | (intro hg; have hg' := hg; try simp only [Bool.and_eq_false_iff, decide_eq_true_eq, decide_eq_false_iff_not, Bool.or_eq_true, Bool.or_eq_false_iff, Bool.and_eq_true, Bool.not_eq_true', Bool.not_eq_false', not_or, Int.not_lt, Int.not_le] at hg')) <;> first | assumption | omega | (simp only [Bool.and_eq_false_iff, decide_eq_true_eq, decide_eq_false_iff_not, Bool.or_eq_true, Bool.or_eq_false_iff, Bool.and_eq_true, Bool.not_eq_true', Bool.not_eq_false', not_or, Int.not_lt, Int.not_le]; omega)))
  rw [hl2, cpL_pad hxl (by omega)]
  generalize hj2 : abv odd q = j at *
  generalize hoo : xs.take j ++ List.replicate (many.length - j) 0 = out at *
  have hol := wfL_len hw0
  repeat' first
    | with_reducible first | refine awp_seq ?_ | refine awp_block ?_ | refine next_then ?_ | refine next_block ?_ | refine exit_then ?_ | refine ret_then ?_ | refine ret_block ?_ | refine exit_here ?_ | refine awp_exit ?_ | refine awp_ret ?_ | refine awp_skip ?_ | refine awp_label ?_ | refine next_noGoto ?_ | refine ret_noGoto ?_ | refine exit_noGoto ?_ | refine awp_scope ?_
    | ((with_reducible refine exit_past ?_ ?_); exact rfl)
    | ((with_reducible refine isCond ?_); refine awp_condO rfl ?_ ?_ <;> intro hb <;> (try simp only [Bool.and_eq_false_iff, decide_eq_true_eq, decide_eq_false_iff_not, Bool.or_eq_true, Bool.or_eq_false_iff, Bool.and_eq_true, Bool.not_eq_true', Bool.not_eq_false', not_or, Int.not_lt, Int.not_le] at hb))
    | ((with_reducible refine isRegS 7 ?_ ?_); (· exact rfl); (with_reducible refine isRegS 8 ?_ ?_); (· exact rfl); (first | refine awp_textM htb hmz spPr_ok (fun _ => false) rfl rfl ?_ | refine awp_drawM hmo htb hmz spPr_ok (fun _ => false) rfl rfl (by kernel_rfl) ?_); intro m' e' l' ob h; simp only [evOut, evStep, evCap, evMap, isIntS, gua, eq_self, evo, ev1, evx, evp, ofP, guardOf, opv, lke_cons, lke_nil, lkr_nil, lkr_cons, isC, isCC, isCL, men, putE, setW, set1, del, evLoad, evField, evIndex, evBin, lenOf, evSlice, bnd, cutI, subv, selv, isV, isAg, cellsL, lenL, properL, nthL, dropL, takeL, appL, setL, updv, tb, TI.isStr, strip, gd, gds, whnR, evPick, evStore, stBox, evApp, evAppS, List.getD_cons_zero, srcI, srcB, srcR, evBuildS, evTake, makeB, isNilS, partsOK, elemsOf, collI, collB, collII, allC, allN, fillL, evCut, evFz, lko, z0, renB, z1, z2, z3, z4, notD, chkG, evCopy, evCall, ofSR, viewA, lsOf, ofL, zfree, zfreeB, freeB, isOne, ren, zipE, Op.operands, Call.operands, Nat.reduceAdd, Nat.reduceSub, Nat.reduceMul, Nat.reduceEqDiff, Nat.reduceLeDiff, Nat.reduceLT, Nat.reduceBEq, Nat.reduceBNe, ↓reduceIte, reduceIte, nbeq, nble, nblt, z5, z6, z7, z8, z9, z10, z11, z12, z13, z14, z15, z16, z17, z18, z19, z20, z21, z22, z23, z24, z25, z26, z27, z28, z29, z30, z31, z32, z33, z34, z35, z36, z37, imp_self, forall_const, z38, EO.mk.injEq, z39, z40, z41, z42, z43, z44, z45, z46, z47, z48, z49, z50, ne_eq, z51, z52, z53, z54, z55, z56, z57, inI, evRes, resV, mkL, ltK, rhoL, leE, leR, menB, menE, fzA, fzE, fzB, fzR, spPr, aboveS] at h; obtain ⟨rfl, rfl, rfl, rfl⟩ := h; refine ⟨?_, ?_⟩)
    | ((with_reducible refine Ob.mk ?_); first | exact trivial | (intros; omega) | ((repeat' first | apply And.intro | (intro hg; have hg' := hg; try simp only [Bool.and_eq_false_iff, decide_eq_true_eq, decide_eq_false_iff_not, Bool.or_eq_true, Bool.or_eq_false_iff, Bool.and_eq_true, Bool.not_eq_true', Bool.not_eq_false', not_or, Int.not_lt, Int.not_le] at hg')) <;> first | assumption | omega | (simp only [Bool.and_eq_false_iff, decide_eq_true_eq, decide_eq_false_iff_not, Bool.or_eq_true, Bool.or_eq_false_iff, Bool.and_eq_true, Bool.not_eq_true', Bool.not_eq_false', not_or, Int.not_lt, Int.not_le]; omega)))
  · refine awp_fzN 12 (.roI out) (by simp only [lkr_cons, lkr_nil, fzE, fzA, fzR, fzB, set1, nbeq, Nat.reduceEqDiff, decide_true, decide_false, ↓reduceIte, reduceIte, cond_true, cond_false, List.take_length, Option.some.injEq]; rfl) (by first | exact rfl | (refine ⟨?_, rfl⟩; first | rfl | (intros; rfl))) (by simp only [lkr_cons, lkr_nil, fzE, fzA, fzR, fzB, set1, nbeq, Nat.reduceEqDiff, decide_true, decide_false, ↓reduceIte, reduceIte, cond_true, cond_false, List.take_length, Option.some.injEq]; rfl) (by simp only [lkr_cons, lkr_nil, fzE, fzA, fzR, fzB, set1, nbeq, Nat.reduceEqDiff, decide_true, decide_false, ↓reduceIte, reduceIte, cond_true, cond_false, List.take_length, Option.some.injEq]; rfl) ?_
    repeat' first
      | with_reducible first | refine awp_seq ?_ | refine awp_block ?_ | refine next_then ?_ | refine next_block ?_ | refine exit_then ?_ | refine ret_then ?_ | refine ret_block ?_ | refine exit_here ?_ | refine awp_exit ?_ | refine awp_ret ?_ | refine awp_skip ?_ | refine awp_label ?_ | refine next_noGoto ?_ | refine ret_noGoto ?_ | refine exit_noGoto ?_ | refine awp_scope ?_
      | ((with_reducible refine exit_past ?_ ?_); exact rfl)
      | ((with_reducible refine isCond ?_); refine awp_condO rfl ?_ ?_ <;> intro hb <;> (try simp only [Bool.and_eq_false_iff, decide_eq_true_eq, decide_eq_false_iff_not, Bool.or_eq_true, Bool.or_eq_false_iff, Bool.and_eq_true, Bool.not_eq_true', Bool.not_eq_false', not_or, Int.not_lt, Int.not_le] at hb))
      | ((with_reducible refine isReg ?_); (first | refine awp_textM htb hmz spPr_ok (fun _ => false) rfl rfl ?_ | refine awp_drawM hmo htb hmz spPr_ok (fun _ => false) rfl rfl (by kernel_rfl) ?_); intro m' e' l' ob h; simp only [evOut, evStep, evCap, evMap, isIntS, gua, eq_self, evo, ev1, evx, evp, ofP, guardOf, opv, lke_cons, lke_nil, lkr_nil, lkr_cons, isC, isCC, isCL, men, putE, setW, set1, del, evLoad, evField, evIndex, evBin, lenOf, evSlice, bnd, cutI, subv, selv, isV, isAg, cellsL, lenL, properL, nthL, dropL, takeL, appL, setL, updv, tb, TI.isStr, strip, gd, gds, whnR, evPick, evStore, stBox, evApp, evAppS, List.getD_cons_zero, srcI, srcB, srcR, evBuildS, evTake, makeB, isNilS, partsOK, elemsOf, collI, collB, collII, allC, allN, fillL, evCut, evFz, lko, z0, renB, z1, z2, z3, z4, notD, chkG, evCopy, evCall, ofSR, viewA, lsOf, ofL, zfree, zfreeB, freeB, isOne, ren, zipE, Op.operands, Call.operands, Nat.reduceAdd, Nat.reduceSub, Nat.reduceMul, Nat.reduceEqDiff, Nat.reduceLeDiff, Nat.reduceLT, Nat.reduceBEq, Nat.reduceBNe, ↓reduceIte, reduceIte, nbeq, nble, nblt, z5, z6, z7, z8, z9, z10, z11, z12, z13, z14, z15, z16, z17, z18, z19, z20, z21, z22, z23, z24, z25, z26, z27, z28, z29, z30, z31, z32, z33, z34, z35, z36, z37, imp_self, forall_const, z38, EO.mk.injEq, z39, z40, z41, z42, z43, z44, z45, z46, z47, z48, z49, z50, ne_eq, z51, z52, z53, z54, z55, z56, z57, inI, evRes, resV, mkL, ltK, rhoL, leE, leR, menB, menE, fzA, fzE, fzB, fzR, spPr, aboveS] at h; obtain ⟨rfl, rfl, rfl, rfl⟩ := h; refine ⟨?_, ?_⟩)
      | ((with_reducible refine Ob.mk ?_); first | exact trivial | (intros; omega) | ((repeat' first | apply And.intro | (intro hg; have hg' := hg; try simp only [Bool.and_eq_false_iff, decide_eq_true_eq, decide_eq_false_iff_not, Bool.or_eq_true, Bool.or_eq_false_iff, Bool.and_eq_true, Bool.not_eq_true', Bool.not_eq_false', not_or, Int.not_lt, Int.not_le] at hg')) <;> first | assumption | omega | (simp only [Bool.and_eq_false_iff, decide_eq_true_eq, decide_eq_false_iff_not, Bool.or_eq_true, Bool.or_eq_false_iff, Bool.and_eq_true, Bool.not_eq_true', Bool.not_eq_false', not_or, Int.not_lt, Int.not_le]; omega)))
    refine fin_ret rfl rfl (spec_flat rfl ?_ rfl)
    rw [hpv, if_pos hb, deM_low hw0]
    rfl
  have hX : PI many (progV odd many (nvl many xs) q) j out := by
    refine ⟨hw0, fun t ht => ?_, by rw [hpv, if_neg hb]⟩
    rw [← hoo, List.getD_eq_getElem?_getD, List.getElem?_append_right (by rw [List.length_take]; omega), List.getElem?_replicate]
    split <;> rfl
  generalize progV odd many (nvl many xs) q = X at *
  repeat' first
    | with_reducible first | refine awp_seq ?_ | refine awp_block ?_ | refine next_then ?_ | refine next_block ?_ | refine exit_then ?_ | refine ret_then ?_ | refine ret_block ?_ | refine exit_here ?_ | refine awp_exit ?_ | refine awp_ret ?_ | refine awp_skip ?_ | refine awp_label ?_ | refine next_noGoto ?_ | refine ret_noGoto ?_ | refine exit_noGoto ?_ | refine awp_scope ?_
    | ((with_reducible refine exit_past ?_ ?_); exact rfl)
    | ((with_reducible refine isCond ?_); refine awp_condO rfl ?_ ?_ <;> intro hb <;> (try simp only [Bool.and_eq_false_iff, decide_eq_true_eq, decide_eq_false_iff_not, Bool.or_eq_true, Bool.or_eq_false_iff, Bool.and_eq_true, Bool.not_eq_true', Bool.not_eq_false', not_or, Int.not_lt, Int.not_le] at hb))
    | ((with_reducible refine isRegS 9 ?_ ?_); (· exact rfl); (first | refine awp_textM htb hmz spPr_ok (fun _ => false) rfl rfl ?_ | refine awp_drawM hmo htb hmz spPr_ok (fun _ => false) rfl rfl (by kernel_rfl) ?_); intro m' e' l' ob h; simp only [evOut, evStep, evCap, evMap, isIntS, gua, eq_self, evo, ev1, evx, evp, ofP, guardOf, opv, lke_cons, lke_nil, lkr_nil, lkr_cons, isC, isCC, isCL, men, putE, setW, set1, del, evLoad, evField, evIndex, evBin, lenOf, evSlice, bnd, cutI, subv, selv, isV, isAg, cellsL, lenL, properL, nthL, dropL, takeL, appL, setL, updv, tb, TI.isStr, strip, gd, gds, whnR, evPick, evStore, stBox, evApp, evAppS, List.getD_cons_zero, srcI, srcB, srcR, evBuildS, evTake, makeB, isNilS, partsOK, elemsOf, collI, collB, collII, allC, allN, fillL, evCut, evFz, lko, z0, renB, z1, z2, z3, z4, notD, chkG, evCopy, evCall, ofSR, viewA, lsOf, ofL, zfree, zfreeB, freeB, isOne, ren, zipE, Op.operands, Call.operands, Nat.reduceAdd, Nat.reduceSub, Nat.reduceMul, Nat.reduceEqDiff, Nat.reduceLeDiff, Nat.reduceLT, Nat.reduceBEq, Nat.reduceBNe, ↓reduceIte, reduceIte, nbeq, nble, nblt, z5, z6, z7, z8, z9, z10, z11, z12, z13, z14, z15, z16, z17, z18, z19, z20, z21, z22, z23, z24, z25, z26, z27, z28, z29, z30, z31, z32, z33, z34, z35, z36, z37, imp_self, forall_const, z38, EO.mk.injEq, z39, z40, z41, z42, z43, z44, z45, z46, z47, z48, z49, z50, ne_eq, z51, z52, z53, z54, z55, z56, z57, inI, evRes, resV, mkL, ltK, rhoL, leE, leR, menB, menE, fzA, fzE, fzB, fzR, spPr, aboveS] at h; obtain ⟨rfl, rfl, rfl, rfl⟩ := h; refine ⟨?_, ?_⟩)
    | ((with_reducible refine Ob.mk ?_); first | exact trivial | (intros; omega) | ((repeat' first | apply And.intro | (intro hg; have hg' := hg; try simp only [Bool.and_eq_false_iff, decide_eq_true_eq, decide_eq_false_iff_not, Bool.or_eq_true, Bool.or_eq_false_iff, Bool.and_eq_true, Bool.not_eq_true', Bool.not_eq_false', not_or, Int.not_lt, Int.not_le] at hg')) <;> first | assumption | omega | (simp only [Bool.and_eq_false_iff, decide_eq_true_eq, decide_eq_false_iff_not, Bool.or_eq_true, Bool.or_eq_false_iff, Bool.and_eq_true, Bool.not_eq_true', Bool.not_eq_false', not_or, Int.not_lt, Int.not_le]; omega)))
  refine awp_loopC (τ := PS) (fun s => s.i ≤ many.length ∧ PI many X s.i s.out) (fun s => ⟨27, [(9, .int .i64 ((s.i : Int) - 1)), (8, .own 12), (6, .own 2), (3, .rop (.agg (.cons (.roI odd) (.cons (.roI many) .nil))))],
    [(2, some (.box (.agg (.cons (.bool false) (.cons (.cst (Value.slice none 0 0)) .nil))))), (12, some (.ints s.out))], []⟩) (fun s => s.i) ⟨j, out⟩ [] ?_ ⟨by dsimp only; omega, hX⟩ ?_
  · (refine ⟨rfl, ?_, ?_⟩ <;> simp only [evOut, evStep, evCap, evMap, isIntS, gua, eq_self, evo, ev1, evx, evp, ofP, guardOf, opv, lke_cons, lke_nil, lkr_nil, lkr_cons, isC, isCC, isCL, men, putE, setW, set1, del, evLoad, evField, evIndex, evBin, lenOf, evSlice, bnd, cutI, subv, selv, isV, isAg, cellsL, lenL, properL, nthL, dropL, takeL, appL, setL, updv, tb, TI.isStr, strip, gd, gds, whnR, evPick, evStore, stBox, evApp, evAppS, List.getD_cons_zero, srcI, srcB, srcR, evBuildS, evTake, makeB, isNilS, partsOK, elemsOf, collI, collB, collII, allC, allN, fillL, evCut, evFz, lko, z0, renB, z1, z2, z3, z4, notD, chkG, evCopy, evCall, ofSR, viewA, lsOf, ofL, zfree, zfreeB, freeB, isOne, ren, zipE, Op.operands, Call.operands, Nat.reduceAdd, Nat.reduceSub, Nat.reduceMul, Nat.reduceEqDiff, Nat.reduceLeDiff, Nat.reduceLT, Nat.reduceBEq, Nat.reduceBNe, ↓reduceIte, reduceIte, nbeq, nble, nblt, z5, z6, z7, z8, z9, z10, z11, z12, z13, z14, z15, z16, z17, z18, z19, z20, z21, z22, z23, z24, z25, z26, z27, z28, z29, z30, z31, z32, z33, z34, z35, z36, z37, imp_self, forall_const, z38, EO.mk.injEq, z39, z40, z41, z42, z43, z44, z45, z46, z47, z48, z49, z50, ne_eq, z51, z52, z53, z54, z55, z56, z57, inI, evRes, resV, mkL, ltK, rhoL, leE, leR, menB, menE, fzA, fzE, fzB, fzR, spPr, aboveS, AV.int.injEq, AV.bool.injEq, AV.roI.injEq, AV.roB.injEq, AV.roII.injEq, AV.rop.injEq, AV.agg.injEq, AV.tup.injEq, AV.cons.injEq, AV.own.injEq, AV.whn.injEq, Blk.ints.injEq, Blk.bools.injEq, Blk.rows.injEq, Blk.rowsR.injEq, Blk.box.injEq, Option.some.injEq, Int.natCast_add, Int.natCast_one, Int.cast_ofNat_Int])
  clear hX hpv hv0 hw0 hol hoo
  rintro ⟨i, out⟩ ⟨hi, hP⟩
  dsimp only at hi hP ⊢
  have hol := wfL_len hP.wf
  repeat' first
    | with_reducible first | refine awp_seq ?_ | refine awp_block ?_ | refine next_then ?_ | refine next_block ?_ | refine exit_then ?_ | refine ret_then ?_ | refine ret_block ?_ | refine exit_here ?_ | refine awp_exit ?_ | refine awp_ret ?_ | refine awp_skip ?_ | refine awp_label ?_ | refine next_noGoto ?_ | refine ret_noGoto ?_ | refine exit_noGoto ?_ | refine awp_scope ?_
    | ((with_reducible refine exit_past ?_ ?_); exact rfl)
    | ((with_reducible refine isCond ?_); refine awp_condO rfl ?_ ?_ <;> intro hb <;> (try simp only [Bool.and_eq_false_iff, decide_eq_true_eq, decide_eq_false_iff_not, Bool.or_eq_true, Bool.or_eq_false_iff, Bool.and_eq_true, Bool.not_eq_true', Bool.not_eq_false', not_or, Int.not_lt, Int.not_le] at hb))
    | ((with_reducible refine isRegS 11 ?_ ?_); (· exact rfl); (with_reducible refine isRegS 15 ?_ ?_); (· exact rfl); (first | refine awp_textM htb hmz spPr_ok (fun _ => false) rfl rfl ?_ | refine awp_drawM hmo htb hmz spPr_ok (fun _ => false) rfl rfl (by kernel_rfl) ?_); intro m' e' l' ob h; simp only [evOut, evStep, evCap, evMap, isIntS, gua, eq_self, evo, ev1, evx, evp, ofP, guardOf, opv, lke_cons, lke_nil, lkr_nil, lkr_cons, isC, isCC, isCL, men, putE, setW, set1, del, evLoad, evField, evIndex, evBin, lenOf, evSlice, bnd, cutI, subv, selv, isV, isAg, cellsL, lenL, properL, nthL, dropL, takeL, appL, setL, updv, tb, TI.isStr, strip, gd, gds, whnR, evPick, evStore, stBox, evApp, evAppS, List.getD_cons_zero, srcI, srcB, srcR, evBuildS, evTake, makeB, isNilS, partsOK, elemsOf, collI, collB, collII, allC, allN, fillL, evCut, evFz, lko, z0, renB, z1, z2, z3, z4, notD, chkG, evCopy, evCall, ofSR, viewA, lsOf, ofL, zfree, zfreeB, freeB, isOne, ren, zipE, Op.operands, Call.operands, Nat.reduceAdd, Nat.reduceSub, Nat.reduceMul, Nat.reduceEqDiff, Nat.reduceLeDiff, Nat.reduceLT, Nat.reduceBEq, Nat.reduceBNe, ↓reduceIte, reduceIte, nbeq, nble, nblt, z5, z6, z7, z8, z9, z10, z11, z12, z13, z14, z15, z16, z17, z18, z19, z20, z21, z22, z23, z24, z25, z26, z27, z28, z29, z30, z31, z32, z33, z34, z35, z36, z37, imp_self, forall_const, z38, EO.mk.injEq, z39, z40, z41, z42, z43, z44, z45, z46, z47, z48, z49, z50, ne_eq, z51, z52, z53, z54, z55, z56, z57, inI, evRes, resV, mkL, ltK, rhoL, leE, leR, menB, menE, fzA, fzE, fzB, fzR, spPr, aboveS] at h; obtain ⟨rfl, rfl, rfl, rfl⟩ := h; refine ⟨?_, ?_⟩)
    | ((with_reducible refine Ob.mk ?_); first | exact trivial | (intros; omega) | ((repeat' first | apply And.intro | (intro hg; have hg' := hg; try simp only [Bool.and_eq_false_iff, decide_eq_true_eq, decide_eq_false_iff_not, Bool.or_eq_true, Bool.or_eq_false_iff, Bool.and_eq_true, Bool.not_eq_true', Bool.not_eq_false', not_or, Int.not_lt, Int.not_le] at hg')) <;> first | assumption | omega | (simp only [Bool.and_eq_false_iff, decide_eq_true_eq, decide_eq_false_iff_not, Bool.or_eq_true, Bool.or_eq_false_iff, Bool.and_eq_true, Bool.not_eq_true', Bool.not_eq_false', not_or, Int.not_lt, Int.not_le]; omega)))
  · obtain ⟨i, rfl⟩ : ∃ k, i = k + 1 := ⟨i - 1, by omega⟩
    have e : ((i + 1 : Nat) : Int) - 1 = (i : Int) := by omega
    rw [e]
    repeat' first
      | with_reducible first | refine awp_seq ?_ | refine awp_block ?_ | refine next_then ?_ | refine next_block ?_ | refine exit_then ?_ | refine ret_then ?_ | refine ret_block ?_ | refine exit_here ?_ | refine awp_exit ?_ | refine awp_ret ?_ | refine awp_skip ?_ | refine awp_label ?_ | refine next_noGoto ?_ | refine ret_noGoto ?_ | refine exit_noGoto ?_ | refine awp_scope ?_
      | ((with_reducible refine exit_past ?_ ?_); exact rfl)
      | ((with_reducible refine isCond ?_); refine awp_condO rfl ?_ ?_ <;> intro hb <;> (try simp only [Bool.and_eq_false_iff, decide_eq_true_eq, decide_eq_false_iff_not, Bool.or_eq_true, Bool.or_eq_false_iff, Bool.and_eq_true, Bool.not_eq_true', Bool.not_eq_false', not_or, Int.not_lt, Int.not_le] at hb))
      | ((with_reducible refine isRegS 12 ?_ ?_); (· exact rfl); (with_reducible refine isRegS 14 ?_ ?_); (· exact rfl); (first | refine awp_textM htb hmz spPr_ok (fun _ => false) rfl rfl ?_ | refine awp_drawM hmo htb hmz spPr_ok (fun _ => false) rfl rfl (by kernel_rfl) ?_); intro m' e' l' ob h; simp only [evOut, evStep, evCap, evMap, isIntS, gua, eq_self, evo, ev1, evx, evp, ofP, guardOf, opv, lke_cons, lke_nil, lkr_nil, lkr_cons, isC, isCC, isCL, men, putE, setW, set1, del, evLoad, evField, evIndex, evBin, lenOf, evSlice, bnd, cutI, subv, selv, isV, isAg, cellsL, lenL, properL, nthL, dropL, takeL, appL, setL, updv, tb, TI.isStr, strip, gd, gds, whnR, evPick, evStore, stBox, evApp, evAppS, List.getD_cons_zero, srcI, srcB, srcR, evBuildS, evTake, makeB, isNilS, partsOK, elemsOf, collI, collB, collII, allC, allN, fillL, evCut, evFz, lko, z0, renB, z1, z2, z3, z4, notD, chkG, evCopy, evCall, ofSR, viewA, lsOf, ofL, zfree, zfreeB, freeB, isOne, ren, zipE, Op.operands, Call.operands, Nat.reduceAdd, Nat.reduceSub, Nat.reduceMul, Nat.reduceEqDiff, Nat.reduceLeDiff, Nat.reduceLT, Nat.reduceBEq, Nat.reduceBNe, ↓reduceIte, reduceIte, nbeq, nble, nblt, z5, z6, z7, z8, z9, z10, z11, z12, z13, z14, z15, z16, z17, z18, z19, z20, z21, z22, z23, z24, z25, z26, z27, z28, z29, z30, z31, z32, z33, z34, z35, z36, z37, imp_self, forall_const, z38, EO.mk.injEq, z39, z40, z41, z42, z43, z44, z45, z46, z47, z48, z49, z50, ne_eq, z51, z52, z53, z54, z55, z56, z57, inI, evRes, resV, mkL, ltK, rhoL, leE, leR, menB, menE, fzA, fzE, fzB, fzR, spPr, aboveS] at h; obtain ⟨rfl, rfl, rfl, rfl⟩ := h; refine ⟨?_, ?_⟩)
      | ((with_reducible refine Ob.mk ?_); first | exact trivial | (intros; omega) | ((repeat' first | apply And.intro | (intro hg; have hg' := hg; try simp only [Bool.and_eq_false_iff, decide_eq_true_eq, decide_eq_false_iff_not, Bool.or_eq_true, Bool.or_eq_false_iff, Bool.and_eq_true, Bool.not_eq_true', Bool.not_eq_false', not_or, Int.not_lt, Int.not_le] at hg')) <;> first | assumption | omega | (simp only [Bool.and_eq_false_iff, decide_eq_true_eq, decide_eq_false_iff_not, Bool.or_eq_true, Bool.or_eq_false_iff, Bool.and_eq_true, Bool.not_eq_true', Bool.not_eq_false', not_or, Int.not_lt, Int.not_le]; omega)))
    · obtain ⟨u1, u2⟩ := PI_up hP (by omega) hb
      have hmb := hmb i
      have hg := wfL_get hP.wf (i := i) (by omega)
      repeat' first
        | with_reducible first | refine awp_seq ?_ | refine awp_block ?_ | refine next_then ?_ | refine next_block ?_ | refine exit_then ?_ | refine ret_then ?_ | refine ret_block ?_ | refine exit_here ?_ | refine awp_exit ?_ | refine awp_ret ?_ | refine awp_skip ?_ | refine awp_label ?_ | refine next_noGoto ?_ | refine ret_noGoto ?_ | refine exit_noGoto ?_ | refine awp_scope ?_
        | ((with_reducible refine exit_past ?_ ?_); exact rfl)
        | ((with_reducible refine isCond ?_); refine awp_condO rfl ?_ ?_ <;> intro hb <;> (try simp only [Bool.and_eq_false_iff, decide_eq_true_eq, decide_eq_false_iff_not, Bool.or_eq_true, Bool.or_eq_false_iff, Bool.and_eq_true, Bool.not_eq_true', Bool.not_eq_false', not_or, Int.not_lt, Int.not_le] at hb))
        | ((with_reducible refine isRegS 13 ?_ ?_); (· exact rfl); (first | refine awp_textM htb hmz spPr_ok (fun _ => false) rfl rfl ?_ | refine awp_drawM hmo htb hmz spPr_ok (fun _ => false) rfl rfl (by kernel_rfl) ?_); intro m' e' l' ob h; simp only [evOut, evStep, evCap, evMap, isIntS, gua, eq_self, evo, ev1, evx, evp, ofP, guardOf, opv, lke_cons, lke_nil, lkr_nil, lkr_cons, isC, isCC, isCL, men, putE, setW, set1, del, evLoad, evField, evIndex, evBin, lenOf, evSlice, bnd, cutI, subv, selv, isV, isAg, cellsL, lenL, properL, nthL, dropL, takeL, appL, setL, updv, tb, TI.isStr, strip, gd, gds, whnR, evPick, evStore, stBox, evApp, evAppS, List.getD_cons_zero, srcI, srcB, srcR, evBuildS, evTake, makeB, isNilS, partsOK, elemsOf, collI, collB, collII, allC, allN, fillL, evCut, evFz, lko, z0, renB, z1, z2, z3, z4, notD, chkG, evCopy, evCall, ofSR, viewA, lsOf, ofL, zfree, zfreeB, freeB, isOne, ren, zipE, Op.operands, Call.operands, Nat.reduceAdd, Nat.reduceSub, Nat.reduceMul, Nat.reduceEqDiff, Nat.reduceLeDiff, Nat.reduceLT, Nat.reduceBEq, Nat.reduceBNe, ↓reduceIte, reduceIte, nbeq, nble, nblt, z5, z6, z7, z8, z9, z10, z11, z12, z13, z14, z15, z16, z17, z18, z19, z20, z21, z22, z23, z24, z25, z26, z27, z28, z29, z30, z31, z32, z33, z34, z35, z36, z37, imp_self, forall_const, z38, EO.mk.injEq, z39, z40, z41, z42, z43, z44, z45, z46, z47, z48, z49, z50, ne_eq, z51, z52, z53, z54, z55, z56, z57, inI, evRes, resV, mkL, ltK, rhoL, leE, leR, menB, menE, fzA, fzE, fzB, fzR, spPr, aboveS] at h; obtain ⟨rfl, rfl, rfl, rfl⟩ := h; refine ⟨?_, ?_⟩)
        | ((with_reducible refine Ob.mk ?_); first | exact trivial | (intros; omega) | ((repeat' first | apply And.intro | (intro hg; have hg' := hg; try simp only [Bool.and_eq_false_iff, decide_eq_true_eq, decide_eq_false_iff_not, Bool.or_eq_true, Bool.or_eq_false_iff, Bool.and_eq_true, Bool.not_eq_true', Bool.not_eq_false', not_or, Int.not_lt, Int.not_le] at hg')) <;> first | assumption | omega | (simp only [Bool.and_eq_false_iff, decide_eq_true_eq, decide_eq_false_iff_not, Bool.or_eq_true, Bool.or_eq_false_iff, Bool.and_eq_true, Bool.not_eq_true', Bool.not_eq_false', not_or, Int.not_lt, Int.not_le]; omega)))
      refine awp_fzN 12 (.roI (out.set i (out.getD i 0 + 1))) (by simp only [lkr_cons, lkr_nil, fzE, fzA, fzR, fzB, set1, nbeq, Nat.reduceEqDiff, decide_true, decide_false, ↓reduceIte, reduceIte, cond_true, cond_false, List.take_length, Option.some.injEq]; rfl) (by first | exact rfl | (refine ⟨?_, rfl⟩; first | rfl | (intros; rfl))) (by simp only [lkr_cons, lkr_nil, fzE, fzA, fzR, fzB, set1, nbeq, Nat.reduceEqDiff, decide_true, decide_false, ↓reduceIte, reduceIte, cond_true, cond_false, List.take_length, Option.some.injEq]; rfl) (by simp only [lkr_cons, lkr_nil, fzE, fzA, fzR, fzB, set1, nbeq, Nat.reduceEqDiff, decide_true, decide_false, ↓reduceIte, reduceIte, cond_true, cond_false, List.take_length, Option.some.injEq]; rfl) ?_
      repeat' first
        | with_reducible first | refine awp_seq ?_ | refine awp_block ?_ | refine next_then ?_ | refine next_block ?_ | refine exit_then ?_ | refine ret_then ?_ | refine ret_block ?_ | refine exit_here ?_ | refine awp_exit ?_ | refine awp_ret ?_ | refine awp_skip ?_ | refine awp_label ?_ | refine next_noGoto ?_ | refine ret_noGoto ?_ | refine exit_noGoto ?_ | refine awp_scope ?_
        | ((with_reducible refine exit_past ?_ ?_); exact rfl)
        | ((with_reducible refine isCond ?_); refine awp_condO rfl ?_ ?_ <;> intro hb <;> (try simp only [Bool.and_eq_false_iff, decide_eq_true_eq, decide_eq_false_iff_not, Bool.or_eq_true, Bool.or_eq_false_iff, Bool.and_eq_true, Bool.not_eq_true', Bool.not_eq_false', not_or, Int.not_lt, Int.not_le] at hb))
        | ((with_reducible refine isReg ?_); (first | refine awp_textM htb hmz spPr_ok (fun _ => false) rfl rfl ?_ | refine awp_drawM hmo htb hmz spPr_ok (fun _ => false) rfl rfl (by kernel_rfl) ?_); intro m' e' l' ob h; simp only [evOut, evStep, evCap, evMap, isIntS, gua, eq_self, evo, ev1, evx, evp, ofP, guardOf, opv, lke_cons, lke_nil, lkr_nil, lkr_cons, isC, isCC, isCL, men, putE, setW, set1, del, evLoad, evField, evIndex, evBin, lenOf, evSlice, bnd, cutI, subv, selv, isV, isAg, cellsL, lenL, properL, nthL, dropL, takeL, appL, setL, updv, tb, TI.isStr, strip, gd, gds, whnR, evPick, evStore, stBox, evApp, evAppS, List.getD_cons_zero, srcI, srcB, srcR, evBuildS, evTake, makeB, isNilS, partsOK, elemsOf, collI, collB, collII, allC, allN, fillL, evCut, evFz, lko, z0, renB, z1, z2, z3, z4, notD, chkG, evCopy, evCall, ofSR, viewA, lsOf, ofL, zfree, zfreeB, freeB, isOne, ren, zipE, Op.operands, Call.operands, Nat.reduceAdd, Nat.reduceSub, Nat.reduceMul, Nat.reduceEqDiff, Nat.reduceLeDiff, Nat.reduceLT, Nat.reduceBEq, Nat.reduceBNe, ↓reduceIte, reduceIte, nbeq, nble, nblt, z5, z6, z7, z8, z9, z10, z11, z12, z13, z14, z15, z16, z17, z18, z19, z20, z21, z22, z23, z24, z25, z26, z27, z28, z29, z30, z31, z32, z33, z34, z35, z36, z37, imp_self, forall_const, z38, EO.mk.injEq, z39, z40, z41, z42, z43, z44, z45, z46, z47, z48, z49, z50, ne_eq, z51, z52, z53, z54, z55, z56, z57, inI, evRes, resV, mkL, ltK, rhoL, leE, leR, menB, menE, fzA, fzE, fzB, fzR, spPr, aboveS] at h; obtain ⟨rfl, rfl, rfl, rfl⟩ := h; refine ⟨?_, ?_⟩)
        | ((with_reducible refine Ob.mk ?_); first | exact trivial | (intros; omega) | ((repeat' first | apply And.intro | (intro hg; have hg' := hg; try simp only [Bool.and_eq_false_iff, decide_eq_true_eq, decide_eq_false_iff_not, Bool.or_eq_true, Bool.or_eq_false_iff, Bool.and_eq_true, Bool.not_eq_true', Bool.not_eq_false', not_or, Int.not_lt, Int.not_le] at hg')) <;> first | assumption | omega | (simp only [Bool.and_eq_false_iff, decide_eq_true_eq, decide_eq_false_iff_not, Bool.or_eq_true, Bool.or_eq_false_iff, Bool.and_eq_true, Bool.not_eq_true', Bool.not_eq_false', not_or, Int.not_lt, Int.not_le]; omega)))
      refine fin_ret rfl rfl (spec_flat rfl ?_ rfl)
      rw [← u2, deM_low u1]
      rfl
    · have hD := PI_down hP (by omega) (by omega)
      repeat' first
        | with_reducible first | refine awp_seq ?_ | refine awp_block ?_ | refine next_then ?_ | refine next_block ?_ | refine exit_then ?_ | refine ret_then ?_ | refine ret_block ?_ | refine exit_here ?_ | refine awp_exit ?_ | refine awp_ret ?_ | refine awp_skip ?_ | refine awp_label ?_ | refine next_noGoto ?_ | refine ret_noGoto ?_ | refine exit_noGoto ?_ | refine awp_scope ?_
        | ((with_reducible refine exit_past ?_ ?_); exact rfl)
        | ((with_reducible refine isCond ?_); refine awp_condO rfl ?_ ?_ <;> intro hb <;> (try simp only [Bool.and_eq_false_iff, decide_eq_true_eq, decide_eq_false_iff_not, Bool.or_eq_true, Bool.or_eq_false_iff, Bool.and_eq_true, Bool.not_eq_true', Bool.not_eq_false', not_or, Int.not_lt, Int.not_le] at hb))
        | ((with_reducible refine isReg ?_); (first | refine awp_textM htb hmz spPr_ok (fun _ => false) rfl rfl ?_ | refine awp_drawM hmo htb hmz spPr_ok (fun _ => false) rfl rfl (by kernel_rfl) ?_); intro m' e' l' ob h; simp only [evOut, evStep, evCap, evMap, isIntS, gua, eq_self, evo, ev1, evx, evp, ofP, guardOf, opv, lke_cons, lke_nil, lkr_nil, lkr_cons, isC, isCC, isCL, men, putE, setW, set1, del, evLoad, evField, evIndex, evBin, lenOf, evSlice, bnd, cutI, subv, selv, isV, isAg, cellsL, lenL, properL, nthL, dropL, takeL, appL, setL, updv, tb, TI.isStr, strip, gd, gds, whnR, evPick, evStore, stBox, evApp, evAppS, List.getD_cons_zero, srcI, srcB, srcR, evBuildS, evTake, makeB, isNilS, partsOK, elemsOf, collI, collB, collII, allC, allN, fillL, evCut, evFz, lko, z0, renB, z1, z2, z3, z4, notD, chkG, evCopy, evCall, ofSR, viewA, lsOf, ofL, zfree, zfreeB, freeB, isOne, ren, zipE, Op.operands, Call.operands, Nat.reduceAdd, Nat.reduceSub, Nat.reduceMul, Nat.reduceEqDiff, Nat.reduceLeDiff, Nat.reduceLT, Nat.reduceBEq, Nat.reduceBNe, ↓reduceIte, reduceIte, nbeq, nble, nblt, z5, z6, z7, z8, z9, z10, z11, z12, z13, z14, z15, z16, z17, z18, z19, z20, z21, z22, z23, z24, z25, z26, z27, z28, z29, z30, z31, z32, z33, z34, z35, z36, z37, imp_self, forall_const, z38, EO.mk.injEq, z39, z40, z41, z42, z43, z44, z45, z46, z47, z48, z49, z50, ne_eq, z51, z52, z53, z54, z55, z56, z57, inI, evRes, resV, mkL, ltK, rhoL, leE, leR, menB, menE, fzA, fzE, fzB, fzR, spPr, aboveS] at h; obtain ⟨rfl, rfl, rfl, rfl⟩ := h; refine ⟨?_, ?_⟩)
        | ((with_reducible refine Ob.mk ?_); first | exact trivial | (intros; omega) | ((repeat' first | apply And.intro | (intro hg; have hg' := hg; try simp only [Bool.and_eq_false_iff, decide_eq_true_eq, decide_eq_false_iff_not, Bool.or_eq_true, Bool.or_eq_false_iff, Bool.and_eq_true, Bool.not_eq_true', Bool.not_eq_false', not_or, Int.not_lt, Int.not_le] at hg')) <;> first | assumption | omega | (simp only [Bool.and_eq_false_iff, decide_eq_true_eq, decide_eq_false_iff_not, Bool.or_eq_true, Bool.or_eq_false_iff, Bool.and_eq_true, Bool.not_eq_true', Bool.not_eq_false', not_or, Int.not_lt, Int.not_le]; omega)))
      refine back ⟨i, out.set i 0⟩ [] ?_ ⟨by dsimp only; omega, hD⟩ (by dsimp only; omega)
      (refine ⟨rfl, ?_, ?_⟩ <;> simp only [evOut, evStep, evCap, evMap, isIntS, gua, eq_self, evo, ev1, evx, evp, ofP, guardOf, opv, lke_cons, lke_nil, lkr_nil, lkr_cons, isC, isCC, isCL, men, putE, setW, set1, del, evLoad, evField, evIndex, evBin, lenOf, evSlice, bnd, cutI, subv, selv, isV, isAg, cellsL, lenL, properL, nthL, dropL, takeL, appL, setL, updv, tb, TI.isStr, strip, gd, gds, whnR, evPick, evStore, stBox, evApp, evAppS, List.getD_cons_zero, srcI, srcB, srcR, evBuildS, evTake, makeB, isNilS, partsOK, elemsOf, collI, collB, collII, allC, allN, fillL, evCut, evFz, lko, z0, renB, z1, z2, z3, z4, notD, chkG, evCopy, evCall, ofSR, viewA, lsOf, ofL, zfree, zfreeB, freeB, isOne, ren, zipE, Op.operands, Call.operands, Nat.reduceAdd, Nat.reduceSub, Nat.reduceMul, Nat.reduceEqDiff, Nat.reduceLeDiff, Nat.reduceLT, Nat.reduceBEq, Nat.reduceBNe, ↓reduceIte, reduceIte, nbeq, nble, nblt, z5, z6, z7, z8, z9, z10, z11, z12, z13, z14, z15, z16, z17, z18, z19, z20, z21, z22, z23, z24, z25, z26, z27, z28, z29, z30, z31, z32, z33, z34, z35, z36, z37, imp_self, forall_const, z38, EO.mk.injEq, z39, z40, z41, z42, z43, z44, z45, z46, z47, z48, z49, z50, ne_eq, z51, z52, z53, z54, z55, z56, z57, inI, evRes, resV, mkL, ltK, rhoL, leE, leR, menB, menE, fzA, fzE, fzB, fzR, spPr, aboveS, AV.int.injEq, AV.bool.injEq, AV.roI.injEq, AV.roB.injEq, AV.roII.injEq, AV.rop.injEq, AV.agg.injEq, AV.tup.injEq, AV.cons.injEq, AV.own.injEq, AV.whn.injEq, Blk.ints.injEq, Blk.bools.injEq, Blk.rows.injEq, Blk.rowsR.injEq, Blk.box.injEq, Option.some.injEq, Int.natCast_add, Int.natCast_one, Int.cast_ofNat_Int])
  have hi0 : i = 0 := by omega
  subst hi0
  repeat' first
    | with_reducible first | refine awp_seq ?_ | refine awp_block ?_ | refine next_then ?_ | refine next_block ?_ | refine exit_then ?_ | refine ret_then ?_ | refine ret_block ?_ | refine exit_here ?_ | refine awp_exit ?_ | refine awp_ret ?_ | refine awp_skip ?_ | refine awp_label ?_ | refine next_noGoto ?_ | refine ret_noGoto ?_ | refine exit_noGoto ?_ | refine awp_scope ?_
    | ((with_reducible refine exit_past ?_ ?_); exact rfl)
    | ((with_reducible refine isCond ?_); refine awp_condO rfl ?_ ?_ <;> intro hb <;> (try simp only [Bool.and_eq_false_iff, decide_eq_true_eq, decide_eq_false_iff_not, Bool.or_eq_true, Bool.or_eq_false_iff, Bool.and_eq_true, Bool.not_eq_true', Bool.not_eq_false', not_or, Int.not_lt, Int.not_le] at hb))
    | ((with_reducible refine isReg ?_); (first | refine awp_textM htb hmz spPr_ok (fun _ => false) rfl rfl ?_ | refine awp_drawM hmo htb hmz spPr_ok (fun _ => false) rfl rfl (by kernel_rfl) ?_); intro m' e' l' ob h; simp only [evOut, evStep, evCap, evMap, isIntS, gua, eq_self, evo, ev1, evx, evp, ofP, guardOf, opv, lke_cons, lke_nil, lkr_nil, lkr_cons, isC, isCC, isCL, men, putE, setW, set1, del, evLoad, evField, evIndex, evBin, lenOf, evSlice, bnd, cutI, subv, selv, isV, isAg, cellsL, lenL, properL, nthL, dropL, takeL, appL, setL, updv, tb, TI.isStr, strip, gd, gds, whnR, evPick, evStore, stBox, evApp, evAppS, List.getD_cons_zero, srcI, srcB, srcR, evBuildS, evTake, makeB, isNilS, partsOK, elemsOf, collI, collB, collII, allC, allN, fillL, evCut, evFz, lko, z0, renB, z1, z2, z3, z4, notD, chkG, evCopy, evCall, ofSR, viewA, lsOf, ofL, zfree, zfreeB, freeB, isOne, ren, zipE, Op.operands, Call.operands, Nat.reduceAdd, Nat.reduceSub, Nat.reduceMul, Nat.reduceEqDiff, Nat.reduceLeDiff, Nat.reduceLT, Nat.reduceBEq, Nat.reduceBNe, ↓reduceIte, reduceIte, nbeq, nble, nblt, z5, z6, z7, z8, z9, z10, z11, z12, z13, z14, z15, z16, z17, z18, z19, z20, z21, z22, z23, z24, z25, z26, z27, z28, z29, z30, z31, z32, z33, z34, z35, z36, z37, imp_self, forall_const, z38, EO.mk.injEq, z39, z40, z41, z42, z43, z44, z45, z46, z47, z48, z49, z50, ne_eq, z51, z52, z53, z54, z55, z56, z57, inI, evRes, resV, mkL, ltK, rhoL, leE, leR, menB, menE, fzA, fzE, fzB, fzR, spPr, aboveS] at h; obtain ⟨rfl, rfl, rfl, rfl⟩ := h; refine ⟨?_, ?_⟩)
    | ((with_reducible refine Ob.mk ?_); first | exact trivial | (intros; omega) | ((repeat' first | apply And.intro | (intro hg; have hg' := hg; try simp only [Bool.and_eq_false_iff, decide_eq_true_eq, decide_eq_false_iff_not, Bool.or_eq_true, Bool.or_eq_false_iff, Bool.and_eq_true, Bool.not_eq_true', Bool.not_eq_false', not_or, Int.not_lt, Int.not_le] at hg')) <;> first | assumption | omega | (simp only [Bool.and_eq_false_iff, decide_eq_true_eq, decide_eq_false_iff_not, Bool.or_eq_true, Bool.or_eq_false_iff, Bool.and_eq_true, Bool.not_eq_true', Bool.not_eq_false', not_or, Int.not_lt, Int.not_le]; omega)))
  refine fin_ret rfl rfl (spec_imp rfl ?_ rfl)
  rw [PI_top hP, deM_top]
  exact imp_agg (imp_cons (imp_eq rfl) (imp_cons imp_nilI (imp_eq rfl)))

end Go.Proofs.Ytgminhedbeblpaa.Cal
