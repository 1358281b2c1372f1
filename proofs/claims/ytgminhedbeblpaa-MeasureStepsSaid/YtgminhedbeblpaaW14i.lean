/- What the walk finds: the reference's order and what a position needs. -/
import Derived.Test.YtgminhedbeblpaaW14h
set_option linter.unusedVariables false
set_option linter.unusedSimpArgs false
namespace Go.Proofs.Ytgminhedbeblpaa.Cal
open Go Pl

def lssI (a b : Bool × List Int) : Int := if a.1 && b.1 then 0 else if a.1 then 1 else if b.1 then -1 else cmpL a.2 b.2
theorem lssI_V {many : List Int} (hp : posL many) {V W : Int} (h0 : 0 ≤ V) (h1 : V ≤ rpr many) (h2 : 0 ≤ W) (h3 : W ≤ rpr many) : (lssI (deM many V) (deM many W) < 0 ↔ V < W) ∧ (0 < lssI (deM many V) (deM many W) ↔ W < V) := by
  unfold lssI
  rcases deM_cases hp h0 h1 with ⟨a1, a2⟩ | ⟨a1, a2, a3, a4⟩
  · rw [a2]
    rcases deM_cases hp h2 h3 with ⟨b1, b2⟩ | ⟨b1, b2, b3, b4⟩
    · rw [b2]; simp; omega
    · rw [b4]; simp; omega
  · rw [a4]
    rcases deM_cases hp h2 h3 with ⟨b1, b2⟩ | ⟨b1, b2, b3, b4⟩
    · rw [b2]; simp; omega
    · rw [b4]
      obtain ⟨c1, c2⟩ := cmp_nv a2 b2
      rw [a3, b3] at c1 c2
      simp only [Bool.false_and, Bool.false_eq_true, if_false]
      exact ⟨c1, c2⟩
def lssS : Spec
  | [.agg (.cons (.bool t) (.cons (.roI xs) .nil)), .agg (.cons (.bool t') (.cons (.roI ys) .nil))] => some ⟨t = false → t' = false → xs.length = ys.length, .int .i64 (lssI (t, xs) (t', ys)), none⟩
  | _ => none
set_option maxRecDepth 4000 in
set_option maxHeartbeats 4000000 in
theorem lss_ok : FSpec Try.prog 26 lssS := by
  refine fspec_of htb (fn := Try.f26) (by kernel_rfl) (by kernel_rfl) rfl (fun args r hS => ?_) (fun args r hS hob hl => ?_)
  · unfold lssS at hS; split at hS <;> first | (cases hS; done) | (cases hS; exact Nat.le_of_ble_eq_true rfl)
  unfold lssS at hS
  split at hS
  case h_2 => cases hS
  rename_i t xs t' ys
  simp only [Option.some.injEq] at hS
  subst hS
  simp only [lenP, mkL, lim] at hl
  dsimp only at hob
  repeat' first
    | with_reducible first | refine awp_seq ?_ | refine awp_block ?_ | refine next_then ?_ | refine next_block ?_ | refine exit_then ?_ | refine ret_then ?_ | refine ret_block ?_ | refine exit_here ?_ | refine awp_exit ?_ | refine awp_ret ?_ | refine awp_skip ?_ | refine awp_label ?_ | refine next_noGoto ?_ | refine ret_noGoto ?_ | refine exit_noGoto ?_ | refine awp_scope ?_
    | ((with_reducible refine exit_past ?_ ?_); exact rfl)
    | ((with_reducible refine isCond ?_); refine awp_condO rfl ?_ ?_ <;> intro hb <;> (try simp only [Bool.and_eq_false_iff, decide_eq_true_eq, decide_eq_false_iff_not, Bool.or_eq_true, Bool.or_eq_false_iff, Bool.and_eq_true, Bool.not_eq_true', Bool.not_eq_false', not_or, Int.not_lt, Int.not_le] at hb))
    | ((with_reducible refine isReg ?_); (first | refine awp_textM htb hmz noSp (fun _ => false) rfl rfl ?_ | refine awp_drawM hmo htb hmz noSp (fun _ => false) rfl rfl (by kernel_rfl) ?_); intro m' e' l' ob h; simp only [evOut, evStep, evCap, evMap, isIntS, gua, eq_self, evo, ev1, evx, evp, ofP, guardOf, opv, lke_cons, lke_nil, lkr_nil, lkr_cons, isC, isCC, isCL, men, putE, setW, set1, del, evLoad, evField, evIndex, evBin, lenOf, evSlice, bnd, cutI, subv, selv, isV, isAg, cellsL, lenL, properL, nthL, dropL, takeL, appL, setL, updv, tb, TI.isStr, strip, gd, gds, whnR, evPick, evStore, stBox, evApp, evAppS, List.getD_cons_zero, srcI, srcB, srcR, evBuildS, evTake, makeB, isNilS, partsOK, elemsOf, collI, collB, collII, allC, allN, fillL, evCut, evFz, lko, z0, renB, z1, z2, z3, z4, notD, chkG, evCopy, evCall, ofSR, viewA, lsOf, ofL, zfree, zfreeB, freeB, isOne, ren, zipE, Op.operands, Call.operands, Nat.reduceAdd, Nat.reduceSub, Nat.reduceMul, Nat.reduceEqDiff, Nat.reduceLeDiff, Nat.reduceLT, Nat.reduceBEq, Nat.reduceBNe, ↓reduceIte, reduceIte, nbeq, nble, nblt, z5, z6, z7, z8, z9, z10, z11, z12, z13, z14, z15, z16, z17, z18, z19, z20, z21, z22, z23, z24, z25, z26, z27, z28, z29, z30, z31, z32, z33, z34, z35, z36, z37, imp_self, forall_const, z38, EO.mk.injEq, z39, z40, z41, z42, z43, z44, z45, z46, z47, z48, z49, z50, ne_eq, z51, z52, z53, z54, z55, z56, z57, inI, evRes, resV, mkL, ltK, rhoL, leE, leR, menB, menE, fzA, fzE, fzB, fzR] at h; obtain ⟨rfl, rfl, rfl, rfl⟩ := h; refine ⟨?_, ?_⟩)
    | ((with_reducible refine Ob.mk ?_); first | exact trivial | (intros; omega) | ((repeat' first | apply And.intro | (intro hg; have hg' := hg; try simp only [Bool.and_eq_false_iff, decide_eq_true_eq, decide_eq_false_iff_not, Bool.or_eq_true, Bool.or_eq_false_iff, Bool.and_eq_true, Bool.not_eq_true', Bool.not_eq_false', not_or, Int.not_lt, Int.not_le] at hg')) <;> first | assumption | omega | (simp only [Bool.and_eq_false_iff, decide_eq_true_eq, decide_eq_false_iff_not, Bool.or_eq_true, Bool.or_eq_false_iff, Bool.and_eq_true, Bool.not_eq_true', Bool.not_eq_false', not_or, Int.not_lt, Int.not_le]; omega)))
  · obtain ⟨rfl, rfl⟩ := hb
    refine fin_ret rfl rfl (spec_flat rfl ?_ rfl)
    rfl
  · rename_i h
    subst hb
    obtain rfl : t' = false := h.resolve_left (by decide)
    refine fin_ret rfl rfl (spec_flat rfl ?_ rfl)
    rfl
  · rename_i h1 h
    subst h hb
    refine fin_ret rfl rfl (spec_flat rfl ?_ rfl)
    rfl
  rename_i h1 h
  subst h hb
  have hlen := hob rfl rfl
  have hls : lssI (false, xs) (false, ys) = cmpL xs ys := rfl
  rw [hls]
  refine awp_loopC (τ := Nat) (fun i => i ≤ xs.length ∧ cmpL (xs.drop i) (ys.drop i) = cmpL xs ys) (fun i => ⟨5, [(23, .int .i64 i), (22, .int .i64 xs.length), (21, .roI xs), (3, .rop (.agg (.cons (.bool false) (.cons (.roI ys) .nil))))], [], []⟩) (fun i => xs.length - i) 0 [] ?_ ⟨Nat.zero_le _, by simp⟩ ?_
  · (refine ⟨rfl, ?_, ?_⟩ <;> simp only [evOut, evStep, evCap, evMap, isIntS, gua, eq_self, evo, ev1, evx, evp, ofP, guardOf, opv, lke_cons, lke_nil, lkr_nil, lkr_cons, isC, isCC, isCL, men, putE, setW, set1, del, evLoad, evField, evIndex, evBin, lenOf, evSlice, bnd, cutI, subv, selv, isV, isAg, cellsL, lenL, properL, nthL, dropL, takeL, appL, setL, updv, tb, TI.isStr, strip, gd, gds, whnR, evPick, evStore, stBox, evApp, evAppS, List.getD_cons_zero, srcI, srcB, srcR, evBuildS, evTake, makeB, isNilS, partsOK, elemsOf, collI, collB, collII, allC, allN, fillL, evCut, evFz, lko, z0, renB, z1, z2, z3, z4, notD, chkG, evCopy, evCall, ofSR, viewA, lsOf, ofL, zfree, zfreeB, freeB, isOne, ren, zipE, Op.operands, Call.operands, Nat.reduceAdd, Nat.reduceSub, Nat.reduceMul, Nat.reduceEqDiff, Nat.reduceLeDiff, Nat.reduceLT, Nat.reduceBEq, Nat.reduceBNe, ↓reduceIte, reduceIte, nbeq, nble, nblt, z5, z6, z7, z8, z9, z10, z11, z12, z13, z14, z15, z16, z17, z18, z19, z20, z21, z22, z23, z24, z25, z26, z27, z28, z29, z30, z31, z32, z33, z34, z35, z36, z37, imp_self, forall_const, z38, EO.mk.injEq, z39, z40, z41, z42, z43, z44, z45, z46, z47, z48, z49, z50, ne_eq, z51, z52, z53, z54, z55, z56, z57, inI, evRes, resV, mkL, ltK, rhoL, leE, leR, menB, menE, fzA, fzE, fzB, fzR, AV.int.injEq, AV.bool.injEq, AV.roI.injEq, AV.roB.injEq, AV.roII.injEq, AV.rop.injEq, AV.agg.injEq, AV.tup.injEq, AV.cons.injEq, AV.own.injEq, AV.whn.injEq, Blk.ints.injEq, Blk.bools.injEq, Blk.rows.injEq, Blk.rowsR.injEq, Blk.box.injEq, Option.some.injEq, Int.natCast_add, Int.natCast_one, Int.cast_ofNat_Int])
  rintro i ⟨hi, hc⟩
  have hst := @cmpL_step xs ys i
  have hen := @cmpL_end xs ys i
  rw [hc] at hst hen
  repeat' first
    | with_reducible first | refine awp_seq ?_ | refine awp_block ?_ | refine next_then ?_ | refine next_block ?_ | refine exit_then ?_ | refine ret_then ?_ | refine ret_block ?_ | refine exit_here ?_ | refine awp_exit ?_ | refine awp_ret ?_ | refine awp_skip ?_ | refine awp_label ?_ | refine next_noGoto ?_ | refine ret_noGoto ?_ | refine exit_noGoto ?_ | refine awp_scope ?_
    | ((with_reducible refine exit_past ?_ ?_); exact rfl)
    | ((with_reducible refine isCond ?_); refine awp_condO rfl ?_ ?_ <;> intro hb <;> (try simp only [Bool.and_eq_false_iff, decide_eq_true_eq, decide_eq_false_iff_not, Bool.or_eq_true, Bool.or_eq_false_iff, Bool.and_eq_true, Bool.not_eq_true', Bool.not_eq_false', not_or, Int.not_lt, Int.not_le] at hb))
    | ((with_reducible refine isReg ?_); (first | refine awp_textM htb hmz noSp (fun _ => false) rfl rfl ?_ | refine awp_drawM hmo htb hmz noSp (fun _ => false) rfl rfl (by kernel_rfl) ?_); intro m' e' l' ob h; simp only [evOut, evStep, evCap, evMap, isIntS, gua, eq_self, evo, ev1, evx, evp, ofP, guardOf, opv, lke_cons, lke_nil, lkr_nil, lkr_cons, isC, isCC, isCL, men, putE, setW, set1, del, evLoad, evField, evIndex, evBin, lenOf, evSlice, bnd, cutI, subv, selv, isV, isAg, cellsL, lenL, properL, nthL, dropL, takeL, appL, setL, updv, tb, TI.isStr, strip, gd, gds, whnR, evPick, evStore, stBox, evApp, evAppS, List.getD_cons_zero, srcI, srcB, srcR, evBuildS, evTake, makeB, isNilS, partsOK, elemsOf, collI, collB, collII, allC, allN, fillL, evCut, evFz, lko, z0, renB, z1, z2, z3, z4, notD, chkG, evCopy, evCall, ofSR, viewA, lsOf, ofL, zfree, zfreeB, freeB, isOne, ren, zipE, Op.operands, Call.operands, Nat.reduceAdd, Nat.reduceSub, Nat.reduceMul, Nat.reduceEqDiff, Nat.reduceLeDiff, Nat.reduceLT, Nat.reduceBEq, Nat.reduceBNe, ↓reduceIte, reduceIte, nbeq, nble, nblt, z5, z6, z7, z8, z9, z10, z11, z12, z13, z14, z15, z16, z17, z18, z19, z20, z21, z22, z23, z24, z25, z26, z27, z28, z29, z30, z31, z32, z33, z34, z35, z36, z37, imp_self, forall_const, z38, EO.mk.injEq, z39, z40, z41, z42, z43, z44, z45, z46, z47, z48, z49, z50, ne_eq, z51, z52, z53, z54, z55, z56, z57, inI, evRes, resV, mkL, ltK, rhoL, leE, leR, menB, menE, fzA, fzE, fzB, fzR] at h; obtain ⟨rfl, rfl, rfl, rfl⟩ := h; refine ⟨?_, ?_⟩)
    | ((with_reducible refine Ob.mk ?_); first | exact trivial | (intros; omega) | ((repeat' first | apply And.intro | (intro hg; have hg' := hg; try simp only [Bool.and_eq_false_iff, decide_eq_true_eq, decide_eq_false_iff_not, Bool.or_eq_true, Bool.or_eq_false_iff, Bool.and_eq_true, Bool.not_eq_true', Bool.not_eq_false', not_or, Int.not_lt, Int.not_le] at hg')) <;> first | assumption | omega | (simp only [Bool.and_eq_false_iff, decide_eq_true_eq, decide_eq_false_iff_not, Bool.or_eq_true, Bool.or_eq_false_iff, Bool.and_eq_true, Bool.not_eq_true', Bool.not_eq_false', not_or, Int.not_lt, Int.not_le]; omega)))
  · refine fin_ret rfl rfl (spec_flat rfl ?_ rfl)
    rw [hst (by omega) (by omega), if_pos hb]
    rfl
  · refine fin_ret rfl rfl (spec_flat rfl ?_ rfl)
    rw [hst (by omega) (by omega), if_neg (by omega), if_pos hb]
    rfl
  · refine back (i + 1) [] ?_ ⟨by omega, ?_⟩ (by omega)
    · (refine ⟨rfl, ?_, ?_⟩ <;> simp only [evOut, evStep, evCap, evMap, isIntS, gua, eq_self, evo, ev1, evx, evp, ofP, guardOf, opv, lke_cons, lke_nil, lkr_nil, lkr_cons, isC, isCC, isCL, men, putE, setW, set1, del, evLoad, evField, evIndex, evBin, lenOf, evSlice, bnd, cutI, subv, selv, isV, isAg, cellsL, lenL, properL, nthL, dropL, takeL, appL, setL, updv, tb, TI.isStr, strip, gd, gds, whnR, evPick, evStore, stBox, evApp, evAppS, List.getD_cons_zero, srcI, srcB, srcR, evBuildS, evTake, makeB, isNilS, partsOK, elemsOf, collI, collB, collII, allC, allN, fillL, evCut, evFz, lko, z0, renB, z1, z2, z3, z4, notD, chkG, evCopy, evCall, ofSR, viewA, lsOf, ofL, zfree, zfreeB, freeB, isOne, ren, zipE, Op.operands, Call.operands, Nat.reduceAdd, Nat.reduceSub, Nat.reduceMul, Nat.reduceEqDiff, Nat.reduceLeDiff, Nat.reduceLT, Nat.reduceBEq, Nat.reduceBNe, ↓reduceIte, reduceIte, nbeq, nble, nblt, z5, z6, z7, z8, z9, z10, z11, z12, z13, z14, z15, z16, z17, z18, z19, z20, z21, z22, z23, z24, z25, z26, z27, z28, z29, z30, z31, z32, z33, z34, z35, z36, z37, imp_self, forall_const, z38, EO.mk.injEq, z39, z40, z41, z42, z43, z44, z45, z46, z47, z48, z49, z50, ne_eq, z51, z52, z53, z54, z55, z56, z57, inI, evRes, resV, mkL, ltK, rhoL, leE, leR, menB, menE, fzA, fzE, fzB, fzR, AV.int.injEq, AV.bool.injEq, AV.roI.injEq, AV.roB.injEq, AV.roII.injEq, AV.rop.injEq, AV.agg.injEq, AV.tup.injEq, AV.cons.injEq, AV.own.injEq, AV.whn.injEq, Blk.ints.injEq, Blk.bools.injEq, Blk.rows.injEq, Blk.rowsR.injEq, Blk.box.injEq, Option.some.injEq, Int.natCast_add, Int.natCast_one, Int.cast_ofNat_Int])
    · have hst := hst (by omega) (by omega)
      rw [if_neg (by omega), if_neg (by omega)] at hst
      exact hst.symm
  · refine fin_ret rfl rfl (spec_flat rfl ?_ rfl)
    rw [hen (by omega)]
    unfold cmpI
    rw [if_neg (by omega), if_neg (by omega)]
    rfl

noncomputable def spNe : Nat → Option Spec
  | 46 => some nextS
  | 26 => some lssS
  | _ => none
theorem spNe_ok : SpOK Try.prog spNe := by
  intro f S h
  unfold spNe at h
  split at h
  · cases h; exact next_ok
  · cases h; exact lss_ok
  · cases h
/-- The same of measures that nobody writes. -/
noncomputable def needS : Spec
  | [.agg (.cons (.roI o) (.cons (.roI p) (.cons (.roII x) .nil))), .roI odd, .roI many, .ro 2 n f, .int .i64 v] =>
    some ⟨SOK odd many ∧ validB ⟨o, p, x⟩ = true ∧ n = o.length ∧ (f = fun j => msA (mOf (f j))) ∧ (∀ j, j < n → okM many (mOf (f j))) ∧ 0 ≤ v ∧ v < (n : Int),
      .agg (.cons (.bool (deM many (bestV ⟨o, p, x⟩ odd many (mlF many n fun j => mOf (f j)) v.toNat)).1) (.cons (.roI (deM many (bestV ⟨o, p, x⟩ odd many (mlF many n fun j => mOf (f j)) v.toNat)).2) .nil)), none⟩
  | _ => none
set_option maxRecDepth 4000 in
set_option maxHeartbeats 4000000 in
theorem need_ok : FSpec Try.prog 34 needS := by
  refine fspec_of htb (fn := Try.f34) (by kernel_rfl) (by kernel_rfl) rfl (fun args r hS => ?_) (fun args r hS hob hl => ?_)
  · unfold needS at hS; split at hS <;> first | (cases hS; done) | (cases hS; exact Nat.le_of_ble_eq_true rfl)
  unfold needS at hS
  split at hS
  case h_2 => cases hS
  rename_i o p x odd many n f v
  simp only [Option.some.injEq] at hS
  subst hS
  simp only [lenP, mkL, lim] at hl
  dsimp only at hob
  obtain ⟨hS, hv, rfl, hf, hok, hv0, hv1⟩ := hob
  obtain ⟨v, rfl⟩ := Int.eq_ofNat_of_zero_le hv0
  obtain ⟨F, hF⟩ : ∃ F : Nat → Bool × List Int, ∀ j, mOf (f j) = F j := ⟨_, fun _ => rfl⟩
  have hf : f = fun j => msA (F j) := by rw [hf]; funext j; rw [hF]
  have hF' : (fun j => mOf (f j)) = F := funext hF
  simp only [hF'] at hok ⊢
  simp only [hF] at hok
  subst hf
  clear hF hF'
  simp only [Int.toNat_natCast]
  have hvn : v < o.length := by omega
  have hV := validB_iff.1 hv
  obtain ⟨hn, hpl, hxl, hpos⟩ := id hV
  simp only [Gm.n] at hn hpl hxl
  have hrl : (x.getD v []).length ≤ 64 ∧ 1 ≤ (x.getD v []).length := by
    obtain ⟨⟨a1, a2, a3, a4, a5, a6⟩, _⟩ := hpos v (by simp only [Gm.n]; omega)
    exact ⟨a6, a5⟩
  have hrb : ∀ j, j < (x.getD v []).length → 0 ≤ (x.getD v []).getD j 0 ∧ (x.getD v []).getD j 0 < o.length := fun j hj => by
    obtain ⟨_, hr⟩ := hpos v (by simp only [Gm.n]; omega)
    exact ⟨(hr j hj).1, (hr j hj).2.1⟩
  have hpr : 0 ≤ p.getD v 0 ∧ p.getD v 0 ≤ 60 := by
    obtain ⟨⟨a1, a2, a3, a4, _, a6⟩, _⟩ := hpos v (by simp only [Gm.n]; omega)
    exact ⟨a3, a4⟩
  have how : 0 ≤ o.getD v 0 ∧ o.getD v 0 ≤ 1 := by
    obtain ⟨⟨a1, a2, a3, a4, _, a6⟩, _⟩ := hpos v (by simp only [Gm.n]; omega)
    exact ⟨a1, a2⟩
  generalize hL : mlF many o.length F = L
  have hLg : ∀ j, j < o.length → L.getD j 0 = enM many (F j) := fun j hj => by rw [← hL]; exact mlF_get hj
  have hask : ∀ r, r < (x.getD v []).length → askV ⟨o, p, x⟩ odd many L v r = progV odd many (enM many (F ((x.getD v []).getD r 0).toNat)) (p.getD v 0) := fun r hr => by
    have h1 := hrb r hr
    show progV odd many (L.getD ((x.getD v []).getD r 0).toNat 0) (p.getD v 0) = _
    rw [hLg _ (by omega)]
  have haskb : ∀ r, r < (x.getD v []).length → 0 ≤ askV ⟨o, p, x⟩ odd many L v r ∧ askV ⟨o, p, x⟩ odd many L v r ≤ rpr many := fun r hr => by
    have h1 := hrb r hr
    have h2 := okM_bd hS.ps (hok ((x.getD v []).getD r 0).toNat (by omega))
    rw [hask r hr]
    exact progV_bd hS.ps h2.1 h2.2
  have hbb : ∀ r, r ≤ (x.getD v []).length → 0 < r → 0 ≤ bB ⟨o, p, x⟩ odd many L v r ∧ bB ⟨o, p, x⟩ odd many L v r ≤ rpr many := fun r hr h0 => by
    by_cases h : o.getD v 0 = 0
    · obtain ⟨_, i, h1, h2⟩ := bB_min (g := ⟨o, p, x⟩) (odd := odd) (many := many) (l := L) h h0
      rw [h2]; exact haskb i (by omega)
    · obtain ⟨_, i, h1, h2⟩ := bB_max (g := ⟨o, p, x⟩) (odd := odd) (many := many) (l := L) h h0
      rw [h2]; exact haskb i (by omega)
  have hb1 : ∀ r, bB ⟨o, p, x⟩ odd many L v (r + 1) = if r = 0 ∨ (o.getD v 0 = 0 ∧ askV ⟨o, p, x⟩ odd many L v r < bB ⟨o, p, x⟩ odd many L v r) ∨ (o.getD v 0 ≠ 0 ∧ bB ⟨o, p, x⟩ odd many L v r < askV ⟨o, p, x⟩ odd many L v r) then askV ⟨o, p, x⟩ odd many L v r else bB ⟨o, p, x⟩ odd many L v r := fun r => rfl
  have hbe : bestV ⟨o, p, x⟩ odd many L v = bB ⟨o, p, x⟩ odd many L v (x.getD v []).length := rfl
  rw [hbe]
  generalize askV ⟨o, p, x⟩ odd many L v = A at *
  generalize bB ⟨o, p, x⟩ odd many L v = B at *
  generalize hrw : x.getD v [] = rw at *
  have hS1 := hS.len
  have hS2 := hS.l100
  have hS3 := hS.bd
  have hS4 := hS.ps
  repeat' first
    | with_reducible first | refine awp_seq ?_ | refine awp_block ?_ | refine next_then ?_ | refine next_block ?_ | refine exit_then ?_ | refine ret_then ?_ | refine ret_block ?_ | refine exit_here ?_ | refine awp_exit ?_ | refine awp_ret ?_ | refine awp_skip ?_ | refine awp_label ?_ | refine next_noGoto ?_ | refine ret_noGoto ?_ | refine exit_noGoto ?_ | refine awp_scope ?_
    | ((with_reducible refine exit_past ?_ ?_); exact rfl)
    | ((with_reducible refine isCond ?_); refine awp_condO rfl ?_ ?_ <;> intro hb <;> (try simp only [Bool.and_eq_false_iff, decide_eq_true_eq, decide_eq_false_iff_not, Bool.or_eq_true, Bool.or_eq_false_iff, Bool.and_eq_true, Bool.not_eq_true', Bool.not_eq_false', not_or, Int.not_lt, Int.not_le] at hb))
    | ((with_reducible refine isReg ?_); (first | refine awp_textM htb hmz spNe_ok (fun _ => false) rfl rfl ?_ | refine awp_drawM hmo htb hmz spNe_ok (fun _ => false) rfl rfl (by kernel_rfl) ?_); intro m' e' l' ob h; simp only [evOut, evStep, evCap, evMap, isIntS, gua, eq_self, evo, ev1, evx, evp, ofP, guardOf, opv, lke_cons, lke_nil, lkr_nil, lkr_cons, isC, isCC, isCL, men, putE, setW, set1, del, evLoad, evField, evIndex, evBin, lenOf, evSlice, bnd, cutI, subv, selv, isV, isAg, cellsL, lenL, properL, nthL, dropL, takeL, appL, setL, updv, tb, TI.isStr, strip, gd, gds, whnR, evPick, evStore, stBox, evApp, evAppS, List.getD_cons_zero, srcI, srcB, srcR, evBuildS, evTake, makeB, isNilS, partsOK, elemsOf, collI, collB, collII, allC, allN, fillL, evCut, evFz, lko, z0, renB, z1, z2, z3, z4, notD, chkG, evCopy, evCall, ofSR, viewA, lsOf, ofL, zfree, zfreeB, freeB, isOne, ren, zipE, Op.operands, Call.operands, Nat.reduceAdd, Nat.reduceSub, Nat.reduceMul, Nat.reduceEqDiff, Nat.reduceLeDiff, Nat.reduceLT, Nat.reduceBEq, Nat.reduceBNe, ↓reduceIte, reduceIte, nbeq, nble, nblt, z5, z6, z7, z8, z9, z10, z11, z12, z13, z14, z15, z16, z17, z18, z19, z20, z21, z22, z23, z24, z25, z26, z27, z28, z29, z30, z31, z32, z33, z34, z35, z36, z37, imp_self, forall_const, z38, EO.mk.injEq, z39, z40, z41, z42, z43, z44, z45, z46, z47, z48, z49, z50, ne_eq, z51, z52, z53, z54, z55, z56, z57, inI, evRes, resV, mkL, ltK, rhoL, leE, leR, menB, menE, fzA, fzE, fzB, fzR, spNe, nextS, lssS, msA, nro, isNilS] at h; obtain ⟨rfl, rfl, rfl, rfl⟩ := h; refine ⟨?_, ?_⟩)
    | ((with_reducible refine Ob.mk ?_); first | exact trivial | (intros; omega) | ((repeat' first | apply And.intro | (intro hg; have hg' := hg; try simp only [Bool.and_eq_false_iff, decide_eq_true_eq, decide_eq_false_iff_not, Bool.or_eq_true, Bool.or_eq_false_iff, Bool.and_eq_true, Bool.not_eq_true', Bool.not_eq_false', not_or, Int.not_lt, Int.not_le] at hg')) <;> first | assumption | omega | (simp only [Bool.and_eq_false_iff, decide_eq_true_eq, decide_eq_false_iff_not, Bool.or_eq_true, Bool.or_eq_false_iff, Bool.and_eq_true, Bool.not_eq_true', Bool.not_eq_false', not_or, Int.not_lt, Int.not_le]; omega)))
  refine awp_nro 2 rfl rfl ?_
  refine awp_loopC (τ := Nat) (fun r => r ≤ rw.length) (fun r => ⟨10, [(21, .int .i64 r), (20, .int .i64 rw.length), (19, .roI rw), (11, .own 2), (10, .own 1), (5, .rop (.agg (.cons (.roI o) (.cons (.roI p) (.cons (.roII x) .nil))))), (1, .roI odd), (2, .roI many), (3, .ro 2 o.length (fun j => msA (F j))), (4, .int .i64 v)],
    [(1, some (.box (.agg (.cons (.bool false) (.cons (.cst (Value.slice none 0 0)) .nil))))), (2, some (.box (msA (if r = 0 then (false, []) else deM many (B r)))))], []⟩) (fun r => rw.length - r) 0 [] ?_ (Nat.zero_le _) ?_
  · (refine ⟨rfl, ?_, ?_⟩ <;> simp only [evOut, evStep, evCap, evMap, isIntS, gua, eq_self, evo, ev1, evx, evp, ofP, guardOf, opv, lke_cons, lke_nil, lkr_nil, lkr_cons, isC, isCC, isCL, men, putE, setW, set1, del, evLoad, evField, evIndex, evBin, lenOf, evSlice, bnd, cutI, subv, selv, isV, isAg, cellsL, lenL, properL, nthL, dropL, takeL, appL, setL, updv, tb, TI.isStr, strip, gd, gds, whnR, evPick, evStore, stBox, evApp, evAppS, List.getD_cons_zero, srcI, srcB, srcR, evBuildS, evTake, makeB, isNilS, partsOK, elemsOf, collI, collB, collII, allC, allN, fillL, evCut, evFz, lko, z0, renB, z1, z2, z3, z4, notD, chkG, evCopy, evCall, ofSR, viewA, lsOf, ofL, zfree, zfreeB, freeB, isOne, ren, zipE, Op.operands, Call.operands, Nat.reduceAdd, Nat.reduceSub, Nat.reduceMul, Nat.reduceEqDiff, Nat.reduceLeDiff, Nat.reduceLT, Nat.reduceBEq, Nat.reduceBNe, ↓reduceIte, reduceIte, nbeq, nble, nblt, z5, z6, z7, z8, z9, z10, z11, z12, z13, z14, z15, z16, z17, z18, z19, z20, z21, z22, z23, z24, z25, z26, z27, z28, z29, z30, z31, z32, z33, z34, z35, z36, z37, imp_self, forall_const, z38, EO.mk.injEq, z39, z40, z41, z42, z43, z44, z45, z46, z47, z48, z49, z50, ne_eq, z51, z52, z53, z54, z55, z56, z57, inI, evRes, resV, mkL, ltK, rhoL, leE, leR, menB, menE, fzA, fzE, fzB, fzR, spNe, nextS, lssS, msA, nro, isNilS, AV.int.injEq, AV.bool.injEq, AV.roI.injEq, AV.roB.injEq, AV.roII.injEq, AV.rop.injEq, AV.agg.injEq, AV.tup.injEq, AV.cons.injEq, AV.own.injEq, AV.whn.injEq, Blk.ints.injEq, Blk.bools.injEq, Blk.rows.injEq, Blk.rowsR.injEq, Blk.box.injEq, Option.some.injEq, Int.natCast_add, Int.natCast_one, Int.cast_ofNat_Int])
    exact ⟨by rw [hrw], hrw.symm⟩
  intro r hr
  repeat' first
    | with_reducible first | refine awp_seq ?_ | refine awp_block ?_ | refine next_then ?_ | refine next_block ?_ | refine exit_then ?_ | refine ret_then ?_ | refine ret_block ?_ | refine exit_here ?_ | refine awp_exit ?_ | refine awp_ret ?_ | refine awp_skip ?_ | refine awp_label ?_ | refine next_noGoto ?_ | refine ret_noGoto ?_ | refine exit_noGoto ?_ | refine awp_scope ?_
    | ((with_reducible refine exit_past ?_ ?_); exact rfl)
    | ((with_reducible refine isCond ?_); refine awp_condO rfl ?_ ?_ <;> intro hb <;> (try simp only [Bool.and_eq_false_iff, decide_eq_true_eq, decide_eq_false_iff_not, Bool.or_eq_true, Bool.or_eq_false_iff, Bool.and_eq_true, Bool.not_eq_true', Bool.not_eq_false', not_or, Int.not_lt, Int.not_le] at hb))
    | ((with_reducible refine isRegS 6 ?_ ?_); (· exact rfl); (with_reducible refine isRegS 9 ?_ ?_); (· exact rfl); (first | refine awp_textM htb hmz spNe_ok (fun _ => false) rfl rfl ?_ | refine awp_drawM hmo htb hmz spNe_ok (fun _ => false) rfl rfl (by kernel_rfl) ?_); intro m' e' l' ob h; simp only [evOut, evStep, evCap, evMap, isIntS, gua, eq_self, evo, ev1, evx, evp, ofP, guardOf, opv, lke_cons, lke_nil, lkr_nil, lkr_cons, isC, isCC, isCL, men, putE, setW, set1, del, evLoad, evField, evIndex, evBin, lenOf, evSlice, bnd, cutI, subv, selv, isV, isAg, cellsL, lenL, properL, nthL, dropL, takeL, appL, setL, updv, tb, TI.isStr, strip, gd, gds, whnR, evPick, evStore, stBox, evApp, evAppS, List.getD_cons_zero, srcI, srcB, srcR, evBuildS, evTake, makeB, isNilS, partsOK, elemsOf, collI, collB, collII, allC, allN, fillL, evCut, evFz, lko, z0, renB, z1, z2, z3, z4, notD, chkG, evCopy, evCall, ofSR, viewA, lsOf, ofL, zfree, zfreeB, freeB, isOne, ren, zipE, Op.operands, Call.operands, Nat.reduceAdd, Nat.reduceSub, Nat.reduceMul, Nat.reduceEqDiff, Nat.reduceLeDiff, Nat.reduceLT, Nat.reduceBEq, Nat.reduceBNe, ↓reduceIte, reduceIte, nbeq, nble, nblt, z5, z6, z7, z8, z9, z10, z11, z12, z13, z14, z15, z16, z17, z18, z19, z20, z21, z22, z23, z24, z25, z26, z27, z28, z29, z30, z31, z32, z33, z34, z35, z36, z37, imp_self, forall_const, z38, EO.mk.injEq, z39, z40, z41, z42, z43, z44, z45, z46, z47, z48, z49, z50, ne_eq, z51, z52, z53, z54, z55, z56, z57, inI, evRes, resV, mkL, ltK, rhoL, leE, leR, menB, menE, fzA, fzE, fzB, fzR, spNe, nextS, lssS, msA, nro, isNilS] at h; obtain ⟨rfl, rfl, rfl, rfl⟩ := h; refine ⟨?_, ?_⟩)
    | ((with_reducible refine Ob.mk ?_); first | exact trivial | (intros; omega) | ((repeat' first | apply And.intro | (intro hg; have hg' := hg; try simp only [Bool.and_eq_false_iff, decide_eq_true_eq, decide_eq_false_iff_not, Bool.or_eq_true, Bool.or_eq_false_iff, Bool.and_eq_true, Bool.not_eq_true', Bool.not_eq_false', not_or, Int.not_lt, Int.not_le] at hg')) <;> first | assumption | omega | (simp only [Bool.and_eq_false_iff, decide_eq_true_eq, decide_eq_false_iff_not, Bool.or_eq_true, Bool.or_eq_false_iff, Bool.and_eq_true, Bool.not_eq_true', Bool.not_eq_false', not_or, Int.not_lt, Int.not_le]; omega)))
  · have hrr : r < rw.length := by omega
    have h1 := hrb r hrr
    exact Ob.mk ⟨⟨h1, by omega, by omega⟩, hS1, hS2, hS3, hS4, hok _ (by omega), hpr.1⟩
  · have hrr : r < rw.length := by omega
    have h1 := hrb r hrr
    simp only [peta]
    rw [← hask r hrr]
    have hcd : (((r : Int) = 0 ∨ (o.getD v 0 = 0 ∧ lssI (deM many (A r)) (if r = 0 then (false, []) else deM many (B r)) < 0)) ∨ (o.getD v 0 = 1 ∧ 0 < lssI (deM many (A r)) (if r = 0 then (false, []) else deM many (B r)))) ↔ (r = 0 ∨ (o.getD v 0 = 0 ∧ A r < B r) ∨ (o.getD v 0 ≠ 0 ∧ B r < A r)) := by
      by_cases hr0 : r = 0
      · exact ⟨fun _ => .inl hr0, fun _ => .inl (.inl (by omega))⟩
      · have h2 := haskb r hrr
        have h3 := hbb r hr (by omega)
        obtain ⟨l1, l2⟩ := lssI_V hS4 h2.1 h2.2 h3.1 h3.2
        rw [if_neg hr0, l1, l2]
        omega
    have hlm : r ≠ 0 → (deM many (A r)).1 = false → (if r = 0 then (false, []) else deM many (B r)).1 = false → (deM many (A r)).2.length = (if r = 0 then (false, []) else deM many (B r)).2.length := fun hr0 g1 g2 => by
      have h2 := haskb r hrr
      have h3 := hbb r hr (by omega)
      rw [if_neg hr0] at g2 ⊢
      rcases deM_cases hS4 h2.1 h2.2 with ⟨_, a2⟩ | ⟨_, a2, _, a4⟩
      · rw [a2] at g1; cases g1
      · rcases deM_cases hS4 h3.1 h3.2 with ⟨_, b2⟩ | ⟨_, b2, _, b4⟩
        · rw [b2] at g2; cases g2
        · rw [a4, b4]; exact (wfL_len a2).trans (wfL_len b2).symm
    have hbn := hb1 r
    have hv2 : (0 : Int) ≤ v ∧ (v : Int) < o.length := by omega
    generalize hO : (if r = 0 then (false, []) else deM many (B r)) = O at *
    generalize hM : deM many (A r) = M at *
    repeat' first
      | with_reducible first | refine awp_seq ?_ | refine awp_block ?_ | refine next_then ?_ | refine next_block ?_ | refine exit_then ?_ | refine ret_then ?_ | refine ret_block ?_ | refine exit_here ?_ | refine awp_exit ?_ | refine awp_ret ?_ | refine awp_skip ?_ | refine awp_label ?_ | refine next_noGoto ?_ | refine ret_noGoto ?_ | refine exit_noGoto ?_ | refine awp_scope ?_
      | ((with_reducible refine exit_past ?_ ?_); exact rfl)
      | ((with_reducible refine isCond ?_); refine awp_condO rfl ?_ ?_ <;> intro hb <;> (try simp only [Bool.and_eq_false_iff, decide_eq_true_eq, decide_eq_false_iff_not, Bool.or_eq_true, Bool.or_eq_false_iff, Bool.and_eq_true, Bool.not_eq_true', Bool.not_eq_false', not_or, Int.not_lt, Int.not_le] at hb))
      | ((with_reducible refine isReg ?_); (first | refine awp_textM htb hmz spNe_ok (fun _ => false) rfl rfl ?_ | refine awp_drawM hmo htb hmz spNe_ok (fun _ => false) rfl rfl (by kernel_rfl) ?_); intro m' e' l' ob h; simp only [evOut, evStep, evCap, evMap, isIntS, gua, eq_self, evo, ev1, evx, evp, ofP, guardOf, opv, lke_cons, lke_nil, lkr_nil, lkr_cons, isC, isCC, isCL, men, putE, setW, set1, del, evLoad, evField, evIndex, evBin, lenOf, evSlice, bnd, cutI, subv, selv, isV, isAg, cellsL, lenL, properL, nthL, dropL, takeL, appL, setL, updv, tb, TI.isStr, strip, gd, gds, whnR, evPick, evStore, stBox, evApp, evAppS, List.getD_cons_zero, srcI, srcB, srcR, evBuildS, evTake, makeB, isNilS, partsOK, elemsOf, collI, collB, collII, allC, allN, fillL, evCut, evFz, lko, z0, renB, z1, z2, z3, z4, notD, chkG, evCopy, evCall, ofSR, viewA, lsOf, ofL, zfree, zfreeB, freeB, isOne, ren, zipE, Op.operands, Call.operands, Nat.reduceAdd, Nat.reduceSub, Nat.reduceMul, Nat.reduceEqDiff, Nat.reduceLeDiff, Nat.reduceLT, Nat.reduceBEq, Nat.reduceBNe, ↓reduceIte, reduceIte, nbeq, nble, nblt, z5, z6, z7, z8, z9, z10, z11, z12, z13, z14, z15, z16, z17, z18, z19, z20, z21, z22, z23, z24, z25, z26, z27, z28, z29, z30, z31, z32, z33, z34, z35, z36, z37, imp_self, forall_const, z38, EO.mk.injEq, z39, z40, z41, z42, z43, z44, z45, z46, z47, z48, z49, z50, ne_eq, z51, z52, z53, z54, z55, z56, z57, inI, evRes, resV, mkL, ltK, rhoL, leE, leR, menB, menE, fzA, fzE, fzB, fzR, spNe, nextS, lssS, msA, nro, isNilS] at h; obtain ⟨rfl, rfl, rfl, rfl⟩ := h; refine ⟨?_, ?_⟩)
      | ((with_reducible refine Ob.mk ?_); first | exact trivial | (intros; omega) | ((repeat' first | apply And.intro | (intro hg; have hg' := hg; try simp only [Bool.and_eq_false_iff, decide_eq_true_eq, decide_eq_false_iff_not, Bool.or_eq_true, Bool.or_eq_false_iff, Bool.and_eq_true, Bool.not_eq_true', Bool.not_eq_false', not_or, Int.not_lt, Int.not_le] at hg')) <;> first | assumption | omega | (simp only [Bool.and_eq_false_iff, decide_eq_true_eq, decide_eq_false_iff_not, Bool.or_eq_true, Bool.or_eq_false_iff, Bool.and_eq_true, Bool.not_eq_true', Bool.not_eq_false', not_or, Int.not_lt, Int.not_le]; omega)))
    · refine Ob.mk ?_
      by_cases hr0 : r = 0
      · have e : decide ((r : Int) = 0) = true := by simp [hr0]
        simp only [e, Bool.not_true, Bool.false_and, Bool.true_or, Bool.true_eq_false, Bool.false_eq_true, false_implies, and_self]
      · have e : decide ((r : Int) = 0) = false := by simp [hr0]
        have hl := eq_true (hlm hr0)
        simp only [e, hl, eq_true hv2, Bool.not_false, Bool.true_and, Bool.false_or, and_true, true_and, implies_true]
        generalize decide (o.getD v 0 = 0) = b1
        generalize decide (lssI (M.1, M.2) (O.1, O.2) < 0) = b2
        generalize decide (o.getD v 0 = 1) = b3
        cases b1 <;> cases b2 <;> cases b3 <;> decide
    · have hc := hcd.1 hb
      rw [if_pos hc] at hbn
      refine back (r + 1) [] ?_ (by omega) (by omega)
      (refine ⟨rfl, ?_, ?_⟩ <;> simp only [evOut, evStep, evCap, evMap, isIntS, gua, eq_self, evo, ev1, evx, evp, ofP, guardOf, opv, lke_cons, lke_nil, lkr_nil, lkr_cons, isC, isCC, isCL, men, putE, setW, set1, del, evLoad, evField, evIndex, evBin, lenOf, evSlice, bnd, cutI, subv, selv, isV, isAg, cellsL, lenL, properL, nthL, dropL, takeL, appL, setL, updv, tb, TI.isStr, strip, gd, gds, whnR, evPick, evStore, stBox, evApp, evAppS, List.getD_cons_zero, srcI, srcB, srcR, evBuildS, evTake, makeB, isNilS, partsOK, elemsOf, collI, collB, collII, allC, allN, fillL, evCut, evFz, lko, z0, renB, z1, z2, z3, z4, notD, chkG, evCopy, evCall, ofSR, viewA, lsOf, ofL, zfree, zfreeB, freeB, isOne, ren, zipE, Op.operands, Call.operands, Nat.reduceAdd, Nat.reduceSub, Nat.reduceMul, Nat.reduceEqDiff, Nat.reduceLeDiff, Nat.reduceLT, Nat.reduceBEq, Nat.reduceBNe, ↓reduceIte, reduceIte, nbeq, nble, nblt, z5, z6, z7, z8, z9, z10, z11, z12, z13, z14, z15, z16, z17, z18, z19, z20, z21, z22, z23, z24, z25, z26, z27, z28, z29, z30, z31, z32, z33, z34, z35, z36, z37, imp_self, forall_const, z38, EO.mk.injEq, z39, z40, z41, z42, z43, z44, z45, z46, z47, z48, z49, z50, ne_eq, z51, z52, z53, z54, z55, z56, z57, inI, evRes, resV, mkL, ltK, rhoL, leE, leR, menB, menE, fzA, fzE, fzB, fzR, spNe, nextS, lssS, msA, nro, isNilS, AV.int.injEq, AV.bool.injEq, AV.roI.injEq, AV.roB.injEq, AV.roII.injEq, AV.rop.injEq, AV.agg.injEq, AV.tup.injEq, AV.cons.injEq, AV.own.injEq, AV.whn.injEq, Blk.ints.injEq, Blk.bools.injEq, Blk.rows.injEq, Blk.rowsR.injEq, Blk.box.injEq, Option.some.injEq, Int.natCast_add, Int.natCast_one, Int.cast_ofNat_Int])
      rw [hbn, hM]
      exact ⟨rfl, rfl⟩
    · have hc : ¬ (r = 0 ∨ (o.getD v 0 = 0 ∧ A r < B r) ∨ (o.getD v 0 ≠ 0 ∧ B r < A r)) := fun h => by
        rcases hcd.2 h with (h | ⟨h, h'⟩) | ⟨h, h'⟩
        · exact hb.1.1 h
        · rcases hb.1.2 with h3 | h3
          · exact h3 h
          · rw [show lssI M O = lssI (M.1, M.2) (O.1, O.2) from rfl] at h'; omega
        · rcases hb.2 with h3 | h3
          · exact h3 h
          · rw [show lssI M O = lssI (M.1, M.2) (O.1, O.2) from rfl] at h'; omega
      rw [if_neg hc] at hbn
      have hr0 : r ≠ 0 := fun e => hc (.inl e)
      rw [if_neg hr0] at hO
      refine back (r + 1) [] ?_ (by omega) (by omega)
      (refine ⟨rfl, ?_, ?_⟩ <;> simp only [evOut, evStep, evCap, evMap, isIntS, gua, eq_self, evo, ev1, evx, evp, ofP, guardOf, opv, lke_cons, lke_nil, lkr_nil, lkr_cons, isC, isCC, isCL, men, putE, setW, set1, del, evLoad, evField, evIndex, evBin, lenOf, evSlice, bnd, cutI, subv, selv, isV, isAg, cellsL, lenL, properL, nthL, dropL, takeL, appL, setL, updv, tb, TI.isStr, strip, gd, gds, whnR, evPick, evStore, stBox, evApp, evAppS, List.getD_cons_zero, srcI, srcB, srcR, evBuildS, evTake, makeB, isNilS, partsOK, elemsOf, collI, collB, collII, allC, allN, fillL, evCut, evFz, lko, z0, renB, z1, z2, z3, z4, notD, chkG, evCopy, evCall, ofSR, viewA, lsOf, ofL, zfree, zfreeB, freeB, isOne, ren, zipE, Op.operands, Call.operands, Nat.reduceAdd, Nat.reduceSub, Nat.reduceMul, Nat.reduceEqDiff, Nat.reduceLeDiff, Nat.reduceLT, Nat.reduceBEq, Nat.reduceBNe, ↓reduceIte, reduceIte, nbeq, nble, nblt, z5, z6, z7, z8, z9, z10, z11, z12, z13, z14, z15, z16, z17, z18, z19, z20, z21, z22, z23, z24, z25, z26, z27, z28, z29, z30, z31, z32, z33, z34, z35, z36, z37, imp_self, forall_const, z38, EO.mk.injEq, z39, z40, z41, z42, z43, z44, z45, z46, z47, z48, z49, z50, ne_eq, z51, z52, z53, z54, z55, z56, z57, inI, evRes, resV, mkL, ltK, rhoL, leE, leR, menB, menE, fzA, fzE, fzB, fzR, spNe, nextS, lssS, msA, nro, isNilS, AV.int.injEq, AV.bool.injEq, AV.roI.injEq, AV.roB.injEq, AV.roII.injEq, AV.rop.injEq, AV.agg.injEq, AV.tup.injEq, AV.cons.injEq, AV.own.injEq, AV.whn.injEq, Blk.ints.injEq, Blk.bools.injEq, Blk.rows.injEq, Blk.rowsR.injEq, Blk.box.injEq, Option.some.injEq, Int.natCast_add, Int.natCast_one, Int.cast_ofNat_Int])
      rw [hbn, hO]
      exact ⟨rfl, rfl⟩
  have hre : r = rw.length := by omega
  subst hre
  rw [if_neg (by omega)]
  repeat' first
    | with_reducible first | refine awp_seq ?_ | refine awp_block ?_ | refine next_then ?_ | refine next_block ?_ | refine exit_then ?_ | refine ret_then ?_ | refine ret_block ?_ | refine exit_here ?_ | refine awp_exit ?_ | refine awp_ret ?_ | refine awp_skip ?_ | refine awp_label ?_ | refine next_noGoto ?_ | refine ret_noGoto ?_ | refine exit_noGoto ?_ | refine awp_scope ?_
    | ((with_reducible refine exit_past ?_ ?_); exact rfl)
    | ((with_reducible refine isCond ?_); refine awp_condO rfl ?_ ?_ <;> intro hb <;> (try simp only [Bool.and_eq_false_iff, decide_eq_true_eq, decide_eq_false_iff_not, Bool.or_eq_true, Bool.or_eq_false_iff, Bool.and_eq_true, Bool.not_eq_true', Bool.not_eq_false', not_or, Int.not_lt, Int.not_le] at hb))
    | ((with_reducible refine isReg ?_); (first | refine awp_textM htb hmz spNe_ok (fun _ => false) rfl rfl ?_ | refine awp_drawM hmo htb hmz spNe_ok (fun _ => false) rfl rfl (by kernel_rfl) ?_); intro m' e' l' ob h; simp only [evOut, evStep, evCap, evMap, isIntS, gua, eq_self, evo, ev1, evx, evp, ofP, guardOf, opv, lke_cons, lke_nil, lkr_nil, lkr_cons, isC, isCC, isCL, men, putE, setW, set1, del, evLoad, evField, evIndex, evBin, lenOf, evSlice, bnd, cutI, subv, selv, isV, isAg, cellsL, lenL, properL, nthL, dropL, takeL, appL, setL, updv, tb, TI.isStr, strip, gd, gds, whnR, evPick, evStore, stBox, evApp, evAppS, List.getD_cons_zero, srcI, srcB, srcR, evBuildS, evTake, makeB, isNilS, partsOK, elemsOf, collI, collB, collII, allC, allN, fillL, evCut, evFz, lko, z0, renB, z1, z2, z3, z4, notD, chkG, evCopy, evCall, ofSR, viewA, lsOf, ofL, zfree, zfreeB, freeB, isOne, ren, zipE, Op.operands, Call.operands, Nat.reduceAdd, Nat.reduceSub, Nat.reduceMul, Nat.reduceEqDiff, Nat.reduceLeDiff, Nat.reduceLT, Nat.reduceBEq, Nat.reduceBNe, ↓reduceIte, reduceIte, nbeq, nble, nblt, z5, z6, z7, z8, z9, z10, z11, z12, z13, z14, z15, z16, z17, z18, z19, z20, z21, z22, z23, z24, z25, z26, z27, z28, z29, z30, z31, z32, z33, z34, z35, z36, z37, imp_self, forall_const, z38, EO.mk.injEq, z39, z40, z41, z42, z43, z44, z45, z46, z47, z48, z49, z50, ne_eq, z51, z52, z53, z54, z55, z56, z57, inI, evRes, resV, mkL, ltK, rhoL, leE, leR, menB, menE, fzA, fzE, fzB, fzR, spNe, nextS, lssS, msA, nro, isNilS] at h; obtain ⟨rfl, rfl, rfl, rfl⟩ := h; refine ⟨?_, ?_⟩)
    | ((with_reducible refine Ob.mk ?_); first | exact trivial | (intros; omega) | ((repeat' first | apply And.intro | (intro hg; have hg' := hg; try simp only [Bool.and_eq_false_iff, decide_eq_true_eq, decide_eq_false_iff_not, Bool.or_eq_true, Bool.or_eq_false_iff, Bool.and_eq_true, Bool.not_eq_true', Bool.not_eq_false', not_or, Int.not_lt, Int.not_le] at hg')) <;> first | assumption | omega | (simp only [Bool.and_eq_false_iff, decide_eq_true_eq, decide_eq_false_iff_not, Bool.or_eq_true, Bool.or_eq_false_iff, Bool.and_eq_true, Bool.not_eq_true', Bool.not_eq_false', not_or, Int.not_lt, Int.not_le]; omega)))
  refine fin_ret rfl rfl (spec_flat rfl ?_ rfl)
  rfl

end Go.Proofs.Ytgminhedbeblpaa.Cal
