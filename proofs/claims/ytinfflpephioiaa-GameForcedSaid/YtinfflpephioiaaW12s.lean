/- What the walk finds: the same, layer by layer. -/
import Derived.Test.YtinfflpephioiaaW12r
set_option linter.unusedVariables false
set_option linter.unusedSimpArgs false
namespace Go.Proofs.Ytinfflpephioiaa.Cal
open Go Pl

noncomputable def forS : Spec
  | [.agg (.cons (.roI o) (.cons (.roI p) (.cons (.roII x) .nil))), .int .i64 q, .roB to] => some ⟨validB ⟨o, p, x⟩ = true ∧ to.length = o.length, .roI (rankOf ⟨o, p, x⟩ q to), none⟩
  | _ => none
structure FS where
  st : List Int
  k : Nat
def someB (S l : List Int) : Bool := l.any fun t => decide (0 ≤ S.getD t.toNat 0)
def allB (S l : List Int) : Bool := l.all fun t => decide (0 ≤ S.getD t.toNat 0)
theorem someB_iff {x : List (List Int)} {S : List Int} {u : Nat} : someB S (x.getD u []) = true ↔ ∃ t, t ∈ sc x u ∧ 0 ≤ S.getD t 0 := by
  unfold someB sc
  rw [List.any_eq_true]
  constructor
  · rintro ⟨t, h1, h2⟩; exact ⟨t.toNat, List.mem_map.2 ⟨t, h1, rfl⟩, of_decide_eq_true h2⟩
  · rintro ⟨t, h1, h2⟩
    obtain ⟨a, ha, rfl⟩ := List.mem_map.1 h1
    exact ⟨a, ha, decide_eq_true h2⟩
theorem allB_iff {x : List (List Int)} {S : List Int} {u : Nat} : allB S (x.getD u []) = true ↔ ∀ t, t ∈ sc x u → 0 ≤ S.getD t 0 := by
  unfold allB sc
  rw [List.all_eq_true]
  constructor
  · intro h t ht
    obtain ⟨a, ha, rfl⟩ := List.mem_map.1 ht
    exact of_decide_eq_true (h a ha)
  · intro h t ht
    exact decide_eq_true (h t.toNat (List.mem_map.2 ⟨t, ht, rfl⟩))
theorem someB_succ {S l : List Int} {r : Nat} (h : r < l.length) : someB S (l.take (r + 1)) = (someB S (l.take r) || decide (0 ≤ S.getD (l.getD r 0).toNat 0)) := by
  unfold someB; rw [take1 (d := 0) h, List.any_append]; simp
theorem allB_succ {S l : List Int} {r : Nat} (h : r < l.length) : allB S (l.take (r + 1)) = (allB S (l.take r) && decide (0 ≤ S.getD (l.getD r 0).toNat 0)) := by
  unfold allB; rw [take1 (d := 0) h, List.all_append]; simp
open Classical in
noncomputable def moreB (g : Gm) (p : Int) (S : List Int) (v : Nat) : Bool := decide (∃ u, u < v ∧ S.getD u 0 < 0 ∧ trig g p S u)
theorem moreB_iff0 {g : Gm} {p : Int} {S : List Int} {v : Nat} : moreB g p S v = true ↔ ∃ u, u < v ∧ S.getD u 0 < 0 ∧ trig g p S u := by
  classical
  unfold moreB
  exact decide_eq_true_iff
theorem moreB_skip {g : Gm} {p : Int} {S : List Int} {v : Nat} (h : ¬ (S.getD v 0 < 0 ∧ trig g p S v)) : moreB g p S (v + 1) = moreB g p S v := by
  refine Bool.eq_iff_iff.2 ?_
  rw [moreB_iff0, moreB_iff0]
  refine ⟨fun ⟨u, h1, h2⟩ => ?_, fun ⟨u, h1, h2⟩ => ⟨u, by omega, h2⟩⟩
  rcases Nat.lt_succ_iff_lt_or_eq.1 h1 with h3 | rfl
  · exact ⟨u, h3, h2⟩
  · exact absurd h2 h
theorem moreB_hit {g : Gm} {p : Int} {S : List Int} {v : Nat} (h : S.getD v 0 < 0 ∧ trig g p S v) : moreB g p S (v + 1) = true := by
  classical
  unfold moreB
  exact decide_eq_true ⟨v, Nat.lt_succ_self v, h⟩
theorem moreB_zero {g : Gm} {p : Int} {S : List Int} : moreB g p S 0 = false := by
  classical
  unfold moreB
  exact decide_eq_false fun ⟨u, h, _⟩ => Nat.not_lt_zero u h
theorem moreB_iff {g : Gm} {p : Int} {S : List Int} {v : Nat} : moreB g p S v = true ↔ ∃ u, u < v ∧ S.getD u 0 < 0 ∧ trig g p S u := by
  classical
  unfold moreB
  exact decide_eq_true_iff
theorem newS_hit {g : Gm} {p : Int} {S : List Int} {v : Nat} {k : Int} (h : S.getD v 0 < 0 ∧ trig g p S v) : newS g p S k v = k := by unfold newS; rw [if_pos h]
theorem newS_skip {g : Gm} {p : Int} {S : List Int} {v : Nat} {k : Int} (h : ¬ (S.getD v 0 < 0 ∧ trig g p S v)) : newS g p S k v = S.getD v 0 := by unfold newS; rw [if_neg h]

set_option maxRecDepth 4000 in
set_option maxHeartbeats 4000000 in
theorem forced_ok : FSpec Try.prog 29 forS := by
  refine fspec_of htb (fn := Try.f29) (by kernel_rfl) (by kernel_rfl) rfl (fun args r hS => ?_) (fun args r hS hob hl => ?_)
  · unfold forS at hS; split at hS <;> first | (cases hS; done) | (cases hS; exact Nat.le_of_ble_eq_true rfl)
  unfold forS at hS
  split at hS
  case h_2 => cases hS
  rename_i o p x pl to
  simp only [Option.some.injEq] at hS
  subst hS
  simp only [lenP, mkL, lim] at hl
  dsimp only at hob
  obtain ⟨hv, htl⟩ := hob
  have hV := validB_iff.1 hv
  obtain ⟨hn, hpl, hxl, hpos⟩ := id hV
  simp only [Gm.n] at hn hpl hxl
  have hrl : ∀ v, v < o.length → (x.getD v []).length ≤ 64 := fun v h => by
    obtain ⟨⟨a1, a2, a3, a4, _, a6⟩, _⟩ := hpos v (by simp only [Gm.n]; omega)
    exact a6
  have hrb : ∀ v, v < o.length → ∀ j, j < (x.getD v []).length → 0 ≤ (x.getD v []).getD j 0 ∧ (x.getD v []).getD j 0 < o.length := fun v h j hj => by
    obtain ⟨_, hr⟩ := hpos v (by simp only [Gm.n]; omega)
    exact ⟨(hr j hj).1, (hr j hj).2.1⟩
  repeat' first
    | with_reducible refine awp_seq ?_
    | with_reducible refine awp_block ?_
    | with_reducible refine next_then ?_
    | with_reducible refine next_block ?_
    | with_reducible refine exit_then ?_
    | with_reducible refine ret_then ?_
    | with_reducible refine ret_block ?_
    | with_reducible refine exit_here ?_
    | with_reducible refine awp_exit ?_
    | with_reducible refine awp_ret ?_
    | with_reducible refine awp_skip ?_
    | with_reducible refine awp_label ?_
    | with_reducible refine next_noGoto ?_
    | with_reducible refine ret_noGoto ?_
    | with_reducible refine exit_noGoto ?_
    | with_reducible refine awp_scope ?_
    | ((with_reducible refine exit_past ?_ ?_); exact rfl)
    | ((with_reducible refine isCond ?_); refine awp_condO rfl ?_ ?_ <;> intro hb <;> (try simp only [Bool.and_eq_false_iff, decide_eq_true_eq, decide_eq_false_iff_not, Bool.or_eq_true, Bool.or_eq_false_iff, Bool.and_eq_true, Bool.not_eq_true', Bool.not_eq_false', not_or, Int.not_lt, Int.not_le] at hb))
    | ((with_reducible refine isReg ?_); (first | refine awp_textM htb hmz noSp (fun _ => false) rfl rfl ?_ | refine awp_drawM hmo htb hmz noSp (fun _ => false) rfl rfl (by kernel_rfl) ?_); intro m' e' l' ob h; simp only [evOut, evStep, eq_self, evo, ev1, evx, evp, ofP, guardOf, opv, lke_cons, lke_nil, lkr_nil, lkr_cons, isC, isCC, isCL, men, putE, setW, set1, del, evLoad, evField, evIndex, evBin, lenOf, evSlice, bnd, cutI, subv, selv, isV, isAg, cellsL, lenL, properL, nthL, dropL, takeL, appL, setL, updv, tb, TI.isStr, strip, gd, gds, whnR, evPick, evStore, stBox, evApp, srcI, srcB, srcR, evBuildS, evTake, makeB, isNilS, partsOK, elemsOf, collI, collB, collII, allC, allN, fillL, evFz, lko, Option.isNone_none, renB, List.length_set, List.length_nil, Nat.sub_zero, Nat.add_zero, notD, chkG, evCopy, evCall, ofSR, viewA, lsOf, ofL, appL, zfree, zfreeB, freeB, isOne, ren, zipE, Op.operands, Call.operands, Nat.reduceAdd, Nat.reduceSub, Nat.reduceMul, Nat.reduceEqDiff, Nat.reduceLeDiff, Nat.reduceLT, Nat.reduceBEq, Nat.reduceBNe, ↓reduceIte, reduceIte, nbeq, nble, nblt, decide_true, decide_false, Bool.not_false, Bool.not_true, Bool.and_true, Bool.true_and, Bool.and_false, Bool.false_and, Bool.and_self, Bool.or_true, Bool.true_or, Bool.or_false, Bool.false_or, Bool.or_self, cond_true, cond_false, List.toList_toArray, List.map_cons, List.map_nil, List.getElem?_cons_zero, List.getElem?_cons_succ, Option.map_some, Option.map_none, List.zipIdx_nil, List.zipIdx_cons, List.all_nil, List.all_cons, List.isEmpty_nil, List.isEmpty_cons, List.cons_append, List.nil_append, true_and, and_true, imp_self, forall_const, implies_true, EO.mk.injEq, Bool.false_eq_true, Bool.true_eq_false, List.length_cons, List.length_nil, Array.toList_append, Bool.not_eq_true', Bool.not_eq_false', Bool.cond_true_left, Bool.cond_false_right, Bool.cond_false_left, Bool.cond_true_right, and_self, Bool.not_not, ne_eq, not_true_eq_false, not_false_eq_true, Int.toNat_natCast, Int.toNat_zero, Int.toNat_one, List.take_length, List.drop_zero, inI, evRes, resV, mkL, ltK, rhoL, leE, leR, menB, renB, menE, fzA, fzE, fzB, fzR] at h; obtain ⟨rfl, rfl, rfl, rfl⟩ := h; refine ⟨?_, ?_⟩)
    | ((with_reducible refine Ob.mk ?_); first | exact trivial | (intros; omega) | ((repeat' first | apply And.intro | (intro hg; have hg' := hg; try simp only [Bool.and_eq_false_iff, decide_eq_true_eq, decide_eq_false_iff_not, Bool.or_eq_true, Bool.or_eq_false_iff, Bool.and_eq_true, Bool.not_eq_true', Bool.not_eq_false', not_or, Int.not_lt, Int.not_le] at hg')) <;> first | assumption | omega | (simp only [Bool.and_eq_false_iff, decide_eq_true_eq, decide_eq_false_iff_not, Bool.or_eq_true, Bool.or_eq_false_iff, Bool.and_eq_true, Bool.not_eq_true', Bool.not_eq_false', not_or, Int.not_lt, Int.not_le]; omega)))
  refine awp_loopC (τ := Nat) (fun v => v ≤ o.length) (fun v => ⟨10, [(23, .int .i64 v), (22, .int .i64 o.length), (7, .own 5), (6, .cst (.slice none 0 0)), (3, .rop (.agg (.cons (.roI o) (.cons (.roI p) (.cons (.roII x) .nil))))), (1, .int .i64 pl), (2, .roB to)],
    [(5, some (.ints (mix (fun v => if to.getD v false = true then 0 else -1) (fun _ => 0) o.length v)))], []⟩) (fun v => o.length - v) 0 [] ?_ (Nat.zero_le _) ?_
  · refine ⟨rfl, ?_, ?_⟩ <;> simp only [evOut, evStep, eq_self, evo, ev1, evx, evp, ofP, guardOf, opv, lke_cons, lke_nil, lkr_nil, lkr_cons, isC, isCC, isCL, men, putE, setW, set1, del, evLoad, evField, evIndex, evBin, lenOf, evSlice, bnd, cutI, subv, selv, isV, isAg, cellsL, lenL, properL, nthL, dropL, takeL, appL, setL, updv, tb, TI.isStr, strip, gd, gds, whnR, evPick, evStore, stBox, evApp, srcI, srcB, srcR, evBuildS, evTake, makeB, isNilS, partsOK, elemsOf, collI, collB, collII, allC, allN, fillL, evFz, lko, Option.isNone_none, renB, List.length_set, List.length_nil, Nat.sub_zero, Nat.add_zero, notD, chkG, evCopy, evCall, ofSR, viewA, lsOf, ofL, appL, zfree, zfreeB, freeB, isOne, ren, zipE, Op.operands, Call.operands, Nat.reduceAdd, Nat.reduceSub, Nat.reduceMul, Nat.reduceEqDiff, Nat.reduceLeDiff, Nat.reduceLT, Nat.reduceBEq, Nat.reduceBNe, ↓reduceIte, reduceIte, nbeq, nble, nblt, decide_true, decide_false, Bool.not_false, Bool.not_true, Bool.and_true, Bool.true_and, Bool.and_false, Bool.false_and, Bool.and_self, Bool.or_true, Bool.true_or, Bool.or_false, Bool.false_or, Bool.or_self, cond_true, cond_false, List.toList_toArray, List.map_cons, List.map_nil, List.getElem?_cons_zero, List.getElem?_cons_succ, Option.map_some, Option.map_none, List.zipIdx_nil, List.zipIdx_cons, List.all_nil, List.all_cons, List.isEmpty_nil, List.isEmpty_cons, List.cons_append, List.nil_append, true_and, and_true, imp_self, forall_const, implies_true, EO.mk.injEq, Bool.false_eq_true, Bool.true_eq_false, List.length_cons, List.length_nil, Array.toList_append, Bool.not_eq_true', Bool.not_eq_false', Bool.cond_true_left, Bool.cond_false_right, Bool.cond_false_left, Bool.cond_true_right, and_self, Bool.not_not, ne_eq, not_true_eq_false, not_false_eq_true, Int.toNat_natCast, Int.toNat_zero, Int.toNat_one, List.take_length, List.drop_zero, inI, evRes, resV, mkL, ltK, rhoL, leE, leR, menB, renB, menE, fzA, fzE, fzB, fzR, AV.int.injEq, AV.bool.injEq, AV.roI.injEq, AV.roB.injEq, AV.roII.injEq, AV.rop.injEq, AV.agg.injEq, AV.tup.injEq, AV.cons.injEq, AV.own.injEq, AV.whn.injEq, Blk.ints.injEq, Blk.bools.injEq, Blk.rows.injEq, Blk.rowsR.injEq, Blk.box.injEq, Option.some.injEq, Int.natCast_add, Int.natCast_one, Int.cast_ofNat_Int, List.length_replicate]
    exact List.ext_getElem (by simp [mix]) fun j h1 h2 => by simp [mix]
  intro v hvn
  have hm1 : (mix (fun v => if to.getD v false = true then (0 : Int) else -1) (fun _ => 0) o.length v).length = o.length := mix_len
  repeat' first
    | with_reducible refine awp_seq ?_
    | with_reducible refine awp_block ?_
    | with_reducible refine next_then ?_
    | with_reducible refine next_block ?_
    | with_reducible refine exit_then ?_
    | with_reducible refine ret_then ?_
    | with_reducible refine ret_block ?_
    | with_reducible refine exit_here ?_
    | with_reducible refine awp_exit ?_
    | with_reducible refine awp_ret ?_
    | with_reducible refine awp_skip ?_
    | with_reducible refine awp_label ?_
    | with_reducible refine next_noGoto ?_
    | with_reducible refine ret_noGoto ?_
    | with_reducible refine exit_noGoto ?_
    | with_reducible refine awp_scope ?_
    | ((with_reducible refine exit_past ?_ ?_); exact rfl)
    | ((with_reducible refine isCond ?_); refine awp_condO rfl ?_ ?_ <;> intro hb <;> (try simp only [Bool.and_eq_false_iff, decide_eq_true_eq, decide_eq_false_iff_not, Bool.or_eq_true, Bool.or_eq_false_iff, Bool.and_eq_true, Bool.not_eq_true', Bool.not_eq_false', not_or, Int.not_lt, Int.not_le] at hb))
    | ((with_reducible refine isRegS 9 ?_ ?_); (· exact rfl); (first | refine awp_textM htb hmz noSp (fun _ => false) rfl rfl ?_ | refine awp_drawM hmo htb hmz noSp (fun _ => false) rfl rfl (by kernel_rfl) ?_); intro m' e' l' ob h; simp only [evOut, evStep, eq_self, evo, ev1, evx, evp, ofP, guardOf, opv, lke_cons, lke_nil, lkr_nil, lkr_cons, isC, isCC, isCL, men, putE, setW, set1, del, evLoad, evField, evIndex, evBin, lenOf, evSlice, bnd, cutI, subv, selv, isV, isAg, cellsL, lenL, properL, nthL, dropL, takeL, appL, setL, updv, tb, TI.isStr, strip, gd, gds, whnR, evPick, evStore, stBox, evApp, srcI, srcB, srcR, evBuildS, evTake, makeB, isNilS, partsOK, elemsOf, collI, collB, collII, allC, allN, fillL, evFz, lko, Option.isNone_none, renB, List.length_set, List.length_nil, Nat.sub_zero, Nat.add_zero, notD, chkG, evCopy, evCall, ofSR, viewA, lsOf, ofL, appL, zfree, zfreeB, freeB, isOne, ren, zipE, Op.operands, Call.operands, Nat.reduceAdd, Nat.reduceSub, Nat.reduceMul, Nat.reduceEqDiff, Nat.reduceLeDiff, Nat.reduceLT, Nat.reduceBEq, Nat.reduceBNe, ↓reduceIte, reduceIte, nbeq, nble, nblt, decide_true, decide_false, Bool.not_false, Bool.not_true, Bool.and_true, Bool.true_and, Bool.and_false, Bool.false_and, Bool.and_self, Bool.or_true, Bool.true_or, Bool.or_false, Bool.false_or, Bool.or_self, cond_true, cond_false, List.toList_toArray, List.map_cons, List.map_nil, List.getElem?_cons_zero, List.getElem?_cons_succ, Option.map_some, Option.map_none, List.zipIdx_nil, List.zipIdx_cons, List.all_nil, List.all_cons, List.isEmpty_nil, List.isEmpty_cons, List.cons_append, List.nil_append, true_and, and_true, imp_self, forall_const, implies_true, EO.mk.injEq, Bool.false_eq_true, Bool.true_eq_false, List.length_cons, List.length_nil, Array.toList_append, Bool.not_eq_true', Bool.not_eq_false', Bool.cond_true_left, Bool.cond_false_right, Bool.cond_false_left, Bool.cond_true_right, and_self, Bool.not_not, ne_eq, not_true_eq_false, not_false_eq_true, Int.toNat_natCast, Int.toNat_zero, Int.toNat_one, List.take_length, List.drop_zero, inI, evRes, resV, mkL, ltK, rhoL, leE, leR, menB, renB, menE, fzA, fzE, fzB, fzR] at h; obtain ⟨rfl, rfl, rfl, rfl⟩ := h; refine ⟨?_, ?_⟩)
    | ((with_reducible refine Ob.mk ?_); first | exact trivial | (intros; omega) | ((repeat' first | apply And.intro | (intro hg; have hg' := hg; try simp only [Bool.and_eq_false_iff, decide_eq_true_eq, decide_eq_false_iff_not, Bool.or_eq_true, Bool.or_eq_false_iff, Bool.and_eq_true, Bool.not_eq_true', Bool.not_eq_false', not_or, Int.not_lt, Int.not_le] at hg')) <;> first | assumption | omega | (simp only [Bool.and_eq_false_iff, decide_eq_true_eq, decide_eq_false_iff_not, Bool.or_eq_true, Bool.or_eq_false_iff, Bool.and_eq_true, Bool.not_eq_true', Bool.not_eq_false', not_or, Int.not_lt, Int.not_le]; omega)))
  · refine back (v + 1) [] ?_ (by omega) (by omega)
    (refine ⟨rfl, ?_, ?_⟩ <;> simp only [evOut, evStep, eq_self, evo, ev1, evx, evp, ofP, guardOf, opv, lke_cons, lke_nil, lkr_nil, lkr_cons, isC, isCC, isCL, men, putE, setW, set1, del, evLoad, evField, evIndex, evBin, lenOf, evSlice, bnd, cutI, subv, selv, isV, isAg, cellsL, lenL, properL, nthL, dropL, takeL, appL, setL, updv, tb, TI.isStr, strip, gd, gds, whnR, evPick, evStore, stBox, evApp, srcI, srcB, srcR, evBuildS, evTake, makeB, isNilS, partsOK, elemsOf, collI, collB, collII, allC, allN, fillL, evFz, lko, Option.isNone_none, renB, List.length_set, List.length_nil, Nat.sub_zero, Nat.add_zero, notD, chkG, evCopy, evCall, ofSR, viewA, lsOf, ofL, appL, zfree, zfreeB, freeB, isOne, ren, zipE, Op.operands, Call.operands, Nat.reduceAdd, Nat.reduceSub, Nat.reduceMul, Nat.reduceEqDiff, Nat.reduceLeDiff, Nat.reduceLT, Nat.reduceBEq, Nat.reduceBNe, ↓reduceIte, reduceIte, nbeq, nble, nblt, decide_true, decide_false, Bool.not_false, Bool.not_true, Bool.and_true, Bool.true_and, Bool.and_false, Bool.false_and, Bool.and_self, Bool.or_true, Bool.true_or, Bool.or_false, Bool.false_or, Bool.or_self, cond_true, cond_false, List.toList_toArray, List.map_cons, List.map_nil, List.getElem?_cons_zero, List.getElem?_cons_succ, Option.map_some, Option.map_none, List.zipIdx_nil, List.zipIdx_cons, List.all_nil, List.all_cons, List.isEmpty_nil, List.isEmpty_cons, List.cons_append, List.nil_append, true_and, and_true, imp_self, forall_const, implies_true, EO.mk.injEq, Bool.false_eq_true, Bool.true_eq_false, List.length_cons, List.length_nil, Array.toList_append, Bool.not_eq_true', Bool.not_eq_false', Bool.cond_true_left, Bool.cond_false_right, Bool.cond_false_left, Bool.cond_true_right, and_self, Bool.not_not, ne_eq, not_true_eq_false, not_false_eq_true, Int.toNat_natCast, Int.toNat_zero, Int.toNat_one, List.take_length, List.drop_zero, inI, evRes, resV, mkL, ltK, rhoL, leE, leR, menB, renB, menE, fzA, fzE, fzB, fzR, AV.int.injEq, AV.bool.injEq, AV.roI.injEq, AV.roB.injEq, AV.roII.injEq, AV.rop.injEq, AV.agg.injEq, AV.tup.injEq, AV.cons.injEq, AV.own.injEq, AV.whn.injEq, Blk.ints.injEq, Blk.bools.injEq, Blk.rows.injEq, Blk.rowsR.injEq, Blk.box.injEq, Option.some.injEq, Int.natCast_add, Int.natCast_one, Int.cast_ofNat_Int])
    rw [List.set_set]
    refine Eq.trans ?_ mix_set
    rw [if_pos hb]
  · refine back (v + 1) [] ?_ (by omega) (by omega)
    (refine ⟨rfl, ?_, ?_⟩ <;> simp only [evOut, evStep, eq_self, evo, ev1, evx, evp, ofP, guardOf, opv, lke_cons, lke_nil, lkr_nil, lkr_cons, isC, isCC, isCL, men, putE, setW, set1, del, evLoad, evField, evIndex, evBin, lenOf, evSlice, bnd, cutI, subv, selv, isV, isAg, cellsL, lenL, properL, nthL, dropL, takeL, appL, setL, updv, tb, TI.isStr, strip, gd, gds, whnR, evPick, evStore, stBox, evApp, srcI, srcB, srcR, evBuildS, evTake, makeB, isNilS, partsOK, elemsOf, collI, collB, collII, allC, allN, fillL, evFz, lko, Option.isNone_none, renB, List.length_set, List.length_nil, Nat.sub_zero, Nat.add_zero, notD, chkG, evCopy, evCall, ofSR, viewA, lsOf, ofL, appL, zfree, zfreeB, freeB, isOne, ren, zipE, Op.operands, Call.operands, Nat.reduceAdd, Nat.reduceSub, Nat.reduceMul, Nat.reduceEqDiff, Nat.reduceLeDiff, Nat.reduceLT, Nat.reduceBEq, Nat.reduceBNe, ↓reduceIte, reduceIte, nbeq, nble, nblt, decide_true, decide_false, Bool.not_false, Bool.not_true, Bool.and_true, Bool.true_and, Bool.and_false, Bool.false_and, Bool.and_self, Bool.or_true, Bool.true_or, Bool.or_false, Bool.false_or, Bool.or_self, cond_true, cond_false, List.toList_toArray, List.map_cons, List.map_nil, List.getElem?_cons_zero, List.getElem?_cons_succ, Option.map_some, Option.map_none, List.zipIdx_nil, List.zipIdx_cons, List.all_nil, List.all_cons, List.isEmpty_nil, List.isEmpty_cons, List.cons_append, List.nil_append, true_and, and_true, imp_self, forall_const, implies_true, EO.mk.injEq, Bool.false_eq_true, Bool.true_eq_false, List.length_cons, List.length_nil, Array.toList_append, Bool.not_eq_true', Bool.not_eq_false', Bool.cond_true_left, Bool.cond_false_right, Bool.cond_false_left, Bool.cond_true_right, and_self, Bool.not_not, ne_eq, not_true_eq_false, not_false_eq_true, Int.toNat_natCast, Int.toNat_zero, Int.toNat_one, List.take_length, List.drop_zero, inI, evRes, resV, mkL, ltK, rhoL, leE, leR, menB, renB, menE, fzA, fzE, fzB, fzR, AV.int.injEq, AV.bool.injEq, AV.roI.injEq, AV.roB.injEq, AV.roII.injEq, AV.rop.injEq, AV.agg.injEq, AV.tup.injEq, AV.cons.injEq, AV.own.injEq, AV.whn.injEq, Blk.ints.injEq, Blk.bools.injEq, Blk.rows.injEq, Blk.rowsR.injEq, Blk.box.injEq, Option.some.injEq, Int.natCast_add, Int.natCast_one, Int.cast_ofNat_Int])
    refine Eq.trans ?_ mix_set
    rw [if_neg (by rw [hb]; decide)]
  have hve : v = o.length := by omega
  subst hve
  rw [mix_all]
  have hR0 : RK ⟨o, p, x⟩ pl to ((List.range o.length).map (fun v => if to.getD v false = true then (0 : Int) else -1)) 0 := RK_zero hV
  generalize hS0 : (List.range o.length).map (fun v => if to.getD v false = true then (0 : Int) else -1) = S0 at *
  repeat' first
    | with_reducible refine awp_seq ?_
    | with_reducible refine awp_block ?_
    | with_reducible refine next_then ?_
    | with_reducible refine next_block ?_
    | with_reducible refine exit_then ?_
    | with_reducible refine ret_then ?_
    | with_reducible refine ret_block ?_
    | with_reducible refine exit_here ?_
    | with_reducible refine awp_exit ?_
    | with_reducible refine awp_ret ?_
    | with_reducible refine awp_skip ?_
    | with_reducible refine awp_label ?_
    | with_reducible refine next_noGoto ?_
    | with_reducible refine ret_noGoto ?_
    | with_reducible refine exit_noGoto ?_
    | with_reducible refine awp_scope ?_
    | ((with_reducible refine exit_past ?_ ?_); exact rfl)
    | ((with_reducible refine isCond ?_); refine awp_condO rfl ?_ ?_ <;> intro hb <;> (try simp only [Bool.and_eq_false_iff, decide_eq_true_eq, decide_eq_false_iff_not, Bool.or_eq_true, Bool.or_eq_false_iff, Bool.and_eq_true, Bool.not_eq_true', Bool.not_eq_false', not_or, Int.not_lt, Int.not_le] at hb))
    | ((with_reducible refine isReg ?_); (first | refine awp_textM htb hmz noSp (fun _ => false) rfl rfl ?_ | refine awp_drawM hmo htb hmz noSp (fun _ => false) rfl rfl (by kernel_rfl) ?_); intro m' e' l' ob h; simp only [evOut, evStep, eq_self, evo, ev1, evx, evp, ofP, guardOf, opv, lke_cons, lke_nil, lkr_nil, lkr_cons, isC, isCC, isCL, men, putE, setW, set1, del, evLoad, evField, evIndex, evBin, lenOf, evSlice, bnd, cutI, subv, selv, isV, isAg, cellsL, lenL, properL, nthL, dropL, takeL, appL, setL, updv, tb, TI.isStr, strip, gd, gds, whnR, evPick, evStore, stBox, evApp, srcI, srcB, srcR, evBuildS, evTake, makeB, isNilS, partsOK, elemsOf, collI, collB, collII, allC, allN, fillL, evFz, lko, Option.isNone_none, renB, List.length_set, List.length_nil, Nat.sub_zero, Nat.add_zero, notD, chkG, evCopy, evCall, ofSR, viewA, lsOf, ofL, appL, zfree, zfreeB, freeB, isOne, ren, zipE, Op.operands, Call.operands, Nat.reduceAdd, Nat.reduceSub, Nat.reduceMul, Nat.reduceEqDiff, Nat.reduceLeDiff, Nat.reduceLT, Nat.reduceBEq, Nat.reduceBNe, ↓reduceIte, reduceIte, nbeq, nble, nblt, decide_true, decide_false, Bool.not_false, Bool.not_true, Bool.and_true, Bool.true_and, Bool.and_false, Bool.false_and, Bool.and_self, Bool.or_true, Bool.true_or, Bool.or_false, Bool.false_or, Bool.or_self, cond_true, cond_false, List.toList_toArray, List.map_cons, List.map_nil, List.getElem?_cons_zero, List.getElem?_cons_succ, Option.map_some, Option.map_none, List.zipIdx_nil, List.zipIdx_cons, List.all_nil, List.all_cons, List.isEmpty_nil, List.isEmpty_cons, List.cons_append, List.nil_append, true_and, and_true, imp_self, forall_const, implies_true, EO.mk.injEq, Bool.false_eq_true, Bool.true_eq_false, List.length_cons, List.length_nil, Array.toList_append, Bool.not_eq_true', Bool.not_eq_false', Bool.cond_true_left, Bool.cond_false_right, Bool.cond_false_left, Bool.cond_true_right, and_self, Bool.not_not, ne_eq, not_true_eq_false, not_false_eq_true, Int.toNat_natCast, Int.toNat_zero, Int.toNat_one, List.take_length, List.drop_zero, inI, evRes, resV, mkL, ltK, rhoL, leE, leR, menB, renB, menE, fzA, fzE, fzB, fzR] at h; obtain ⟨rfl, rfl, rfl, rfl⟩ := h; refine ⟨?_, ?_⟩)
    | ((with_reducible refine Ob.mk ?_); first | exact trivial | (intros; omega) | ((repeat' first | apply And.intro | (intro hg; have hg' := hg; try simp only [Bool.and_eq_false_iff, decide_eq_true_eq, decide_eq_false_iff_not, Bool.or_eq_true, Bool.or_eq_false_iff, Bool.and_eq_true, Bool.not_eq_true', Bool.not_eq_false', not_or, Int.not_lt, Int.not_le] at hg')) <;> first | assumption | omega | (simp only [Bool.and_eq_false_iff, decide_eq_true_eq, decide_eq_false_iff_not, Bool.or_eq_true, Bool.or_eq_false_iff, Bool.and_eq_true, Bool.not_eq_true', Bool.not_eq_false', not_or, Int.not_lt, Int.not_le]; omega)))
  refine awp_loopC (τ := FS) (fun t => RK ⟨o, p, x⟩ pl to t.st t.k) (fun t => ⟨12, [(9, .int .i64 (t.k + 1)), (7, .own 5), (6, .cst (.slice none 0 0)), (3, .rop (.agg (.cons (.roI o) (.cons (.roI p) (.cons (.roII x) .nil))))), (1, .int .i64 pl), (2, .roB to)],
    [(5, some (.ints t.st))], []⟩) (fun t => o.length - t.k) ⟨S0, 0⟩ [] ?_ hR0 ?_
  · refine ⟨rfl, ?_, ?_⟩ <;> simp only [evOut, evStep, eq_self, evo, ev1, evx, evp, ofP, guardOf, opv, lke_cons, lke_nil, lkr_nil, lkr_cons, isC, isCC, isCL, men, putE, setW, set1, del, evLoad, evField, evIndex, evBin, lenOf, evSlice, bnd, cutI, subv, selv, isV, isAg, cellsL, lenL, properL, nthL, dropL, takeL, appL, setL, updv, tb, TI.isStr, strip, gd, gds, whnR, evPick, evStore, stBox, evApp, srcI, srcB, srcR, evBuildS, evTake, makeB, isNilS, partsOK, elemsOf, collI, collB, collII, allC, allN, fillL, evFz, lko, Option.isNone_none, renB, List.length_set, List.length_nil, Nat.sub_zero, Nat.add_zero, notD, chkG, evCopy, evCall, ofSR, viewA, lsOf, ofL, appL, zfree, zfreeB, freeB, isOne, ren, zipE, Op.operands, Call.operands, Nat.reduceAdd, Nat.reduceSub, Nat.reduceMul, Nat.reduceEqDiff, Nat.reduceLeDiff, Nat.reduceLT, Nat.reduceBEq, Nat.reduceBNe, ↓reduceIte, reduceIte, nbeq, nble, nblt, decide_true, decide_false, Bool.not_false, Bool.not_true, Bool.and_true, Bool.true_and, Bool.and_false, Bool.false_and, Bool.and_self, Bool.or_true, Bool.true_or, Bool.or_false, Bool.false_or, Bool.or_self, cond_true, cond_false, List.toList_toArray, List.map_cons, List.map_nil, List.getElem?_cons_zero, List.getElem?_cons_succ, Option.map_some, Option.map_none, List.zipIdx_nil, List.zipIdx_cons, List.all_nil, List.all_cons, List.isEmpty_nil, List.isEmpty_cons, List.cons_append, List.nil_append, true_and, and_true, imp_self, forall_const, implies_true, EO.mk.injEq, Bool.false_eq_true, Bool.true_eq_false, List.length_cons, List.length_nil, Array.toList_append, Bool.not_eq_true', Bool.not_eq_false', Bool.cond_true_left, Bool.cond_false_right, Bool.cond_false_left, Bool.cond_true_right, and_self, Bool.not_not, ne_eq, not_true_eq_false, not_false_eq_true, Int.toNat_natCast, Int.toNat_zero, Int.toNat_one, List.take_length, List.drop_zero, inI, evRes, resV, mkL, ltK, rhoL, leE, leR, menB, renB, menE, fzA, fzE, fzB, fzR, AV.int.injEq, AV.bool.injEq, AV.roI.injEq, AV.roB.injEq, AV.roII.injEq, AV.rop.injEq, AV.agg.injEq, AV.tup.injEq, AV.cons.injEq, AV.own.injEq, AV.whn.injEq, Blk.ints.injEq, Blk.bools.injEq, Blk.rows.injEq, Blk.rowsR.injEq, Blk.box.injEq, Option.some.injEq, Int.natCast_add, Int.natCast_one, Int.cast_ofNat_Int]
    rfl
  rintro ⟨S, k⟩ hR
  dsimp only at hR ⊢
  have hls := hR.ls
  have hkc := hR.kc
  dsimp only at hls hkc
  repeat' first
    | with_reducible refine awp_seq ?_
    | with_reducible refine awp_block ?_
    | with_reducible refine next_then ?_
    | with_reducible refine next_block ?_
    | with_reducible refine exit_then ?_
    | with_reducible refine ret_then ?_
    | with_reducible refine ret_block ?_
    | with_reducible refine exit_here ?_
    | with_reducible refine awp_exit ?_
    | with_reducible refine awp_ret ?_
    | with_reducible refine awp_skip ?_
    | with_reducible refine awp_label ?_
    | with_reducible refine next_noGoto ?_
    | with_reducible refine ret_noGoto ?_
    | with_reducible refine exit_noGoto ?_
    | with_reducible refine awp_scope ?_
    | ((with_reducible refine exit_past ?_ ?_); exact rfl)
    | ((with_reducible refine isCond ?_); refine awp_condO rfl ?_ ?_ <;> intro hb <;> (try simp only [Bool.and_eq_false_iff, decide_eq_true_eq, decide_eq_false_iff_not, Bool.or_eq_true, Bool.or_eq_false_iff, Bool.and_eq_true, Bool.not_eq_true', Bool.not_eq_false', not_or, Int.not_lt, Int.not_le] at hb))
    | ((with_reducible refine isRegS 12 ?_ ?_); (· exact rfl); (first | refine awp_textM htb hmz noSp (fun _ => false) rfl rfl ?_ | refine awp_drawM hmo htb hmz noSp (fun _ => false) rfl rfl (by kernel_rfl) ?_); intro m' e' l' ob h; simp only [evOut, evStep, eq_self, evo, ev1, evx, evp, ofP, guardOf, opv, lke_cons, lke_nil, lkr_nil, lkr_cons, isC, isCC, isCL, men, putE, setW, set1, del, evLoad, evField, evIndex, evBin, lenOf, evSlice, bnd, cutI, subv, selv, isV, isAg, cellsL, lenL, properL, nthL, dropL, takeL, appL, setL, updv, tb, TI.isStr, strip, gd, gds, whnR, evPick, evStore, stBox, evApp, srcI, srcB, srcR, evBuildS, evTake, makeB, isNilS, partsOK, elemsOf, collI, collB, collII, allC, allN, fillL, evFz, lko, Option.isNone_none, renB, List.length_set, List.length_nil, Nat.sub_zero, Nat.add_zero, notD, chkG, evCopy, evCall, ofSR, viewA, lsOf, ofL, appL, zfree, zfreeB, freeB, isOne, ren, zipE, Op.operands, Call.operands, Nat.reduceAdd, Nat.reduceSub, Nat.reduceMul, Nat.reduceEqDiff, Nat.reduceLeDiff, Nat.reduceLT, Nat.reduceBEq, Nat.reduceBNe, ↓reduceIte, reduceIte, nbeq, nble, nblt, decide_true, decide_false, Bool.not_false, Bool.not_true, Bool.and_true, Bool.true_and, Bool.and_false, Bool.false_and, Bool.and_self, Bool.or_true, Bool.true_or, Bool.or_false, Bool.false_or, Bool.or_self, cond_true, cond_false, List.toList_toArray, List.map_cons, List.map_nil, List.getElem?_cons_zero, List.getElem?_cons_succ, Option.map_some, Option.map_none, List.zipIdx_nil, List.zipIdx_cons, List.all_nil, List.all_cons, List.isEmpty_nil, List.isEmpty_cons, List.cons_append, List.nil_append, true_and, and_true, imp_self, forall_const, implies_true, EO.mk.injEq, Bool.false_eq_true, Bool.true_eq_false, List.length_cons, List.length_nil, Array.toList_append, Bool.not_eq_true', Bool.not_eq_false', Bool.cond_true_left, Bool.cond_false_right, Bool.cond_false_left, Bool.cond_true_right, and_self, Bool.not_not, ne_eq, not_true_eq_false, not_false_eq_true, Int.toNat_natCast, Int.toNat_zero, Int.toNat_one, List.take_length, List.drop_zero, inI, evRes, resV, mkL, ltK, rhoL, leE, leR, menB, renB, menE, fzA, fzE, fzB, fzR] at h; obtain ⟨rfl, rfl, rfl, rfl⟩ := h; refine ⟨?_, ?_⟩)
    | ((with_reducible refine Ob.mk ?_); first | exact trivial | (intros; omega) | ((repeat' first | apply And.intro | (intro hg; have hg' := hg; try simp only [Bool.and_eq_false_iff, decide_eq_true_eq, decide_eq_false_iff_not, Bool.or_eq_true, Bool.or_eq_false_iff, Bool.and_eq_true, Bool.not_eq_true', Bool.not_eq_false', not_or, Int.not_lt, Int.not_le] at hg')) <;> first | assumption | omega | (simp only [Bool.and_eq_false_iff, decide_eq_true_eq, decide_eq_false_iff_not, Bool.or_eq_true, Bool.or_eq_false_iff, Bool.and_eq_true, Bool.not_eq_true', Bool.not_eq_false', not_or, Int.not_lt, Int.not_le]; omega)))
  (refine awp_textM htb hmz noSp (fun i => Nat.beq i 0 || Nat.beq i 2) rfl rfl ?_; intro m' e' l' ob h; simp only [evOut, evStep, eq_self, evo, ev1, evx, evp, ofP, guardOf, opv, lke_cons, lke_nil, lkr_nil, lkr_cons, isC, isCC, isCL, men, putE, setW, set1, del, evLoad, evField, evIndex, evBin, lenOf, evSlice, bnd, cutI, subv, selv, isV, isAg, cellsL, lenL, properL, nthL, dropL, takeL, appL, setL, updv, tb, TI.isStr, strip, gd, gds, whnR, evPick, evStore, stBox, evApp, srcI, srcB, srcR, evBuildS, evTake, makeB, isNilS, partsOK, elemsOf, collI, collB, collII, allC, allN, fillL, evFz, lko, Option.isNone_none, renB, List.length_set, List.length_nil, Nat.sub_zero, Nat.add_zero, notD, chkG, evCopy, evCall, ofSR, viewA, lsOf, ofL, appL, zfree, zfreeB, freeB, isOne, ren, zipE, Op.operands, Call.operands, Nat.reduceAdd, Nat.reduceSub, Nat.reduceMul, Nat.reduceEqDiff, Nat.reduceLeDiff, Nat.reduceLT, Nat.reduceBEq, Nat.reduceBNe, ↓reduceIte, reduceIte, nbeq, nble, nblt, decide_true, decide_false, Bool.not_false, Bool.not_true, Bool.and_true, Bool.true_and, Bool.and_false, Bool.false_and, Bool.and_self, Bool.or_true, Bool.true_or, Bool.or_false, Bool.false_or, Bool.or_self, cond_true, cond_false, List.toList_toArray, List.map_cons, List.map_nil, List.getElem?_cons_zero, List.getElem?_cons_succ, Option.map_some, Option.map_none, List.zipIdx_nil, List.zipIdx_cons, List.all_nil, List.all_cons, List.isEmpty_nil, List.isEmpty_cons, List.cons_append, List.nil_append, true_and, and_true, imp_self, forall_const, implies_true, EO.mk.injEq, Bool.false_eq_true, Bool.true_eq_false, List.length_cons, List.length_nil, Array.toList_append, Bool.not_eq_true', Bool.not_eq_false', Bool.cond_true_left, Bool.cond_false_right, Bool.cond_false_left, Bool.cond_true_right, and_self, Bool.not_not, ne_eq, not_true_eq_false, not_false_eq_true, Int.toNat_natCast, Int.toNat_zero, Int.toNat_one, List.take_length, List.drop_zero, inI, evRes, resV, mkL, ltK, rhoL, leE, leR, menB, renB, menE, fzA, fzE, fzB, fzR] at h; obtain ⟨rfl, rfl, rfl, rfl⟩ := h; refine ⟨?_, ?_⟩)
  · first | ((with_reducible refine Ob.mk ?_); first | exact trivial | (intros; omega) | ((repeat' first | apply And.intro | (intro hg; have hg' := hg; try simp only [Bool.and_eq_false_iff, decide_eq_true_eq, decide_eq_false_iff_not, Bool.or_eq_true, Bool.or_eq_false_iff, Bool.and_eq_true, Bool.not_eq_true', Bool.not_eq_false', not_or, Int.not_lt, Int.not_le] at hg')) <;> first | assumption | omega | (simp only [Bool.and_eq_false_iff, decide_eq_true_eq, decide_eq_false_iff_not, Bool.or_eq_true, Bool.or_eq_false_iff, Bool.and_eq_true, Bool.not_eq_true', Bool.not_eq_false', not_or, Int.not_lt, Int.not_le]; omega))) | skip
  repeat' first
    | with_reducible refine awp_seq ?_
    | with_reducible refine awp_block ?_
    | with_reducible refine next_then ?_
    | with_reducible refine next_block ?_
    | with_reducible refine exit_then ?_
    | with_reducible refine ret_then ?_
    | with_reducible refine ret_block ?_
    | with_reducible refine exit_here ?_
    | with_reducible refine awp_exit ?_
    | with_reducible refine awp_ret ?_
    | with_reducible refine awp_skip ?_
    | with_reducible refine awp_label ?_
    | with_reducible refine next_noGoto ?_
    | with_reducible refine ret_noGoto ?_
    | with_reducible refine exit_noGoto ?_
    | with_reducible refine awp_scope ?_
    | ((with_reducible refine exit_past ?_ ?_); exact rfl)
    | ((with_reducible refine isCond ?_); refine awp_condO rfl ?_ ?_ <;> intro hb <;> (try simp only [Bool.and_eq_false_iff, decide_eq_true_eq, decide_eq_false_iff_not, Bool.or_eq_true, Bool.or_eq_false_iff, Bool.and_eq_true, Bool.not_eq_true', Bool.not_eq_false', not_or, Int.not_lt, Int.not_le] at hb))
    | ((with_reducible refine isReg ?_); (first | refine awp_textM htb hmz noSp (fun _ => false) rfl rfl ?_ | refine awp_drawM hmo htb hmz noSp (fun _ => false) rfl rfl (by kernel_rfl) ?_); intro m' e' l' ob h; simp only [evOut, evStep, eq_self, evo, ev1, evx, evp, ofP, guardOf, opv, lke_cons, lke_nil, lkr_nil, lkr_cons, isC, isCC, isCL, men, putE, setW, set1, del, evLoad, evField, evIndex, evBin, lenOf, evSlice, bnd, cutI, subv, selv, isV, isAg, cellsL, lenL, properL, nthL, dropL, takeL, appL, setL, updv, tb, TI.isStr, strip, gd, gds, whnR, evPick, evStore, stBox, evApp, srcI, srcB, srcR, evBuildS, evTake, makeB, isNilS, partsOK, elemsOf, collI, collB, collII, allC, allN, fillL, evFz, lko, Option.isNone_none, renB, List.length_set, List.length_nil, Nat.sub_zero, Nat.add_zero, notD, chkG, evCopy, evCall, ofSR, viewA, lsOf, ofL, appL, zfree, zfreeB, freeB, isOne, ren, zipE, Op.operands, Call.operands, Nat.reduceAdd, Nat.reduceSub, Nat.reduceMul, Nat.reduceEqDiff, Nat.reduceLeDiff, Nat.reduceLT, Nat.reduceBEq, Nat.reduceBNe, ↓reduceIte, reduceIte, nbeq, nble, nblt, decide_true, decide_false, Bool.not_false, Bool.not_true, Bool.and_true, Bool.true_and, Bool.and_false, Bool.false_and, Bool.and_self, Bool.or_true, Bool.true_or, Bool.or_false, Bool.false_or, Bool.or_self, cond_true, cond_false, List.toList_toArray, List.map_cons, List.map_nil, List.getElem?_cons_zero, List.getElem?_cons_succ, Option.map_some, Option.map_none, List.zipIdx_nil, List.zipIdx_cons, List.all_nil, List.all_cons, List.isEmpty_nil, List.isEmpty_cons, List.cons_append, List.nil_append, true_and, and_true, imp_self, forall_const, implies_true, EO.mk.injEq, Bool.false_eq_true, Bool.true_eq_false, List.length_cons, List.length_nil, Array.toList_append, Bool.not_eq_true', Bool.not_eq_false', Bool.cond_true_left, Bool.cond_false_right, Bool.cond_false_left, Bool.cond_true_right, and_self, Bool.not_not, ne_eq, not_true_eq_false, not_false_eq_true, Int.toNat_natCast, Int.toNat_zero, Int.toNat_one, List.take_length, List.drop_zero, inI, evRes, resV, mkL, ltK, rhoL, leE, leR, menB, renB, menE, fzA, fzE, fzB, fzR] at h; obtain ⟨rfl, rfl, rfl, rfl⟩ := h; refine ⟨?_, ?_⟩)
    | ((with_reducible refine Ob.mk ?_); first | exact trivial | (intros; omega) | ((repeat' first | apply And.intro | (intro hg; have hg' := hg; try simp only [Bool.and_eq_false_iff, decide_eq_true_eq, decide_eq_false_iff_not, Bool.or_eq_true, Bool.or_eq_false_iff, Bool.and_eq_true, Bool.not_eq_true', Bool.not_eq_false', not_or, Int.not_lt, Int.not_le] at hg')) <;> first | assumption | omega | (simp only [Bool.and_eq_false_iff, decide_eq_true_eq, decide_eq_false_iff_not, Bool.or_eq_true, Bool.or_eq_false_iff, Bool.and_eq_true, Bool.not_eq_true', Bool.not_eq_false', not_or, Int.not_lt, Int.not_le]; omega)))
  refine awp_loopC (τ := Nat) (fun v => v ≤ o.length) (fun v => ⟨20, [(44, .int .i64 v), (43, .int .i64 o.length), (11, .roI S), (10, .bool (moreB ⟨o, p, x⟩ pl S v)), (9, .int .i64 (k + 1)), (7, .own 5), (6, .cst (.slice none 0 0)), (3, .rop (.agg (.cons (.roI o) (.cons (.roI p) (.cons (.roII x) .nil))))), (1, .int .i64 pl), (2, .roB to)],
    [(5, some (.ints (mix (newS ⟨o, p, x⟩ pl S ((k : Int) + 1)) (fun u => S.getD u 0) o.length v)))], []⟩) (fun v => o.length - v) 0 [] ?_ (Nat.zero_le _) ?_
  · refine ⟨rfl, ?_, ?_⟩ <;> simp only [evOut, evStep, eq_self, evo, ev1, evx, evp, ofP, guardOf, opv, lke_cons, lke_nil, lkr_nil, lkr_cons, isC, isCC, isCL, men, putE, setW, set1, del, evLoad, evField, evIndex, evBin, lenOf, evSlice, bnd, cutI, subv, selv, isV, isAg, cellsL, lenL, properL, nthL, dropL, takeL, appL, setL, updv, tb, TI.isStr, strip, gd, gds, whnR, evPick, evStore, stBox, evApp, srcI, srcB, srcR, evBuildS, evTake, makeB, isNilS, partsOK, elemsOf, collI, collB, collII, allC, allN, fillL, evFz, lko, Option.isNone_none, renB, List.length_set, List.length_nil, Nat.sub_zero, Nat.add_zero, notD, chkG, evCopy, evCall, ofSR, viewA, lsOf, ofL, appL, zfree, zfreeB, freeB, isOne, ren, zipE, Op.operands, Call.operands, Nat.reduceAdd, Nat.reduceSub, Nat.reduceMul, Nat.reduceEqDiff, Nat.reduceLeDiff, Nat.reduceLT, Nat.reduceBEq, Nat.reduceBNe, ↓reduceIte, reduceIte, nbeq, nble, nblt, decide_true, decide_false, Bool.not_false, Bool.not_true, Bool.and_true, Bool.true_and, Bool.and_false, Bool.false_and, Bool.and_self, Bool.or_true, Bool.true_or, Bool.or_false, Bool.false_or, Bool.or_self, cond_true, cond_false, List.toList_toArray, List.map_cons, List.map_nil, List.getElem?_cons_zero, List.getElem?_cons_succ, Option.map_some, Option.map_none, List.zipIdx_nil, List.zipIdx_cons, List.all_nil, List.all_cons, List.isEmpty_nil, List.isEmpty_cons, List.cons_append, List.nil_append, true_and, and_true, imp_self, forall_const, implies_true, EO.mk.injEq, Bool.false_eq_true, Bool.true_eq_false, List.length_cons, List.length_nil, Array.toList_append, Bool.not_eq_true', Bool.not_eq_false', Bool.cond_true_left, Bool.cond_false_right, Bool.cond_false_left, Bool.cond_true_right, and_self, Bool.not_not, ne_eq, not_true_eq_false, not_false_eq_true, Int.toNat_natCast, Int.toNat_zero, Int.toNat_one, List.take_length, List.drop_zero, inI, evRes, resV, mkL, ltK, rhoL, leE, leR, menB, renB, menE, fzA, fzE, fzB, fzR, AV.int.injEq, AV.bool.injEq, AV.roI.injEq, AV.roB.injEq, AV.roII.injEq, AV.rop.injEq, AV.agg.injEq, AV.tup.injEq, AV.cons.injEq, AV.own.injEq, AV.whn.injEq, Blk.ints.injEq, Blk.bools.injEq, Blk.rows.injEq, Blk.rowsR.injEq, Blk.box.injEq, Option.some.injEq, Int.natCast_add, Int.natCast_one, Int.cast_ofNat_Int, hls]
    · exact moreB_zero
    · rw [← hls, mix_zero]
  intro v hvn
  have hm1 : (mix (newS ⟨o, p, x⟩ pl S ((k : Int) + 1)) (fun u => S.getD u 0) o.length v).length = o.length := mix_len
  have hrl := hrl v
  have hrb := hrb v
  repeat' first
    | with_reducible refine awp_seq ?_
    | with_reducible refine awp_block ?_
    | with_reducible refine next_then ?_
    | with_reducible refine next_block ?_
    | with_reducible refine exit_then ?_
    | with_reducible refine ret_then ?_
    | with_reducible refine ret_block ?_
    | with_reducible refine exit_here ?_
    | with_reducible refine awp_exit ?_
    | with_reducible refine awp_ret ?_
    | with_reducible refine awp_skip ?_
    | with_reducible refine awp_label ?_
    | with_reducible refine next_noGoto ?_
    | with_reducible refine ret_noGoto ?_
    | with_reducible refine exit_noGoto ?_
    | with_reducible refine awp_scope ?_
    | ((with_reducible refine exit_past ?_ ?_); exact rfl)
    | ((with_reducible refine isCond ?_); refine awp_condO rfl ?_ ?_ <;> intro hb <;> (try simp only [Bool.and_eq_false_iff, decide_eq_true_eq, decide_eq_false_iff_not, Bool.or_eq_true, Bool.or_eq_false_iff, Bool.and_eq_true, Bool.not_eq_true', Bool.not_eq_false', not_or, Int.not_lt, Int.not_le] at hb))
    | ((with_reducible refine isRegS 27 ?_ ?_); (· exact rfl); (first | refine awp_textM htb hmz noSp (fun _ => false) rfl rfl ?_ | refine awp_drawM hmo htb hmz noSp (fun _ => false) rfl rfl (by kernel_rfl) ?_); intro m' e' l' ob h; simp only [evOut, evStep, eq_self, evo, ev1, evx, evp, ofP, guardOf, opv, lke_cons, lke_nil, lkr_nil, lkr_cons, isC, isCC, isCL, men, putE, setW, set1, del, evLoad, evField, evIndex, evBin, lenOf, evSlice, bnd, cutI, subv, selv, isV, isAg, cellsL, lenL, properL, nthL, dropL, takeL, appL, setL, updv, tb, TI.isStr, strip, gd, gds, whnR, evPick, evStore, stBox, evApp, srcI, srcB, srcR, evBuildS, evTake, makeB, isNilS, partsOK, elemsOf, collI, collB, collII, allC, allN, fillL, evFz, lko, Option.isNone_none, renB, List.length_set, List.length_nil, Nat.sub_zero, Nat.add_zero, notD, chkG, evCopy, evCall, ofSR, viewA, lsOf, ofL, appL, zfree, zfreeB, freeB, isOne, ren, zipE, Op.operands, Call.operands, Nat.reduceAdd, Nat.reduceSub, Nat.reduceMul, Nat.reduceEqDiff, Nat.reduceLeDiff, Nat.reduceLT, Nat.reduceBEq, Nat.reduceBNe, ↓reduceIte, reduceIte, nbeq, nble, nblt, decide_true, decide_false, Bool.not_false, Bool.not_true, Bool.and_true, Bool.true_and, Bool.and_false, Bool.false_and, Bool.and_self, Bool.or_true, Bool.true_or, Bool.or_false, Bool.false_or, Bool.or_self, cond_true, cond_false, List.toList_toArray, List.map_cons, List.map_nil, List.getElem?_cons_zero, List.getElem?_cons_succ, Option.map_some, Option.map_none, List.zipIdx_nil, List.zipIdx_cons, List.all_nil, List.all_cons, List.isEmpty_nil, List.isEmpty_cons, List.cons_append, List.nil_append, true_and, and_true, imp_self, forall_const, implies_true, EO.mk.injEq, Bool.false_eq_true, Bool.true_eq_false, List.length_cons, List.length_nil, Array.toList_append, Bool.not_eq_true', Bool.not_eq_false', Bool.cond_true_left, Bool.cond_false_right, Bool.cond_false_left, Bool.cond_true_right, and_self, Bool.not_not, ne_eq, not_true_eq_false, not_false_eq_true, Int.toNat_natCast, Int.toNat_zero, Int.toNat_one, List.take_length, List.drop_zero, inI, evRes, resV, mkL, ltK, rhoL, leE, leR, menB, renB, menE, fzA, fzE, fzB, fzR] at h; obtain ⟨rfl, rfl, rfl, rfl⟩ := h; refine ⟨?_, ?_⟩)
    | ((with_reducible refine Ob.mk ?_); first | exact trivial | (intros; omega) | ((repeat' first | apply And.intro | (intro hg; have hg' := hg; try simp only [Bool.and_eq_false_iff, decide_eq_true_eq, decide_eq_false_iff_not, Bool.or_eq_true, Bool.or_eq_false_iff, Bool.and_eq_true, Bool.not_eq_true', Bool.not_eq_false', not_or, Int.not_lt, Int.not_le] at hg')) <;> first | assumption | omega | (simp only [Bool.and_eq_false_iff, decide_eq_true_eq, decide_eq_false_iff_not, Bool.or_eq_true, Bool.or_eq_false_iff, Bool.and_eq_true, Bool.not_eq_true', Bool.not_eq_false', not_or, Int.not_lt, Int.not_le]; omega)))
  · have hs : ¬ (S.getD v 0 < 0 ∧ trig ⟨o, p, x⟩ pl S v) := fun h => by omega
    refine back (v + 1) [] ?_ (by omega) (by omega)
    (refine ⟨rfl, ?_, ?_⟩ <;> simp only [evOut, evStep, eq_self, evo, ev1, evx, evp, ofP, guardOf, opv, lke_cons, lke_nil, lkr_nil, lkr_cons, isC, isCC, isCL, men, putE, setW, set1, del, evLoad, evField, evIndex, evBin, lenOf, evSlice, bnd, cutI, subv, selv, isV, isAg, cellsL, lenL, properL, nthL, dropL, takeL, appL, setL, updv, tb, TI.isStr, strip, gd, gds, whnR, evPick, evStore, stBox, evApp, srcI, srcB, srcR, evBuildS, evTake, makeB, isNilS, partsOK, elemsOf, collI, collB, collII, allC, allN, fillL, evFz, lko, Option.isNone_none, renB, List.length_set, List.length_nil, Nat.sub_zero, Nat.add_zero, notD, chkG, evCopy, evCall, ofSR, viewA, lsOf, ofL, appL, zfree, zfreeB, freeB, isOne, ren, zipE, Op.operands, Call.operands, Nat.reduceAdd, Nat.reduceSub, Nat.reduceMul, Nat.reduceEqDiff, Nat.reduceLeDiff, Nat.reduceLT, Nat.reduceBEq, Nat.reduceBNe, ↓reduceIte, reduceIte, nbeq, nble, nblt, decide_true, decide_false, Bool.not_false, Bool.not_true, Bool.and_true, Bool.true_and, Bool.and_false, Bool.false_and, Bool.and_self, Bool.or_true, Bool.true_or, Bool.or_false, Bool.false_or, Bool.or_self, cond_true, cond_false, List.toList_toArray, List.map_cons, List.map_nil, List.getElem?_cons_zero, List.getElem?_cons_succ, Option.map_some, Option.map_none, List.zipIdx_nil, List.zipIdx_cons, List.all_nil, List.all_cons, List.isEmpty_nil, List.isEmpty_cons, List.cons_append, List.nil_append, true_and, and_true, imp_self, forall_const, implies_true, EO.mk.injEq, Bool.false_eq_true, Bool.true_eq_false, List.length_cons, List.length_nil, Array.toList_append, Bool.not_eq_true', Bool.not_eq_false', Bool.cond_true_left, Bool.cond_false_right, Bool.cond_false_left, Bool.cond_true_right, and_self, Bool.not_not, ne_eq, not_true_eq_false, not_false_eq_true, Int.toNat_natCast, Int.toNat_zero, Int.toNat_one, List.take_length, List.drop_zero, inI, evRes, resV, mkL, ltK, rhoL, leE, leR, menB, renB, menE, fzA, fzE, fzB, fzR, AV.int.injEq, AV.bool.injEq, AV.roI.injEq, AV.roB.injEq, AV.roII.injEq, AV.rop.injEq, AV.agg.injEq, AV.tup.injEq, AV.cons.injEq, AV.own.injEq, AV.whn.injEq, Blk.ints.injEq, Blk.bools.injEq, Blk.rows.injEq, Blk.rowsR.injEq, Blk.box.injEq, Option.some.injEq, Int.natCast_add, Int.natCast_one, Int.cast_ofNat_Int])
    · exact moreB_skip hs
    · exact mix_keep (newS_skip hs)
  · have hvl : v < o.length := by omega
    have hrl := hrl hvl
    have hrb := hrb hvl
    have hsome := someB_iff (x := x) (S := S) (u := v)
    have hall := allB_iff (x := x) (S := S) (u := v)
    generalize hrw : x.getD v [] = rw at *
    refine awp_loopC (τ := Nat) (fun r => r ≤ rw.length) (fun r => ⟨33, [(58, .int .i64 r), (57, .int .i64 rw.length), (56, .roI rw), (14, .bool (allB S (rw.take r))), (13, .bool (someB S (rw.take r))), (12, .int .i64 v), (44, .int .i64 v), (43, .int .i64 o.length), (11, .roI S), (10, .bool (moreB ⟨o, p, x⟩ pl S v)), (9, .int .i64 (k + 1)), (7, .own 5), (6, .cst (.slice none 0 0)), (3, .rop (.agg (.cons (.roI o) (.cons (.roI p) (.cons (.roII x) .nil))))), (1, .int .i64 pl), (2, .roB to)],
      [(5, some (.ints (mix (newS ⟨o, p, x⟩ pl S ((k : Int) + 1)) (fun u => S.getD u 0) o.length v)))], []⟩) (fun r => rw.length - r) 0 [] ?_ (Nat.zero_le _) ?_
    · refine ⟨rfl, ?_, ?_⟩ <;> simp only [evOut, evStep, eq_self, evo, ev1, evx, evp, ofP, guardOf, opv, lke_cons, lke_nil, lkr_nil, lkr_cons, isC, isCC, isCL, men, putE, setW, set1, del, evLoad, evField, evIndex, evBin, lenOf, evSlice, bnd, cutI, subv, selv, isV, isAg, cellsL, lenL, properL, nthL, dropL, takeL, appL, setL, updv, tb, TI.isStr, strip, gd, gds, whnR, evPick, evStore, stBox, evApp, srcI, srcB, srcR, evBuildS, evTake, makeB, isNilS, partsOK, elemsOf, collI, collB, collII, allC, allN, fillL, evFz, lko, Option.isNone_none, renB, List.length_set, List.length_nil, Nat.sub_zero, Nat.add_zero, notD, chkG, evCopy, evCall, ofSR, viewA, lsOf, ofL, appL, zfree, zfreeB, freeB, isOne, ren, zipE, Op.operands, Call.operands, Nat.reduceAdd, Nat.reduceSub, Nat.reduceMul, Nat.reduceEqDiff, Nat.reduceLeDiff, Nat.reduceLT, Nat.reduceBEq, Nat.reduceBNe, ↓reduceIte, reduceIte, nbeq, nble, nblt, decide_true, decide_false, Bool.not_false, Bool.not_true, Bool.and_true, Bool.true_and, Bool.and_false, Bool.false_and, Bool.and_self, Bool.or_true, Bool.true_or, Bool.or_false, Bool.false_or, Bool.or_self, cond_true, cond_false, List.toList_toArray, List.map_cons, List.map_nil, List.getElem?_cons_zero, List.getElem?_cons_succ, Option.map_some, Option.map_none, List.zipIdx_nil, List.zipIdx_cons, List.all_nil, List.all_cons, List.isEmpty_nil, List.isEmpty_cons, List.cons_append, List.nil_append, true_and, and_true, imp_self, forall_const, implies_true, EO.mk.injEq, Bool.false_eq_true, Bool.true_eq_false, List.length_cons, List.length_nil, Array.toList_append, Bool.not_eq_true', Bool.not_eq_false', Bool.cond_true_left, Bool.cond_false_right, Bool.cond_false_left, Bool.cond_true_right, and_self, Bool.not_not, ne_eq, not_true_eq_false, not_false_eq_true, Int.toNat_natCast, Int.toNat_zero, Int.toNat_one, List.take_length, List.drop_zero, inI, evRes, resV, mkL, ltK, rhoL, leE, leR, menB, renB, menE, fzA, fzE, fzB, fzR, AV.int.injEq, AV.bool.injEq, AV.roI.injEq, AV.roB.injEq, AV.roII.injEq, AV.rop.injEq, AV.agg.injEq, AV.tup.injEq, AV.cons.injEq, AV.own.injEq, AV.whn.injEq, Blk.ints.injEq, Blk.bools.injEq, Blk.rows.injEq, Blk.rowsR.injEq, Blk.box.injEq, Option.some.injEq, Int.natCast_add, Int.natCast_one, Int.cast_ofNat_Int]
      exact ⟨rfl, rfl⟩
    intro r hr
    have hrb := hrb r
    repeat' first
      | with_reducible refine awp_seq ?_
      | with_reducible refine awp_block ?_
      | with_reducible refine next_then ?_
      | with_reducible refine next_block ?_
      | with_reducible refine exit_then ?_
      | with_reducible refine ret_then ?_
      | with_reducible refine ret_block ?_
      | with_reducible refine exit_here ?_
      | with_reducible refine awp_exit ?_
      | with_reducible refine awp_ret ?_
      | with_reducible refine awp_skip ?_
      | with_reducible refine awp_label ?_
      | with_reducible refine next_noGoto ?_
      | with_reducible refine ret_noGoto ?_
      | with_reducible refine exit_noGoto ?_
      | with_reducible refine awp_scope ?_
      | ((with_reducible refine exit_past ?_ ?_); exact rfl)
      | ((with_reducible refine isCond ?_); refine awp_condO rfl ?_ ?_ <;> intro hb <;> (try simp only [Bool.and_eq_false_iff, decide_eq_true_eq, decide_eq_false_iff_not, Bool.or_eq_true, Bool.or_eq_false_iff, Bool.and_eq_true, Bool.not_eq_true', Bool.not_eq_false', not_or, Int.not_lt, Int.not_le] at hb))
      | ((with_reducible refine isReg ?_); (first | refine awp_textM htb hmz noSp (fun _ => false) rfl rfl ?_ | refine awp_drawM hmo htb hmz noSp (fun _ => false) rfl rfl (by kernel_rfl) ?_); intro m' e' l' ob h; simp only [evOut, evStep, eq_self, evo, ev1, evx, evp, ofP, guardOf, opv, lke_cons, lke_nil, lkr_nil, lkr_cons, isC, isCC, isCL, men, putE, setW, set1, del, evLoad, evField, evIndex, evBin, lenOf, evSlice, bnd, cutI, subv, selv, isV, isAg, cellsL, lenL, properL, nthL, dropL, takeL, appL, setL, updv, tb, TI.isStr, strip, gd, gds, whnR, evPick, evStore, stBox, evApp, srcI, srcB, srcR, evBuildS, evTake, makeB, isNilS, partsOK, elemsOf, collI, collB, collII, allC, allN, fillL, evFz, lko, Option.isNone_none, renB, List.length_set, List.length_nil, Nat.sub_zero, Nat.add_zero, notD, chkG, evCopy, evCall, ofSR, viewA, lsOf, ofL, appL, zfree, zfreeB, freeB, isOne, ren, zipE, Op.operands, Call.operands, Nat.reduceAdd, Nat.reduceSub, Nat.reduceMul, Nat.reduceEqDiff, Nat.reduceLeDiff, Nat.reduceLT, Nat.reduceBEq, Nat.reduceBNe, ↓reduceIte, reduceIte, nbeq, nble, nblt, decide_true, decide_false, Bool.not_false, Bool.not_true, Bool.and_true, Bool.true_and, Bool.and_false, Bool.false_and, Bool.and_self, Bool.or_true, Bool.true_or, Bool.or_false, Bool.false_or, Bool.or_self, cond_true, cond_false, List.toList_toArray, List.map_cons, List.map_nil, List.getElem?_cons_zero, List.getElem?_cons_succ, Option.map_some, Option.map_none, List.zipIdx_nil, List.zipIdx_cons, List.all_nil, List.all_cons, List.isEmpty_nil, List.isEmpty_cons, List.cons_append, List.nil_append, true_and, and_true, imp_self, forall_const, implies_true, EO.mk.injEq, Bool.false_eq_true, Bool.true_eq_false, List.length_cons, List.length_nil, Array.toList_append, Bool.not_eq_true', Bool.not_eq_false', Bool.cond_true_left, Bool.cond_false_right, Bool.cond_false_left, Bool.cond_true_right, and_self, Bool.not_not, ne_eq, not_true_eq_false, not_false_eq_true, Int.toNat_natCast, Int.toNat_zero, Int.toNat_one, List.take_length, List.drop_zero, inI, evRes, resV, mkL, ltK, rhoL, leE, leR, menB, renB, menE, fzA, fzE, fzB, fzR] at h; obtain ⟨rfl, rfl, rfl, rfl⟩ := h; refine ⟨?_, ?_⟩)
      | ((with_reducible refine Ob.mk ?_); first | exact trivial | (intros; omega) | ((repeat' first | apply And.intro | (intro hg; have hg' := hg; try simp only [Bool.and_eq_false_iff, decide_eq_true_eq, decide_eq_false_iff_not, Bool.or_eq_true, Bool.or_eq_false_iff, Bool.and_eq_true, Bool.not_eq_true', Bool.not_eq_false', not_or, Int.not_lt, Int.not_le] at hg')) <;> first | assumption | omega | (simp only [Bool.and_eq_false_iff, decide_eq_true_eq, decide_eq_false_iff_not, Bool.or_eq_true, Bool.or_eq_false_iff, Bool.and_eq_true, Bool.not_eq_true', Bool.not_eq_false', not_or, Int.not_lt, Int.not_le]; omega)))
    · have hrl2 : r < rw.length := by omega
      refine back (r + 1) [] ?_ (by omega) (by omega)
      (refine ⟨rfl, ?_, ?_⟩ <;> simp only [evOut, evStep, eq_self, evo, ev1, evx, evp, ofP, guardOf, opv, lke_cons, lke_nil, lkr_nil, lkr_cons, isC, isCC, isCL, men, putE, setW, set1, del, evLoad, evField, evIndex, evBin, lenOf, evSlice, bnd, cutI, subv, selv, isV, isAg, cellsL, lenL, properL, nthL, dropL, takeL, appL, setL, updv, tb, TI.isStr, strip, gd, gds, whnR, evPick, evStore, stBox, evApp, srcI, srcB, srcR, evBuildS, evTake, makeB, isNilS, partsOK, elemsOf, collI, collB, collII, allC, allN, fillL, evFz, lko, Option.isNone_none, renB, List.length_set, List.length_nil, Nat.sub_zero, Nat.add_zero, notD, chkG, evCopy, evCall, ofSR, viewA, lsOf, ofL, appL, zfree, zfreeB, freeB, isOne, ren, zipE, Op.operands, Call.operands, Nat.reduceAdd, Nat.reduceSub, Nat.reduceMul, Nat.reduceEqDiff, Nat.reduceLeDiff, Nat.reduceLT, Nat.reduceBEq, Nat.reduceBNe, ↓reduceIte, reduceIte, nbeq, nble, nblt, decide_true, decide_false, Bool.not_false, Bool.not_true, Bool.and_true, Bool.true_and, Bool.and_false, Bool.false_and, Bool.and_self, Bool.or_true, Bool.true_or, Bool.or_false, Bool.false_or, Bool.or_self, cond_true, cond_false, List.toList_toArray, List.map_cons, List.map_nil, List.getElem?_cons_zero, List.getElem?_cons_succ, Option.map_some, Option.map_none, List.zipIdx_nil, List.zipIdx_cons, List.all_nil, List.all_cons, List.isEmpty_nil, List.isEmpty_cons, List.cons_append, List.nil_append, true_and, and_true, imp_self, forall_const, implies_true, EO.mk.injEq, Bool.false_eq_true, Bool.true_eq_false, List.length_cons, List.length_nil, Array.toList_append, Bool.not_eq_true', Bool.not_eq_false', Bool.cond_true_left, Bool.cond_false_right, Bool.cond_false_left, Bool.cond_true_right, and_self, Bool.not_not, ne_eq, not_true_eq_false, not_false_eq_true, Int.toNat_natCast, Int.toNat_zero, Int.toNat_one, List.take_length, List.drop_zero, inI, evRes, resV, mkL, ltK, rhoL, leE, leR, menB, renB, menE, fzA, fzE, fzB, fzR, AV.int.injEq, AV.bool.injEq, AV.roI.injEq, AV.roB.injEq, AV.roII.injEq, AV.rop.injEq, AV.agg.injEq, AV.tup.injEq, AV.cons.injEq, AV.own.injEq, AV.whn.injEq, Blk.ints.injEq, Blk.bools.injEq, Blk.rows.injEq, Blk.rowsR.injEq, Blk.box.injEq, Option.some.injEq, Int.natCast_add, Int.natCast_one, Int.cast_ofNat_Int])
      · exact ⟨allB_succ hrl2, someB_succ hrl2⟩
    · have hre : r = rw.length := by omega
      subst hre
      rw [List.take_length] at hb
      have ht : S.getD v 0 < 0 ∧ trig ⟨o, p, x⟩ pl S v := by
        refine ⟨by assumption, ?_⟩
        rcases hb with ⟨h1, h2⟩ | ⟨h1, h2⟩
        · exact .inl ⟨h1, hsome.1 h2⟩
        · exact .inr ⟨h1, hall.1 h2⟩
      refine back (v + 1) [] ?_ (by omega) (by omega)
      (refine ⟨rfl, ?_, ?_⟩ <;> simp only [evOut, evStep, eq_self, evo, ev1, evx, evp, ofP, guardOf, opv, lke_cons, lke_nil, lkr_nil, lkr_cons, isC, isCC, isCL, men, putE, setW, set1, del, evLoad, evField, evIndex, evBin, lenOf, evSlice, bnd, cutI, subv, selv, isV, isAg, cellsL, lenL, properL, nthL, dropL, takeL, appL, setL, updv, tb, TI.isStr, strip, gd, gds, whnR, evPick, evStore, stBox, evApp, srcI, srcB, srcR, evBuildS, evTake, makeB, isNilS, partsOK, elemsOf, collI, collB, collII, allC, allN, fillL, evFz, lko, Option.isNone_none, renB, List.length_set, List.length_nil, Nat.sub_zero, Nat.add_zero, notD, chkG, evCopy, evCall, ofSR, viewA, lsOf, ofL, appL, zfree, zfreeB, freeB, isOne, ren, zipE, Op.operands, Call.operands, Nat.reduceAdd, Nat.reduceSub, Nat.reduceMul, Nat.reduceEqDiff, Nat.reduceLeDiff, Nat.reduceLT, Nat.reduceBEq, Nat.reduceBNe, ↓reduceIte, reduceIte, nbeq, nble, nblt, decide_true, decide_false, Bool.not_false, Bool.not_true, Bool.and_true, Bool.true_and, Bool.and_false, Bool.false_and, Bool.and_self, Bool.or_true, Bool.true_or, Bool.or_false, Bool.false_or, Bool.or_self, cond_true, cond_false, List.toList_toArray, List.map_cons, List.map_nil, List.getElem?_cons_zero, List.getElem?_cons_succ, Option.map_some, Option.map_none, List.zipIdx_nil, List.zipIdx_cons, List.all_nil, List.all_cons, List.isEmpty_nil, List.isEmpty_cons, List.cons_append, List.nil_append, true_and, and_true, imp_self, forall_const, implies_true, EO.mk.injEq, Bool.false_eq_true, Bool.true_eq_false, List.length_cons, List.length_nil, Array.toList_append, Bool.not_eq_true', Bool.not_eq_false', Bool.cond_true_left, Bool.cond_false_right, Bool.cond_false_left, Bool.cond_true_right, and_self, Bool.not_not, ne_eq, not_true_eq_false, not_false_eq_true, Int.toNat_natCast, Int.toNat_zero, Int.toNat_one, List.take_length, List.drop_zero, inI, evRes, resV, mkL, ltK, rhoL, leE, leR, menB, renB, menE, fzA, fzE, fzB, fzR, AV.int.injEq, AV.bool.injEq, AV.roI.injEq, AV.roB.injEq, AV.roII.injEq, AV.rop.injEq, AV.agg.injEq, AV.tup.injEq, AV.cons.injEq, AV.own.injEq, AV.whn.injEq, Blk.ints.injEq, Blk.bools.injEq, Blk.rows.injEq, Blk.rowsR.injEq, Blk.box.injEq, Option.some.injEq, Int.natCast_add, Int.natCast_one, Int.cast_ofNat_Int])
      · exact moreB_hit ht
      · refine Eq.trans ?_ mix_set
        rw [newS_hit ht]
    · have hre : r = rw.length := by omega
      subst hre
      rw [List.take_length] at hb
      have ht : ¬ (S.getD v 0 < 0 ∧ trig ⟨o, p, x⟩ pl S v) := by
        rintro ⟨_, h⟩
        rcases h with ⟨h1, h2⟩ | ⟨h1, h2⟩
        · rcases hb.1 with h | h
          · exact h h1
          · rw [hsome.2 h2] at h; cases h
        · rcases hb.2 with h | h
          · exact h1 h
          · rw [hall.2 h2] at h; cases h
      refine back (v + 1) [] ?_ (by omega) (by omega)
      (refine ⟨rfl, ?_, ?_⟩ <;> simp only [evOut, evStep, eq_self, evo, ev1, evx, evp, ofP, guardOf, opv, lke_cons, lke_nil, lkr_nil, lkr_cons, isC, isCC, isCL, men, putE, setW, set1, del, evLoad, evField, evIndex, evBin, lenOf, evSlice, bnd, cutI, subv, selv, isV, isAg, cellsL, lenL, properL, nthL, dropL, takeL, appL, setL, updv, tb, TI.isStr, strip, gd, gds, whnR, evPick, evStore, stBox, evApp, srcI, srcB, srcR, evBuildS, evTake, makeB, isNilS, partsOK, elemsOf, collI, collB, collII, allC, allN, fillL, evFz, lko, Option.isNone_none, renB, List.length_set, List.length_nil, Nat.sub_zero, Nat.add_zero, notD, chkG, evCopy, evCall, ofSR, viewA, lsOf, ofL, appL, zfree, zfreeB, freeB, isOne, ren, zipE, Op.operands, Call.operands, Nat.reduceAdd, Nat.reduceSub, Nat.reduceMul, Nat.reduceEqDiff, Nat.reduceLeDiff, Nat.reduceLT, Nat.reduceBEq, Nat.reduceBNe, ↓reduceIte, reduceIte, nbeq, nble, nblt, decide_true, decide_false, Bool.not_false, Bool.not_true, Bool.and_true, Bool.true_and, Bool.and_false, Bool.false_and, Bool.and_self, Bool.or_true, Bool.true_or, Bool.or_false, Bool.false_or, Bool.or_self, cond_true, cond_false, List.toList_toArray, List.map_cons, List.map_nil, List.getElem?_cons_zero, List.getElem?_cons_succ, Option.map_some, Option.map_none, List.zipIdx_nil, List.zipIdx_cons, List.all_nil, List.all_cons, List.isEmpty_nil, List.isEmpty_cons, List.cons_append, List.nil_append, true_and, and_true, imp_self, forall_const, implies_true, EO.mk.injEq, Bool.false_eq_true, Bool.true_eq_false, List.length_cons, List.length_nil, Array.toList_append, Bool.not_eq_true', Bool.not_eq_false', Bool.cond_true_left, Bool.cond_false_right, Bool.cond_false_left, Bool.cond_true_right, and_self, Bool.not_not, ne_eq, not_true_eq_false, not_false_eq_true, Int.toNat_natCast, Int.toNat_zero, Int.toNat_one, List.take_length, List.drop_zero, inI, evRes, resV, mkL, ltK, rhoL, leE, leR, menB, renB, menE, fzA, fzE, fzB, fzR, AV.int.injEq, AV.bool.injEq, AV.roI.injEq, AV.roB.injEq, AV.roII.injEq, AV.rop.injEq, AV.agg.injEq, AV.tup.injEq, AV.cons.injEq, AV.own.injEq, AV.whn.injEq, Blk.ints.injEq, Blk.bools.injEq, Blk.rows.injEq, Blk.rowsR.injEq, Blk.box.injEq, Option.some.injEq, Int.natCast_add, Int.natCast_one, Int.cast_ofNat_Int])
      · exact moreB_skip ht
      · exact mix_keep (newS_skip ht)
  have hve : v = o.length := by omega
  subst hve
  rw [mix_all]
  repeat' first
    | with_reducible refine awp_seq ?_
    | with_reducible refine awp_block ?_
    | with_reducible refine next_then ?_
    | with_reducible refine next_block ?_
    | with_reducible refine exit_then ?_
    | with_reducible refine ret_then ?_
    | with_reducible refine ret_block ?_
    | with_reducible refine exit_here ?_
    | with_reducible refine awp_exit ?_
    | with_reducible refine awp_ret ?_
    | with_reducible refine awp_skip ?_
    | with_reducible refine awp_label ?_
    | with_reducible refine next_noGoto ?_
    | with_reducible refine ret_noGoto ?_
    | with_reducible refine exit_noGoto ?_
    | with_reducible refine awp_scope ?_
    | ((with_reducible refine exit_past ?_ ?_); exact rfl)
    | ((with_reducible refine isCond ?_); refine awp_condO rfl ?_ ?_ <;> intro hb <;> (try simp only [Bool.and_eq_false_iff, decide_eq_true_eq, decide_eq_false_iff_not, Bool.or_eq_true, Bool.or_eq_false_iff, Bool.and_eq_true, Bool.not_eq_true', Bool.not_eq_false', not_or, Int.not_lt, Int.not_le] at hb))
    | ((with_reducible refine isRegS 28 ?_ ?_); (· exact rfl); (first | refine awp_textM htb hmz noSp (fun _ => false) rfl rfl ?_ | refine awp_drawM hmo htb hmz noSp (fun _ => false) rfl rfl (by kernel_rfl) ?_); intro m' e' l' ob h; simp only [evOut, evStep, eq_self, evo, ev1, evx, evp, ofP, guardOf, opv, lke_cons, lke_nil, lkr_nil, lkr_cons, isC, isCC, isCL, men, putE, setW, set1, del, evLoad, evField, evIndex, evBin, lenOf, evSlice, bnd, cutI, subv, selv, isV, isAg, cellsL, lenL, properL, nthL, dropL, takeL, appL, setL, updv, tb, TI.isStr, strip, gd, gds, whnR, evPick, evStore, stBox, evApp, srcI, srcB, srcR, evBuildS, evTake, makeB, isNilS, partsOK, elemsOf, collI, collB, collII, allC, allN, fillL, evFz, lko, Option.isNone_none, renB, List.length_set, List.length_nil, Nat.sub_zero, Nat.add_zero, notD, chkG, evCopy, evCall, ofSR, viewA, lsOf, ofL, appL, zfree, zfreeB, freeB, isOne, ren, zipE, Op.operands, Call.operands, Nat.reduceAdd, Nat.reduceSub, Nat.reduceMul, Nat.reduceEqDiff, Nat.reduceLeDiff, Nat.reduceLT, Nat.reduceBEq, Nat.reduceBNe, ↓reduceIte, reduceIte, nbeq, nble, nblt, decide_true, decide_false, Bool.not_false, Bool.not_true, Bool.and_true, Bool.true_and, Bool.and_false, Bool.false_and, Bool.and_self, Bool.or_true, Bool.true_or, Bool.or_false, Bool.false_or, Bool.or_self, cond_true, cond_false, List.toList_toArray, List.map_cons, List.map_nil, List.getElem?_cons_zero, List.getElem?_cons_succ, Option.map_some, Option.map_none, List.zipIdx_nil, List.zipIdx_cons, List.all_nil, List.all_cons, List.isEmpty_nil, List.isEmpty_cons, List.cons_append, List.nil_append, true_and, and_true, imp_self, forall_const, implies_true, EO.mk.injEq, Bool.false_eq_true, Bool.true_eq_false, List.length_cons, List.length_nil, Array.toList_append, Bool.not_eq_true', Bool.not_eq_false', Bool.cond_true_left, Bool.cond_false_right, Bool.cond_false_left, Bool.cond_true_right, and_self, Bool.not_not, ne_eq, not_true_eq_false, not_false_eq_true, Int.toNat_natCast, Int.toNat_zero, Int.toNat_one, List.take_length, List.drop_zero, inI, evRes, resV, mkL, ltK, rhoL, leE, leR, menB, renB, menE, fzA, fzE, fzB, fzR] at h; obtain ⟨rfl, rfl, rfl, rfl⟩ := h; refine ⟨?_, ?_⟩)
    | ((with_reducible refine Ob.mk ?_); first | exact trivial | (intros; omega) | ((repeat' first | apply And.intro | (intro hg; have hg' := hg; try simp only [Bool.and_eq_false_iff, decide_eq_true_eq, decide_eq_false_iff_not, Bool.or_eq_true, Bool.or_eq_false_iff, Bool.and_eq_true, Bool.not_eq_true', Bool.not_eq_false', not_or, Int.not_lt, Int.not_le] at hg')) <;> first | assumption | omega | (simp only [Bool.and_eq_false_iff, decide_eq_true_eq, decide_eq_false_iff_not, Bool.or_eq_true, Bool.or_eq_false_iff, Bool.and_eq_true, Bool.not_eq_true', Bool.not_eq_false', not_or, Int.not_lt, Int.not_le]; omega)))
  · have hno : ¬ ∃ u, u < o.length ∧ S.getD u 0 < 0 ∧ trig ⟨o, p, x⟩ pl S u := fun h => by rw [moreB_iff.2 h] at hb; cases hb
    have hsame : (List.range o.length).map (newS ⟨o, p, x⟩ pl S ((k : Int) + 1)) = S := by
      refine List.ext_getElem (by simp [hls]) fun j h1 h2 => ?_
      have hjo : j < o.length := by omega
      simp only [List.getElem_map, List.getElem_range]
      rw [newS_skip (fun h => hno ⟨j, hjo, h⟩)]
      simp [List.getD_eq_getElem?_getD, h2]
    rw [hsame]
    refine awp_fzN 5 (.roI S) (by simp only [lkr_cons, lkr_nil, fzE, fzA, fzR, fzB, set1, nbeq, Nat.reduceEqDiff, decide_true, decide_false, ↓reduceIte, reduceIte, cond_true, cond_false, List.take_length, Option.some.injEq]; rfl) (by first | exact rfl | (refine ⟨?_, rfl⟩; first | rfl | (intros; rfl))) (by simp only [lkr_cons, lkr_nil, fzE, fzA, fzR, fzB, set1, nbeq, Nat.reduceEqDiff, decide_true, decide_false, ↓reduceIte, reduceIte, cond_true, cond_false, List.take_length, Option.some.injEq]; rfl) (by simp only [lkr_cons, lkr_nil, fzE, fzA, fzR, fzB, set1, nbeq, Nat.reduceEqDiff, decide_true, decide_false, ↓reduceIte, reduceIte, cond_true, cond_false, List.take_length, Option.some.injEq]; rfl) ?_
    repeat' first
      | with_reducible refine awp_seq ?_
      | with_reducible refine awp_block ?_
      | with_reducible refine next_then ?_
      | with_reducible refine next_block ?_
      | with_reducible refine exit_then ?_
      | with_reducible refine ret_then ?_
      | with_reducible refine ret_block ?_
      | with_reducible refine exit_here ?_
      | with_reducible refine awp_exit ?_
      | with_reducible refine awp_ret ?_
      | with_reducible refine awp_skip ?_
      | with_reducible refine awp_label ?_
      | with_reducible refine next_noGoto ?_
      | with_reducible refine ret_noGoto ?_
      | with_reducible refine exit_noGoto ?_
      | with_reducible refine awp_scope ?_
      | ((with_reducible refine exit_past ?_ ?_); exact rfl)
      | ((with_reducible refine isCond ?_); refine awp_condO rfl ?_ ?_ <;> intro hb <;> (try simp only [Bool.and_eq_false_iff, decide_eq_true_eq, decide_eq_false_iff_not, Bool.or_eq_true, Bool.or_eq_false_iff, Bool.and_eq_true, Bool.not_eq_true', Bool.not_eq_false', not_or, Int.not_lt, Int.not_le] at hb))
      | ((with_reducible refine isReg ?_); (first | refine awp_textM htb hmz noSp (fun _ => false) rfl rfl ?_ | refine awp_drawM hmo htb hmz noSp (fun _ => false) rfl rfl (by kernel_rfl) ?_); intro m' e' l' ob h; simp only [evOut, evStep, eq_self, evo, ev1, evx, evp, ofP, guardOf, opv, lke_cons, lke_nil, lkr_nil, lkr_cons, isC, isCC, isCL, men, putE, setW, set1, del, evLoad, evField, evIndex, evBin, lenOf, evSlice, bnd, cutI, subv, selv, isV, isAg, cellsL, lenL, properL, nthL, dropL, takeL, appL, setL, updv, tb, TI.isStr, strip, gd, gds, whnR, evPick, evStore, stBox, evApp, srcI, srcB, srcR, evBuildS, evTake, makeB, isNilS, partsOK, elemsOf, collI, collB, collII, allC, allN, fillL, evFz, lko, Option.isNone_none, renB, List.length_set, List.length_nil, Nat.sub_zero, Nat.add_zero, notD, chkG, evCopy, evCall, ofSR, viewA, lsOf, ofL, appL, zfree, zfreeB, freeB, isOne, ren, zipE, Op.operands, Call.operands, Nat.reduceAdd, Nat.reduceSub, Nat.reduceMul, Nat.reduceEqDiff, Nat.reduceLeDiff, Nat.reduceLT, Nat.reduceBEq, Nat.reduceBNe, ↓reduceIte, reduceIte, nbeq, nble, nblt, decide_true, decide_false, Bool.not_false, Bool.not_true, Bool.and_true, Bool.true_and, Bool.and_false, Bool.false_and, Bool.and_self, Bool.or_true, Bool.true_or, Bool.or_false, Bool.false_or, Bool.or_self, cond_true, cond_false, List.toList_toArray, List.map_cons, List.map_nil, List.getElem?_cons_zero, List.getElem?_cons_succ, Option.map_some, Option.map_none, List.zipIdx_nil, List.zipIdx_cons, List.all_nil, List.all_cons, List.isEmpty_nil, List.isEmpty_cons, List.cons_append, List.nil_append, true_and, and_true, imp_self, forall_const, implies_true, EO.mk.injEq, Bool.false_eq_true, Bool.true_eq_false, List.length_cons, List.length_nil, Array.toList_append, Bool.not_eq_true', Bool.not_eq_false', Bool.cond_true_left, Bool.cond_false_right, Bool.cond_false_left, Bool.cond_true_right, and_self, Bool.not_not, ne_eq, not_true_eq_false, not_false_eq_true, Int.toNat_natCast, Int.toNat_zero, Int.toNat_one, List.take_length, List.drop_zero, inI, evRes, resV, mkL, ltK, rhoL, leE, leR, menB, renB, menE, fzA, fzE, fzB, fzR] at h; obtain ⟨rfl, rfl, rfl, rfl⟩ := h; refine ⟨?_, ?_⟩)
      | ((with_reducible refine Ob.mk ?_); first | exact trivial | (intros; omega) | ((repeat' first | apply And.intro | (intro hg; have hg' := hg; try simp only [Bool.and_eq_false_iff, decide_eq_true_eq, decide_eq_false_iff_not, Bool.or_eq_true, Bool.or_eq_false_iff, Bool.and_eq_true, Bool.not_eq_true', Bool.not_eq_false', not_or, Int.not_lt, Int.not_le] at hg')) <;> first | assumption | omega | (simp only [Bool.and_eq_false_iff, decide_eq_true_eq, decide_eq_false_iff_not, Bool.or_eq_true, Bool.or_eq_false_iff, Bool.and_eq_true, Bool.not_eq_true', Bool.not_eq_false', not_or, Int.not_lt, Int.not_le]; omega)))
    refine fin_ret rfl rfl (spec_flat rfl ?_ rfl)
    rw [rankOf_eq hV (RK_rank hV hR hno)]
    rfl
  · have hex := moreB_iff.1 hb
    have hR2 := RK_next hV hR hex
    have hkc2 := hR2.kc
    dsimp only at hkc2
    refine back ⟨_, k + 1⟩ [] ?_ hR2 (by dsimp only; omega)
    (refine ⟨rfl, ?_, ?_⟩ <;> simp only [evOut, evStep, eq_self, evo, ev1, evx, evp, ofP, guardOf, opv, lke_cons, lke_nil, lkr_nil, lkr_cons, isC, isCC, isCL, men, putE, setW, set1, del, evLoad, evField, evIndex, evBin, lenOf, evSlice, bnd, cutI, subv, selv, isV, isAg, cellsL, lenL, properL, nthL, dropL, takeL, appL, setL, updv, tb, TI.isStr, strip, gd, gds, whnR, evPick, evStore, stBox, evApp, srcI, srcB, srcR, evBuildS, evTake, makeB, isNilS, partsOK, elemsOf, collI, collB, collII, allC, allN, fillL, evFz, lko, Option.isNone_none, renB, List.length_set, List.length_nil, Nat.sub_zero, Nat.add_zero, notD, chkG, evCopy, evCall, ofSR, viewA, lsOf, ofL, appL, zfree, zfreeB, freeB, isOne, ren, zipE, Op.operands, Call.operands, Nat.reduceAdd, Nat.reduceSub, Nat.reduceMul, Nat.reduceEqDiff, Nat.reduceLeDiff, Nat.reduceLT, Nat.reduceBEq, Nat.reduceBNe, ↓reduceIte, reduceIte, nbeq, nble, nblt, decide_true, decide_false, Bool.not_false, Bool.not_true, Bool.and_true, Bool.true_and, Bool.and_false, Bool.false_and, Bool.and_self, Bool.or_true, Bool.true_or, Bool.or_false, Bool.false_or, Bool.or_self, cond_true, cond_false, List.toList_toArray, List.map_cons, List.map_nil, List.getElem?_cons_zero, List.getElem?_cons_succ, Option.map_some, Option.map_none, List.zipIdx_nil, List.zipIdx_cons, List.all_nil, List.all_cons, List.isEmpty_nil, List.isEmpty_cons, List.cons_append, List.nil_append, true_and, and_true, imp_self, forall_const, implies_true, EO.mk.injEq, Bool.false_eq_true, Bool.true_eq_false, List.length_cons, List.length_nil, Array.toList_append, Bool.not_eq_true', Bool.not_eq_false', Bool.cond_true_left, Bool.cond_false_right, Bool.cond_false_left, Bool.cond_true_right, and_self, Bool.not_not, ne_eq, not_true_eq_false, not_false_eq_true, Int.toNat_natCast, Int.toNat_zero, Int.toNat_one, List.take_length, List.drop_zero, inI, evRes, resV, mkL, ltK, rhoL, leE, leR, menB, renB, menE, fzA, fzE, fzB, fzR, AV.int.injEq, AV.bool.injEq, AV.roI.injEq, AV.roB.injEq, AV.roII.injEq, AV.rop.injEq, AV.agg.injEq, AV.tup.injEq, AV.cons.injEq, AV.own.injEq, AV.whn.injEq, Blk.ints.injEq, Blk.bools.injEq, Blk.rows.injEq, Blk.rowsR.injEq, Blk.box.injEq, Option.some.injEq, Int.natCast_add, Int.natCast_one, Int.cast_ofNat_Int])

end Go.Proofs.Ytinfflpephioiaa.Cal
