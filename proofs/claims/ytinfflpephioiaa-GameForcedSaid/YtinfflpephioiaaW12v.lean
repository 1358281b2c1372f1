/- What the walk finds: the statement GameForced. -/
import Derived.Test.YtinfflpephioiaaW12t
set_option linter.unusedVariables false
set_option linter.unusedSimpArgs false
namespace Go.Proofs.Ytinfflpephioiaa.Cal
open Go Pl

def absV (x : Int) : Int := max (max x (IntKind.i64.wrap (-x))) 0
theorem absV_nn (x : Int) : 0 ≤ absV x := by unfold absV; omega
def absS : Spec
  | [.int .i64 x] => some ⟨True, .int .i64 (absV x), none⟩
  | _ => none
set_option maxRecDepth 4000 in
set_option maxHeartbeats 4000000 in
theorem abs_ok : FSpec Try.prog 17 absS := by
  refine fspec_of htb (fn := Try.f17) (by kernel_rfl) (by kernel_rfl) rfl (fun args r hS => ?_) (fun args r hS hob hl => ?_)
  · unfold absS at hS; split at hS <;> first | (cases hS; done) | (cases hS; exact Nat.le_of_ble_eq_true rfl)
  unfold absS at hS
  split at hS
  case h_2 => cases hS
  rename_i y
  simp only [Option.some.injEq] at hS
  subst hS
  simp only [lenP, mkL, lim] at hl
  dsimp only at hob
  repeat' first
    | with_reducible refine awp_seq ?_
    | with_reducible refine awp_block ?_
    | with_reducible refine next_then ?_
    | with_reducible refine next_block ?_
    | with_reducible refine exit_then ?_
    | with_reducible refine ret_then ?_
    | with_reducible refine ret_block ?_
    | with_reducible refine exit_here ?_
    | with_reducible refine awp_exit ?_
    | with_reducible refine awp_ret ?_
    | with_reducible refine awp_skip ?_
    | with_reducible refine awp_label ?_
    | with_reducible refine next_noGoto ?_
    | with_reducible refine ret_noGoto ?_
    | with_reducible refine exit_noGoto ?_
    | with_reducible refine awp_scope ?_
    | ((with_reducible refine exit_past ?_ ?_); exact rfl)
    | ((with_reducible refine isCond ?_); refine awp_condO rfl ?_ ?_ <;> intro hb <;> (try simp only [Bool.and_eq_false_iff, decide_eq_true_eq, decide_eq_false_iff_not, Bool.or_eq_true, Bool.or_eq_false_iff, Bool.and_eq_true, Bool.not_eq_true', Bool.not_eq_false', not_or, Int.not_lt, Int.not_le] at hb))
    | ((with_reducible refine isReg ?_); (first | refine awp_textM htb hmz noSp (fun _ => false) rfl rfl ?_ | refine awp_drawM hmo htb hmz noSp (fun _ => false) rfl rfl (by kernel_rfl) ?_); intro m' e' l' ob h; simp only [evOut, evStep, eq_self, evo, ev1, evx, evp, ofP, guardOf, opv, lke_cons, lke_nil, lkr_nil, lkr_cons, isC, isCC, isCL, men, putE, setW, set1, del, evLoad, evField, evIndex, evBin, lenOf, evSlice, bnd, cutI, subv, selv, isV, isAg, cellsL, lenL, properL, nthL, dropL, takeL, appL, setL, updv, tb, TI.isStr, strip, gd, gds, whnR, evPick, evStore, stBox, evApp, srcI, srcB, srcR, evBuildS, evTake, makeB, isNilS, partsOK, elemsOf, collI, collB, collII, allC, allN, fillL, evFz, lko, Option.isNone_none, renB, List.length_set, List.length_nil, Nat.sub_zero, Nat.add_zero, notD, chkG, evCopy, evCall, ofSR, viewA, lsOf, ofL, appL, zfree, zfreeB, freeB, isOne, ren, zipE, Op.operands, Call.operands, Nat.reduceAdd, Nat.reduceSub, Nat.reduceMul, Nat.reduceEqDiff, Nat.reduceLeDiff, Nat.reduceLT, Nat.reduceBEq, Nat.reduceBNe, ↓reduceIte, reduceIte, nbeq, nble, nblt, decide_true, decide_false, Bool.not_false, Bool.not_true, Bool.and_true, Bool.true_and, Bool.and_false, Bool.false_and, Bool.and_self, Bool.or_true, Bool.true_or, Bool.or_false, Bool.false_or, Bool.or_self, cond_true, cond_false, List.toList_toArray, List.map_cons, List.map_nil, List.getElem?_cons_zero, List.getElem?_cons_succ, Option.map_some, Option.map_none, List.zipIdx_nil, List.zipIdx_cons, List.all_nil, List.all_cons, List.isEmpty_nil, List.isEmpty_cons, List.cons_append, List.nil_append, true_and, and_true, imp_self, forall_const, implies_true, EO.mk.injEq, Bool.false_eq_true, Bool.true_eq_false, List.length_cons, List.length_nil, Array.toList_append, Bool.not_eq_true', Bool.not_eq_false', Bool.cond_true_left, Bool.cond_false_right, Bool.cond_false_left, Bool.cond_true_right, and_self, Bool.not_not, ne_eq, not_true_eq_false, not_false_eq_true, Int.toNat_natCast, Int.toNat_zero, Int.toNat_one, List.take_length, List.drop_zero, inI, evRes, resV, mkL, ltK, rhoL, leE, leR, menB, renB, menE, fzA, fzE, fzB, fzR] at h; obtain ⟨rfl, rfl, rfl, rfl⟩ := h; refine ⟨?_, ?_⟩)
    | ((with_reducible refine Ob.mk ?_); first | exact trivial | (intros; omega) | ((repeat' first | apply And.intro | (intro hg; have hg' := hg; try simp only [Bool.and_eq_false_iff, decide_eq_true_eq, decide_eq_false_iff_not, Bool.or_eq_true, Bool.or_eq_false_iff, Bool.and_eq_true, Bool.not_eq_true', Bool.not_eq_false', not_or, Int.not_lt, Int.not_le] at hg')) <;> first | assumption | omega | (simp only [Bool.and_eq_false_iff, decide_eq_true_eq, decide_eq_false_iff_not, Bool.or_eq_true, Bool.or_eq_false_iff, Bool.and_eq_true, Bool.not_eq_true', Bool.not_eq_false', not_or, Int.not_lt, Int.not_le]; omega)))
  refine fin_ret rfl rfl (spec_flat rfl ?_ rfl)
  rfl

theorem ch_good {S row : List Int} {v : Int} (h : ∃ a, a ∈ row ∧ S.getD a.toNat 0 = v) : (row.find? fun t => decide (S.getD t.toNat 0 = v)).getD (-1) ∈ row ∧ S.getD ((row.find? fun t => decide (S.getD t.toNat 0 = v)).getD (-1)).toNat 0 = v := by
  cases hf : row.find? fun t => decide (S.getD t.toNat 0 = v) with
  | none =>
    obtain ⟨a, h1, h2⟩ := h
    have := List.find?_eq_none.1 hf a h1
    exact absurd (decide_eq_true h2) this
  | some a => exact ⟨List.mem_of_find?_eq_some hf, of_decide_eq_true (List.find?_some (p := fun t : Int => decide (S.getD t.toNat 0 = v)) hf)⟩
/-- The last move that leads outside. -/
def lastN (S : List Int) (l : List Int) : Int := l.foldl (fun a j => if S.getD j.toNat 0 < 0 then j else a) (-1)
theorem lastN_succ {S l : List Int} {r : Nat} (h : r < l.length) : lastN S (l.take (r + 1)) = if S.getD (l.getD r 0).toNat 0 < 0 then l.getD r 0 else lastN S (l.take r) := by
  unfold lastN
  rw [take1 (d := 0) h, List.foldl_append]; rfl
theorem lastN_good {S : List Int} : ∀ {l : List Int} {a : Int}, ((∃ j, j ∈ l ∧ S.getD j.toNat 0 < 0) → l.foldl (fun a j => if S.getD j.toNat 0 < 0 then j else a) a ∈ l ∧ S.getD (l.foldl (fun a j => if S.getD j.toNat 0 < 0 then j else a) a).toNat 0 < 0) ∧ ((¬ ∃ j, j ∈ l ∧ S.getD j.toNat 0 < 0) → l.foldl (fun a j => if S.getD j.toNat 0 < 0 then j else a) a = a)
  | [], a => ⟨fun ⟨j, h, _⟩ => absurd h List.not_mem_nil, fun _ => rfl⟩
  | b :: t, a => by
    simp only [List.foldl_cons]
    obtain ⟨h1, h2⟩ := lastN_good (S := S) (l := t) (a := if S.getD b.toNat 0 < 0 then b else a)
    by_cases ht : ∃ j, j ∈ t ∧ S.getD j.toNat 0 < 0
    · obtain ⟨g1, g2⟩ := h1 ht
      refine ⟨fun _ => ⟨List.mem_cons_of_mem _ g1, g2⟩, fun hn => absurd ?_ hn⟩
      obtain ⟨j, k1, k2⟩ := ht
      exact ⟨j, List.mem_cons_of_mem _ k1, k2⟩
    · rw [h2 ht]
      refine ⟨fun ⟨j, k1, k2⟩ => ?_, fun hn => ?_⟩
      · rcases List.mem_cons.1 k1 with rfl | k1
        · rw [if_pos k2]; exact ⟨List.mem_cons_self, k2⟩
        · exact absurd ⟨j, k1, k2⟩ ht
      · rw [if_neg]
        exact fun h => hn ⟨b, List.mem_cons_self, h⟩
theorem any_succ {l : List Int} {P : Int → Bool} {r : Nat} (h : r < l.length) : (l.take (r + 1)).any P = ((l.take r).any P || P (l.getD r 0)) := by
  rw [take1 (d := 0) h, List.any_append]; simp

noncomputable def spForced : Nat → Option Spec
  | 8 => some fewS
  | 9 => some trueS
  | 10 => some attS
  | 15 => some validS
  | 17 => some absS
  | _ => none
theorem spForced_ok : SpOK Try.prog spForced := by
  intro f S h
  unfold spForced at h
  split at h
  · cases h; exact few_ok
  · cases h; exact awake12_ok
  · cases h; exact attract_ok
  · cases h; exact valid12_ok
  · cases h; exact abs_ok
  · cases h
def frcS : Spec
  | [.agg (.cons (.roI o) (.cons (.roI p) (.cons (.roII x) .nil))), .int .i64 q, .roB k, .roI c, .int .i64 f] => some ⟨True, .bool true, none⟩
  | _ => none

set_option maxRecDepth 4000 in
set_option maxHeartbeats 4000000 in
theorem frc_ok : FSpec Try.prog 4 frcS := by
  refine fspec_of htb (fn := Try.f4) (by kernel_rfl) (by kernel_rfl) rfl (fun args r hS => ?_) (fun args r hS hob hl => ?_)
  · unfold frcS at hS; split at hS <;> first | (cases hS; done) | (cases hS; exact Nat.le_of_ble_eq_true rfl)
  unfold frcS at hS
  split at hS
  case h_2 => cases hS
  rename_i o p x q to c f
  simp only [Option.some.injEq] at hS
  subst hS
  simp only [lenP, mkL, lim] at hl
  dsimp only at hob
  repeat' first
    | with_reducible refine awp_seq ?_
    | with_reducible refine awp_block ?_
    | with_reducible refine next_then ?_
    | with_reducible refine next_block ?_
    | with_reducible refine exit_then ?_
    | with_reducible refine ret_then ?_
    | with_reducible refine ret_block ?_
    | with_reducible refine exit_here ?_
    | with_reducible refine awp_exit ?_
    | with_reducible refine awp_ret ?_
    | with_reducible refine awp_skip ?_
    | with_reducible refine awp_label ?_
    | with_reducible refine next_noGoto ?_
    | with_reducible refine ret_noGoto ?_
    | with_reducible refine exit_noGoto ?_
    | with_reducible refine awp_scope ?_
    | ((with_reducible refine exit_past ?_ ?_); exact rfl)
    | ((with_reducible refine isCond ?_); refine awp_condO rfl ?_ ?_ <;> intro hb <;> (try simp only [Bool.and_eq_false_iff, decide_eq_true_eq, decide_eq_false_iff_not, Bool.or_eq_true, Bool.or_eq_false_iff, Bool.and_eq_true, Bool.not_eq_true', Bool.not_eq_false', not_or, Int.not_lt, Int.not_le] at hb))
    | ((with_reducible refine isRegS 3 ?_ ?_); (· exact rfl); (first | refine awp_textM htb hmz spForced_ok (fun _ => false) rfl rfl ?_ | refine awp_drawM hmo htb hmz spForced_ok (fun _ => false) rfl rfl (by kernel_rfl) ?_); intro m' e' l' ob h; simp only [evOut, evStep, eq_self, evo, ev1, evx, evp, ofP, guardOf, opv, lke_cons, lke_nil, lkr_nil, lkr_cons, isC, isCC, isCL, men, putE, setW, set1, del, evLoad, evField, evIndex, evBin, lenOf, evSlice, bnd, cutI, subv, selv, isV, isAg, cellsL, lenL, properL, nthL, dropL, takeL, appL, setL, updv, tb, TI.isStr, strip, gd, gds, whnR, evPick, evStore, stBox, evApp, srcI, srcB, srcR, evBuildS, evTake, makeB, isNilS, partsOK, elemsOf, collI, collB, collII, allC, allN, fillL, evFz, lko, Option.isNone_none, renB, List.length_set, List.length_nil, Nat.sub_zero, Nat.add_zero, notD, chkG, evCopy, evCall, ofSR, viewA, lsOf, ofL, appL, zfree, zfreeB, freeB, isOne, ren, zipE, Op.operands, Call.operands, Nat.reduceAdd, Nat.reduceSub, Nat.reduceMul, Nat.reduceEqDiff, Nat.reduceLeDiff, Nat.reduceLT, Nat.reduceBEq, Nat.reduceBNe, ↓reduceIte, reduceIte, nbeq, nble, nblt, decide_true, decide_false, Bool.not_false, Bool.not_true, Bool.and_true, Bool.true_and, Bool.and_false, Bool.false_and, Bool.and_self, Bool.or_true, Bool.true_or, Bool.or_false, Bool.false_or, Bool.or_self, cond_true, cond_false, List.toList_toArray, List.map_cons, List.map_nil, List.getElem?_cons_zero, List.getElem?_cons_succ, Option.map_some, Option.map_none, List.zipIdx_nil, List.zipIdx_cons, List.all_nil, List.all_cons, List.isEmpty_nil, List.isEmpty_cons, List.cons_append, List.nil_append, true_and, and_true, imp_self, forall_const, implies_true, EO.mk.injEq, Bool.false_eq_true, Bool.true_eq_false, List.length_cons, List.length_nil, Array.toList_append, Bool.not_eq_true', Bool.not_eq_false', Bool.cond_true_left, Bool.cond_false_right, Bool.cond_false_left, Bool.cond_true_right, and_self, Bool.not_not, ne_eq, not_true_eq_false, not_false_eq_true, Int.toNat_natCast, Int.toNat_zero, Int.toNat_one, List.take_length, List.drop_zero, inI, evRes, resV, mkL, ltK, rhoL, leE, leR, menB, renB, menE, fzA, fzE, fzB, fzR, spForced, fewS, trueS, attS, validS, absS, gmA, AttR.av, beq_self_eq_true] at h; obtain ⟨rfl, rfl, rfl, rfl⟩ := h; refine ⟨?_, ?_⟩)
    | ((with_reducible refine Ob.mk ?_); first | exact trivial | (intros; omega) | ((repeat' first | apply And.intro | (intro hg; have hg' := hg; try simp only [Bool.and_eq_false_iff, decide_eq_true_eq, decide_eq_false_iff_not, Bool.or_eq_true, Bool.or_eq_false_iff, Bool.and_eq_true, Bool.not_eq_true', Bool.not_eq_false', not_or, Int.not_lt, Int.not_le] at hg')) <;> first | assumption | omega | (simp only [Bool.and_eq_false_iff, decide_eq_true_eq, decide_eq_false_iff_not, Bool.or_eq_true, Bool.or_eq_false_iff, Bool.and_eq_true, Bool.not_eq_true', Bool.not_eq_false', not_or, Int.not_lt, Int.not_le]; omega)))
  · refine fin_ret rfl rfl (spec_flat rfl ?_ rfl)
    rfl
  obtain ⟨⟨⟨⟨⟨hfew, h1⟩, h2⟩, h3⟩, h4⟩, hv⟩ := hb
  have hV := validB_iff.1 hv
  obtain ⟨hn, hpl, hxl, hpos⟩ := id hV
  simp only [Gm.n] at hn hpl hxl
  have hn60 : o.length ≤ 60 := by
    unfold few at hfew
    simp only [Bool.and_eq_true, Bool.not_eq_true', Bool.or_eq_false_iff, decide_eq_false_iff_not] at hfew
    have := hfew.1.1.1
    omega
  by_cases hp : q = 0 ∨ q = 1
  case neg =>
    have ha : attR ⟨o, p, x⟩ q to = ⟨[], [], 6⟩ := att_e2 hv (by omega)
    repeat' first
      | with_reducible refine awp_seq ?_
      | with_reducible refine awp_block ?_
      | with_reducible refine next_then ?_
      | with_reducible refine next_block ?_
      | with_reducible refine exit_then ?_
      | with_reducible refine ret_then ?_
      | with_reducible refine ret_block ?_
      | with_reducible refine exit_here ?_
      | with_reducible refine awp_exit ?_
      | with_reducible refine awp_ret ?_
      | with_reducible refine awp_skip ?_
      | with_reducible refine awp_label ?_
      | with_reducible refine next_noGoto ?_
      | with_reducible refine ret_noGoto ?_
      | with_reducible refine exit_noGoto ?_
      | with_reducible refine awp_scope ?_
      | ((with_reducible refine exit_past ?_ ?_); exact rfl)
      | ((with_reducible refine isCond ?_); refine awp_condO rfl ?_ ?_ <;> intro hb <;> (try simp only [Bool.and_eq_false_iff, decide_eq_true_eq, decide_eq_false_iff_not, Bool.or_eq_true, Bool.or_eq_false_iff, Bool.and_eq_true, Bool.not_eq_true', Bool.not_eq_false', not_or, Int.not_lt, Int.not_le] at hb))
      | ((with_reducible refine isReg ?_); (first | refine awp_textM htb hmz spForced_ok (fun _ => false) rfl rfl ?_ | refine awp_drawM hmo htb hmz spForced_ok (fun _ => false) rfl rfl (by kernel_rfl) ?_); intro m' e' l' ob h; simp only [evOut, evStep, eq_self, evo, ev1, evx, evp, ofP, guardOf, opv, lke_cons, lke_nil, lkr_nil, lkr_cons, isC, isCC, isCL, men, putE, setW, set1, del, evLoad, evField, evIndex, evBin, lenOf, evSlice, bnd, cutI, subv, selv, isV, isAg, cellsL, lenL, properL, nthL, dropL, takeL, appL, setL, updv, tb, TI.isStr, strip, gd, gds, whnR, evPick, evStore, stBox, evApp, srcI, srcB, srcR, evBuildS, evTake, makeB, isNilS, partsOK, elemsOf, collI, collB, collII, allC, allN, fillL, evFz, lko, Option.isNone_none, renB, List.length_set, List.length_nil, Nat.sub_zero, Nat.add_zero, notD, chkG, evCopy, evCall, ofSR, viewA, lsOf, ofL, appL, zfree, zfreeB, freeB, isOne, ren, zipE, Op.operands, Call.operands, Nat.reduceAdd, Nat.reduceSub, Nat.reduceMul, Nat.reduceEqDiff, Nat.reduceLeDiff, Nat.reduceLT, Nat.reduceBEq, Nat.reduceBNe, ↓reduceIte, reduceIte, nbeq, nble, nblt, decide_true, decide_false, Bool.not_false, Bool.not_true, Bool.and_true, Bool.true_and, Bool.and_false, Bool.false_and, Bool.and_self, Bool.or_true, Bool.true_or, Bool.or_false, Bool.false_or, Bool.or_self, cond_true, cond_false, List.toList_toArray, List.map_cons, List.map_nil, List.getElem?_cons_zero, List.getElem?_cons_succ, Option.map_some, Option.map_none, List.zipIdx_nil, List.zipIdx_cons, List.all_nil, List.all_cons, List.isEmpty_nil, List.isEmpty_cons, List.cons_append, List.nil_append, true_and, and_true, imp_self, forall_const, implies_true, EO.mk.injEq, Bool.false_eq_true, Bool.true_eq_false, List.length_cons, List.length_nil, Array.toList_append, Bool.not_eq_true', Bool.not_eq_false', Bool.cond_true_left, Bool.cond_false_right, Bool.cond_false_left, Bool.cond_true_right, and_self, Bool.not_not, ne_eq, not_true_eq_false, not_false_eq_true, Int.toNat_natCast, Int.toNat_zero, Int.toNat_one, List.take_length, List.drop_zero, inI, evRes, resV, mkL, ltK, rhoL, leE, leR, menB, renB, menE, fzA, fzE, fzB, fzR, spForced, fewS, trueS, attS, validS, absS, gmA, AttR.av, beq_self_eq_true, ha, Int.reduceEq] at h; obtain ⟨rfl, rfl, rfl, rfl⟩ := h; refine ⟨?_, ?_⟩)
      | ((with_reducible refine Ob.mk ?_); first | exact trivial | (intros; omega) | ((repeat' first | apply And.intro | (intro hg; have hg' := hg; try simp only [Bool.and_eq_false_iff, decide_eq_true_eq, decide_eq_false_iff_not, Bool.or_eq_true, Bool.or_eq_false_iff, Bool.and_eq_true, Bool.not_eq_true', Bool.not_eq_false', not_or, Int.not_lt, Int.not_le] at hg')) <;> first | assumption | omega | (simp only [Bool.and_eq_false_iff, decide_eq_true_eq, decide_eq_false_iff_not, Bool.or_eq_true, Bool.or_eq_false_iff, Bool.and_eq_true, Bool.not_eq_true', Bool.not_eq_false', not_or, Int.not_lt, Int.not_le]; omega)))
    all_goals first | (cases hb; done) | (exact absurd (‹true = false› : true = false) (by decide)) | (refine fin_ret rfl rfl (spec_flat rfl ?_ rfl); rfl)
  by_cases ht : to.length = o.length
  case neg =>
    have ha : attR ⟨o, p, x⟩ q to = ⟨[], [], 2⟩ := att_e3 hv (by omega) ht
    repeat' first
      | with_reducible refine awp_seq ?_
      | with_reducible refine awp_block ?_
      | with_reducible refine next_then ?_
      | with_reducible refine next_block ?_
      | with_reducible refine exit_then ?_
      | with_reducible refine ret_then ?_
      | with_reducible refine ret_block ?_
      | with_reducible refine exit_here ?_
      | with_reducible refine awp_exit ?_
      | with_reducible refine awp_ret ?_
      | with_reducible refine awp_skip ?_
      | with_reducible refine awp_label ?_
      | with_reducible refine next_noGoto ?_
      | with_reducible refine ret_noGoto ?_
      | with_reducible refine exit_noGoto ?_
      | with_reducible refine awp_scope ?_
      | ((with_reducible refine exit_past ?_ ?_); exact rfl)
      | ((with_reducible refine isCond ?_); refine awp_condO rfl ?_ ?_ <;> intro hb <;> (try simp only [Bool.and_eq_false_iff, decide_eq_true_eq, decide_eq_false_iff_not, Bool.or_eq_true, Bool.or_eq_false_iff, Bool.and_eq_true, Bool.not_eq_true', Bool.not_eq_false', not_or, Int.not_lt, Int.not_le] at hb))
      | ((with_reducible refine isReg ?_); (first | refine awp_textM htb hmz spForced_ok (fun _ => false) rfl rfl ?_ | refine awp_drawM hmo htb hmz spForced_ok (fun _ => false) rfl rfl (by kernel_rfl) ?_); intro m' e' l' ob h; simp only [evOut, evStep, eq_self, evo, ev1, evx, evp, ofP, guardOf, opv, lke_cons, lke_nil, lkr_nil, lkr_cons, isC, isCC, isCL, men, putE, setW, set1, del, evLoad, evField, evIndex, evBin, lenOf, evSlice, bnd, cutI, subv, selv, isV, isAg, cellsL, lenL, properL, nthL, dropL, takeL, appL, setL, updv, tb, TI.isStr, strip, gd, gds, whnR, evPick, evStore, stBox, evApp, srcI, srcB, srcR, evBuildS, evTake, makeB, isNilS, partsOK, elemsOf, collI, collB, collII, allC, allN, fillL, evFz, lko, Option.isNone_none, renB, List.length_set, List.length_nil, Nat.sub_zero, Nat.add_zero, notD, chkG, evCopy, evCall, ofSR, viewA, lsOf, ofL, appL, zfree, zfreeB, freeB, isOne, ren, zipE, Op.operands, Call.operands, Nat.reduceAdd, Nat.reduceSub, Nat.reduceMul, Nat.reduceEqDiff, Nat.reduceLeDiff, Nat.reduceLT, Nat.reduceBEq, Nat.reduceBNe, ↓reduceIte, reduceIte, nbeq, nble, nblt, decide_true, decide_false, Bool.not_false, Bool.not_true, Bool.and_true, Bool.true_and, Bool.and_false, Bool.false_and, Bool.and_self, Bool.or_true, Bool.true_or, Bool.or_false, Bool.false_or, Bool.or_self, cond_true, cond_false, List.toList_toArray, List.map_cons, List.map_nil, List.getElem?_cons_zero, List.getElem?_cons_succ, Option.map_some, Option.map_none, List.zipIdx_nil, List.zipIdx_cons, List.all_nil, List.all_cons, List.isEmpty_nil, List.isEmpty_cons, List.cons_append, List.nil_append, true_and, and_true, imp_self, forall_const, implies_true, EO.mk.injEq, Bool.false_eq_true, Bool.true_eq_false, List.length_cons, List.length_nil, Array.toList_append, Bool.not_eq_true', Bool.not_eq_false', Bool.cond_true_left, Bool.cond_false_right, Bool.cond_false_left, Bool.cond_true_right, and_self, Bool.not_not, ne_eq, not_true_eq_false, not_false_eq_true, Int.toNat_natCast, Int.toNat_zero, Int.toNat_one, List.take_length, List.drop_zero, inI, evRes, resV, mkL, ltK, rhoL, leE, leR, menB, renB, menE, fzA, fzE, fzB, fzR, spForced, fewS, trueS, attS, validS, absS, gmA, AttR.av, beq_self_eq_true, ha, Int.reduceEq] at h; obtain ⟨rfl, rfl, rfl, rfl⟩ := h; refine ⟨?_, ?_⟩)
      | ((with_reducible refine Ob.mk ?_); first | exact trivial | (intros; omega) | ((repeat' first | apply And.intro | (intro hg; have hg' := hg; try simp only [Bool.and_eq_false_iff, decide_eq_true_eq, decide_eq_false_iff_not, Bool.or_eq_true, Bool.or_eq_false_iff, Bool.and_eq_true, Bool.not_eq_true', Bool.not_eq_false', not_or, Int.not_lt, Int.not_le] at hg')) <;> first | assumption | omega | (simp only [Bool.and_eq_false_iff, decide_eq_true_eq, decide_eq_false_iff_not, Bool.or_eq_true, Bool.or_eq_false_iff, Bool.and_eq_true, Bool.not_eq_true', Bool.not_eq_false', not_or, Int.not_lt, Int.not_le]; omega)))
    all_goals first | (cases hb; done) | (exact absurd (‹true = false› : true = false) (by decide)) | (refine fin_ret rfl rfl (spec_flat rfl ?_ rfl); rfl)
  have ha : attR ⟨o, p, x⟩ q to = ⟨rankOf ⟨o, p, x⟩ q to, (List.range o.length).map (chO ⟨o, p, x⟩ q (rankOf ⟨o, p, x⟩ q to)), 0⟩ := att_e4 hv (by omega) ht
  have hR := rank_of hV ht (p := q)
  generalize rankOf ⟨o, p, x⟩ q to = S at *
  have hCl : ((List.range o.length).map (chO ⟨o, p, x⟩ q S)).length = o.length := by simp
  have hCg : ∀ i, i < o.length → ((List.range o.length).map (chO ⟨o, p, x⟩ q S)).getD i 0 = chO ⟨o, p, x⟩ q S i := fun i h => by simp [List.getD_eq_getElem?_getD, h]
  generalize (List.range o.length).map (chO ⟨o, p, x⟩ q S) = C at *
  have hls := hR.ls
  dsimp only at hls
  obtain ⟨f, rfl⟩ : ∃ n : Nat, f = n := ⟨f.toNat, by omega⟩
  repeat' first
    | with_reducible refine awp_seq ?_
    | with_reducible refine awp_block ?_
    | with_reducible refine next_then ?_
    | with_reducible refine next_block ?_
    | with_reducible refine exit_then ?_
    | with_reducible refine ret_then ?_
    | with_reducible refine ret_block ?_
    | with_reducible refine exit_here ?_
    | with_reducible refine awp_exit ?_
    | with_reducible refine awp_ret ?_
    | with_reducible refine awp_skip ?_
    | with_reducible refine awp_label ?_
    | with_reducible refine next_noGoto ?_
    | with_reducible refine ret_noGoto ?_
    | with_reducible refine exit_noGoto ?_
    | with_reducible refine awp_scope ?_
    | ((with_reducible refine exit_past ?_ ?_); exact rfl)
    | ((with_reducible refine isCond ?_); refine awp_condO rfl ?_ ?_ <;> intro hb <;> (try simp only [Bool.and_eq_false_iff, decide_eq_true_eq, decide_eq_false_iff_not, Bool.or_eq_true, Bool.or_eq_false_iff, Bool.and_eq_true, Bool.not_eq_true', Bool.not_eq_false', not_or, Int.not_lt, Int.not_le] at hb))
    | ((with_reducible refine isReg ?_); (first | refine awp_textM htb hmz spForced_ok (fun _ => false) rfl rfl ?_ | refine awp_drawM hmo htb hmz spForced_ok (fun _ => false) rfl rfl (by kernel_rfl) ?_); intro m' e' l' ob h; simp only [evOut, evStep, eq_self, evo, ev1, evx, evp, ofP, guardOf, opv, lke_cons, lke_nil, lkr_nil, lkr_cons, isC, isCC, isCL, men, putE, setW, set1, del, evLoad, evField, evIndex, evBin, lenOf, evSlice, bnd, cutI, subv, selv, isV, isAg, cellsL, lenL, properL, nthL, dropL, takeL, appL, setL, updv, tb, TI.isStr, strip, gd, gds, whnR, evPick, evStore, stBox, evApp, srcI, srcB, srcR, evBuildS, evTake, makeB, isNilS, partsOK, elemsOf, collI, collB, collII, allC, allN, fillL, evFz, lko, Option.isNone_none, renB, List.length_set, List.length_nil, Nat.sub_zero, Nat.add_zero, notD, chkG, evCopy, evCall, ofSR, viewA, lsOf, ofL, appL, zfree, zfreeB, freeB, isOne, ren, zipE, Op.operands, Call.operands, Nat.reduceAdd, Nat.reduceSub, Nat.reduceMul, Nat.reduceEqDiff, Nat.reduceLeDiff, Nat.reduceLT, Nat.reduceBEq, Nat.reduceBNe, ↓reduceIte, reduceIte, nbeq, nble, nblt, decide_true, decide_false, Bool.not_false, Bool.not_true, Bool.and_true, Bool.true_and, Bool.and_false, Bool.false_and, Bool.and_self, Bool.or_true, Bool.true_or, Bool.or_false, Bool.false_or, Bool.or_self, cond_true, cond_false, List.toList_toArray, List.map_cons, List.map_nil, List.getElem?_cons_zero, List.getElem?_cons_succ, Option.map_some, Option.map_none, List.zipIdx_nil, List.zipIdx_cons, List.all_nil, List.all_cons, List.isEmpty_nil, List.isEmpty_cons, List.cons_append, List.nil_append, true_and, and_true, imp_self, forall_const, implies_true, EO.mk.injEq, Bool.false_eq_true, Bool.true_eq_false, List.length_cons, List.length_nil, Array.toList_append, Bool.not_eq_true', Bool.not_eq_false', Bool.cond_true_left, Bool.cond_false_right, Bool.cond_false_left, Bool.cond_true_right, and_self, Bool.not_not, ne_eq, not_true_eq_false, not_false_eq_true, Int.toNat_natCast, Int.toNat_zero, Int.toNat_one, List.take_length, List.drop_zero, inI, evRes, resV, mkL, ltK, rhoL, leE, leR, menB, renB, menE, fzA, fzE, fzB, fzR, spForced, fewS, trueS, attS, validS, absS, gmA, AttR.av, beq_self_eq_true, ha, Int.reduceEq] at h; obtain ⟨rfl, rfl, rfl, rfl⟩ := h; refine ⟨?_, ?_⟩)
    | ((with_reducible refine Ob.mk ?_); first | exact trivial | (intros; omega) | ((repeat' first | apply And.intro | (intro hg; have hg' := hg; try simp only [Bool.and_eq_false_iff, decide_eq_true_eq, decide_eq_false_iff_not, Bool.or_eq_true, Bool.or_eq_false_iff, Bool.and_eq_true, Bool.not_eq_true', Bool.not_eq_false', not_or, Int.not_lt, Int.not_le] at hg')) <;> first | assumption | omega | (simp only [Bool.and_eq_false_iff, decide_eq_true_eq, decide_eq_false_iff_not, Bool.or_eq_true, Bool.or_eq_false_iff, Bool.and_eq_true, Bool.not_eq_true', Bool.not_eq_false', not_or, Int.not_lt, Int.not_le]; omega)))
  · cases hb
  · exfalso; omega
  have hs0 := hR.s0
  have hlo := hR.lo
  have hup := hR.up f (by show f < o.length; omega)
  dsimp only at hs0 hlo hup
  refine awp_loopC (τ := Nat × Nat) (fun t => t.1 ≤ 71 ∧ t.2 < o.length ∧ (0 ≤ S.getD f 0 → 0 ≤ S.getD t.2 0 ∧ S.getD t.2 0 + t.1 ≤ S.getD f 0) ∧ (S.getD f 0 < 0 → S.getD t.2 0 < 0)) (fun t => ⟨40, [(16, .int .i64 t.1), (15, .int .i64 t.2), (14, .bool (decide (0 ≤ S.getD f 0))), (12, .roI C), (11, .roI S), (10, .bool false), (5, .rop (.agg (.cons (.roI o) (.cons (.roI p) (.cons (.roII x) .nil))))), (1, .int .i64 q), (2, .roB to), (3, .roI c), (4, .int .i64 f)], [], []⟩) (fun t => 71 - t.1) (0, f) [] ?_ ⟨Nat.zero_le _, by dsimp only; omega, fun h => ⟨h, by dsimp only; omega⟩, fun h => h⟩ ?_
  · refine ⟨rfl, ?_, ?_⟩ <;> simp only [evOut, evStep, eq_self, evo, ev1, evx, evp, ofP, guardOf, opv, lke_cons, lke_nil, lkr_nil, lkr_cons, isC, isCC, isCL, men, putE, setW, set1, del, evLoad, evField, evIndex, evBin, lenOf, evSlice, bnd, cutI, subv, selv, isV, isAg, cellsL, lenL, properL, nthL, dropL, takeL, appL, setL, updv, tb, TI.isStr, strip, gd, gds, whnR, evPick, evStore, stBox, evApp, srcI, srcB, srcR, evBuildS, evTake, makeB, isNilS, partsOK, elemsOf, collI, collB, collII, allC, allN, fillL, evFz, lko, Option.isNone_none, renB, List.length_set, List.length_nil, Nat.sub_zero, Nat.add_zero, notD, chkG, evCopy, evCall, ofSR, viewA, lsOf, ofL, appL, zfree, zfreeB, freeB, isOne, ren, zipE, Op.operands, Call.operands, Nat.reduceAdd, Nat.reduceSub, Nat.reduceMul, Nat.reduceEqDiff, Nat.reduceLeDiff, Nat.reduceLT, Nat.reduceBEq, Nat.reduceBNe, ↓reduceIte, reduceIte, nbeq, nble, nblt, decide_true, decide_false, Bool.not_false, Bool.not_true, Bool.and_true, Bool.true_and, Bool.and_false, Bool.false_and, Bool.and_self, Bool.or_true, Bool.true_or, Bool.or_false, Bool.false_or, Bool.or_self, cond_true, cond_false, List.toList_toArray, List.map_cons, List.map_nil, List.getElem?_cons_zero, List.getElem?_cons_succ, Option.map_some, Option.map_none, List.zipIdx_nil, List.zipIdx_cons, List.all_nil, List.all_cons, List.isEmpty_nil, List.isEmpty_cons, List.cons_append, List.nil_append, true_and, and_true, imp_self, forall_const, implies_true, EO.mk.injEq, Bool.false_eq_true, Bool.true_eq_false, List.length_cons, List.length_nil, Array.toList_append, Bool.not_eq_true', Bool.not_eq_false', Bool.cond_true_left, Bool.cond_false_right, Bool.cond_false_left, Bool.cond_true_right, and_self, Bool.not_not, ne_eq, not_true_eq_false, not_false_eq_true, Int.toNat_natCast, Int.toNat_zero, Int.toNat_one, List.take_length, List.drop_zero, inI, evRes, resV, mkL, ltK, rhoL, leE, leR, menB, renB, menE, fzA, fzE, fzB, fzR, spForced, fewS, trueS, attS, validS, absS, gmA, AttR.av, beq_self_eq_true, ha, Int.reduceEq, AV.int.injEq, AV.bool.injEq, AV.roI.injEq, AV.roB.injEq, AV.roII.injEq, AV.rop.injEq, AV.agg.injEq, AV.tup.injEq, AV.cons.injEq, AV.own.injEq, AV.whn.injEq, Blk.ints.injEq, Blk.bools.injEq, Blk.rows.injEq, Blk.rowsR.injEq, Blk.box.injEq, Option.some.injEq, Int.natCast_add, Int.natCast_one, Int.cast_ofNat_Int]
  rintro ⟨k, i⟩ ⟨hk, hi, hin, hout⟩
  dsimp only at hk hi hin hout ⊢
  have hti := hs0 i hi
  repeat' first
    | with_reducible refine awp_seq ?_
    | with_reducible refine awp_block ?_
    | with_reducible refine next_then ?_
    | with_reducible refine next_block ?_
    | with_reducible refine exit_then ?_
    | with_reducible refine ret_then ?_
    | with_reducible refine ret_block ?_
    | with_reducible refine exit_here ?_
    | with_reducible refine awp_exit ?_
    | with_reducible refine awp_ret ?_
    | with_reducible refine awp_skip ?_
    | with_reducible refine awp_label ?_
    | with_reducible refine next_noGoto ?_
    | with_reducible refine ret_noGoto ?_
    | with_reducible refine exit_noGoto ?_
    | with_reducible refine awp_scope ?_
    | ((with_reducible refine exit_past ?_ ?_); exact rfl)
    | ((with_reducible refine isCond ?_); refine awp_condO rfl ?_ ?_ <;> intro hb <;> (try simp only [Bool.and_eq_false_iff, decide_eq_true_eq, decide_eq_false_iff_not, Bool.or_eq_true, Bool.or_eq_false_iff, Bool.and_eq_true, Bool.not_eq_true', Bool.not_eq_false', not_or, Int.not_lt, Int.not_le] at hb))
    | ((with_reducible refine isRegS 16 ?_ ?_); (· exact rfl); (first | refine awp_textM htb hmz spForced_ok (fun _ => false) rfl rfl ?_ | refine awp_drawM hmo htb hmz spForced_ok (fun _ => false) rfl rfl (by kernel_rfl) ?_); intro m' e' l' ob h; simp only [evOut, evStep, eq_self, evo, ev1, evx, evp, ofP, guardOf, opv, lke_cons, lke_nil, lkr_nil, lkr_cons, isC, isCC, isCL, men, putE, setW, set1, del, evLoad, evField, evIndex, evBin, lenOf, evSlice, bnd, cutI, subv, selv, isV, isAg, cellsL, lenL, properL, nthL, dropL, takeL, appL, setL, updv, tb, TI.isStr, strip, gd, gds, whnR, evPick, evStore, stBox, evApp, srcI, srcB, srcR, evBuildS, evTake, makeB, isNilS, partsOK, elemsOf, collI, collB, collII, allC, allN, fillL, evFz, lko, Option.isNone_none, renB, List.length_set, List.length_nil, Nat.sub_zero, Nat.add_zero, notD, chkG, evCopy, evCall, ofSR, viewA, lsOf, ofL, appL, zfree, zfreeB, freeB, isOne, ren, zipE, Op.operands, Call.operands, Nat.reduceAdd, Nat.reduceSub, Nat.reduceMul, Nat.reduceEqDiff, Nat.reduceLeDiff, Nat.reduceLT, Nat.reduceBEq, Nat.reduceBNe, ↓reduceIte, reduceIte, nbeq, nble, nblt, decide_true, decide_false, Bool.not_false, Bool.not_true, Bool.and_true, Bool.true_and, Bool.and_false, Bool.false_and, Bool.and_self, Bool.or_true, Bool.true_or, Bool.or_false, Bool.false_or, Bool.or_self, cond_true, cond_false, List.toList_toArray, List.map_cons, List.map_nil, List.getElem?_cons_zero, List.getElem?_cons_succ, Option.map_some, Option.map_none, List.zipIdx_nil, List.zipIdx_cons, List.all_nil, List.all_cons, List.isEmpty_nil, List.isEmpty_cons, List.cons_append, List.nil_append, true_and, and_true, imp_self, forall_const, implies_true, EO.mk.injEq, Bool.false_eq_true, Bool.true_eq_false, List.length_cons, List.length_nil, Array.toList_append, Bool.not_eq_true', Bool.not_eq_false', Bool.cond_true_left, Bool.cond_false_right, Bool.cond_false_left, Bool.cond_true_right, and_self, Bool.not_not, ne_eq, not_true_eq_false, not_false_eq_true, Int.toNat_natCast, Int.toNat_zero, Int.toNat_one, List.take_length, List.drop_zero, inI, evRes, resV, mkL, ltK, rhoL, leE, leR, menB, renB, menE, fzA, fzE, fzB, fzR, spForced, fewS, trueS, attS, validS, absS, gmA, AttR.av, beq_self_eq_true, ha, Int.reduceEq] at h; obtain ⟨rfl, rfl, rfl, rfl⟩ := h; refine ⟨?_, ?_⟩)
    | ((with_reducible refine Ob.mk ?_); first | exact trivial | (intros; omega) | ((repeat' first | apply And.intro | (intro hg; have hg' := hg; try simp only [Bool.and_eq_false_iff, decide_eq_true_eq, decide_eq_false_iff_not, Bool.or_eq_true, Bool.or_eq_false_iff, Bool.and_eq_true, Bool.not_eq_true', Bool.not_eq_false', not_or, Int.not_lt, Int.not_le] at hg')) <;> first | assumption | omega | (simp only [Bool.and_eq_false_iff, decide_eq_true_eq, decide_eq_false_iff_not, Bool.or_eq_true, Bool.or_eq_false_iff, Bool.and_eq_true, Bool.not_eq_true', Bool.not_eq_false', not_or, Int.not_lt, Int.not_le]; omega)))
  · refine fin_ret rfl rfl (spec_flat rfl ?_ rfl)
    show AV.bool _ = AV.bool true
    have : (decide (0 ≤ S.getD f 0) == to.getD i false) = true := by
      rw [beq_iff_eq]
      rcases hb with ⟨h1, h2⟩ | h1
      · have := hin h1; omega
      · rw [h1, decide_eq_true_eq]
        have h2 := hti.2 h1
        refine Classical.byContradiction fun h3 => ?_
        have := hout (by omega)
        omega
    rw [this]
  · have hkk : (k : Int) ≤ 70 := by omega
    have htf : to.getD i false = false := hb.2
    obtain ⟨⟨r1, r2, r3, r4, r5, r6⟩, hrow⟩ := hpos i hi
    simp only [Gm.x, Gm.n] at r5 r6 hrow
    have hrb : ∀ r, r < (x.getD i []).length → 0 ≤ (x.getD i []).getD r 0 ∧ (x.getD i []).getD r 0 < o.length := fun r hr => ⟨(hrow r hr).1, (hrow r hr).2.1⟩
    have hsc : ∀ a, a ∈ x.getD i [] → a.toNat ∈ sc x i := fun a ha => List.mem_map.2 ⟨a, ha, rfl⟩
    have hrm : ∀ a, a ∈ x.getD i [] → 0 ≤ a ∧ a < o.length := fun a ha => (row_of hV hi).2 a ha
    have hc0p := hR.c0p i hi
    have hc0o := hR.c0o i hi
    have hc3p := hR.c3p i hi
    have hc3o := hR.c3o i hi
    have hch := hCg i hi
    have hchd : chO ⟨o, p, x⟩ q S i = if o.getD i 0 ≠ q ∨ S.getD i 0 < 1 then -1 else ((x.getD i []).find? fun t => S.getD t.toNat 0 = S.getD i 0 - 1).getD (-1) := rfl
    have hscd : ∀ t, t ∈ sc x i → ∃ a, a ∈ x.getD i [] ∧ a.toNat = t := fun t ht => List.mem_map.1 ht
    dsimp only at hc0p hc0o hc3p hc3o
    have ha0 := absV_nn (c.getD i 0)
    have hfr1 : 0 ≤ absV (c.getD i 0) % ((x.getD i []).length : Int) := Int.emod_nonneg _ (by omega)
    have hfr2 : absV (c.getD i 0) % ((x.getD i []).length : Int) < (x.getD i []).length := Int.emod_lt_of_pos _ (by omega)
    have hfm : (x.getD i []).getD (absV (c.getD i 0) % ((x.getD i []).length : Int)).toNat 0 ∈ x.getD i [] := getD_mem (by omega)
    repeat' first
      | with_reducible refine awp_seq ?_
      | with_reducible refine awp_block ?_
      | with_reducible refine next_then ?_
      | with_reducible refine next_block ?_
      | with_reducible refine exit_then ?_
      | with_reducible refine ret_then ?_
      | with_reducible refine ret_block ?_
      | with_reducible refine exit_here ?_
      | with_reducible refine awp_exit ?_
      | with_reducible refine awp_ret ?_
      | with_reducible refine awp_skip ?_
      | with_reducible refine awp_label ?_
      | with_reducible refine next_noGoto ?_
      | with_reducible refine ret_noGoto ?_
      | with_reducible refine exit_noGoto ?_
      | with_reducible refine awp_scope ?_
      | ((with_reducible refine exit_past ?_ ?_); exact rfl)
      | ((with_reducible refine isCond ?_); refine awp_condO rfl ?_ ?_ <;> intro hb <;> (try simp only [Bool.and_eq_false_iff, decide_eq_true_eq, decide_eq_false_iff_not, Bool.or_eq_true, Bool.or_eq_false_iff, Bool.and_eq_true, Bool.not_eq_true', Bool.not_eq_false', not_or, Int.not_lt, Int.not_le] at hb))
      | ((with_reducible refine isRegS 27 ?_ ?_); (· exact rfl); (first | refine awp_textM htb hmz spForced_ok (fun _ => false) rfl rfl ?_ | refine awp_drawM hmo htb hmz spForced_ok (fun _ => false) rfl rfl (by kernel_rfl) ?_); intro m' e' l' ob h; simp only [evOut, evStep, eq_self, evo, ev1, evx, evp, ofP, guardOf, opv, lke_cons, lke_nil, lkr_nil, lkr_cons, isC, isCC, isCL, men, putE, setW, set1, del, evLoad, evField, evIndex, evBin, lenOf, evSlice, bnd, cutI, subv, selv, isV, isAg, cellsL, lenL, properL, nthL, dropL, takeL, appL, setL, updv, tb, TI.isStr, strip, gd, gds, whnR, evPick, evStore, stBox, evApp, srcI, srcB, srcR, evBuildS, evTake, makeB, isNilS, partsOK, elemsOf, collI, collB, collII, allC, allN, fillL, evFz, lko, Option.isNone_none, renB, List.length_set, List.length_nil, Nat.sub_zero, Nat.add_zero, notD, chkG, evCopy, evCall, ofSR, viewA, lsOf, ofL, appL, zfree, zfreeB, freeB, isOne, ren, zipE, Op.operands, Call.operands, Nat.reduceAdd, Nat.reduceSub, Nat.reduceMul, Nat.reduceEqDiff, Nat.reduceLeDiff, Nat.reduceLT, Nat.reduceBEq, Nat.reduceBNe, ↓reduceIte, reduceIte, nbeq, nble, nblt, decide_true, decide_false, Bool.not_false, Bool.not_true, Bool.and_true, Bool.true_and, Bool.and_false, Bool.false_and, Bool.and_self, Bool.or_true, Bool.true_or, Bool.or_false, Bool.false_or, Bool.or_self, cond_true, cond_false, List.toList_toArray, List.map_cons, List.map_nil, List.getElem?_cons_zero, List.getElem?_cons_succ, Option.map_some, Option.map_none, List.zipIdx_nil, List.zipIdx_cons, List.all_nil, List.all_cons, List.isEmpty_nil, List.isEmpty_cons, List.cons_append, List.nil_append, true_and, and_true, imp_self, forall_const, implies_true, EO.mk.injEq, Bool.false_eq_true, Bool.true_eq_false, List.length_cons, List.length_nil, Array.toList_append, Bool.not_eq_true', Bool.not_eq_false', Bool.cond_true_left, Bool.cond_false_right, Bool.cond_false_left, Bool.cond_true_right, and_self, Bool.not_not, ne_eq, not_true_eq_false, not_false_eq_true, Int.toNat_natCast, Int.toNat_zero, Int.toNat_one, List.take_length, List.drop_zero, inI, evRes, resV, mkL, ltK, rhoL, leE, leR, menB, renB, menE, fzA, fzE, fzB, fzR, spForced, fewS, trueS, attS, validS, absS, gmA, AttR.av, beq_self_eq_true, ha, Int.reduceEq] at h; obtain ⟨rfl, rfl, rfl, rfl⟩ := h; refine ⟨?_, ?_⟩)
      | ((with_reducible refine Ob.mk ?_); first | exact trivial | (intros; omega) | ((repeat' first | apply And.intro | (intro hg; have hg' := hg; try simp only [Bool.and_eq_false_iff, decide_eq_true_eq, decide_eq_false_iff_not, Bool.or_eq_true, Bool.or_eq_false_iff, Bool.and_eq_true, Bool.not_eq_true', Bool.not_eq_false', not_or, Int.not_lt, Int.not_le] at hg')) <;> first | assumption | omega | (simp only [Bool.and_eq_false_iff, decide_eq_true_eq, decide_eq_false_iff_not, Bool.or_eq_true, Bool.or_eq_false_iff, Bool.and_eq_true, Bool.not_eq_true', Bool.not_eq_false', not_or, Int.not_lt, Int.not_le]; omega)))
    · -- the attracted player goes down
      have h0 := hin hb.2
      have h1 : 0 < S.getD i 0 := by
        rcases Int.lt_or_le 0 (S.getD i 0) with h | h
        · exact h
        · have := hti.1 (by omega)
          rw [htf] at this; cases this
      have hcx : C.getD i 0 ∈ x.getD i [] ∧ S.getD (C.getD i 0).toNat 0 = S.getD i 0 - 1 := by
        rw [hch, hchd, if_neg (by rintro (h | h); exact h hb.1; omega)]
        obtain ⟨⟨t, h2, h3⟩, _⟩ := hc3p h1 hb.1
        obtain ⟨a, h4, rfl⟩ := hscd t h2
        exact ch_good ⟨a, h4, h3⟩
      generalize C.getD i 0 = nx at *
      have hm := hcx.1
      have hg : (0 ≤ S.getD f 0 → 0 ≤ S.getD nx.toNat 0 ∧ S.getD nx.toNat 0 + ((k + 1 : Nat) : Int) ≤ S.getD f 0) ∧ (S.getD f 0 < 0 → S.getD nx.toNat 0 < 0) := ⟨fun _ => by omega, fun h => by omega⟩
      repeat' first
        | with_reducible refine awp_seq ?_
        | with_reducible refine awp_block ?_
        | with_reducible refine next_then ?_
        | with_reducible refine next_block ?_
        | with_reducible refine exit_then ?_
        | with_reducible refine ret_then ?_
        | with_reducible refine ret_block ?_
        | with_reducible refine exit_here ?_
        | with_reducible refine awp_exit ?_
        | with_reducible refine awp_ret ?_
        | with_reducible refine awp_skip ?_
        | with_reducible refine awp_label ?_
        | with_reducible refine next_noGoto ?_
        | with_reducible refine ret_noGoto ?_
        | with_reducible refine exit_noGoto ?_
        | with_reducible refine awp_scope ?_
        | ((with_reducible refine exit_past ?_ ?_); exact rfl)
        | ((with_reducible refine isCond ?_); refine awp_condO rfl ?_ ?_ <;> intro hb <;> (try simp only [Bool.and_eq_false_iff, decide_eq_true_eq, decide_eq_false_iff_not, Bool.or_eq_true, Bool.or_eq_false_iff, Bool.and_eq_true, Bool.not_eq_true', Bool.not_eq_false', not_or, Int.not_lt, Int.not_le] at hb))
        | ((with_reducible refine isReg ?_); (first | refine awp_textM htb hmz spForced_ok (fun _ => false) rfl rfl ?_ | refine awp_drawM hmo htb hmz spForced_ok (fun _ => false) rfl rfl (by kernel_rfl) ?_); intro m' e' l' ob h; simp only [evOut, evStep, eq_self, evo, ev1, evx, evp, ofP, guardOf, opv, lke_cons, lke_nil, lkr_nil, lkr_cons, isC, isCC, isCL, men, putE, setW, set1, del, evLoad, evField, evIndex, evBin, lenOf, evSlice, bnd, cutI, subv, selv, isV, isAg, cellsL, lenL, properL, nthL, dropL, takeL, appL, setL, updv, tb, TI.isStr, strip, gd, gds, whnR, evPick, evStore, stBox, evApp, srcI, srcB, srcR, evBuildS, evTake, makeB, isNilS, partsOK, elemsOf, collI, collB, collII, allC, allN, fillL, evFz, lko, Option.isNone_none, renB, List.length_set, List.length_nil, Nat.sub_zero, Nat.add_zero, notD, chkG, evCopy, evCall, ofSR, viewA, lsOf, ofL, appL, zfree, zfreeB, freeB, isOne, ren, zipE, Op.operands, Call.operands, Nat.reduceAdd, Nat.reduceSub, Nat.reduceMul, Nat.reduceEqDiff, Nat.reduceLeDiff, Nat.reduceLT, Nat.reduceBEq, Nat.reduceBNe, ↓reduceIte, reduceIte, nbeq, nble, nblt, decide_true, decide_false, Bool.not_false, Bool.not_true, Bool.and_true, Bool.true_and, Bool.and_false, Bool.false_and, Bool.and_self, Bool.or_true, Bool.true_or, Bool.or_false, Bool.false_or, Bool.or_self, cond_true, cond_false, List.toList_toArray, List.map_cons, List.map_nil, List.getElem?_cons_zero, List.getElem?_cons_succ, Option.map_some, Option.map_none, List.zipIdx_nil, List.zipIdx_cons, List.all_nil, List.all_cons, List.isEmpty_nil, List.isEmpty_cons, List.cons_append, List.nil_append, true_and, and_true, imp_self, forall_const, implies_true, EO.mk.injEq, Bool.false_eq_true, Bool.true_eq_false, List.length_cons, List.length_nil, Array.toList_append, Bool.not_eq_true', Bool.not_eq_false', Bool.cond_true_left, Bool.cond_false_right, Bool.cond_false_left, Bool.cond_true_right, and_self, Bool.not_not, ne_eq, not_true_eq_false, not_false_eq_true, Int.toNat_natCast, Int.toNat_zero, Int.toNat_one, List.take_length, List.drop_zero, inI, evRes, resV, mkL, ltK, rhoL, leE, leR, menB, renB, menE, fzA, fzE, fzB, fzR, spForced, fewS, trueS, attS, validS, absS, gmA, AttR.av, beq_self_eq_true, ha, Int.reduceEq] at h; obtain ⟨rfl, rfl, rfl, rfl⟩ := h; refine ⟨?_, ?_⟩)
        | ((with_reducible refine Ob.mk ?_); first | exact trivial | (intros; omega) | ((repeat' first | apply And.intro | (intro hg; have hg' := hg; try simp only [Bool.and_eq_false_iff, decide_eq_true_eq, decide_eq_false_iff_not, Bool.or_eq_true, Bool.or_eq_false_iff, Bool.and_eq_true, Bool.not_eq_true', Bool.not_eq_false', not_or, Int.not_lt, Int.not_le] at hg')) <;> first | assumption | omega | (simp only [Bool.and_eq_false_iff, decide_eq_true_eq, decide_eq_false_iff_not, Bool.or_eq_true, Bool.or_eq_false_iff, Bool.and_eq_true, Bool.not_eq_true', Bool.not_eq_false', not_or, Int.not_lt, Int.not_le]; omega)))
      refine awp_loopC (τ := Nat) (fun r => r ≤ (x.getD i []).length) (fun r => ⟨40, [(183, .int .i64 r), (182, .int .i64 (x.getD i []).length), (181, .roI (x.getD i [])), (21, .bool (((x.getD i []).take r).any fun j => decide (j = nx))), (17, .int .i64 nx), (16, .int .i64 k), (15, .int .i64 i), (14, .bool (decide (0 ≤ S.getD f 0))), (12, .roI C), (11, .roI S), (10, .bool false), (5, .rop (.agg (.cons (.roI o) (.cons (.roI p) (.cons (.roII x) .nil))))), (1, .int .i64 q), (2, .roB to), (3, .roI c), (4, .int .i64 f)], [], []⟩) (fun r => (x.getD i []).length - r) 0 [] ?_ (Nat.zero_le _) ?_
      · refine ⟨rfl, ?_, ?_⟩ <;> simp only [evOut, evStep, eq_self, evo, ev1, evx, evp, ofP, guardOf, opv, lke_cons, lke_nil, lkr_nil, lkr_cons, isC, isCC, isCL, men, putE, setW, set1, del, evLoad, evField, evIndex, evBin, lenOf, evSlice, bnd, cutI, subv, selv, isV, isAg, cellsL, lenL, properL, nthL, dropL, takeL, appL, setL, updv, tb, TI.isStr, strip, gd, gds, whnR, evPick, evStore, stBox, evApp, srcI, srcB, srcR, evBuildS, evTake, makeB, isNilS, partsOK, elemsOf, collI, collB, collII, allC, allN, fillL, evFz, lko, Option.isNone_none, renB, List.length_set, List.length_nil, Nat.sub_zero, Nat.add_zero, notD, chkG, evCopy, evCall, ofSR, viewA, lsOf, ofL, appL, zfree, zfreeB, freeB, isOne, ren, zipE, Op.operands, Call.operands, Nat.reduceAdd, Nat.reduceSub, Nat.reduceMul, Nat.reduceEqDiff, Nat.reduceLeDiff, Nat.reduceLT, Nat.reduceBEq, Nat.reduceBNe, ↓reduceIte, reduceIte, nbeq, nble, nblt, decide_true, decide_false, Bool.not_false, Bool.not_true, Bool.and_true, Bool.true_and, Bool.and_false, Bool.false_and, Bool.and_self, Bool.or_true, Bool.true_or, Bool.or_false, Bool.false_or, Bool.or_self, cond_true, cond_false, List.toList_toArray, List.map_cons, List.map_nil, List.getElem?_cons_zero, List.getElem?_cons_succ, Option.map_some, Option.map_none, List.zipIdx_nil, List.zipIdx_cons, List.all_nil, List.all_cons, List.isEmpty_nil, List.isEmpty_cons, List.cons_append, List.nil_append, true_and, and_true, imp_self, forall_const, implies_true, EO.mk.injEq, Bool.false_eq_true, Bool.true_eq_false, List.length_cons, List.length_nil, Array.toList_append, Bool.not_eq_true', Bool.not_eq_false', Bool.cond_true_left, Bool.cond_false_right, Bool.cond_false_left, Bool.cond_true_right, and_self, Bool.not_not, ne_eq, not_true_eq_false, not_false_eq_true, Int.toNat_natCast, Int.toNat_zero, Int.toNat_one, List.take_length, List.drop_zero, inI, evRes, resV, mkL, ltK, rhoL, leE, leR, menB, renB, menE, fzA, fzE, fzB, fzR, spForced, fewS, trueS, attS, validS, absS, gmA, AttR.av, beq_self_eq_true, ha, Int.reduceEq, AV.int.injEq, AV.bool.injEq, AV.roI.injEq, AV.roB.injEq, AV.roII.injEq, AV.rop.injEq, AV.agg.injEq, AV.tup.injEq, AV.cons.injEq, AV.own.injEq, AV.whn.injEq, Blk.ints.injEq, Blk.bools.injEq, Blk.rows.injEq, Blk.rowsR.injEq, Blk.box.injEq, Option.some.injEq, Int.natCast_add, Int.natCast_one, Int.cast_ofNat_Int]
        rfl
      intro r hr
      have hrb := hrb r
      repeat' first
        | with_reducible refine awp_seq ?_
        | with_reducible refine awp_block ?_
        | with_reducible refine next_then ?_
        | with_reducible refine next_block ?_
        | with_reducible refine exit_then ?_
        | with_reducible refine ret_then ?_
        | with_reducible refine ret_block ?_
        | with_reducible refine exit_here ?_
        | with_reducible refine awp_exit ?_
        | with_reducible refine awp_ret ?_
        | with_reducible refine awp_skip ?_
        | with_reducible refine awp_label ?_
        | with_reducible refine next_noGoto ?_
        | with_reducible refine ret_noGoto ?_
        | with_reducible refine exit_noGoto ?_
        | with_reducible refine awp_scope ?_
        | ((with_reducible refine exit_past ?_ ?_); exact rfl)
        | ((with_reducible refine isCond ?_); refine awp_condO rfl ?_ ?_ <;> intro hb <;> (try simp only [Bool.and_eq_false_iff, decide_eq_true_eq, decide_eq_false_iff_not, Bool.or_eq_true, Bool.or_eq_false_iff, Bool.and_eq_true, Bool.not_eq_true', Bool.not_eq_false', not_or, Int.not_lt, Int.not_le] at hb))
        | ((with_reducible refine isReg ?_); (first | refine awp_textM htb hmz spForced_ok (fun _ => false) rfl rfl ?_ | refine awp_drawM hmo htb hmz spForced_ok (fun _ => false) rfl rfl (by kernel_rfl) ?_); intro m' e' l' ob h; simp only [evOut, evStep, eq_self, evo, ev1, evx, evp, ofP, guardOf, opv, lke_cons, lke_nil, lkr_nil, lkr_cons, isC, isCC, isCL, men, putE, setW, set1, del, evLoad, evField, evIndex, evBin, lenOf, evSlice, bnd, cutI, subv, selv, isV, isAg, cellsL, lenL, properL, nthL, dropL, takeL, appL, setL, updv, tb, TI.isStr, strip, gd, gds, whnR, evPick, evStore, stBox, evApp, srcI, srcB, srcR, evBuildS, evTake, makeB, isNilS, partsOK, elemsOf, collI, collB, collII, allC, allN, fillL, evFz, lko, Option.isNone_none, renB, List.length_set, List.length_nil, Nat.sub_zero, Nat.add_zero, notD, chkG, evCopy, evCall, ofSR, viewA, lsOf, ofL, appL, zfree, zfreeB, freeB, isOne, ren, zipE, Op.operands, Call.operands, Nat.reduceAdd, Nat.reduceSub, Nat.reduceMul, Nat.reduceEqDiff, Nat.reduceLeDiff, Nat.reduceLT, Nat.reduceBEq, Nat.reduceBNe, ↓reduceIte, reduceIte, nbeq, nble, nblt, decide_true, decide_false, Bool.not_false, Bool.not_true, Bool.and_true, Bool.true_and, Bool.and_false, Bool.false_and, Bool.and_self, Bool.or_true, Bool.true_or, Bool.or_false, Bool.false_or, Bool.or_self, cond_true, cond_false, List.toList_toArray, List.map_cons, List.map_nil, List.getElem?_cons_zero, List.getElem?_cons_succ, Option.map_some, Option.map_none, List.zipIdx_nil, List.zipIdx_cons, List.all_nil, List.all_cons, List.isEmpty_nil, List.isEmpty_cons, List.cons_append, List.nil_append, true_and, and_true, imp_self, forall_const, implies_true, EO.mk.injEq, Bool.false_eq_true, Bool.true_eq_false, List.length_cons, List.length_nil, Array.toList_append, Bool.not_eq_true', Bool.not_eq_false', Bool.cond_true_left, Bool.cond_false_right, Bool.cond_false_left, Bool.cond_true_right, and_self, Bool.not_not, ne_eq, not_true_eq_false, not_false_eq_true, Int.toNat_natCast, Int.toNat_zero, Int.toNat_one, List.take_length, List.drop_zero, inI, evRes, resV, mkL, ltK, rhoL, leE, leR, menB, renB, menE, fzA, fzE, fzB, fzR, spForced, fewS, trueS, attS, validS, absS, gmA, AttR.av, beq_self_eq_true, ha, Int.reduceEq] at h; obtain ⟨rfl, rfl, rfl, rfl⟩ := h; refine ⟨?_, ?_⟩)
        | ((with_reducible refine Ob.mk ?_); first | exact trivial | (intros; omega) | ((repeat' first | apply And.intro | (intro hg; have hg' := hg; try simp only [Bool.and_eq_false_iff, decide_eq_true_eq, decide_eq_false_iff_not, Bool.or_eq_true, Bool.or_eq_false_iff, Bool.and_eq_true, Bool.not_eq_true', Bool.not_eq_false', not_or, Int.not_lt, Int.not_le] at hg')) <;> first | assumption | omega | (simp only [Bool.and_eq_false_iff, decide_eq_true_eq, decide_eq_false_iff_not, Bool.or_eq_true, Bool.or_eq_false_iff, Bool.and_eq_true, Bool.not_eq_true', Bool.not_eq_false', not_or, Int.not_lt, Int.not_le]; omega)))
      · have hrl : r < (x.getD i []).length := by omega
        refine back (r + 1) [] ?_ (by omega) (by omega)
        (refine ⟨rfl, ?_, ?_⟩ <;> simp only [evOut, evStep, eq_self, evo, ev1, evx, evp, ofP, guardOf, opv, lke_cons, lke_nil, lkr_nil, lkr_cons, isC, isCC, isCL, men, putE, setW, set1, del, evLoad, evField, evIndex, evBin, lenOf, evSlice, bnd, cutI, subv, selv, isV, isAg, cellsL, lenL, properL, nthL, dropL, takeL, appL, setL, updv, tb, TI.isStr, strip, gd, gds, whnR, evPick, evStore, stBox, evApp, srcI, srcB, srcR, evBuildS, evTake, makeB, isNilS, partsOK, elemsOf, collI, collB, collII, allC, allN, fillL, evFz, lko, Option.isNone_none, renB, List.length_set, List.length_nil, Nat.sub_zero, Nat.add_zero, notD, chkG, evCopy, evCall, ofSR, viewA, lsOf, ofL, appL, zfree, zfreeB, freeB, isOne, ren, zipE, Op.operands, Call.operands, Nat.reduceAdd, Nat.reduceSub, Nat.reduceMul, Nat.reduceEqDiff, Nat.reduceLeDiff, Nat.reduceLT, Nat.reduceBEq, Nat.reduceBNe, ↓reduceIte, reduceIte, nbeq, nble, nblt, decide_true, decide_false, Bool.not_false, Bool.not_true, Bool.and_true, Bool.true_and, Bool.and_false, Bool.false_and, Bool.and_self, Bool.or_true, Bool.true_or, Bool.or_false, Bool.false_or, Bool.or_self, cond_true, cond_false, List.toList_toArray, List.map_cons, List.map_nil, List.getElem?_cons_zero, List.getElem?_cons_succ, Option.map_some, Option.map_none, List.zipIdx_nil, List.zipIdx_cons, List.all_nil, List.all_cons, List.isEmpty_nil, List.isEmpty_cons, List.cons_append, List.nil_append, true_and, and_true, imp_self, forall_const, implies_true, EO.mk.injEq, Bool.false_eq_true, Bool.true_eq_false, List.length_cons, List.length_nil, Array.toList_append, Bool.not_eq_true', Bool.not_eq_false', Bool.cond_true_left, Bool.cond_false_right, Bool.cond_false_left, Bool.cond_true_right, and_self, Bool.not_not, ne_eq, not_true_eq_false, not_false_eq_true, Int.toNat_natCast, Int.toNat_zero, Int.toNat_one, List.take_length, List.drop_zero, inI, evRes, resV, mkL, ltK, rhoL, leE, leR, menB, renB, menE, fzA, fzE, fzB, fzR, spForced, fewS, trueS, attS, validS, absS, gmA, AttR.av, beq_self_eq_true, ha, Int.reduceEq, AV.int.injEq, AV.bool.injEq, AV.roI.injEq, AV.roB.injEq, AV.roII.injEq, AV.rop.injEq, AV.agg.injEq, AV.tup.injEq, AV.cons.injEq, AV.own.injEq, AV.whn.injEq, Blk.ints.injEq, Blk.bools.injEq, Blk.rows.injEq, Blk.rowsR.injEq, Blk.box.injEq, Option.some.injEq, Int.natCast_add, Int.natCast_one, Int.cast_ofNat_Int])
        rw [any_succ hrl]
      · exfalso
        have hre : r = (x.getD i []).length := by omega
        subst hre
        rw [List.take_length, List.any_eq_false] at hb
        exact hb nx hm (decide_eq_true rfl)
      · have h7 := hrm nx hm
        refine back (k + 1, nx.toNat) [] ?_ ⟨by dsimp only; omega, by dsimp only; omega, hg.1, hg.2⟩ (by dsimp only; omega)
        (refine ⟨rfl, ?_, ?_⟩ <;> simp only [evOut, evStep, eq_self, evo, ev1, evx, evp, ofP, guardOf, opv, lke_cons, lke_nil, lkr_nil, lkr_cons, isC, isCC, isCL, men, putE, setW, set1, del, evLoad, evField, evIndex, evBin, lenOf, evSlice, bnd, cutI, subv, selv, isV, isAg, cellsL, lenL, properL, nthL, dropL, takeL, appL, setL, updv, tb, TI.isStr, strip, gd, gds, whnR, evPick, evStore, stBox, evApp, srcI, srcB, srcR, evBuildS, evTake, makeB, isNilS, partsOK, elemsOf, collI, collB, collII, allC, allN, fillL, evFz, lko, Option.isNone_none, renB, List.length_set, List.length_nil, Nat.sub_zero, Nat.add_zero, notD, chkG, evCopy, evCall, ofSR, viewA, lsOf, ofL, appL, zfree, zfreeB, freeB, isOne, ren, zipE, Op.operands, Call.operands, Nat.reduceAdd, Nat.reduceSub, Nat.reduceMul, Nat.reduceEqDiff, Nat.reduceLeDiff, Nat.reduceLT, Nat.reduceBEq, Nat.reduceBNe, ↓reduceIte, reduceIte, nbeq, nble, nblt, decide_true, decide_false, Bool.not_false, Bool.not_true, Bool.and_true, Bool.true_and, Bool.and_false, Bool.false_and, Bool.and_self, Bool.or_true, Bool.true_or, Bool.or_false, Bool.false_or, Bool.or_self, cond_true, cond_false, List.toList_toArray, List.map_cons, List.map_nil, List.getElem?_cons_zero, List.getElem?_cons_succ, Option.map_some, Option.map_none, List.zipIdx_nil, List.zipIdx_cons, List.all_nil, List.all_cons, List.isEmpty_nil, List.isEmpty_cons, List.cons_append, List.nil_append, true_and, and_true, imp_self, forall_const, implies_true, EO.mk.injEq, Bool.false_eq_true, Bool.true_eq_false, List.length_cons, List.length_nil, Array.toList_append, Bool.not_eq_true', Bool.not_eq_false', Bool.cond_true_left, Bool.cond_false_right, Bool.cond_false_left, Bool.cond_true_right, and_self, Bool.not_not, ne_eq, not_true_eq_false, not_false_eq_true, Int.toNat_natCast, Int.toNat_zero, Int.toNat_one, List.take_length, List.drop_zero, inI, evRes, resV, mkL, ltK, rhoL, leE, leR, menB, renB, menE, fzA, fzE, fzB, fzR, spForced, fewS, trueS, attS, validS, absS, gmA, AttR.av, beq_self_eq_true, ha, Int.reduceEq, AV.int.injEq, AV.bool.injEq, AV.roI.injEq, AV.roB.injEq, AV.roII.injEq, AV.rop.injEq, AV.agg.injEq, AV.tup.injEq, AV.cons.injEq, AV.own.injEq, AV.whn.injEq, Blk.ints.injEq, Blk.bools.injEq, Blk.rows.injEq, Blk.rowsR.injEq, Blk.box.injEq, Option.some.injEq, Int.natCast_add, Int.natCast_one, Int.cast_ofNat_Int])
        omega
    · -- any move will do
      generalize hnx : (x.getD i []).getD (absV (c.getD i 0) % ((x.getD i []).length : Int)).toNat 0 = nx at *
      have hm := hfm
      have hg : (0 ≤ S.getD f 0 → 0 ≤ S.getD nx.toNat 0 ∧ S.getD nx.toNat 0 + ((k + 1 : Nat) : Int) ≤ S.getD f 0) ∧ (S.getD f 0 < 0 → S.getD nx.toNat 0 < 0) := by
        refine ⟨fun h => ?_, fun h => ?_⟩
        · have h0 := hin h
          have ho : ¬ o.getD i 0 = q := (‹¬o.getD i 0 = q ∨ S.getD f 0 < 0› : ¬o.getD i 0 = q ∨ S.getD f 0 < 0).resolve_right (by omega)
          have h1 : 0 < S.getD i 0 := by
            rcases Int.lt_or_le 0 (S.getD i 0) with h | h
            · exact h
            · have := hti.1 (by omega)
              rw [htf] at this; cases this
          have := (hc3o h1 ho).2 _ (hsc nx hm)
          omega
        · have ho : o.getD i 0 = q := hb.resolve_right (by omega)
          exact hc0p (hout h) ho _ (hsc nx hm)
      repeat' first
        | with_reducible refine awp_seq ?_
        | with_reducible refine awp_block ?_
        | with_reducible refine next_then ?_
        | with_reducible refine next_block ?_
        | with_reducible refine exit_then ?_
        | with_reducible refine ret_then ?_
        | with_reducible refine ret_block ?_
        | with_reducible refine exit_here ?_
        | with_reducible refine awp_exit ?_
        | with_reducible refine awp_ret ?_
        | with_reducible refine awp_skip ?_
        | with_reducible refine awp_label ?_
        | with_reducible refine next_noGoto ?_
        | with_reducible refine ret_noGoto ?_
        | with_reducible refine exit_noGoto ?_
        | with_reducible refine awp_scope ?_
        | ((with_reducible refine exit_past ?_ ?_); exact rfl)
        | ((with_reducible refine isCond ?_); refine awp_condO rfl ?_ ?_ <;> intro hb <;> (try simp only [Bool.and_eq_false_iff, decide_eq_true_eq, decide_eq_false_iff_not, Bool.or_eq_true, Bool.or_eq_false_iff, Bool.and_eq_true, Bool.not_eq_true', Bool.not_eq_false', not_or, Int.not_lt, Int.not_le] at hb))
        | ((with_reducible refine isReg ?_); (first | refine awp_textM htb hmz spForced_ok (fun _ => false) rfl rfl ?_ | refine awp_drawM hmo htb hmz spForced_ok (fun _ => false) rfl rfl (by kernel_rfl) ?_); intro m' e' l' ob h; simp only [evOut, evStep, eq_self, evo, ev1, evx, evp, ofP, guardOf, opv, lke_cons, lke_nil, lkr_nil, lkr_cons, isC, isCC, isCL, men, putE, setW, set1, del, evLoad, evField, evIndex, evBin, lenOf, evSlice, bnd, cutI, subv, selv, isV, isAg, cellsL, lenL, properL, nthL, dropL, takeL, appL, setL, updv, tb, TI.isStr, strip, gd, gds, whnR, evPick, evStore, stBox, evApp, srcI, srcB, srcR, evBuildS, evTake, makeB, isNilS, partsOK, elemsOf, collI, collB, collII, allC, allN, fillL, evFz, lko, Option.isNone_none, renB, List.length_set, List.length_nil, Nat.sub_zero, Nat.add_zero, notD, chkG, evCopy, evCall, ofSR, viewA, lsOf, ofL, appL, zfree, zfreeB, freeB, isOne, ren, zipE, Op.operands, Call.operands, Nat.reduceAdd, Nat.reduceSub, Nat.reduceMul, Nat.reduceEqDiff, Nat.reduceLeDiff, Nat.reduceLT, Nat.reduceBEq, Nat.reduceBNe, ↓reduceIte, reduceIte, nbeq, nble, nblt, decide_true, decide_false, Bool.not_false, Bool.not_true, Bool.and_true, Bool.true_and, Bool.and_false, Bool.false_and, Bool.and_self, Bool.or_true, Bool.true_or, Bool.or_false, Bool.false_or, Bool.or_self, cond_true, cond_false, List.toList_toArray, List.map_cons, List.map_nil, List.getElem?_cons_zero, List.getElem?_cons_succ, Option.map_some, Option.map_none, List.zipIdx_nil, List.zipIdx_cons, List.all_nil, List.all_cons, List.isEmpty_nil, List.isEmpty_cons, List.cons_append, List.nil_append, true_and, and_true, imp_self, forall_const, implies_true, EO.mk.injEq, Bool.false_eq_true, Bool.true_eq_false, List.length_cons, List.length_nil, Array.toList_append, Bool.not_eq_true', Bool.not_eq_false', Bool.cond_true_left, Bool.cond_false_right, Bool.cond_false_left, Bool.cond_true_right, and_self, Bool.not_not, ne_eq, not_true_eq_false, not_false_eq_true, Int.toNat_natCast, Int.toNat_zero, Int.toNat_one, List.take_length, List.drop_zero, inI, evRes, resV, mkL, ltK, rhoL, leE, leR, menB, renB, menE, fzA, fzE, fzB, fzR, spForced, fewS, trueS, attS, validS, absS, gmA, AttR.av, beq_self_eq_true, ha, Int.reduceEq] at h; obtain ⟨rfl, rfl, rfl, rfl⟩ := h; refine ⟨?_, ?_⟩)
        | ((with_reducible refine Ob.mk ?_); first | exact trivial | (intros; omega) | ((repeat' first | apply And.intro | (intro hg; have hg' := hg; try simp only [Bool.and_eq_false_iff, decide_eq_true_eq, decide_eq_false_iff_not, Bool.or_eq_true, Bool.or_eq_false_iff, Bool.and_eq_true, Bool.not_eq_true', Bool.not_eq_false', not_or, Int.not_lt, Int.not_le] at hg')) <;> first | assumption | omega | (simp only [Bool.and_eq_false_iff, decide_eq_true_eq, decide_eq_false_iff_not, Bool.or_eq_true, Bool.or_eq_false_iff, Bool.and_eq_true, Bool.not_eq_true', Bool.not_eq_false', not_or, Int.not_lt, Int.not_le]; omega)))
      refine awp_loopC (τ := Nat) (fun r => r ≤ (x.getD i []).length) (fun r => ⟨40, [(183, .int .i64 r), (182, .int .i64 (x.getD i []).length), (181, .roI (x.getD i [])), (21, .bool (((x.getD i []).take r).any fun j => decide (j = nx))), (17, .int .i64 nx), (16, .int .i64 k), (15, .int .i64 i), (14, .bool (decide (0 ≤ S.getD f 0))), (12, .roI C), (11, .roI S), (10, .bool false), (5, .rop (.agg (.cons (.roI o) (.cons (.roI p) (.cons (.roII x) .nil))))), (1, .int .i64 q), (2, .roB to), (3, .roI c), (4, .int .i64 f)], [], []⟩) (fun r => (x.getD i []).length - r) 0 [] ?_ (Nat.zero_le _) ?_
      · refine ⟨rfl, ?_, ?_⟩ <;> simp only [evOut, evStep, eq_self, evo, ev1, evx, evp, ofP, guardOf, opv, lke_cons, lke_nil, lkr_nil, lkr_cons, isC, isCC, isCL, men, putE, setW, set1, del, evLoad, evField, evIndex, evBin, lenOf, evSlice, bnd, cutI, subv, selv, isV, isAg, cellsL, lenL, properL, nthL, dropL, takeL, appL, setL, updv, tb, TI.isStr, strip, gd, gds, whnR, evPick, evStore, stBox, evApp, srcI, srcB, srcR, evBuildS, evTake, makeB, isNilS, partsOK, elemsOf, collI, collB, collII, allC, allN, fillL, evFz, lko, Option.isNone_none, renB, List.length_set, List.length_nil, Nat.sub_zero, Nat.add_zero, notD, chkG, evCopy, evCall, ofSR, viewA, lsOf, ofL, appL, zfree, zfreeB, freeB, isOne, ren, zipE, Op.operands, Call.operands, Nat.reduceAdd, Nat.reduceSub, Nat.reduceMul, Nat.reduceEqDiff, Nat.reduceLeDiff, Nat.reduceLT, Nat.reduceBEq, Nat.reduceBNe, ↓reduceIte, reduceIte, nbeq, nble, nblt, decide_true, decide_false, Bool.not_false, Bool.not_true, Bool.and_true, Bool.true_and, Bool.and_false, Bool.false_and, Bool.and_self, Bool.or_true, Bool.true_or, Bool.or_false, Bool.false_or, Bool.or_self, cond_true, cond_false, List.toList_toArray, List.map_cons, List.map_nil, List.getElem?_cons_zero, List.getElem?_cons_succ, Option.map_some, Option.map_none, List.zipIdx_nil, List.zipIdx_cons, List.all_nil, List.all_cons, List.isEmpty_nil, List.isEmpty_cons, List.cons_append, List.nil_append, true_and, and_true, imp_self, forall_const, implies_true, EO.mk.injEq, Bool.false_eq_true, Bool.true_eq_false, List.length_cons, List.length_nil, Array.toList_append, Bool.not_eq_true', Bool.not_eq_false', Bool.cond_true_left, Bool.cond_false_right, Bool.cond_false_left, Bool.cond_true_right, and_self, Bool.not_not, ne_eq, not_true_eq_false, not_false_eq_true, Int.toNat_natCast, Int.toNat_zero, Int.toNat_one, List.take_length, List.drop_zero, inI, evRes, resV, mkL, ltK, rhoL, leE, leR, menB, renB, menE, fzA, fzE, fzB, fzR, spForced, fewS, trueS, attS, validS, absS, gmA, AttR.av, beq_self_eq_true, ha, Int.reduceEq, AV.int.injEq, AV.bool.injEq, AV.roI.injEq, AV.roB.injEq, AV.roII.injEq, AV.rop.injEq, AV.agg.injEq, AV.tup.injEq, AV.cons.injEq, AV.own.injEq, AV.whn.injEq, Blk.ints.injEq, Blk.bools.injEq, Blk.rows.injEq, Blk.rowsR.injEq, Blk.box.injEq, Option.some.injEq, Int.natCast_add, Int.natCast_one, Int.cast_ofNat_Int]
        rfl
      intro r hr
      have hrb := hrb r
      repeat' first
        | with_reducible refine awp_seq ?_
        | with_reducible refine awp_block ?_
        | with_reducible refine next_then ?_
        | with_reducible refine next_block ?_
        | with_reducible refine exit_then ?_
        | with_reducible refine ret_then ?_
        | with_reducible refine ret_block ?_
        | with_reducible refine exit_here ?_
        | with_reducible refine awp_exit ?_
        | with_reducible refine awp_ret ?_
        | with_reducible refine awp_skip ?_
        | with_reducible refine awp_label ?_
        | with_reducible refine next_noGoto ?_
        | with_reducible refine ret_noGoto ?_
        | with_reducible refine exit_noGoto ?_
        | with_reducible refine awp_scope ?_
        | ((with_reducible refine exit_past ?_ ?_); exact rfl)
        | ((with_reducible refine isCond ?_); refine awp_condO rfl ?_ ?_ <;> intro hb <;> (try simp only [Bool.and_eq_false_iff, decide_eq_true_eq, decide_eq_false_iff_not, Bool.or_eq_true, Bool.or_eq_false_iff, Bool.and_eq_true, Bool.not_eq_true', Bool.not_eq_false', not_or, Int.not_lt, Int.not_le] at hb))
        | ((with_reducible refine isReg ?_); (first | refine awp_textM htb hmz spForced_ok (fun _ => false) rfl rfl ?_ | refine awp_drawM hmo htb hmz spForced_ok (fun _ => false) rfl rfl (by kernel_rfl) ?_); intro m' e' l' ob h; simp only [evOut, evStep, eq_self, evo, ev1, evx, evp, ofP, guardOf, opv, lke_cons, lke_nil, lkr_nil, lkr_cons, isC, isCC, isCL, men, putE, setW, set1, del, evLoad, evField, evIndex, evBin, lenOf, evSlice, bnd, cutI, subv, selv, isV, isAg, cellsL, lenL, properL, nthL, dropL, takeL, appL, setL, updv, tb, TI.isStr, strip, gd, gds, whnR, evPick, evStore, stBox, evApp, srcI, srcB, srcR, evBuildS, evTake, makeB, isNilS, partsOK, elemsOf, collI, collB, collII, allC, allN, fillL, evFz, lko, Option.isNone_none, renB, List.length_set, List.length_nil, Nat.sub_zero, Nat.add_zero, notD, chkG, evCopy, evCall, ofSR, viewA, lsOf, ofL, appL, zfree, zfreeB, freeB, isOne, ren, zipE, Op.operands, Call.operands, Nat.reduceAdd, Nat.reduceSub, Nat.reduceMul, Nat.reduceEqDiff, Nat.reduceLeDiff, Nat.reduceLT, Nat.reduceBEq, Nat.reduceBNe, ↓reduceIte, reduceIte, nbeq, nble, nblt, decide_true, decide_false, Bool.not_false, Bool.not_true, Bool.and_true, Bool.true_and, Bool.and_false, Bool.false_and, Bool.and_self, Bool.or_true, Bool.true_or, Bool.or_false, Bool.false_or, Bool.or_self, cond_true, cond_false, List.toList_toArray, List.map_cons, List.map_nil, List.getElem?_cons_zero, List.getElem?_cons_succ, Option.map_some, Option.map_none, List.zipIdx_nil, List.zipIdx_cons, List.all_nil, List.all_cons, List.isEmpty_nil, List.isEmpty_cons, List.cons_append, List.nil_append, true_and, and_true, imp_self, forall_const, implies_true, EO.mk.injEq, Bool.false_eq_true, Bool.true_eq_false, List.length_cons, List.length_nil, Array.toList_append, Bool.not_eq_true', Bool.not_eq_false', Bool.cond_true_left, Bool.cond_false_right, Bool.cond_false_left, Bool.cond_true_right, and_self, Bool.not_not, ne_eq, not_true_eq_false, not_false_eq_true, Int.toNat_natCast, Int.toNat_zero, Int.toNat_one, List.take_length, List.drop_zero, inI, evRes, resV, mkL, ltK, rhoL, leE, leR, menB, renB, menE, fzA, fzE, fzB, fzR, spForced, fewS, trueS, attS, validS, absS, gmA, AttR.av, beq_self_eq_true, ha, Int.reduceEq] at h; obtain ⟨rfl, rfl, rfl, rfl⟩ := h; refine ⟨?_, ?_⟩)
        | ((with_reducible refine Ob.mk ?_); first | exact trivial | (intros; omega) | ((repeat' first | apply And.intro | (intro hg; have hg' := hg; try simp only [Bool.and_eq_false_iff, decide_eq_true_eq, decide_eq_false_iff_not, Bool.or_eq_true, Bool.or_eq_false_iff, Bool.and_eq_true, Bool.not_eq_true', Bool.not_eq_false', not_or, Int.not_lt, Int.not_le] at hg')) <;> first | assumption | omega | (simp only [Bool.and_eq_false_iff, decide_eq_true_eq, decide_eq_false_iff_not, Bool.or_eq_true, Bool.or_eq_false_iff, Bool.and_eq_true, Bool.not_eq_true', Bool.not_eq_false', not_or, Int.not_lt, Int.not_le]; omega)))
      · have hrl : r < (x.getD i []).length := by omega
        refine back (r + 1) [] ?_ (by omega) (by omega)
        (refine ⟨rfl, ?_, ?_⟩ <;> simp only [evOut, evStep, eq_self, evo, ev1, evx, evp, ofP, guardOf, opv, lke_cons, lke_nil, lkr_nil, lkr_cons, isC, isCC, isCL, men, putE, setW, set1, del, evLoad, evField, evIndex, evBin, lenOf, evSlice, bnd, cutI, subv, selv, isV, isAg, cellsL, lenL, properL, nthL, dropL, takeL, appL, setL, updv, tb, TI.isStr, strip, gd, gds, whnR, evPick, evStore, stBox, evApp, srcI, srcB, srcR, evBuildS, evTake, makeB, isNilS, partsOK, elemsOf, collI, collB, collII, allC, allN, fillL, evFz, lko, Option.isNone_none, renB, List.length_set, List.length_nil, Nat.sub_zero, Nat.add_zero, notD, chkG, evCopy, evCall, ofSR, viewA, lsOf, ofL, appL, zfree, zfreeB, freeB, isOne, ren, zipE, Op.operands, Call.operands, Nat.reduceAdd, Nat.reduceSub, Nat.reduceMul, Nat.reduceEqDiff, Nat.reduceLeDiff, Nat.reduceLT, Nat.reduceBEq, Nat.reduceBNe, ↓reduceIte, reduceIte, nbeq, nble, nblt, decide_true, decide_false, Bool.not_false, Bool.not_true, Bool.and_true, Bool.true_and, Bool.and_false, Bool.false_and, Bool.and_self, Bool.or_true, Bool.true_or, Bool.or_false, Bool.false_or, Bool.or_self, cond_true, cond_false, List.toList_toArray, List.map_cons, List.map_nil, List.getElem?_cons_zero, List.getElem?_cons_succ, Option.map_some, Option.map_none, List.zipIdx_nil, List.zipIdx_cons, List.all_nil, List.all_cons, List.isEmpty_nil, List.isEmpty_cons, List.cons_append, List.nil_append, true_and, and_true, imp_self, forall_const, implies_true, EO.mk.injEq, Bool.false_eq_true, Bool.true_eq_false, List.length_cons, List.length_nil, Array.toList_append, Bool.not_eq_true', Bool.not_eq_false', Bool.cond_true_left, Bool.cond_false_right, Bool.cond_false_left, Bool.cond_true_right, and_self, Bool.not_not, ne_eq, not_true_eq_false, not_false_eq_true, Int.toNat_natCast, Int.toNat_zero, Int.toNat_one, List.take_length, List.drop_zero, inI, evRes, resV, mkL, ltK, rhoL, leE, leR, menB, renB, menE, fzA, fzE, fzB, fzR, spForced, fewS, trueS, attS, validS, absS, gmA, AttR.av, beq_self_eq_true, ha, Int.reduceEq, AV.int.injEq, AV.bool.injEq, AV.roI.injEq, AV.roB.injEq, AV.roII.injEq, AV.rop.injEq, AV.agg.injEq, AV.tup.injEq, AV.cons.injEq, AV.own.injEq, AV.whn.injEq, Blk.ints.injEq, Blk.bools.injEq, Blk.rows.injEq, Blk.rowsR.injEq, Blk.box.injEq, Option.some.injEq, Int.natCast_add, Int.natCast_one, Int.cast_ofNat_Int])
        rw [any_succ hrl]
      · exfalso
        have hre : r = (x.getD i []).length := by omega
        subst hre
        rw [List.take_length, List.any_eq_false] at hb
        exact hb nx hm (decide_eq_true rfl)
      · have h7 := hrm nx hm
        refine back (k + 1, nx.toNat) [] ?_ ⟨by dsimp only; omega, by dsimp only; omega, hg.1, hg.2⟩ (by dsimp only; omega)
        (refine ⟨rfl, ?_, ?_⟩ <;> simp only [evOut, evStep, eq_self, evo, ev1, evx, evp, ofP, guardOf, opv, lke_cons, lke_nil, lkr_nil, lkr_cons, isC, isCC, isCL, men, putE, setW, set1, del, evLoad, evField, evIndex, evBin, lenOf, evSlice, bnd, cutI, subv, selv, isV, isAg, cellsL, lenL, properL, nthL, dropL, takeL, appL, setL, updv, tb, TI.isStr, strip, gd, gds, whnR, evPick, evStore, stBox, evApp, srcI, srcB, srcR, evBuildS, evTake, makeB, isNilS, partsOK, elemsOf, collI, collB, collII, allC, allN, fillL, evFz, lko, Option.isNone_none, renB, List.length_set, List.length_nil, Nat.sub_zero, Nat.add_zero, notD, chkG, evCopy, evCall, ofSR, viewA, lsOf, ofL, appL, zfree, zfreeB, freeB, isOne, ren, zipE, Op.operands, Call.operands, Nat.reduceAdd, Nat.reduceSub, Nat.reduceMul, Nat.reduceEqDiff, Nat.reduceLeDiff, Nat.reduceLT, Nat.reduceBEq, Nat.reduceBNe, ↓reduceIte, reduceIte, nbeq, nble, nblt, decide_true, decide_false, Bool.not_false, Bool.not_true, Bool.and_true, Bool.true_and, Bool.and_false, Bool.false_and, Bool.and_self, Bool.or_true, Bool.true_or, Bool.or_false, Bool.false_or, Bool.or_self, cond_true, cond_false, List.toList_toArray, List.map_cons, List.map_nil, List.getElem?_cons_zero, List.getElem?_cons_succ, Option.map_some, Option.map_none, List.zipIdx_nil, List.zipIdx_cons, List.all_nil, List.all_cons, List.isEmpty_nil, List.isEmpty_cons, List.cons_append, List.nil_append, true_and, and_true, imp_self, forall_const, implies_true, EO.mk.injEq, Bool.false_eq_true, Bool.true_eq_false, List.length_cons, List.length_nil, Array.toList_append, Bool.not_eq_true', Bool.not_eq_false', Bool.cond_true_left, Bool.cond_false_right, Bool.cond_false_left, Bool.cond_true_right, and_self, Bool.not_not, ne_eq, not_true_eq_false, not_false_eq_true, Int.toNat_natCast, Int.toNat_zero, Int.toNat_one, List.take_length, List.drop_zero, inI, evRes, resV, mkL, ltK, rhoL, leE, leR, menB, renB, menE, fzA, fzE, fzB, fzR, spForced, fewS, trueS, attS, validS, absS, gmA, AttR.av, beq_self_eq_true, ha, Int.reduceEq, AV.int.injEq, AV.bool.injEq, AV.roI.injEq, AV.roB.injEq, AV.roII.injEq, AV.rop.injEq, AV.agg.injEq, AV.tup.injEq, AV.cons.injEq, AV.own.injEq, AV.whn.injEq, Blk.ints.injEq, Blk.bools.injEq, Blk.rows.injEq, Blk.rowsR.injEq, Blk.box.injEq, Option.some.injEq, Int.natCast_add, Int.natCast_one, Int.cast_ofNat_Int])
        omega
    · refine awp_loopC (τ := Nat) (fun r => r ≤ (x.getD i []).length) (fun r => ⟨40, [(139, .int .i64 r), (138, .int .i64 (x.getD i []).length), (137, .roI (x.getD i [])), (17, .int .i64 (lastN S ((x.getD i []).take r))), (16, .int .i64 k), (15, .int .i64 i), (14, .bool (decide (0 ≤ S.getD f 0))), (12, .roI C), (11, .roI S), (10, .bool false), (5, .rop (.agg (.cons (.roI o) (.cons (.roI p) (.cons (.roII x) .nil))))), (1, .int .i64 q), (2, .roB to), (3, .roI c), (4, .int .i64 f)], [], []⟩) (fun r => (x.getD i []).length - r) 0 [] ?_ (Nat.zero_le _) ?_
      · refine ⟨rfl, ?_, ?_⟩ <;> simp only [evOut, evStep, eq_self, evo, ev1, evx, evp, ofP, guardOf, opv, lke_cons, lke_nil, lkr_nil, lkr_cons, isC, isCC, isCL, men, putE, setW, set1, del, evLoad, evField, evIndex, evBin, lenOf, evSlice, bnd, cutI, subv, selv, isV, isAg, cellsL, lenL, properL, nthL, dropL, takeL, appL, setL, updv, tb, TI.isStr, strip, gd, gds, whnR, evPick, evStore, stBox, evApp, srcI, srcB, srcR, evBuildS, evTake, makeB, isNilS, partsOK, elemsOf, collI, collB, collII, allC, allN, fillL, evFz, lko, Option.isNone_none, renB, List.length_set, List.length_nil, Nat.sub_zero, Nat.add_zero, notD, chkG, evCopy, evCall, ofSR, viewA, lsOf, ofL, appL, zfree, zfreeB, freeB, isOne, ren, zipE, Op.operands, Call.operands, Nat.reduceAdd, Nat.reduceSub, Nat.reduceMul, Nat.reduceEqDiff, Nat.reduceLeDiff, Nat.reduceLT, Nat.reduceBEq, Nat.reduceBNe, ↓reduceIte, reduceIte, nbeq, nble, nblt, decide_true, decide_false, Bool.not_false, Bool.not_true, Bool.and_true, Bool.true_and, Bool.and_false, Bool.false_and, Bool.and_self, Bool.or_true, Bool.true_or, Bool.or_false, Bool.false_or, Bool.or_self, cond_true, cond_false, List.toList_toArray, List.map_cons, List.map_nil, List.getElem?_cons_zero, List.getElem?_cons_succ, Option.map_some, Option.map_none, List.zipIdx_nil, List.zipIdx_cons, List.all_nil, List.all_cons, List.isEmpty_nil, List.isEmpty_cons, List.cons_append, List.nil_append, true_and, and_true, imp_self, forall_const, implies_true, EO.mk.injEq, Bool.false_eq_true, Bool.true_eq_false, List.length_cons, List.length_nil, Array.toList_append, Bool.not_eq_true', Bool.not_eq_false', Bool.cond_true_left, Bool.cond_false_right, Bool.cond_false_left, Bool.cond_true_right, and_self, Bool.not_not, ne_eq, not_true_eq_false, not_false_eq_true, Int.toNat_natCast, Int.toNat_zero, Int.toNat_one, List.take_length, List.drop_zero, inI, evRes, resV, mkL, ltK, rhoL, leE, leR, menB, renB, menE, fzA, fzE, fzB, fzR, spForced, fewS, trueS, attS, validS, absS, gmA, AttR.av, beq_self_eq_true, ha, Int.reduceEq, AV.int.injEq, AV.bool.injEq, AV.roI.injEq, AV.roB.injEq, AV.roII.injEq, AV.rop.injEq, AV.agg.injEq, AV.tup.injEq, AV.cons.injEq, AV.own.injEq, AV.whn.injEq, Blk.ints.injEq, Blk.bools.injEq, Blk.rows.injEq, Blk.rowsR.injEq, Blk.box.injEq, Option.some.injEq, Int.natCast_add, Int.natCast_one, Int.cast_ofNat_Int]
        rfl
      intro r hr
      have hrb0 := hrb r
      repeat' first
        | with_reducible refine awp_seq ?_
        | with_reducible refine awp_block ?_
        | with_reducible refine next_then ?_
        | with_reducible refine next_block ?_
        | with_reducible refine exit_then ?_
        | with_reducible refine ret_then ?_
        | with_reducible refine ret_block ?_
        | with_reducible refine exit_here ?_
        | with_reducible refine awp_exit ?_
        | with_reducible refine awp_ret ?_
        | with_reducible refine awp_skip ?_
        | with_reducible refine awp_label ?_
        | with_reducible refine next_noGoto ?_
        | with_reducible refine ret_noGoto ?_
        | with_reducible refine exit_noGoto ?_
        | with_reducible refine awp_scope ?_
        | ((with_reducible refine exit_past ?_ ?_); exact rfl)
        | ((with_reducible refine isCond ?_); refine awp_condO rfl ?_ ?_ <;> intro hb <;> (try simp only [Bool.and_eq_false_iff, decide_eq_true_eq, decide_eq_false_iff_not, Bool.or_eq_true, Bool.or_eq_false_iff, Bool.and_eq_true, Bool.not_eq_true', Bool.not_eq_false', not_or, Int.not_lt, Int.not_le] at hb))
        | ((with_reducible refine isRegS 27 ?_ ?_); (· exact rfl); (first | refine awp_textM htb hmz spForced_ok (fun _ => false) rfl rfl ?_ | refine awp_drawM hmo htb hmz spForced_ok (fun _ => false) rfl rfl (by kernel_rfl) ?_); intro m' e' l' ob h; simp only [evOut, evStep, eq_self, evo, ev1, evx, evp, ofP, guardOf, opv, lke_cons, lke_nil, lkr_nil, lkr_cons, isC, isCC, isCL, men, putE, setW, set1, del, evLoad, evField, evIndex, evBin, lenOf, evSlice, bnd, cutI, subv, selv, isV, isAg, cellsL, lenL, properL, nthL, dropL, takeL, appL, setL, updv, tb, TI.isStr, strip, gd, gds, whnR, evPick, evStore, stBox, evApp, srcI, srcB, srcR, evBuildS, evTake, makeB, isNilS, partsOK, elemsOf, collI, collB, collII, allC, allN, fillL, evFz, lko, Option.isNone_none, renB, List.length_set, List.length_nil, Nat.sub_zero, Nat.add_zero, notD, chkG, evCopy, evCall, ofSR, viewA, lsOf, ofL, appL, zfree, zfreeB, freeB, isOne, ren, zipE, Op.operands, Call.operands, Nat.reduceAdd, Nat.reduceSub, Nat.reduceMul, Nat.reduceEqDiff, Nat.reduceLeDiff, Nat.reduceLT, Nat.reduceBEq, Nat.reduceBNe, ↓reduceIte, reduceIte, nbeq, nble, nblt, decide_true, decide_false, Bool.not_false, Bool.not_true, Bool.and_true, Bool.true_and, Bool.and_false, Bool.false_and, Bool.and_self, Bool.or_true, Bool.true_or, Bool.or_false, Bool.false_or, Bool.or_self, cond_true, cond_false, List.toList_toArray, List.map_cons, List.map_nil, List.getElem?_cons_zero, List.getElem?_cons_succ, Option.map_some, Option.map_none, List.zipIdx_nil, List.zipIdx_cons, List.all_nil, List.all_cons, List.isEmpty_nil, List.isEmpty_cons, List.cons_append, List.nil_append, true_and, and_true, imp_self, forall_const, implies_true, EO.mk.injEq, Bool.false_eq_true, Bool.true_eq_false, List.length_cons, List.length_nil, Array.toList_append, Bool.not_eq_true', Bool.not_eq_false', Bool.cond_true_left, Bool.cond_false_right, Bool.cond_false_left, Bool.cond_true_right, and_self, Bool.not_not, ne_eq, not_true_eq_false, not_false_eq_true, Int.toNat_natCast, Int.toNat_zero, Int.toNat_one, List.take_length, List.drop_zero, inI, evRes, resV, mkL, ltK, rhoL, leE, leR, menB, renB, menE, fzA, fzE, fzB, fzR, spForced, fewS, trueS, attS, validS, absS, gmA, AttR.av, beq_self_eq_true, ha, Int.reduceEq] at h; obtain ⟨rfl, rfl, rfl, rfl⟩ := h; refine ⟨?_, ?_⟩)
        | ((with_reducible refine Ob.mk ?_); first | exact trivial | (intros; omega) | ((repeat' first | apply And.intro | (intro hg; have hg' := hg; try simp only [Bool.and_eq_false_iff, decide_eq_true_eq, decide_eq_false_iff_not, Bool.or_eq_true, Bool.or_eq_false_iff, Bool.and_eq_true, Bool.not_eq_true', Bool.not_eq_false', not_or, Int.not_lt, Int.not_le] at hg')) <;> first | assumption | omega | (simp only [Bool.and_eq_false_iff, decide_eq_true_eq, decide_eq_false_iff_not, Bool.or_eq_true, Bool.or_eq_false_iff, Bool.and_eq_true, Bool.not_eq_true', Bool.not_eq_false', not_or, Int.not_lt, Int.not_le]; omega)))
      · have hrl : r < (x.getD i []).length := by omega
        refine back (r + 1) [] ?_ (by omega) (by omega)
        (refine ⟨rfl, ?_, ?_⟩ <;> simp only [evOut, evStep, eq_self, evo, ev1, evx, evp, ofP, guardOf, opv, lke_cons, lke_nil, lkr_nil, lkr_cons, isC, isCC, isCL, men, putE, setW, set1, del, evLoad, evField, evIndex, evBin, lenOf, evSlice, bnd, cutI, subv, selv, isV, isAg, cellsL, lenL, properL, nthL, dropL, takeL, appL, setL, updv, tb, TI.isStr, strip, gd, gds, whnR, evPick, evStore, stBox, evApp, srcI, srcB, srcR, evBuildS, evTake, makeB, isNilS, partsOK, elemsOf, collI, collB, collII, allC, allN, fillL, evFz, lko, Option.isNone_none, renB, List.length_set, List.length_nil, Nat.sub_zero, Nat.add_zero, notD, chkG, evCopy, evCall, ofSR, viewA, lsOf, ofL, appL, zfree, zfreeB, freeB, isOne, ren, zipE, Op.operands, Call.operands, Nat.reduceAdd, Nat.reduceSub, Nat.reduceMul, Nat.reduceEqDiff, Nat.reduceLeDiff, Nat.reduceLT, Nat.reduceBEq, Nat.reduceBNe, ↓reduceIte, reduceIte, nbeq, nble, nblt, decide_true, decide_false, Bool.not_false, Bool.not_true, Bool.and_true, Bool.true_and, Bool.and_false, Bool.false_and, Bool.and_self, Bool.or_true, Bool.true_or, Bool.or_false, Bool.false_or, Bool.or_self, cond_true, cond_false, List.toList_toArray, List.map_cons, List.map_nil, List.getElem?_cons_zero, List.getElem?_cons_succ, Option.map_some, Option.map_none, List.zipIdx_nil, List.zipIdx_cons, List.all_nil, List.all_cons, List.isEmpty_nil, List.isEmpty_cons, List.cons_append, List.nil_append, true_and, and_true, imp_self, forall_const, implies_true, EO.mk.injEq, Bool.false_eq_true, Bool.true_eq_false, List.length_cons, List.length_nil, Array.toList_append, Bool.not_eq_true', Bool.not_eq_false', Bool.cond_true_left, Bool.cond_false_right, Bool.cond_false_left, Bool.cond_true_right, and_self, Bool.not_not, ne_eq, not_true_eq_false, not_false_eq_true, Int.toNat_natCast, Int.toNat_zero, Int.toNat_one, List.take_length, List.drop_zero, inI, evRes, resV, mkL, ltK, rhoL, leE, leR, menB, renB, menE, fzA, fzE, fzB, fzR, spForced, fewS, trueS, attS, validS, absS, gmA, AttR.av, beq_self_eq_true, ha, Int.reduceEq, AV.int.injEq, AV.bool.injEq, AV.roI.injEq, AV.roB.injEq, AV.roII.injEq, AV.rop.injEq, AV.agg.injEq, AV.tup.injEq, AV.cons.injEq, AV.own.injEq, AV.whn.injEq, Blk.ints.injEq, Blk.bools.injEq, Blk.rows.injEq, Blk.rowsR.injEq, Blk.box.injEq, Option.some.injEq, Int.natCast_add, Int.natCast_one, Int.cast_ofNat_Int])
        rw [lastN_succ hrl, if_pos (by assumption)]
      · have hrl : r < (x.getD i []).length := by omega
        refine back (r + 1) [] ?_ (by omega) (by omega)
        (refine ⟨rfl, ?_, ?_⟩ <;> simp only [evOut, evStep, eq_self, evo, ev1, evx, evp, ofP, guardOf, opv, lke_cons, lke_nil, lkr_nil, lkr_cons, isC, isCC, isCL, men, putE, setW, set1, del, evLoad, evField, evIndex, evBin, lenOf, evSlice, bnd, cutI, subv, selv, isV, isAg, cellsL, lenL, properL, nthL, dropL, takeL, appL, setL, updv, tb, TI.isStr, strip, gd, gds, whnR, evPick, evStore, stBox, evApp, srcI, srcB, srcR, evBuildS, evTake, makeB, isNilS, partsOK, elemsOf, collI, collB, collII, allC, allN, fillL, evFz, lko, Option.isNone_none, renB, List.length_set, List.length_nil, Nat.sub_zero, Nat.add_zero, notD, chkG, evCopy, evCall, ofSR, viewA, lsOf, ofL, appL, zfree, zfreeB, freeB, isOne, ren, zipE, Op.operands, Call.operands, Nat.reduceAdd, Nat.reduceSub, Nat.reduceMul, Nat.reduceEqDiff, Nat.reduceLeDiff, Nat.reduceLT, Nat.reduceBEq, Nat.reduceBNe, ↓reduceIte, reduceIte, nbeq, nble, nblt, decide_true, decide_false, Bool.not_false, Bool.not_true, Bool.and_true, Bool.true_and, Bool.and_false, Bool.false_and, Bool.and_self, Bool.or_true, Bool.true_or, Bool.or_false, Bool.false_or, Bool.or_self, cond_true, cond_false, List.toList_toArray, List.map_cons, List.map_nil, List.getElem?_cons_zero, List.getElem?_cons_succ, Option.map_some, Option.map_none, List.zipIdx_nil, List.zipIdx_cons, List.all_nil, List.all_cons, List.isEmpty_nil, List.isEmpty_cons, List.cons_append, List.nil_append, true_and, and_true, imp_self, forall_const, implies_true, EO.mk.injEq, Bool.false_eq_true, Bool.true_eq_false, List.length_cons, List.length_nil, Array.toList_append, Bool.not_eq_true', Bool.not_eq_false', Bool.cond_true_left, Bool.cond_false_right, Bool.cond_false_left, Bool.cond_true_right, and_self, Bool.not_not, ne_eq, not_true_eq_false, not_false_eq_true, Int.toNat_natCast, Int.toNat_zero, Int.toNat_one, List.take_length, List.drop_zero, inI, evRes, resV, mkL, ltK, rhoL, leE, leR, menB, renB, menE, fzA, fzE, fzB, fzR, spForced, fewS, trueS, attS, validS, absS, gmA, AttR.av, beq_self_eq_true, ha, Int.reduceEq, AV.int.injEq, AV.bool.injEq, AV.roI.injEq, AV.roB.injEq, AV.roII.injEq, AV.rop.injEq, AV.agg.injEq, AV.tup.injEq, AV.cons.injEq, AV.own.injEq, AV.whn.injEq, Blk.ints.injEq, Blk.bools.injEq, Blk.rows.injEq, Blk.rowsR.injEq, Blk.box.injEq, Option.some.injEq, Int.natCast_add, Int.natCast_one, Int.cast_ofNat_Int])
        rw [lastN_succ hrl, if_neg (by omega)]
      have hre : r = (x.getD i []).length := by omega
      subst hre
      rw [List.take_length]
      have hb2 : ¬ o.getD i 0 = q ∧ S.getD f 0 < 0 := by assumption
      have hgo : lastN S (x.getD i []) ∈ x.getD i [] ∧ S.getD (lastN S (x.getD i [])).toNat 0 < 0 := by
        obtain ⟨t, h1, h2⟩ := hc0o (hout hb2.2) hb2.1
        obtain ⟨a, h3, rfl⟩ := hscd t h1
        exact lastN_good.1 ⟨a, h3, h2⟩
      generalize lastN S (x.getD i []) = nx at *
      have hm := hgo.1
      have hg : (0 ≤ S.getD f 0 → 0 ≤ S.getD nx.toNat 0 ∧ S.getD nx.toNat 0 + ((k + 1 : Nat) : Int) ≤ S.getD f 0) ∧ (S.getD f 0 < 0 → S.getD nx.toNat 0 < 0) := ⟨fun _ => by omega, fun _ => hgo.2⟩
      repeat' first
        | with_reducible refine awp_seq ?_
        | with_reducible refine awp_block ?_
        | with_reducible refine next_then ?_
        | with_reducible refine next_block ?_
        | with_reducible refine exit_then ?_
        | with_reducible refine ret_then ?_
        | with_reducible refine ret_block ?_
        | with_reducible refine exit_here ?_
        | with_reducible refine awp_exit ?_
        | with_reducible refine awp_ret ?_
        | with_reducible refine awp_skip ?_
        | with_reducible refine awp_label ?_
        | with_reducible refine next_noGoto ?_
        | with_reducible refine ret_noGoto ?_
        | with_reducible refine exit_noGoto ?_
        | with_reducible refine awp_scope ?_
        | ((with_reducible refine exit_past ?_ ?_); exact rfl)
        | ((with_reducible refine isCond ?_); refine awp_condO rfl ?_ ?_ <;> intro hb <;> (try simp only [Bool.and_eq_false_iff, decide_eq_true_eq, decide_eq_false_iff_not, Bool.or_eq_true, Bool.or_eq_false_iff, Bool.and_eq_true, Bool.not_eq_true', Bool.not_eq_false', not_or, Int.not_lt, Int.not_le] at hb))
        | ((with_reducible refine isReg ?_); (first | refine awp_textM htb hmz spForced_ok (fun _ => false) rfl rfl ?_ | refine awp_drawM hmo htb hmz spForced_ok (fun _ => false) rfl rfl (by kernel_rfl) ?_); intro m' e' l' ob h; simp only [evOut, evStep, eq_self, evo, ev1, evx, evp, ofP, guardOf, opv, lke_cons, lke_nil, lkr_nil, lkr_cons, isC, isCC, isCL, men, putE, setW, set1, del, evLoad, evField, evIndex, evBin, lenOf, evSlice, bnd, cutI, subv, selv, isV, isAg, cellsL, lenL, properL, nthL, dropL, takeL, appL, setL, updv, tb, TI.isStr, strip, gd, gds, whnR, evPick, evStore, stBox, evApp, srcI, srcB, srcR, evBuildS, evTake, makeB, isNilS, partsOK, elemsOf, collI, collB, collII, allC, allN, fillL, evFz, lko, Option.isNone_none, renB, List.length_set, List.length_nil, Nat.sub_zero, Nat.add_zero, notD, chkG, evCopy, evCall, ofSR, viewA, lsOf, ofL, appL, zfree, zfreeB, freeB, isOne, ren, zipE, Op.operands, Call.operands, Nat.reduceAdd, Nat.reduceSub, Nat.reduceMul, Nat.reduceEqDiff, Nat.reduceLeDiff, Nat.reduceLT, Nat.reduceBEq, Nat.reduceBNe, ↓reduceIte, reduceIte, nbeq, nble, nblt, decide_true, decide_false, Bool.not_false, Bool.not_true, Bool.and_true, Bool.true_and, Bool.and_false, Bool.false_and, Bool.and_self, Bool.or_true, Bool.true_or, Bool.or_false, Bool.false_or, Bool.or_self, cond_true, cond_false, List.toList_toArray, List.map_cons, List.map_nil, List.getElem?_cons_zero, List.getElem?_cons_succ, Option.map_some, Option.map_none, List.zipIdx_nil, List.zipIdx_cons, List.all_nil, List.all_cons, List.isEmpty_nil, List.isEmpty_cons, List.cons_append, List.nil_append, true_and, and_true, imp_self, forall_const, implies_true, EO.mk.injEq, Bool.false_eq_true, Bool.true_eq_false, List.length_cons, List.length_nil, Array.toList_append, Bool.not_eq_true', Bool.not_eq_false', Bool.cond_true_left, Bool.cond_false_right, Bool.cond_false_left, Bool.cond_true_right, and_self, Bool.not_not, ne_eq, not_true_eq_false, not_false_eq_true, Int.toNat_natCast, Int.toNat_zero, Int.toNat_one, List.take_length, List.drop_zero, inI, evRes, resV, mkL, ltK, rhoL, leE, leR, menB, renB, menE, fzA, fzE, fzB, fzR, spForced, fewS, trueS, attS, validS, absS, gmA, AttR.av, beq_self_eq_true, ha, Int.reduceEq] at h; obtain ⟨rfl, rfl, rfl, rfl⟩ := h; refine ⟨?_, ?_⟩)
        | ((with_reducible refine Ob.mk ?_); first | exact trivial | (intros; omega) | ((repeat' first | apply And.intro | (intro hg; have hg' := hg; try simp only [Bool.and_eq_false_iff, decide_eq_true_eq, decide_eq_false_iff_not, Bool.or_eq_true, Bool.or_eq_false_iff, Bool.and_eq_true, Bool.not_eq_true', Bool.not_eq_false', not_or, Int.not_lt, Int.not_le] at hg')) <;> first | assumption | omega | (simp only [Bool.and_eq_false_iff, decide_eq_true_eq, decide_eq_false_iff_not, Bool.or_eq_true, Bool.or_eq_false_iff, Bool.and_eq_true, Bool.not_eq_true', Bool.not_eq_false', not_or, Int.not_lt, Int.not_le]; omega)))
      refine awp_loopC (τ := Nat) (fun r => r ≤ (x.getD i []).length) (fun r => ⟨40, [(183, .int .i64 r), (182, .int .i64 (x.getD i []).length), (181, .roI (x.getD i [])), (21, .bool (((x.getD i []).take r).any fun j => decide (j = nx))), (17, .int .i64 nx), (16, .int .i64 k), (15, .int .i64 i), (14, .bool (decide (0 ≤ S.getD f 0))), (12, .roI C), (11, .roI S), (10, .bool false), (5, .rop (.agg (.cons (.roI o) (.cons (.roI p) (.cons (.roII x) .nil))))), (1, .int .i64 q), (2, .roB to), (3, .roI c), (4, .int .i64 f)], [], []⟩) (fun r => (x.getD i []).length - r) 0 [] ?_ (Nat.zero_le _) ?_
      · refine ⟨rfl, ?_, ?_⟩ <;> simp only [evOut, evStep, eq_self, evo, ev1, evx, evp, ofP, guardOf, opv, lke_cons, lke_nil, lkr_nil, lkr_cons, isC, isCC, isCL, men, putE, setW, set1, del, evLoad, evField, evIndex, evBin, lenOf, evSlice, bnd, cutI, subv, selv, isV, isAg, cellsL, lenL, properL, nthL, dropL, takeL, appL, setL, updv, tb, TI.isStr, strip, gd, gds, whnR, evPick, evStore, stBox, evApp, srcI, srcB, srcR, evBuildS, evTake, makeB, isNilS, partsOK, elemsOf, collI, collB, collII, allC, allN, fillL, evFz, lko, Option.isNone_none, renB, List.length_set, List.length_nil, Nat.sub_zero, Nat.add_zero, notD, chkG, evCopy, evCall, ofSR, viewA, lsOf, ofL, appL, zfree, zfreeB, freeB, isOne, ren, zipE, Op.operands, Call.operands, Nat.reduceAdd, Nat.reduceSub, Nat.reduceMul, Nat.reduceEqDiff, Nat.reduceLeDiff, Nat.reduceLT, Nat.reduceBEq, Nat.reduceBNe, ↓reduceIte, reduceIte, nbeq, nble, nblt, decide_true, decide_false, Bool.not_false, Bool.not_true, Bool.and_true, Bool.true_and, Bool.and_false, Bool.false_and, Bool.and_self, Bool.or_true, Bool.true_or, Bool.or_false, Bool.false_or, Bool.or_self, cond_true, cond_false, List.toList_toArray, List.map_cons, List.map_nil, List.getElem?_cons_zero, List.getElem?_cons_succ, Option.map_some, Option.map_none, List.zipIdx_nil, List.zipIdx_cons, List.all_nil, List.all_cons, List.isEmpty_nil, List.isEmpty_cons, List.cons_append, List.nil_append, true_and, and_true, imp_self, forall_const, implies_true, EO.mk.injEq, Bool.false_eq_true, Bool.true_eq_false, List.length_cons, List.length_nil, Array.toList_append, Bool.not_eq_true', Bool.not_eq_false', Bool.cond_true_left, Bool.cond_false_right, Bool.cond_false_left, Bool.cond_true_right, and_self, Bool.not_not, ne_eq, not_true_eq_false, not_false_eq_true, Int.toNat_natCast, Int.toNat_zero, Int.toNat_one, List.take_length, List.drop_zero, inI, evRes, resV, mkL, ltK, rhoL, leE, leR, menB, renB, menE, fzA, fzE, fzB, fzR, spForced, fewS, trueS, attS, validS, absS, gmA, AttR.av, beq_self_eq_true, ha, Int.reduceEq, AV.int.injEq, AV.bool.injEq, AV.roI.injEq, AV.roB.injEq, AV.roII.injEq, AV.rop.injEq, AV.agg.injEq, AV.tup.injEq, AV.cons.injEq, AV.own.injEq, AV.whn.injEq, Blk.ints.injEq, Blk.bools.injEq, Blk.rows.injEq, Blk.rowsR.injEq, Blk.box.injEq, Option.some.injEq, Int.natCast_add, Int.natCast_one, Int.cast_ofNat_Int]
        rfl
      intro r hr
      have hrb := hrb r
      repeat' first
        | with_reducible refine awp_seq ?_
        | with_reducible refine awp_block ?_
        | with_reducible refine next_then ?_
        | with_reducible refine next_block ?_
        | with_reducible refine exit_then ?_
        | with_reducible refine ret_then ?_
        | with_reducible refine ret_block ?_
        | with_reducible refine exit_here ?_
        | with_reducible refine awp_exit ?_
        | with_reducible refine awp_ret ?_
        | with_reducible refine awp_skip ?_
        | with_reducible refine awp_label ?_
        | with_reducible refine next_noGoto ?_
        | with_reducible refine ret_noGoto ?_
        | with_reducible refine exit_noGoto ?_
        | with_reducible refine awp_scope ?_
        | ((with_reducible refine exit_past ?_ ?_); exact rfl)
        | ((with_reducible refine isCond ?_); refine awp_condO rfl ?_ ?_ <;> intro hb <;> (try simp only [Bool.and_eq_false_iff, decide_eq_true_eq, decide_eq_false_iff_not, Bool.or_eq_true, Bool.or_eq_false_iff, Bool.and_eq_true, Bool.not_eq_true', Bool.not_eq_false', not_or, Int.not_lt, Int.not_le] at hb))
        | ((with_reducible refine isReg ?_); (first | refine awp_textM htb hmz spForced_ok (fun _ => false) rfl rfl ?_ | refine awp_drawM hmo htb hmz spForced_ok (fun _ => false) rfl rfl (by kernel_rfl) ?_); intro m' e' l' ob h; simp only [evOut, evStep, eq_self, evo, ev1, evx, evp, ofP, guardOf, opv, lke_cons, lke_nil, lkr_nil, lkr_cons, isC, isCC, isCL, men, putE, setW, set1, del, evLoad, evField, evIndex, evBin, lenOf, evSlice, bnd, cutI, subv, selv, isV, isAg, cellsL, lenL, properL, nthL, dropL, takeL, appL, setL, updv, tb, TI.isStr, strip, gd, gds, whnR, evPick, evStore, stBox, evApp, srcI, srcB, srcR, evBuildS, evTake, makeB, isNilS, partsOK, elemsOf, collI, collB, collII, allC, allN, fillL, evFz, lko, Option.isNone_none, renB, List.length_set, List.length_nil, Nat.sub_zero, Nat.add_zero, notD, chkG, evCopy, evCall, ofSR, viewA, lsOf, ofL, appL, zfree, zfreeB, freeB, isOne, ren, zipE, Op.operands, Call.operands, Nat.reduceAdd, Nat.reduceSub, Nat.reduceMul, Nat.reduceEqDiff, Nat.reduceLeDiff, Nat.reduceLT, Nat.reduceBEq, Nat.reduceBNe, ↓reduceIte, reduceIte, nbeq, nble, nblt, decide_true, decide_false, Bool.not_false, Bool.not_true, Bool.and_true, Bool.true_and, Bool.and_false, Bool.false_and, Bool.and_self, Bool.or_true, Bool.true_or, Bool.or_false, Bool.false_or, Bool.or_self, cond_true, cond_false, List.toList_toArray, List.map_cons, List.map_nil, List.getElem?_cons_zero, List.getElem?_cons_succ, Option.map_some, Option.map_none, List.zipIdx_nil, List.zipIdx_cons, List.all_nil, List.all_cons, List.isEmpty_nil, List.isEmpty_cons, List.cons_append, List.nil_append, true_and, and_true, imp_self, forall_const, implies_true, EO.mk.injEq, Bool.false_eq_true, Bool.true_eq_false, List.length_cons, List.length_nil, Array.toList_append, Bool.not_eq_true', Bool.not_eq_false', Bool.cond_true_left, Bool.cond_false_right, Bool.cond_false_left, Bool.cond_true_right, and_self, Bool.not_not, ne_eq, not_true_eq_false, not_false_eq_true, Int.toNat_natCast, Int.toNat_zero, Int.toNat_one, List.take_length, List.drop_zero, inI, evRes, resV, mkL, ltK, rhoL, leE, leR, menB, renB, menE, fzA, fzE, fzB, fzR, spForced, fewS, trueS, attS, validS, absS, gmA, AttR.av, beq_self_eq_true, ha, Int.reduceEq] at h; obtain ⟨rfl, rfl, rfl, rfl⟩ := h; refine ⟨?_, ?_⟩)
        | ((with_reducible refine Ob.mk ?_); first | exact trivial | (intros; omega) | ((repeat' first | apply And.intro | (intro hg; have hg' := hg; try simp only [Bool.and_eq_false_iff, decide_eq_true_eq, decide_eq_false_iff_not, Bool.or_eq_true, Bool.or_eq_false_iff, Bool.and_eq_true, Bool.not_eq_true', Bool.not_eq_false', not_or, Int.not_lt, Int.not_le] at hg')) <;> first | assumption | omega | (simp only [Bool.and_eq_false_iff, decide_eq_true_eq, decide_eq_false_iff_not, Bool.or_eq_true, Bool.or_eq_false_iff, Bool.and_eq_true, Bool.not_eq_true', Bool.not_eq_false', not_or, Int.not_lt, Int.not_le]; omega)))
      · have hrl : r < (x.getD i []).length := by omega
        refine back (r + 1) [] ?_ (by omega) (by omega)
        (refine ⟨rfl, ?_, ?_⟩ <;> simp only [evOut, evStep, eq_self, evo, ev1, evx, evp, ofP, guardOf, opv, lke_cons, lke_nil, lkr_nil, lkr_cons, isC, isCC, isCL, men, putE, setW, set1, del, evLoad, evField, evIndex, evBin, lenOf, evSlice, bnd, cutI, subv, selv, isV, isAg, cellsL, lenL, properL, nthL, dropL, takeL, appL, setL, updv, tb, TI.isStr, strip, gd, gds, whnR, evPick, evStore, stBox, evApp, srcI, srcB, srcR, evBuildS, evTake, makeB, isNilS, partsOK, elemsOf, collI, collB, collII, allC, allN, fillL, evFz, lko, Option.isNone_none, renB, List.length_set, List.length_nil, Nat.sub_zero, Nat.add_zero, notD, chkG, evCopy, evCall, ofSR, viewA, lsOf, ofL, appL, zfree, zfreeB, freeB, isOne, ren, zipE, Op.operands, Call.operands, Nat.reduceAdd, Nat.reduceSub, Nat.reduceMul, Nat.reduceEqDiff, Nat.reduceLeDiff, Nat.reduceLT, Nat.reduceBEq, Nat.reduceBNe, ↓reduceIte, reduceIte, nbeq, nble, nblt, decide_true, decide_false, Bool.not_false, Bool.not_true, Bool.and_true, Bool.true_and, Bool.and_false, Bool.false_and, Bool.and_self, Bool.or_true, Bool.true_or, Bool.or_false, Bool.false_or, Bool.or_self, cond_true, cond_false, List.toList_toArray, List.map_cons, List.map_nil, List.getElem?_cons_zero, List.getElem?_cons_succ, Option.map_some, Option.map_none, List.zipIdx_nil, List.zipIdx_cons, List.all_nil, List.all_cons, List.isEmpty_nil, List.isEmpty_cons, List.cons_append, List.nil_append, true_and, and_true, imp_self, forall_const, implies_true, EO.mk.injEq, Bool.false_eq_true, Bool.true_eq_false, List.length_cons, List.length_nil, Array.toList_append, Bool.not_eq_true', Bool.not_eq_false', Bool.cond_true_left, Bool.cond_false_right, Bool.cond_false_left, Bool.cond_true_right, and_self, Bool.not_not, ne_eq, not_true_eq_false, not_false_eq_true, Int.toNat_natCast, Int.toNat_zero, Int.toNat_one, List.take_length, List.drop_zero, inI, evRes, resV, mkL, ltK, rhoL, leE, leR, menB, renB, menE, fzA, fzE, fzB, fzR, spForced, fewS, trueS, attS, validS, absS, gmA, AttR.av, beq_self_eq_true, ha, Int.reduceEq, AV.int.injEq, AV.bool.injEq, AV.roI.injEq, AV.roB.injEq, AV.roII.injEq, AV.rop.injEq, AV.agg.injEq, AV.tup.injEq, AV.cons.injEq, AV.own.injEq, AV.whn.injEq, Blk.ints.injEq, Blk.bools.injEq, Blk.rows.injEq, Blk.rowsR.injEq, Blk.box.injEq, Option.some.injEq, Int.natCast_add, Int.natCast_one, Int.cast_ofNat_Int])
        rw [any_succ hrl]
      · exfalso
        have hre : r = (x.getD i []).length := by omega
        subst hre
        rw [List.take_length, List.any_eq_false] at hb
        exact hb nx hm (decide_eq_true rfl)
      · have h7 := hrm nx hm
        refine back (k + 1, nx.toNat) [] ?_ ⟨by dsimp only; omega, by dsimp only; omega, hg.1, hg.2⟩ (by dsimp only; omega)
        (refine ⟨rfl, ?_, ?_⟩ <;> simp only [evOut, evStep, eq_self, evo, ev1, evx, evp, ofP, guardOf, opv, lke_cons, lke_nil, lkr_nil, lkr_cons, isC, isCC, isCL, men, putE, setW, set1, del, evLoad, evField, evIndex, evBin, lenOf, evSlice, bnd, cutI, subv, selv, isV, isAg, cellsL, lenL, properL, nthL, dropL, takeL, appL, setL, updv, tb, TI.isStr, strip, gd, gds, whnR, evPick, evStore, stBox, evApp, srcI, srcB, srcR, evBuildS, evTake, makeB, isNilS, partsOK, elemsOf, collI, collB, collII, allC, allN, fillL, evFz, lko, Option.isNone_none, renB, List.length_set, List.length_nil, Nat.sub_zero, Nat.add_zero, notD, chkG, evCopy, evCall, ofSR, viewA, lsOf, ofL, appL, zfree, zfreeB, freeB, isOne, ren, zipE, Op.operands, Call.operands, Nat.reduceAdd, Nat.reduceSub, Nat.reduceMul, Nat.reduceEqDiff, Nat.reduceLeDiff, Nat.reduceLT, Nat.reduceBEq, Nat.reduceBNe, ↓reduceIte, reduceIte, nbeq, nble, nblt, decide_true, decide_false, Bool.not_false, Bool.not_true, Bool.and_true, Bool.true_and, Bool.and_false, Bool.false_and, Bool.and_self, Bool.or_true, Bool.true_or, Bool.or_false, Bool.false_or, Bool.or_self, cond_true, cond_false, List.toList_toArray, List.map_cons, List.map_nil, List.getElem?_cons_zero, List.getElem?_cons_succ, Option.map_some, Option.map_none, List.zipIdx_nil, List.zipIdx_cons, List.all_nil, List.all_cons, List.isEmpty_nil, List.isEmpty_cons, List.cons_append, List.nil_append, true_and, and_true, imp_self, forall_const, implies_true, EO.mk.injEq, Bool.false_eq_true, Bool.true_eq_false, List.length_cons, List.length_nil, Array.toList_append, Bool.not_eq_true', Bool.not_eq_false', Bool.cond_true_left, Bool.cond_false_right, Bool.cond_false_left, Bool.cond_true_right, and_self, Bool.not_not, ne_eq, not_true_eq_false, not_false_eq_true, Int.toNat_natCast, Int.toNat_zero, Int.toNat_one, List.take_length, List.drop_zero, inI, evRes, resV, mkL, ltK, rhoL, leE, leR, menB, renB, menE, fzA, fzE, fzB, fzR, spForced, fewS, trueS, attS, validS, absS, gmA, AttR.av, beq_self_eq_true, ha, Int.reduceEq, AV.int.injEq, AV.bool.injEq, AV.roI.injEq, AV.roB.injEq, AV.roII.injEq, AV.rop.injEq, AV.agg.injEq, AV.tup.injEq, AV.cons.injEq, AV.own.injEq, AV.whn.injEq, Blk.ints.injEq, Blk.bools.injEq, Blk.rows.injEq, Blk.rowsR.injEq, Blk.box.injEq, Option.some.injEq, Int.natCast_add, Int.natCast_one, Int.cast_ofNat_Int])
        omega
  · refine fin_ret rfl rfl (spec_flat rfl ?_ rfl)
    show AV.bool _ = AV.bool true
    have : ¬ 0 ≤ S.getD f 0 := fun h => by have := hin h; omega
    rw [decide_eq_false this]; rfl

end Go.Proofs.Ytinfflpephioiaa.Cal
