/- What the walk finds: Play. -/
import Derived.Test.YtinfflpephioiaaW12c
import Derived.Test.YtinfflpephioiaaPl1
set_option linter.unusedVariables false
set_option linter.unusedSimpArgs false
namespace Go.Proofs.Ytinfflpephioiaa.Cal
open Go Pl

def chF (c : List Int) (v : Nat) : Nat := (c.getD v 0).toNat
open Classical in
noncomputable def lp (c : List Int) (f : Nat) : Nat × Nat := if h : ∃ p : Nat × Nat, Again (chF c) f p.1 p.2 then Classical.choose h else (0, 0)
def way (c : List Int) (f L : Nat) : List Int := (List.range L).map fun j => (orb (chF c) f j : Int)
def topOf (p : List Int) (l : List Int) : Int := l.foldl (fun t u => max t (p.getD u.toNat 0)) 0
def OkCh (g : Gm) (c : List Int) : Prop := ∀ v, v < c.length → c.getD v 0 ∈ g.x v

structure PlayR where
  stem : List Int
  loop : List Int
  win : Int
  err : Int
open Classical in
noncomputable def playR (g : Gm) (c : List Int) (f : Int) : PlayR :=
  if ¬ Valid g then ⟨[], [], 0, 1⟩ else if c.length ≠ g.n then ⟨[], [], 0, 2⟩ else if f < 0 ∨ (g.n : Int) ≤ f then ⟨[], [], 0, 6⟩ else if ¬ OkCh g c then ⟨[], [], 0, 6⟩ else
    let L := (lp c f.toNat).1
    let k := (lp c f.toNat).2
    ⟨(way c f.toNat L).take k, (way c f.toNat L).drop k, topOf g.pri ((way c f.toNat L).drop k) % 2, 0⟩
def PlayR.av (r : PlayR) : AV := .tup (.cons (.roI r.stem) (.cons (.roI r.loop) (.cons (.int .i64 r.win) (.cons (.int .i64 r.err) .nil))))
noncomputable def playS : Spec
  | [.agg (.cons (.roI o) (.cons (.roI p) (.cons (.roII x) .nil))), .roI c, .int .i64 f] => some ⟨True, (playR ⟨o, p, x⟩ c f).av, none⟩
  | _ => none

noncomputable def spPlay : Nat → Option Spec
  | 14 => some validS
  | 30 => some containsS
  | 31 => some cloneS
  | _ => none
theorem spPlay_ok : SpOK Try.prog spPlay := by
  intro f S h
  unfold spPlay at h
  split at h
  · cases h; exact valid_ok
  · cases h; exact contains_ok
  · cases h; exact clone_ok
  · cases h

theorem topOf_ge {p : List Int} : ∀ (l : List Int) (t : Int), t ≤ l.foldl (fun t u => max t (p.getD u.toNat 0)) t
  | [], t => Int.le_refl t
  | u :: l, t => Int.le_trans (Int.le_max_left _ _) (topOf_ge l _)
theorem topOf_nn {p l : List Int} : 0 ≤ topOf p l := topOf_ge l 0
theorem topOf_succ {p l : List Int} {i : Nat} (h : i < l.length) : topOf p (l.take (i + 1)) = max (topOf p (l.take i)) (p.getD (l.getD i 0).toNat 0) := by
  unfold topOf
  rw [List.take_add_one, List.getElem?_eq_getElem h, List.foldl_append]
  simp [List.getD_eq_getElem?_getD, List.getElem?_eq_getElem h]

theorem validB_iff {g : Gm} : validB g = true ↔ Valid g := by simp [validB]
theorem play_e1 {g : Gm} {c : List Int} {f : Int} (h : validB g = false) : playR g c f = ⟨[], [], 0, 1⟩ := by
  unfold playR; rw [if_pos]; intro hv; rw [validB_true hv] at h; cases h
theorem play_e2 {g : Gm} {c : List Int} {f : Int} (h : validB g = true) (h2 : c.length ≠ g.n) : playR g c f = ⟨[], [], 0, 2⟩ := by
  unfold playR; rw [if_neg (by simpa using validB_iff.1 h), if_pos h2]
theorem play_e3 {g : Gm} {c : List Int} {f : Int} (h : validB g = true) (h2 : c.length = g.n) (h3 : f < 0 ∨ (g.n : Int) ≤ f) : playR g c f = ⟨[], [], 0, 6⟩ := by
  unfold playR; rw [if_neg (by simpa using validB_iff.1 h), if_neg (by simpa using h2), if_pos h3]
theorem play_e4 {g : Gm} {c : List Int} {f : Int} (h : validB g = true) (h2 : c.length = g.n) (h3 : ¬ (f < 0 ∨ (g.n : Int) ≤ f)) (h4 : ¬ OkCh g c) : playR g c f = ⟨[], [], 0, 6⟩ := by
  unfold playR; rw [if_neg (by simpa using validB_iff.1 h), if_neg (by simpa using h2), if_neg h3, if_pos h4]
theorem play_e5 {g : Gm} {c : List Int} {f : Int} (h : validB g = true) (h2 : c.length = g.n) (h3 : ¬ (f < 0 ∨ (g.n : Int) ≤ f)) (h4 : OkCh g c) {L k : Nat} (ha : Again (chF c) f.toNat L k) :
    playR g c f = ⟨(way c f.toNat L).take k, (way c f.toNat L).drop k, topOf g.pri ((way c f.toNat L).drop k) % 2, 0⟩ := by
  have hl : lp c f.toNat = (L, k) := by
    unfold lp
    have hex : ∃ p : Nat × Nat, Again (chF c) f.toNat p.1 p.2 := ⟨(L, k), ha⟩
    rw [dif_pos hex]
    have := again_unique (Classical.choose_spec hex) ha
    exact Prod.ext this.1 this.2
  unfold playR
  rw [if_neg (by simpa using validB_iff.1 h), if_neg (by simpa using h2), if_neg h3, if_neg (by simpa using h4), hl]
theorem play_imp {r : PlayR} {a b : AV} {w e : Int} (h1 : Imp a (.roI r.stem)) (h2 : Imp b (.roI r.loop)) (h3 : w = r.win) (h4 : e = r.err) : Imp (.tup (.cons a (.cons b (.cons (.int .i64 w) (.cons (.int .i64 e) .nil))))) r.av := by
  subst h3 h4
  exact imp_tup (imp_cons h1 (imp_cons h2 (imp_eq rfl)))

def atF (c : List Int) (f n : Nat) : Nat → List Int
  | 0 => List.replicate n 0
  | k + 1 => (atF c f n k).set (orb (chF c) f k) (k + 1)
theorem atF_len {c : List Int} {f n : Nat} : ∀ k, (atF c f n k).length = n
  | 0 => by simp [atF]
  | k + 1 => by simp [atF, atF_len k]
theorem atF_get {c : List Int} {f n : Nat} (hn : ∀ j, orb (chF c) f j < n) : ∀ k, Fresh (chF c) f k → ∀ v, (∀ j, j < k → orb (chF c) f j = v → (atF c f n k).getD v 0 = j + 1) ∧ ((∀ j, j < k → orb (chF c) f j ≠ v) → (atF c f n k).getD v 0 = 0) := by
  intro k
  induction k with
  | zero => intro _ v; exact ⟨fun j hj => absurd hj (Nat.not_lt_zero _), fun _ => by simp only [atF, List.getD_eq_getElem?_getD, List.getElem?_replicate]; split <;> rfl⟩
  | succ k ih =>
    intro hf v
    obtain ⟨h1, h2⟩ := ih (fun i j hij hj => hf i j hij (by omega)) v
    have hset : (atF c f n (k + 1)).getD v 0 = if v = orb (chF c) f k then ((k : Int) + 1) else (atF c f n k).getD v 0 := getD_set (by rw [atF_len]; exact hn k)
    rw [hset]
    refine ⟨fun j hj e => ?_, fun h => ?_⟩
    · by_cases hv : v = orb (chF c) f k
      · rw [if_pos hv]
        rcases Nat.lt_succ_iff_lt_or_eq.1 hj with h' | rfl
        · exact absurd (e.trans hv) (hf j k h' (by omega))
        · rfl
      · rw [if_neg hv]
        rcases Nat.lt_succ_iff_lt_or_eq.1 hj with h' | rfl
        · exact h1 j h' e
        · exact absurd e.symm hv
    · rw [if_neg (fun e => h k (by omega) e.symm)]
      exact h2 fun j hj => h j (by omega)

set_option maxRecDepth 4000 in
set_option maxHeartbeats 4000000 in
theorem play_ok : FSpec Try.prog 12 playS := by
  refine fspec_of htb (fn := Try.f12) (by kernel_rfl) (by kernel_rfl) rfl (fun args r hS => ?_) (fun args r hS hob hl => ?_)
  · unfold playS at hS; split at hS <;> first | (cases hS; done) | (cases hS; exact Nat.le_of_ble_eq_true rfl)
  unfold playS at hS
  split at hS
  case h_2 => cases hS
  rename_i o p x c f
  simp only [Option.some.injEq] at hS
  subst hS
  simp only [lenP, mkL, lim] at hl
  dsimp only at hob
  repeat' first
    | with_reducible first | refine awp_seq ?_ | refine awp_block ?_ | refine next_then ?_ | refine next_block ?_ | refine exit_then ?_ | refine ret_then ?_ | refine ret_block ?_ | refine exit_here ?_ | refine awp_exit ?_ | refine awp_ret ?_ | refine awp_skip ?_ | refine awp_label ?_ | refine next_noGoto ?_ | refine ret_noGoto ?_ | refine exit_noGoto ?_ | refine awp_scope ?_
    | ((with_reducible refine exit_past ?_ ?_); exact rfl)
    | ((with_reducible refine isCond ?_); refine awp_condO rfl ?_ ?_ <;> intro hb <;> (try simp only [Bool.and_eq_false_iff, decide_eq_true_eq, decide_eq_false_iff_not, Bool.or_eq_true, Bool.or_eq_false_iff, Bool.and_eq_true, Bool.not_eq_true', Bool.not_eq_false', not_or, Int.not_lt, Int.not_le] at hb))
    | ((with_reducible refine isReg ?_); (first | refine awp_textM htb hmz spPlay_ok (fun _ => false) rfl rfl ?_ | refine awp_drawM hmo htb hmz spPlay_ok (fun _ => false) rfl rfl (by kernel_rfl) ?_); intro m' e' l' ob h; simp only [evOut, evStep, eq_self, evo, ev1, evx, evp, ofP, guardOf, opv, lke_cons, lke_nil, lkr_nil, lkr_cons, isC, isCC, isCL, men, putE, setW, set1, del, evLoad, evField, evIndex, evBin, lenOf, evSlice, bnd, cutI, subv, selv, isV, isAg, cellsL, lenL, properL, nthL, dropL, takeL, appL, setL, updv, tb, TI.isStr, strip, gd, gds, whnR, evPick, evStore, stBox, evApp, srcI, srcB, srcR, evBuildS, evTake, makeB, isNilS, partsOK, elemsOf, collI, collB, collII, allC, allN, fillL, evCut, evFz, lko, z0, renB, z1, z2, z3, z4, notD, chkG, evCopy, evCall, ofSR, viewA, lsOf, ofL, zfree, zfreeB, freeB, isOne, ren, zipE, Op.operands, Call.operands, Nat.reduceAdd, Nat.reduceSub, Nat.reduceMul, Nat.reduceEqDiff, Nat.reduceLeDiff, Nat.reduceLT, Nat.reduceBEq, Nat.reduceBNe, ↓reduceIte, reduceIte, nbeq, nble, nblt, z5, z6, z7, z8, z9, z10, z11, z12, z13, z14, z15, z16, z17, z18, z19, z20, z21, z22, z23, z24, z25, z26, z27, z28, z29, z30, z31, z32, z33, z34, z35, z36, z37, imp_self, forall_const, z38, EO.mk.injEq, z39, z40, z41, z42, z43, z44, z45, z46, z47, z48, z49, z50, ne_eq, z51, z52, z53, z54, z55, z56, z57, inI, evRes, resV, mkL, ltK, rhoL, leE, leR, menB, menE, fzA, fzE, fzB, fzR, spPlay, validS, containsS, cloneS] at h; obtain ⟨rfl, rfl, rfl, rfl⟩ := h; refine ⟨?_, ?_⟩)
    | ((with_reducible refine Ob.mk ?_); first | exact trivial | (intros; omega) | ((repeat' first | apply And.intro | (intro hg; have hg' := hg; try simp only [Bool.and_eq_false_iff, decide_eq_true_eq, decide_eq_false_iff_not, Bool.or_eq_true, Bool.or_eq_false_iff, Bool.and_eq_true, Bool.not_eq_true', Bool.not_eq_false', not_or, Int.not_lt, Int.not_le] at hg')) <;> first | assumption | omega | (simp only [Bool.and_eq_false_iff, decide_eq_true_eq, decide_eq_false_iff_not, Bool.or_eq_true, Bool.or_eq_false_iff, Bool.and_eq_true, Bool.not_eq_true', Bool.not_eq_false', not_or, Int.not_lt, Int.not_le]; omega)))
  · refine fin_ret rfl rfl (spec_imp rfl ?_ rfl)
    rw [play_e1 hb]
    exact play_imp imp_nilI imp_nilI rfl rfl
  · rename_i hv
    refine fin_ret rfl rfl (spec_imp rfl ?_ rfl)
    rw [play_e2 hv (by simp only [Gm.n]; omega)]
    exact play_imp imp_nilI imp_nilI rfl rfl
  · rename_i hv hc
    refine fin_ret rfl rfl (spec_imp rfl ?_ rfl)
    rw [play_e3 hv (by simp only [Gm.n]; omega) hb]
    exact play_imp imp_nilI imp_nilI rfl rfl
  rename_i hv hc
  have hV := validB_iff.1 hv
  obtain ⟨hn, hpl, hxl, hpos⟩ := id hV
  simp only [Gm.n] at hn hpl hxl
  have hcl : c.length = o.length := by omega
  refine awp_loopC (τ := Nat) (fun i => i ≤ c.length ∧ ∀ v, v < i → c.getD v 0 ∈ x.getD v []) (fun i => ⟨29, [(42, .int .i64 i), (41, .int .i64 c.length), (40, .roI c), (1, .roI c), (2, .int .i64 f), (3, .rop (.agg (.cons (.roI o) (.cons (.roI p) (.cons (.roII x) .nil)))))], [], []⟩) (fun i => c.length - i) 0 [] ⟨rfl, by simp [evOut, evStep, eq_self, evo, ev1, evx, evp, ofP, guardOf, opv, lke_cons, lke_nil, lkr_nil, lkr_cons, isC, isCC, isCL, men, putE, setW, set1, del, evLoad, evField, evIndex, evBin, lenOf, evSlice, bnd, cutI, subv, selv, isV, isAg, cellsL, lenL, properL, nthL, dropL, takeL, appL, setL, updv, tb, TI.isStr, strip, gd, gds, whnR, evPick, evStore, stBox, evApp, srcI, srcB, srcR, evBuildS, evTake, makeB, isNilS, partsOK, elemsOf, collI, collB, collII, allC, allN, fillL, evCut, evFz, lko, z0, renB, z1, z2, z3, z4, notD, chkG, evCopy, evCall, ofSR, viewA, lsOf, ofL, zfree, zfreeB, freeB, isOne, ren, zipE, Op.operands, Call.operands, Nat.reduceAdd, Nat.reduceSub, Nat.reduceMul, Nat.reduceEqDiff, Nat.reduceLeDiff, Nat.reduceLT, Nat.reduceBEq, Nat.reduceBNe, ↓reduceIte, reduceIte, nbeq, nble, nblt, z5, z6, z7, z8, z9, z10, z11, z12, z13, z14, z15, z16, z17, z18, z19, z20, z21, z22, z23, z24, z25, z26, z27, z28, z29, z30, z31, z32, z33, z34, z35, z36, z37, imp_self, forall_const, z38, EO.mk.injEq, z39, z40, z41, z42, z43, z44, z45, z46, z47, z48, z49, z50, ne_eq, z51, z52, z53, z54, z55, z56, z57, inI, evRes, resV, mkL, ltK, rhoL, leE, leR, menB, menE, fzA, fzE, fzB, fzR, spPlay, validS, containsS, cloneS], by simp only [evOut, evStep, eq_self, evo, ev1, evx, evp, ofP, guardOf, opv, lke_cons, lke_nil, lkr_nil, lkr_cons, isC, isCC, isCL, men, putE, setW, set1, del, evLoad, evField, evIndex, evBin, lenOf, evSlice, bnd, cutI, subv, selv, isV, isAg, cellsL, lenL, properL, nthL, dropL, takeL, appL, setL, updv, tb, TI.isStr, strip, gd, gds, whnR, evPick, evStore, stBox, evApp, srcI, srcB, srcR, evBuildS, evTake, makeB, isNilS, partsOK, elemsOf, collI, collB, collII, allC, allN, fillL, evCut, evFz, lko, z0, renB, z1, z2, z3, z4, notD, chkG, evCopy, evCall, ofSR, viewA, lsOf, ofL, zfree, zfreeB, freeB, isOne, ren, zipE, Op.operands, Call.operands, Nat.reduceAdd, Nat.reduceSub, Nat.reduceMul, Nat.reduceEqDiff, Nat.reduceLeDiff, Nat.reduceLT, Nat.reduceBEq, Nat.reduceBNe, ↓reduceIte, reduceIte, nbeq, nble, nblt, z5, z6, z7, z8, z9, z10, z11, z12, z13, z14, z15, z16, z17, z18, z19, z20, z21, z22, z23, z24, z25, z26, z27, z28, z29, z30, z31, z32, z33, z34, z35, z36, z37, imp_self, forall_const, z38, EO.mk.injEq, z39, z40, z41, z42, z43, z44, z45, z46, z47, z48, z49, z50, ne_eq, z51, z52, z53, z54, z55, z56, z57, inI, evRes, resV, mkL, ltK, rhoL, leE, leR, menB, menE, fzA, fzE, fzB, fzR, spPlay, validS, containsS, cloneS]⟩ ⟨by omega, by omega⟩ ?_
  rintro i ⟨hi, hj⟩
  repeat' first
    | with_reducible first | refine awp_seq ?_ | refine awp_block ?_ | refine next_then ?_ | refine next_block ?_ | refine exit_then ?_ | refine ret_then ?_ | refine ret_block ?_ | refine exit_here ?_ | refine awp_exit ?_ | refine awp_ret ?_ | refine awp_skip ?_ | refine awp_label ?_ | refine next_noGoto ?_ | refine ret_noGoto ?_ | refine exit_noGoto ?_ | refine awp_scope ?_
    | ((with_reducible refine exit_past ?_ ?_); exact rfl)
    | ((with_reducible refine isCond ?_); refine awp_condO rfl ?_ ?_ <;> intro hb <;> (try simp only [Bool.and_eq_false_iff, decide_eq_true_eq, decide_eq_false_iff_not, Bool.or_eq_true, Bool.or_eq_false_iff, Bool.and_eq_true, Bool.not_eq_true', Bool.not_eq_false', not_or, Int.not_lt, Int.not_le] at hb))
    | ((with_reducible refine isReg ?_); (first | refine awp_textM htb hmz spPlay_ok (fun _ => false) rfl rfl ?_ | refine awp_drawM hmo htb hmz spPlay_ok (fun _ => false) rfl rfl (by kernel_rfl) ?_); intro m' e' l' ob h; simp only [evOut, evStep, eq_self, evo, ev1, evx, evp, ofP, guardOf, opv, lke_cons, lke_nil, lkr_nil, lkr_cons, isC, isCC, isCL, men, putE, setW, set1, del, evLoad, evField, evIndex, evBin, lenOf, evSlice, bnd, cutI, subv, selv, isV, isAg, cellsL, lenL, properL, nthL, dropL, takeL, appL, setL, updv, tb, TI.isStr, strip, gd, gds, whnR, evPick, evStore, stBox, evApp, srcI, srcB, srcR, evBuildS, evTake, makeB, isNilS, partsOK, elemsOf, collI, collB, collII, allC, allN, fillL, evCut, evFz, lko, z0, renB, z1, z2, z3, z4, notD, chkG, evCopy, evCall, ofSR, viewA, lsOf, ofL, zfree, zfreeB, freeB, isOne, ren, zipE, Op.operands, Call.operands, Nat.reduceAdd, Nat.reduceSub, Nat.reduceMul, Nat.reduceEqDiff, Nat.reduceLeDiff, Nat.reduceLT, Nat.reduceBEq, Nat.reduceBNe, ↓reduceIte, reduceIte, nbeq, nble, nblt, z5, z6, z7, z8, z9, z10, z11, z12, z13, z14, z15, z16, z17, z18, z19, z20, z21, z22, z23, z24, z25, z26, z27, z28, z29, z30, z31, z32, z33, z34, z35, z36, z37, imp_self, forall_const, z38, EO.mk.injEq, z39, z40, z41, z42, z43, z44, z45, z46, z47, z48, z49, z50, ne_eq, z51, z52, z53, z54, z55, z56, z57, inI, evRes, resV, mkL, ltK, rhoL, leE, leR, menB, menE, fzA, fzE, fzB, fzR, spPlay, validS, containsS, cloneS] at h; obtain ⟨rfl, rfl, rfl, rfl⟩ := h; refine ⟨?_, ?_⟩)
    | ((with_reducible refine Ob.mk ?_); first | exact trivial | (intros; omega) | ((repeat' first | apply And.intro | (intro hg; have hg' := hg; try simp only [Bool.and_eq_false_iff, decide_eq_true_eq, decide_eq_false_iff_not, Bool.or_eq_true, Bool.or_eq_false_iff, Bool.and_eq_true, Bool.not_eq_true', Bool.not_eq_false', not_or, Int.not_lt, Int.not_le] at hg')) <;> first | assumption | omega | (simp only [Bool.and_eq_false_iff, decide_eq_true_eq, decide_eq_false_iff_not, Bool.or_eq_true, Bool.or_eq_false_iff, Bool.and_eq_true, Bool.not_eq_true', Bool.not_eq_false', not_or, Int.not_lt, Int.not_le]; omega)))
  · rename_i hlt
    refine fin_ret rfl rfl (spec_imp rfl ?_ rfl)
    rw [play_e4 hv (by simp only [Gm.n]; omega) (by simp only [Gm.n]; omega) (fun hok => by
      have := hok i (by omega)
      simp only [Gm.x] at this
      exact absurd this (by simpa using hb))]
    exact play_imp imp_nilI imp_nilI rfl rfl
  · refine back (i + 1) [] ?_ ⟨by omega, fun v hv' => ?_⟩ (by omega)
    · (refine ⟨rfl, ?_, ?_⟩ <;> simp only [evOut, evStep, eq_self, evo, ev1, evx, evp, ofP, guardOf, opv, lke_cons, lke_nil, lkr_nil, lkr_cons, isC, isCC, isCL, men, putE, setW, set1, del, evLoad, evField, evIndex, evBin, lenOf, evSlice, bnd, cutI, subv, selv, isV, isAg, cellsL, lenL, properL, nthL, dropL, takeL, appL, setL, updv, tb, TI.isStr, strip, gd, gds, whnR, evPick, evStore, stBox, evApp, srcI, srcB, srcR, evBuildS, evTake, makeB, isNilS, partsOK, elemsOf, collI, collB, collII, allC, allN, fillL, evCut, evFz, lko, z0, renB, z1, z2, z3, z4, notD, chkG, evCopy, evCall, ofSR, viewA, lsOf, ofL, zfree, zfreeB, freeB, isOne, ren, zipE, Op.operands, Call.operands, Nat.reduceAdd, Nat.reduceSub, Nat.reduceMul, Nat.reduceEqDiff, Nat.reduceLeDiff, Nat.reduceLT, Nat.reduceBEq, Nat.reduceBNe, ↓reduceIte, reduceIte, nbeq, nble, nblt, z5, z6, z7, z8, z9, z10, z11, z12, z13, z14, z15, z16, z17, z18, z19, z20, z21, z22, z23, z24, z25, z26, z27, z28, z29, z30, z31, z32, z33, z34, z35, z36, z37, imp_self, forall_const, z38, EO.mk.injEq, z39, z40, z41, z42, z43, z44, z45, z46, z47, z48, z49, z50, ne_eq, z51, z52, z53, z54, z55, z56, z57, inI, evRes, resV, mkL, ltK, rhoL, leE, leR, menB, menE, fzA, fzE, fzB, fzR, spPlay, validS, containsS, cloneS, AV.int.injEq, AV.bool.injEq, AV.roI.injEq, AV.roB.injEq, AV.roII.injEq, AV.rop.injEq, AV.agg.injEq, AV.tup.injEq, AV.cons.injEq, AV.own.injEq, AV.whn.injEq, Blk.ints.injEq, Blk.bools.injEq, Blk.rows.injEq, Blk.rowsR.injEq, Blk.box.injEq, Option.some.injEq, Int.natCast_add, Int.natCast_one, Int.cast_ofNat_Int])
    · rcases Nat.lt_succ_iff_lt_or_eq.1 hv' with h | rfl
      · exact hj v h
      · simpa using hb
  have hok' : OkCh ⟨o, p, x⟩ c := fun v hv' => hj v (by omega)
  have hch : ∀ v, v < o.length → 0 ≤ c.getD v 0 ∧ c.getD v 0 < o.length := by
    intro v hv'
    have hm := hok' v (by omega)
    obtain ⟨_, hrow⟩ := hpos v (by simp only [Gm.n]; omega)
    obtain ⟨j, hj', e⟩ := List.getElem_of_mem hm
    obtain ⟨r1, r2, _⟩ := hrow j hj'
    simp only [Gm.n] at r2
    rw [List.getD_eq_getElem?_getD, List.getElem?_eq_getElem hj', Option.getD_some, e] at r1 r2
    exact ⟨r1, r2⟩
  have horb : ∀ j, orb (chF c) f.toNat j < o.length := by
    intro j
    induction j with
    | zero => show f.toNat < _; omega
    | succ j ih => show (c.getD (orb (chF c) f.toNat j) 0).toNat < _; have := hch _ ih; omega
  refine awp_nilown 13 (.ints []) (by simp only [evOut, evStep, eq_self, evo, ev1, evx, evp, ofP, guardOf, opv, lke_cons, lke_nil, lkr_nil, lkr_cons, isC, isCC, isCL, men, putE, setW, set1, del, evLoad, evField, evIndex, evBin, lenOf, evSlice, bnd, cutI, subv, selv, isV, isAg, cellsL, lenL, properL, nthL, dropL, takeL, appL, setL, updv, tb, TI.isStr, strip, gd, gds, whnR, evPick, evStore, stBox, evApp, srcI, srcB, srcR, evBuildS, evTake, makeB, isNilS, partsOK, elemsOf, collI, collB, collII, allC, allN, fillL, evCut, evFz, lko, z0, renB, z1, z2, z3, z4, notD, chkG, evCopy, evCall, ofSR, viewA, lsOf, ofL, zfree, zfreeB, freeB, isOne, ren, zipE, Op.operands, Call.operands, Nat.reduceAdd, Nat.reduceSub, Nat.reduceMul, Nat.reduceEqDiff, Nat.reduceLeDiff, Nat.reduceLT, Nat.reduceBEq, Nat.reduceBNe, ↓reduceIte, reduceIte, nbeq, nble, nblt, z5, z6, z7, z8, z9, z10, z11, z12, z13, z14, z15, z16, z17, z18, z19, z20, z21, z22, z23, z24, z25, z26, z27, z28, z29, z30, z31, z32, z33, z34, z35, z36, z37, imp_self, forall_const, z38, EO.mk.injEq, z39, z40, z41, z42, z43, z44, z45, z46, z47, z48, z49, z50, ne_eq, z51, z52, z53, z54, z55, z56, z57, inI, evRes, resV, mkL, ltK, rhoL, leE, leR, menB, menE, fzA, fzE, fzB, fzR, spPlay, validS, containsS, cloneS]) (.inl rfl) rfl ?_
  refine awp_loopC (τ := Nat) (fun k => Fresh (chF c) f.toNat k) (fun k => ⟨39, [(14, .int .i64 (orb (chF c) f.toNat k)), (13, .own 38), (12, .own 33), (1, .roI c), (3, .rop (.agg (.cons (.roI o) (.cons (.roI p) (.cons (.roII x) .nil)))))], [(33, some (.ints (atF c f.toNat o.length k))), (38, some (.ints (way c f.toNat k)))], []⟩) (fun k => o.length - k) 0 [] ⟨rfl, ?_, ?_⟩ (fun i j _ hj => absurd hj (Nat.not_lt_zero j)) ?_
  · simp only [evOut, evStep, eq_self, evo, ev1, evx, evp, ofP, guardOf, opv, lke_cons, lke_nil, lkr_nil, lkr_cons, isC, isCC, isCL, men, putE, setW, set1, del, evLoad, evField, evIndex, evBin, lenOf, evSlice, bnd, cutI, subv, selv, isV, isAg, cellsL, lenL, properL, nthL, dropL, takeL, appL, setL, updv, tb, TI.isStr, strip, gd, gds, whnR, evPick, evStore, stBox, evApp, srcI, srcB, srcR, evBuildS, evTake, makeB, isNilS, partsOK, elemsOf, collI, collB, collII, allC, allN, fillL, evCut, evFz, lko, z0, renB, z1, z2, z3, z4, notD, chkG, evCopy, evCall, ofSR, viewA, lsOf, ofL, zfree, zfreeB, freeB, isOne, ren, zipE, Op.operands, Call.operands, Nat.reduceAdd, Nat.reduceSub, Nat.reduceMul, Nat.reduceEqDiff, Nat.reduceLeDiff, Nat.reduceLT, Nat.reduceBEq, Nat.reduceBNe, ↓reduceIte, reduceIte, nbeq, nble, nblt, z5, z6, z7, z8, z9, z10, z11, z12, z13, z14, z15, z16, z17, z18, z19, z20, z21, z22, z23, z24, z25, z26, z27, z28, z29, z30, z31, z32, z33, z34, z35, z36, z37, imp_self, forall_const, z38, EO.mk.injEq, z39, z40, z41, z42, z43, z44, z45, z46, z47, z48, z49, z50, ne_eq, z51, z52, z53, z54, z55, z56, z57, inI, evRes, resV, mkL, ltK, rhoL, leE, leR, menB, menE, fzA, fzE, fzB, fzR, spPlay, validS, containsS, cloneS, AV.int.injEq, AV.bool.injEq, AV.roI.injEq, AV.roB.injEq, AV.roII.injEq, AV.rop.injEq, AV.agg.injEq, AV.tup.injEq, AV.cons.injEq, AV.own.injEq, AV.whn.injEq, Blk.ints.injEq, Blk.bools.injEq, Blk.rows.injEq, Blk.rowsR.injEq, Blk.box.injEq, Option.some.injEq, Int.natCast_add, Int.natCast_one, Int.cast_ofNat_Int, orb]; omega
  · simp only [evOut, evStep, eq_self, evo, ev1, evx, evp, ofP, guardOf, opv, lke_cons, lke_nil, lkr_nil, lkr_cons, isC, isCC, isCL, men, putE, setW, set1, del, evLoad, evField, evIndex, evBin, lenOf, evSlice, bnd, cutI, subv, selv, isV, isAg, cellsL, lenL, properL, nthL, dropL, takeL, appL, setL, updv, tb, TI.isStr, strip, gd, gds, whnR, evPick, evStore, stBox, evApp, srcI, srcB, srcR, evBuildS, evTake, makeB, isNilS, partsOK, elemsOf, collI, collB, collII, allC, allN, fillL, evCut, evFz, lko, z0, renB, z1, z2, z3, z4, notD, chkG, evCopy, evCall, ofSR, viewA, lsOf, ofL, zfree, zfreeB, freeB, isOne, ren, zipE, Op.operands, Call.operands, Nat.reduceAdd, Nat.reduceSub, Nat.reduceMul, Nat.reduceEqDiff, Nat.reduceLeDiff, Nat.reduceLT, Nat.reduceBEq, Nat.reduceBNe, ↓reduceIte, reduceIte, nbeq, nble, nblt, z5, z6, z7, z8, z9, z10, z11, z12, z13, z14, z15, z16, z17, z18, z19, z20, z21, z22, z23, z24, z25, z26, z27, z28, z29, z30, z31, z32, z33, z34, z35, z36, z37, imp_self, forall_const, z38, EO.mk.injEq, z39, z40, z41, z42, z43, z44, z45, z46, z47, z48, z49, z50, ne_eq, z51, z52, z53, z54, z55, z56, z57, inI, evRes, resV, mkL, ltK, rhoL, leE, leR, menB, menE, fzA, fzE, fzB, fzR, spPlay, validS, containsS, cloneS, AV.int.injEq, AV.bool.injEq, AV.roI.injEq, AV.roB.injEq, AV.roII.injEq, AV.rop.injEq, AV.agg.injEq, AV.tup.injEq, AV.cons.injEq, AV.own.injEq, AV.whn.injEq, Blk.ints.injEq, Blk.bools.injEq, Blk.rows.injEq, Blk.rowsR.injEq, Blk.box.injEq, Option.some.injEq, Int.natCast_add, Int.natCast_one, Int.cast_ofNat_Int]; exact ⟨rfl, rfl⟩
  intro k hf
  have hkn := fresh_le horb hf
  have hok := horb k
  have hl1 : (atF c f.toNat o.length k).length = o.length := atF_len k
  have hl2 : (way c f.toNat k).length = k := by simp [way]
  have hget := atF_get horb k hf (orb (chF c) f.toNat k)
  repeat' first
    | with_reducible first | refine awp_seq ?_ | refine awp_block ?_ | refine next_then ?_ | refine next_block ?_ | refine exit_then ?_ | refine ret_then ?_ | refine ret_block ?_ | refine awp_exit ?_ | refine awp_ret ?_ | refine awp_skip ?_ | refine awp_label ?_ | refine next_noGoto ?_ | refine ret_noGoto ?_ | refine exit_noGoto ?_ | refine awp_scope ?_
    | ((with_reducible refine exit_past ?_ ?_); exact rfl)
    | ((with_reducible refine isCond ?_); refine awp_condO rfl ?_ ?_ <;> intro hb <;> (try simp only [Bool.and_eq_false_iff, decide_eq_true_eq, decide_eq_false_iff_not, Bool.or_eq_true, Bool.or_eq_false_iff, Bool.and_eq_true, Bool.not_eq_true', Bool.not_eq_false', not_or, Int.not_lt, Int.not_le] at hb))
    | ((with_reducible refine isReg ?_); (first | refine awp_textM htb hmz spPlay_ok (fun _ => false) rfl rfl ?_ | refine awp_drawM hmo htb hmz spPlay_ok (fun _ => false) rfl rfl (by kernel_rfl) ?_); intro m' e' l' ob h; simp only [evOut, evStep, eq_self, evo, ev1, evx, evp, ofP, guardOf, opv, lke_cons, lke_nil, lkr_nil, lkr_cons, isC, isCC, isCL, men, putE, setW, set1, del, evLoad, evField, evIndex, evBin, lenOf, evSlice, bnd, cutI, subv, selv, isV, isAg, cellsL, lenL, properL, nthL, dropL, takeL, appL, setL, updv, tb, TI.isStr, strip, gd, gds, whnR, evPick, evStore, stBox, evApp, srcI, srcB, srcR, evBuildS, evTake, makeB, isNilS, partsOK, elemsOf, collI, collB, collII, allC, allN, fillL, evCut, evFz, lko, z0, renB, z1, z2, z3, z4, notD, chkG, evCopy, evCall, ofSR, viewA, lsOf, ofL, zfree, zfreeB, freeB, isOne, ren, zipE, Op.operands, Call.operands, Nat.reduceAdd, Nat.reduceSub, Nat.reduceMul, Nat.reduceEqDiff, Nat.reduceLeDiff, Nat.reduceLT, Nat.reduceBEq, Nat.reduceBNe, ↓reduceIte, reduceIte, nbeq, nble, nblt, z5, z6, z7, z8, z9, z10, z11, z12, z13, z14, z15, z16, z17, z18, z19, z20, z21, z22, z23, z24, z25, z26, z27, z28, z29, z30, z31, z32, z33, z34, z35, z36, z37, imp_self, forall_const, z38, EO.mk.injEq, z39, z40, z41, z42, z43, z44, z45, z46, z47, z48, z49, z50, ne_eq, z51, z52, z53, z54, z55, z56, z57, inI, evRes, resV, mkL, ltK, rhoL, leE, leR, menB, menE, fzA, fzE, fzB, fzR, spPlay, validS, containsS, cloneS] at h; obtain ⟨rfl, rfl, rfl, rfl⟩ := h; refine ⟨?_, ?_⟩)
    | ((with_reducible refine Ob.mk ?_); first | exact trivial | (intros; omega) | ((repeat' first | apply And.intro | (intro hg; have hg' := hg; try simp only [Bool.and_eq_false_iff, decide_eq_true_eq, decide_eq_false_iff_not, Bool.or_eq_true, Bool.or_eq_false_iff, Bool.and_eq_true, Bool.not_eq_true', Bool.not_eq_false', not_or, Int.not_lt, Int.not_le] at hg')) <;> first | assumption | omega | (simp only [Bool.and_eq_false_iff, decide_eq_true_eq, decide_eq_false_iff_not, Bool.or_eq_true, Bool.or_eq_false_iff, Bool.and_eq_true, Bool.not_eq_true', Bool.not_eq_false', not_or, Int.not_lt, Int.not_le]; omega)))
  · have hex : ∃ j, j < k ∧ orb (chF c) f.toNat j = orb (chF c) f.toNat k := by
      refine Classical.byContradiction fun hne => ?_
      have := hget.2 fun j hj e => hne ⟨j, hj, e⟩
      omega
    obtain ⟨j, hj, e⟩ := hex
    have hat := hget.1 j hj e
    have hag : Again (chF c) f.toNat k j := ⟨hf, hj, e.symm⟩
    refine exit_here (next_then ?_)
    refine awp_fzN 38 (.roI (way c f.toNat k)) (by simp only [lkr_cons, lkr_nil, fzE, fzA, fzR, fzB, set1, nbeq, Nat.reduceEqDiff, decide_true, decide_false, ↓reduceIte, reduceIte, cond_true, cond_false, List.take_length, Option.some.injEq]; rfl) (by first | exact rfl | (refine ⟨?_, rfl⟩; first | rfl | (intros; rfl))) (by simp only [lkr_cons, lkr_nil, fzE, fzA, fzR, fzB, set1, nbeq, Nat.reduceEqDiff, decide_true, decide_false, ↓reduceIte, reduceIte, cond_true, cond_false, List.take_length, Option.some.injEq]; rfl) (by simp only [lkr_cons, lkr_nil, fzE, fzA, fzR, fzB, set1, nbeq, Nat.reduceEqDiff, decide_true, decide_false, ↓reduceIte, reduceIte, cond_true, cond_false, List.take_length, Option.some.injEq]; rfl) ?_
    repeat' first
      | with_reducible first | refine awp_seq ?_ | refine awp_block ?_ | refine next_then ?_ | refine next_block ?_ | refine exit_then ?_ | refine ret_then ?_ | refine ret_block ?_ | refine exit_here ?_ | refine awp_exit ?_ | refine awp_ret ?_ | refine awp_skip ?_ | refine awp_label ?_ | refine next_noGoto ?_ | refine ret_noGoto ?_ | refine exit_noGoto ?_ | refine awp_scope ?_
      | ((with_reducible refine exit_past ?_ ?_); exact rfl)
      | ((with_reducible refine isCond ?_); refine awp_condO rfl ?_ ?_ <;> intro hb <;> (try simp only [Bool.and_eq_false_iff, decide_eq_true_eq, decide_eq_false_iff_not, Bool.or_eq_true, Bool.or_eq_false_iff, Bool.and_eq_true, Bool.not_eq_true', Bool.not_eq_false', not_or, Int.not_lt, Int.not_le] at hb))
      | ((with_reducible refine isReg ?_); (first | refine awp_textM htb hmz spPlay_ok (fun _ => false) rfl rfl ?_ | refine awp_drawM hmo htb hmz spPlay_ok (fun _ => false) rfl rfl (by kernel_rfl) ?_); intro m' e' l' ob h; simp only [evOut, evStep, eq_self, evo, ev1, evx, evp, ofP, guardOf, opv, lke_cons, lke_nil, lkr_nil, lkr_cons, isC, isCC, isCL, men, putE, setW, set1, del, evLoad, evField, evIndex, evBin, lenOf, evSlice, bnd, cutI, subv, selv, isV, isAg, cellsL, lenL, properL, nthL, dropL, takeL, appL, setL, updv, tb, TI.isStr, strip, gd, gds, whnR, evPick, evStore, stBox, evApp, srcI, srcB, srcR, evBuildS, evTake, makeB, isNilS, partsOK, elemsOf, collI, collB, collII, allC, allN, fillL, evCut, evFz, lko, z0, renB, z1, z2, z3, z4, notD, chkG, evCopy, evCall, ofSR, viewA, lsOf, ofL, zfree, zfreeB, freeB, isOne, ren, zipE, Op.operands, Call.operands, Nat.reduceAdd, Nat.reduceSub, Nat.reduceMul, Nat.reduceEqDiff, Nat.reduceLeDiff, Nat.reduceLT, Nat.reduceBEq, Nat.reduceBNe, ↓reduceIte, reduceIte, nbeq, nble, nblt, z5, z6, z7, z8, z9, z10, z11, z12, z13, z14, z15, z16, z17, z18, z19, z20, z21, z22, z23, z24, z25, z26, z27, z28, z29, z30, z31, z32, z33, z34, z35, z36, z37, imp_self, forall_const, z38, EO.mk.injEq, z39, z40, z41, z42, z43, z44, z45, z46, z47, z48, z49, z50, ne_eq, z51, z52, z53, z54, z55, z56, z57, inI, evRes, resV, mkL, ltK, rhoL, leE, leR, menB, menE, fzA, fzE, fzB, fzR, spPlay, validS, containsS, cloneS] at h; obtain ⟨rfl, rfl, rfl, rfl⟩ := h; refine ⟨?_, ?_⟩)
      | ((with_reducible refine Ob.mk ?_); first | exact trivial | (intros; omega) | ((repeat' first | apply And.intro | (intro hg; have hg' := hg; try simp only [Bool.and_eq_false_iff, decide_eq_true_eq, decide_eq_false_iff_not, Bool.or_eq_true, Bool.or_eq_false_iff, Bool.and_eq_true, Bool.not_eq_true', Bool.not_eq_false', not_or, Int.not_lt, Int.not_le] at hg')) <;> first | assumption | omega | (simp only [Bool.and_eq_false_iff, decide_eq_true_eq, decide_eq_false_iff_not, Bool.or_eq_true, Bool.or_eq_false_iff, Bool.and_eq_true, Bool.not_eq_true', Bool.not_eq_false', not_or, Int.not_lt, Int.not_le]; omega)))
    have hj1 : ((atF c f.toNat o.length k).getD (orb (chF c) f.toNat k) 0 - 1) = (j : Int) := by omega
    rw [hj1, Int.toNat_natCast]
    have hwp : ∀ u, u ∈ (way c f.toNat k).drop j → 0 ≤ u ∧ u < o.length := by
      intro u hu
      have hu := List.mem_of_mem_drop hu
      simp only [way, List.mem_map, List.mem_range] at hu
      obtain ⟨q, _, rfl⟩ := hu
      have := horb q
      omega
    have hlen : ((way c f.toNat k).drop j).length ≤ 20000 := by rw [List.length_drop, hl2]; omega
    generalize hlq : (way c f.toNat k).drop j = lq at *
    refine awp_loopC (τ := Nat) (fun i => i ≤ lq.length) (fun i => ⟨56, [(88, .int .i64 i), (87, .int .i64 lq.length), (86, .roI lq), (16, .int .i64 (topOf p (lq.take i))), (15, .int .i64 j), (13, .roI (way c f.toNat k)), (3, .rop (.agg (.cons (.roI o) (.cons (.roI p) (.cons (.roII x) .nil)))))], [], []⟩) (fun i => lq.length - i) 0 [] ⟨rfl, by simp [evOut, evStep, eq_self, evo, ev1, evx, evp, ofP, guardOf, opv, lke_cons, lke_nil, lkr_nil, lkr_cons, isC, isCC, isCL, men, putE, setW, set1, del, evLoad, evField, evIndex, evBin, lenOf, evSlice, bnd, cutI, subv, selv, isV, isAg, cellsL, lenL, properL, nthL, dropL, takeL, appL, setL, updv, tb, TI.isStr, strip, gd, gds, whnR, evPick, evStore, stBox, evApp, srcI, srcB, srcR, evBuildS, evTake, makeB, isNilS, partsOK, elemsOf, collI, collB, collII, allC, allN, fillL, evCut, evFz, lko, z0, renB, z1, z2, z3, z4, notD, chkG, evCopy, evCall, ofSR, viewA, lsOf, ofL, zfree, zfreeB, freeB, isOne, ren, zipE, Op.operands, Call.operands, Nat.reduceAdd, Nat.reduceSub, Nat.reduceMul, Nat.reduceEqDiff, Nat.reduceLeDiff, Nat.reduceLT, Nat.reduceBEq, Nat.reduceBNe, ↓reduceIte, reduceIte, nbeq, nble, nblt, z5, z6, z7, z8, z9, z10, z11, z12, z13, z14, z15, z16, z17, z18, z19, z20, z21, z22, z23, z24, z25, z26, z27, z28, z29, z30, z31, z32, z33, z34, z35, z36, z37, imp_self, forall_const, z38, EO.mk.injEq, z39, z40, z41, z42, z43, z44, z45, z46, z47, z48, z49, z50, ne_eq, z51, z52, z53, z54, z55, z56, z57, inI, evRes, resV, mkL, ltK, rhoL, leE, leR, menB, menE, fzA, fzE, fzB, fzR, spPlay, validS, containsS, cloneS, topOf], by simp only [evOut, evStep, eq_self, evo, ev1, evx, evp, ofP, guardOf, opv, lke_cons, lke_nil, lkr_nil, lkr_cons, isC, isCC, isCL, men, putE, setW, set1, del, evLoad, evField, evIndex, evBin, lenOf, evSlice, bnd, cutI, subv, selv, isV, isAg, cellsL, lenL, properL, nthL, dropL, takeL, appL, setL, updv, tb, TI.isStr, strip, gd, gds, whnR, evPick, evStore, stBox, evApp, srcI, srcB, srcR, evBuildS, evTake, makeB, isNilS, partsOK, elemsOf, collI, collB, collII, allC, allN, fillL, evCut, evFz, lko, z0, renB, z1, z2, z3, z4, notD, chkG, evCopy, evCall, ofSR, viewA, lsOf, ofL, zfree, zfreeB, freeB, isOne, ren, zipE, Op.operands, Call.operands, Nat.reduceAdd, Nat.reduceSub, Nat.reduceMul, Nat.reduceEqDiff, Nat.reduceLeDiff, Nat.reduceLT, Nat.reduceBEq, Nat.reduceBNe, ↓reduceIte, reduceIte, nbeq, nble, nblt, z5, z6, z7, z8, z9, z10, z11, z12, z13, z14, z15, z16, z17, z18, z19, z20, z21, z22, z23, z24, z25, z26, z27, z28, z29, z30, z31, z32, z33, z34, z35, z36, z37, imp_self, forall_const, z38, EO.mk.injEq, z39, z40, z41, z42, z43, z44, z45, z46, z47, z48, z49, z50, ne_eq, z51, z52, z53, z54, z55, z56, z57, inI, evRes, resV, mkL, ltK, rhoL, leE, leR, menB, menE, fzA, fzE, fzB, fzR, spPlay, validS, containsS, cloneS]⟩ (by omega) ?_
    intro i hi
    have hui : i < lq.length → 0 ≤ lq.getD i 0 ∧ lq.getD i 0 < o.length := fun h => hwp _ (getD_mem h)
    have htn := topOf_nn (p := p) (l := lq.take i)
    have hld : ((way c f.toNat k).drop j).length ≤ 20000 := by rw [hlq]; omega
    have hlt : ((way c f.toNat k).take j).length ≤ 20000 := by rw [List.length_take, hl2]; omega
    repeat' first
      | with_reducible first | refine awp_seq ?_ | refine awp_block ?_ | refine next_then ?_ | refine next_block ?_ | refine exit_then ?_ | refine ret_then ?_ | refine ret_block ?_ | refine exit_here ?_ | refine awp_exit ?_ | refine awp_ret ?_ | refine awp_skip ?_ | refine awp_label ?_ | refine next_noGoto ?_ | refine ret_noGoto ?_ | refine exit_noGoto ?_ | refine awp_scope ?_
      | ((with_reducible refine exit_past ?_ ?_); exact rfl)
      | ((with_reducible refine isCond ?_); refine awp_condO rfl ?_ ?_ <;> intro hb <;> (try simp only [Bool.and_eq_false_iff, decide_eq_true_eq, decide_eq_false_iff_not, Bool.or_eq_true, Bool.or_eq_false_iff, Bool.and_eq_true, Bool.not_eq_true', Bool.not_eq_false', not_or, Int.not_lt, Int.not_le] at hb))
      | ((with_reducible refine isReg ?_); (first | refine awp_textM htb hmz spPlay_ok (fun _ => false) rfl rfl ?_ | refine awp_drawM hmo htb hmz spPlay_ok (fun _ => false) rfl rfl (by kernel_rfl) ?_); intro m' e' l' ob h; simp only [evOut, evStep, eq_self, evo, ev1, evx, evp, ofP, guardOf, opv, lke_cons, lke_nil, lkr_nil, lkr_cons, isC, isCC, isCL, men, putE, setW, set1, del, evLoad, evField, evIndex, evBin, lenOf, evSlice, bnd, cutI, subv, selv, isV, isAg, cellsL, lenL, properL, nthL, dropL, takeL, appL, setL, updv, tb, TI.isStr, strip, gd, gds, whnR, evPick, evStore, stBox, evApp, srcI, srcB, srcR, evBuildS, evTake, makeB, isNilS, partsOK, elemsOf, collI, collB, collII, allC, allN, fillL, evCut, evFz, lko, z0, renB, z1, z2, z3, z4, notD, chkG, evCopy, evCall, ofSR, viewA, lsOf, ofL, zfree, zfreeB, freeB, isOne, ren, zipE, Op.operands, Call.operands, Nat.reduceAdd, Nat.reduceSub, Nat.reduceMul, Nat.reduceEqDiff, Nat.reduceLeDiff, Nat.reduceLT, Nat.reduceBEq, Nat.reduceBNe, ↓reduceIte, reduceIte, nbeq, nble, nblt, z5, z6, z7, z8, z9, z10, z11, z12, z13, z14, z15, z16, z17, z18, z19, z20, z21, z22, z23, z24, z25, z26, z27, z28, z29, z30, z31, z32, z33, z34, z35, z36, z37, imp_self, forall_const, z38, EO.mk.injEq, z39, z40, z41, z42, z43, z44, z45, z46, z47, z48, z49, z50, ne_eq, z51, z52, z53, z54, z55, z56, z57, inI, evRes, resV, mkL, ltK, rhoL, leE, leR, menB, menE, fzA, fzE, fzB, fzR, spPlay, validS, containsS, cloneS] at h; obtain ⟨rfl, rfl, rfl, rfl⟩ := h; refine ⟨?_, ?_⟩)
      | ((with_reducible refine Ob.mk ?_); first | exact trivial | (intros; omega) | ((repeat' first | apply And.intro | (intro hg; have hg' := hg; try simp only [Bool.and_eq_false_iff, decide_eq_true_eq, decide_eq_false_iff_not, Bool.or_eq_true, Bool.or_eq_false_iff, Bool.and_eq_true, Bool.not_eq_true', Bool.not_eq_false', not_or, Int.not_lt, Int.not_le] at hg')) <;> first | assumption | omega | (simp only [Bool.and_eq_false_iff, decide_eq_true_eq, decide_eq_false_iff_not, Bool.or_eq_true, Bool.or_eq_false_iff, Bool.and_eq_true, Bool.not_eq_true', Bool.not_eq_false', not_or, Int.not_lt, Int.not_le]; omega)))
    · refine back (i + 1) [] ?_ (by omega) (by omega)
      (refine ⟨rfl, ?_, ?_⟩ <;> simp only [evOut, evStep, eq_self, evo, ev1, evx, evp, ofP, guardOf, opv, lke_cons, lke_nil, lkr_nil, lkr_cons, isC, isCC, isCL, men, putE, setW, set1, del, evLoad, evField, evIndex, evBin, lenOf, evSlice, bnd, cutI, subv, selv, isV, isAg, cellsL, lenL, properL, nthL, dropL, takeL, appL, setL, updv, tb, TI.isStr, strip, gd, gds, whnR, evPick, evStore, stBox, evApp, srcI, srcB, srcR, evBuildS, evTake, makeB, isNilS, partsOK, elemsOf, collI, collB, collII, allC, allN, fillL, evCut, evFz, lko, z0, renB, z1, z2, z3, z4, notD, chkG, evCopy, evCall, ofSR, viewA, lsOf, ofL, zfree, zfreeB, freeB, isOne, ren, zipE, Op.operands, Call.operands, Nat.reduceAdd, Nat.reduceSub, Nat.reduceMul, Nat.reduceEqDiff, Nat.reduceLeDiff, Nat.reduceLT, Nat.reduceBEq, Nat.reduceBNe, ↓reduceIte, reduceIte, nbeq, nble, nblt, z5, z6, z7, z8, z9, z10, z11, z12, z13, z14, z15, z16, z17, z18, z19, z20, z21, z22, z23, z24, z25, z26, z27, z28, z29, z30, z31, z32, z33, z34, z35, z36, z37, imp_self, forall_const, z38, EO.mk.injEq, z39, z40, z41, z42, z43, z44, z45, z46, z47, z48, z49, z50, ne_eq, z51, z52, z53, z54, z55, z56, z57, inI, evRes, resV, mkL, ltK, rhoL, leE, leR, menB, menE, fzA, fzE, fzB, fzR, spPlay, validS, containsS, cloneS, AV.int.injEq, AV.bool.injEq, AV.roI.injEq, AV.roB.injEq, AV.roII.injEq, AV.rop.injEq, AV.agg.injEq, AV.tup.injEq, AV.cons.injEq, AV.own.injEq, AV.whn.injEq, Blk.ints.injEq, Blk.bools.injEq, Blk.rows.injEq, Blk.rowsR.injEq, Blk.box.injEq, Option.some.injEq, Int.natCast_add, Int.natCast_one, Int.cast_ofNat_Int])
      rw [topOf_succ (by omega)]
    · refine fin_ret rfl rfl (spec_flat rfl ?_ rfl)
      show AV.tup _ = _
      have hi' : i = lq.length := by omega
      subst hi'
      rw [play_e5 hv (by simp only [Gm.n]; omega) (by simp only [Gm.n]; omega) hok' hag]
      simp only [PlayR.av, hlq, List.take_length, mkL]
      rfl
  · have hnew : ∀ i, i < k → orb (chF c) f.toNat i ≠ orb (chF c) f.toNat k := by
      intro i hi e
      have := hget.1 i hi e
      omega
    have hc2 := hch _ (horb k)
    refine back (k + 1) [(38, 47)] ?_ (fresh_succ hf hnew) ?_
    · (refine ⟨rfl, ?_, ?_⟩ <;> simp only [evOut, evStep, eq_self, evo, ev1, evx, evp, ofP, guardOf, opv, lke_cons, lke_nil, lkr_nil, lkr_cons, isC, isCC, isCL, men, putE, setW, set1, del, evLoad, evField, evIndex, evBin, lenOf, evSlice, bnd, cutI, subv, selv, isV, isAg, cellsL, lenL, properL, nthL, dropL, takeL, appL, setL, updv, tb, TI.isStr, strip, gd, gds, whnR, evPick, evStore, stBox, evApp, srcI, srcB, srcR, evBuildS, evTake, makeB, isNilS, partsOK, elemsOf, collI, collB, collII, allC, allN, fillL, evCut, evFz, lko, z0, renB, z1, z2, z3, z4, notD, chkG, evCopy, evCall, ofSR, viewA, lsOf, ofL, zfree, zfreeB, freeB, isOne, ren, zipE, Op.operands, Call.operands, Nat.reduceAdd, Nat.reduceSub, Nat.reduceMul, Nat.reduceEqDiff, Nat.reduceLeDiff, Nat.reduceLT, Nat.reduceBEq, Nat.reduceBNe, ↓reduceIte, reduceIte, nbeq, nble, nblt, z5, z6, z7, z8, z9, z10, z11, z12, z13, z14, z15, z16, z17, z18, z19, z20, z21, z22, z23, z24, z25, z26, z27, z28, z29, z30, z31, z32, z33, z34, z35, z36, z37, imp_self, forall_const, z38, EO.mk.injEq, z39, z40, z41, z42, z43, z44, z45, z46, z47, z48, z49, z50, ne_eq, z51, z52, z53, z54, z55, z56, z57, inI, evRes, resV, mkL, ltK, rhoL, leE, leR, menB, menE, fzA, fzE, fzB, fzR, spPlay, validS, containsS, cloneS, AV.int.injEq, AV.bool.injEq, AV.roI.injEq, AV.roB.injEq, AV.roII.injEq, AV.rop.injEq, AV.agg.injEq, AV.tup.injEq, AV.cons.injEq, AV.own.injEq, AV.whn.injEq, Blk.ints.injEq, Blk.bools.injEq, Blk.rows.injEq, Blk.rowsR.injEq, Blk.box.injEq, Option.some.injEq, Int.natCast_add, Int.natCast_one, Int.cast_ofNat_Int])
      · show (((c.getD (orb (chF c) f.toNat k) 0).toNat : Nat) : Int) = _
        omega
      · refine ⟨?_, ?_⟩
        · simp only [atF, List.length_append, List.length_cons, List.length_nil, hl2]; rfl
        · simp [way, List.range_succ]
    · have := fresh_le horb (fresh_succ hf hnew)
      omega

end Go.Proofs.Ytinfflpephioiaa.Cal
