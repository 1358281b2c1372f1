/- Own texts of the proof, merged, in order. -/
import Derived.RangeFuncIn
import Derived.Test.YtgminhedbeblpaaS18
set_option linter.unusedVariables false
set_option linter.unusedSimpArgs false
namespace Go.Proofs.Ytgminhedbeblpaa.Cal
open Go Pl
def nanS : Spec
  | [.int .i64 _] => some ⟨True, .bool false, none⟩
  | _ => none
set_option maxRecDepth 4000 in
set_option maxHeartbeats 4000000 in
theorem nan_ok : FSpec Try.prog 61 nanS := by
  refine fspec_of htb (fn := Try.f61) (by kernel_rfl) (by kernel_rfl) rfl (fun args r hS => ?_) (fun args r hS hob hl => ?_)
  · unfold nanS at hS; split at hS <;> first | (cases hS; done) | (cases hS; exact Nat.le_of_ble_eq_true rfl)
  unfold nanS at hS
  split at hS
  case h_2 => cases hS
  rename_i y
  simp only [Option.some.injEq] at hS
  subst hS
  simp only [lenP, mkL, lim] at hl
  dsimp only at hob
  repeat' first
    | with_reducible first | refine awp_seq ?_ | refine awp_block ?_ | refine next_then ?_ | refine next_block ?_ | refine exit_then ?_ | refine ret_then ?_ | refine ret_block ?_ | refine exit_here ?_ | refine awp_exit ?_ | refine awp_ret ?_ | refine awp_skip ?_ | refine awp_label ?_ | refine next_noGoto ?_ | refine ret_noGoto ?_ | refine exit_noGoto ?_ | refine awp_scope ?_
    | ((with_reducible refine exit_past ?_ ?_); exact rfl)
    | ((with_reducible refine isCond ?_); refine awp_condO rfl ?_ ?_ <;> intro hb <;> (try simp only [zH] at hb))
    | ((with_reducible refine isReg ?_); (first | refine awp_textM htb hmz noSp (fun _ => false) rfl rfl ?_ | refine awp_drawM hmo htb hmz noSp (fun _ => false) rfl rfl (by kernel_rfl) ?_); intro m' e' l' ob h; simp only [zE0, zE1, zE2, zE3, zE4, zE5, evp, evx, ev1, evLoad, evStore, evBin, isBoolK, forall_const, z38, tb, Nat.reduceAdd, Nat.reduceSub, Nat.reduceMul, Nat.reduceEqDiff, Nat.reduceLeDiff, Nat.reduceLT, Nat.reduceBEq, Nat.reduceBNe, ↓reduceIte, reduceIte] at h; obtain ⟨rfl, rfl, rfl, rfl⟩ := h; refine ⟨?_, ?_⟩)
    | ((with_reducible refine Ob.mk ?_); first | exact trivial | (intros; omega) | ((repeat' first | apply And.intro | (intro hg; have hg' := hg; try simp only [zH] at hg')) <;> first | assumption | omega | (simp only [zH]; omega)))
  refine fin_ret rfl rfl (spec_flat rfl ?_ rfl)
  rfl
def cmpI (a b : Int) : Int := if a < b then -1 else if b < a then 1 else 0
def cmpS : Spec
  | [.int .i64 a, .int .i64 b] => some ⟨True, .int .i64 (cmpI a b), none⟩
  | _ => none
def spCmp : Nat → Option Spec
  | 61 => some nanS
  | _ => none
theorem spCmp_ok : SpOK Try.prog spCmp := by
  intro f S h
  unfold spCmp at h
  split at h
  · cases h; exact nan_ok
  · cases h
set_option maxRecDepth 4000 in
set_option maxHeartbeats 4000000 in
theorem cmp_ok : FSpec Try.prog 59 cmpS := by
  refine fspec_of htb (fn := Try.f59) (by kernel_rfl) (by kernel_rfl) rfl (fun args r hS => ?_) (fun args r hS hob hl => ?_)
  · unfold cmpS at hS; split at hS <;> first | (cases hS; done) | (cases hS; exact Nat.le_of_ble_eq_true rfl)
  unfold cmpS at hS
  split at hS
  case h_2 => cases hS
  rename_i a b
  simp only [Option.some.injEq] at hS
  subst hS
  simp only [lenP, mkL, lim] at hl
  dsimp only at hob
  repeat' first
    | with_reducible first | refine awp_seq ?_ | refine awp_block ?_ | refine next_then ?_ | refine next_block ?_ | refine exit_then ?_ | refine ret_then ?_ | refine ret_block ?_ | refine exit_here ?_ | refine awp_exit ?_ | refine awp_ret ?_ | refine awp_skip ?_ | refine awp_label ?_ | refine next_noGoto ?_ | refine ret_noGoto ?_ | refine exit_noGoto ?_ | refine awp_scope ?_
    | ((with_reducible refine exit_past ?_ ?_); exact rfl)
    | ((with_reducible refine isCond ?_); refine awp_condO rfl ?_ ?_ <;> intro hb <;> (try simp only [zH] at hb))
    | ((with_reducible refine isReg ?_); (first | refine awp_textM htb hmz spCmp_ok (fun _ => false) rfl rfl ?_ | refine awp_drawM hmo htb hmz spCmp_ok (fun _ => false) rfl rfl (by kernel_rfl) ?_); intro m' e' l' ob h; simp only [zE0, zE1, zE2, zE3, zE4, zE5, evp, evx, ev1, evLoad, evStore, evBin, isBoolK, forall_const, z38, tb, Nat.reduceAdd, Nat.reduceSub, Nat.reduceMul, Nat.reduceEqDiff, Nat.reduceLeDiff, Nat.reduceLT, Nat.reduceBEq, Nat.reduceBNe, ↓reduceIte, reduceIte, spCmp, nanS] at h; obtain ⟨rfl, rfl, rfl, rfl⟩ := h; refine ⟨?_, ?_⟩)
    | ((with_reducible refine Ob.mk ?_); first | exact trivial | (intros; omega) | ((repeat' first | apply And.intro | (intro hg; have hg' := hg; try simp only [zH] at hg')) <;> first | assumption | omega | (simp only [zH]; omega)))
  all_goals try exact absurd ‹false = true› (by decide)
  · refine fin_ret rfl rfl (spec_flat rfl ?_ rfl)
    show AV.int .i64 (-1) = AV.int .i64 (cmpI a b)
    unfold cmpI; rw [if_pos hb]
  · refine fin_ret rfl rfl (spec_flat rfl ?_ rfl)
    show AV.int .i64 1 = AV.int .i64 (cmpI a b)
    unfold cmpI; rw [if_neg (by omega), if_pos hb]
  · refine fin_ret rfl rfl (spec_flat rfl ?_ rfl)
    show AV.int .i64 0 = AV.int .i64 (cmpI a b)
    unfold cmpI; rw [if_neg (by omega), if_neg (by omega)]
def spL1 : Nat → Option Spec
  | 59 => some cmpS
  | _ => none
theorem spL1_ok : SpOK Try.prog spL1 := by
  intro f S h
  unfold spL1 at h
  split at h
  · cases h; exact cmp_ok
  · cases h
set_option maxRecDepth 4000 in
set_option maxHeartbeats 4000000 in
theorem less1_ok : FSpec Try.prog 58 cmpS := by
  refine fspec_of htb (fn := Try.f58) (by kernel_rfl) (by kernel_rfl) rfl (fun args r hS => ?_) (fun args r hS hob hl => ?_)
  · unfold cmpS at hS; split at hS <;> first | (cases hS; done) | (cases hS; exact Nat.le_of_ble_eq_true rfl)
  unfold cmpS at hS
  split at hS
  case h_2 => cases hS
  rename_i a b
  simp only [Option.some.injEq] at hS
  subst hS
  simp only [lenP, mkL, lim] at hl
  dsimp only at hob
  repeat' first
    | with_reducible first | refine awp_seq ?_ | refine awp_block ?_ | refine next_then ?_ | refine next_block ?_ | refine exit_then ?_ | refine ret_then ?_ | refine ret_block ?_ | refine exit_here ?_ | refine awp_exit ?_ | refine awp_ret ?_ | refine awp_skip ?_ | refine awp_label ?_ | refine next_noGoto ?_ | refine ret_noGoto ?_ | refine exit_noGoto ?_ | refine awp_scope ?_
    | ((with_reducible refine exit_past ?_ ?_); exact rfl)
    | ((with_reducible refine isCond ?_); refine awp_condO rfl ?_ ?_ <;> intro hb <;> (try simp only [zH] at hb))
    | ((with_reducible refine isReg ?_); (first | refine awp_textM htb hmz spL1_ok (fun _ => false) rfl rfl ?_ | refine awp_drawM hmo htb hmz spL1_ok (fun _ => false) rfl rfl (by kernel_rfl) ?_); intro m' e' l' ob h; simp only [zE0, zE1, zE2, zE3, zE4, zE5, evp, evx, ev1, evLoad, evStore, evBin, isBoolK, forall_const, z38, tb, Nat.reduceAdd, Nat.reduceSub, Nat.reduceMul, Nat.reduceEqDiff, Nat.reduceLeDiff, Nat.reduceLT, Nat.reduceBEq, Nat.reduceBNe, ↓reduceIte, reduceIte, spL1, cmpS] at h; obtain ⟨rfl, rfl, rfl, rfl⟩ := h; refine ⟨?_, ?_⟩)
    | ((with_reducible refine Ob.mk ?_); first | exact trivial | (intros; omega) | ((repeat' first | apply And.intro | (intro hg; have hg' := hg; try simp only [zH] at hg')) <;> first | assumption | omega | (simp only [zH]; omega)))
  refine fin_ret rfl rfl (spec_flat rfl ?_ rfl)
  rfl
theorem cmpL_step {a b : List Int} {i : Nat} (ha : i < a.length) (hb : i < b.length) : cmpL (a.drop i) (b.drop i) = if a.getD i 0 < b.getD i 0 then -1 else if b.getD i 0 < a.getD i 0 then 1 else cmpL (a.drop (i + 1)) (b.drop (i + 1)) := by
  rw [List.drop_eq_getElem_cons ha, List.drop_eq_getElem_cons hb, List.getD_eq_getElem?_getD, List.getD_eq_getElem?_getD, List.getElem?_eq_getElem ha, List.getElem?_eq_getElem hb]
  rfl
theorem cmpL_end {a b : List Int} {i : Nat} (h : i = min a.length b.length) : cmpL (a.drop i) (b.drop i) = cmpI a.length b.length := by
  unfold cmpI
  by_cases h1 : a.length < b.length
  · have : i = a.length := by omega
    subst this
    rw [List.drop_length, List.drop_eq_getElem_cons h1, if_pos (by omega)]
    rfl
  · by_cases h2 : b.length < a.length
    · have : i = b.length := by omega
      subst this
      rw [List.drop_length, List.drop_eq_getElem_cons h2, if_neg (by omega), if_pos (by omega)]
      rfl
    · have e : a.length = b.length := by omega
      have h3 : i = a.length := by omega
      rw [if_neg (by omega), if_neg (by omega), h3, List.drop_length, e, List.drop_length]
      rfl
def compareS : Spec
  | [.roI a, .roI b, .fn 58 .nil] => some ⟨True, .int .i64 (cmpL a b), none⟩
  | _ => none
def spCo : Nat → Option Spec
  | 59 => some cmpS
  | 58 => some cmpS
  | _ => none
theorem spCo_ok : SpOK Try.prog spCo := by
  intro f S h
  unfold spCo at h
  split at h
  · cases h; exact cmp_ok
  · cases h; exact less1_ok
  · cases h
set_option maxRecDepth 4000 in
set_option maxHeartbeats 4000000 in
theorem compare_ok : FSpec Try.prog 57 compareS := by
  refine fspec_of htb (fn := Try.f57) (by kernel_rfl) (by kernel_rfl) rfl (fun args r hS => ?_) (fun args r hS hob hl => ?_)
  · unfold compareS at hS; split at hS <;> first | (cases hS; done) | (cases hS; exact Nat.le_of_ble_eq_true rfl)
  unfold compareS at hS
  split at hS
  case h_2 => cases hS
  rename_i a b
  simp only [Option.some.injEq] at hS
  subst hS
  simp only [lenP, mkL, lim] at hl
  dsimp only at hob
  repeat' first
    | with_reducible first | refine awp_seq ?_ | refine awp_block ?_ | refine next_then ?_ | refine next_block ?_ | refine exit_then ?_ | refine ret_then ?_ | refine ret_block ?_ | refine exit_here ?_ | refine awp_exit ?_ | refine awp_ret ?_ | refine awp_skip ?_ | refine awp_label ?_ | refine next_noGoto ?_ | refine ret_noGoto ?_ | refine exit_noGoto ?_ | refine awp_scope ?_
    | ((with_reducible refine exit_past ?_ ?_); exact rfl)
    | ((with_reducible refine isCond ?_); refine awp_condO rfl ?_ ?_ <;> intro hb <;> (try simp only [zH] at hb))
    | ((with_reducible refine isReg ?_); (first | refine awp_textM htb hmz spCo_ok (fun _ => false) rfl rfl ?_ | refine awp_drawM hmo htb hmz spCo_ok (fun _ => false) rfl rfl (by kernel_rfl) ?_); intro m' e' l' ob h; simp only [zE0, zE1, zE2, zE3, zE4, zE5, evp, evx, ev1, evLoad, evStore, evBin, isBoolK, forall_const, z38, tb, Nat.reduceAdd, Nat.reduceSub, Nat.reduceMul, Nat.reduceEqDiff, Nat.reduceLeDiff, Nat.reduceLT, Nat.reduceBEq, Nat.reduceBNe, ↓reduceIte, reduceIte, spCo, cmpS] at h; obtain ⟨rfl, rfl, rfl, rfl⟩ := h; refine ⟨?_, ?_⟩)
    | ((with_reducible refine Ob.mk ?_); first | exact trivial | (intros; omega) | ((repeat' first | apply And.intro | (intro hg; have hg' := hg; try simp only [zH] at hg')) <;> first | assumption | omega | (simp only [zH]; omega)))
  refine awp_loopC (τ := Nat) (fun i => i ≤ min a.length b.length ∧ cmpL (a.drop i) (b.drop i) = cmpL a b) (fun i => ⟨6, [(14, .int .i64 i), (13, .int .i64 (min a.length b.length : Nat)), (0, .roI a), (1, .roI b), (2, .fn 58 .nil)], [], []⟩) (fun i => min a.length b.length - i) 0 [] ?_ ⟨Nat.zero_le _, by simp⟩ ?_
  · (refine ⟨rfl, ?_, ?_⟩ <;> simp only [zE0, zE1, zE2, zE3, zE4, zE5, evp, evx, ev1, evLoad, evStore, evBin, isBoolK, forall_const, z38, tb, Nat.reduceAdd, Nat.reduceSub, Nat.reduceMul, Nat.reduceEqDiff, Nat.reduceLeDiff, Nat.reduceLT, Nat.reduceBEq, Nat.reduceBNe, ↓reduceIte, reduceIte, spCo, cmpS, zI])
    omega
  rintro i ⟨hi, hc⟩
  have hst := @cmpL_step a b i
  have hen := @cmpL_end a b i
  rw [hc] at hst hen
  repeat' first
    | with_reducible first | refine awp_seq ?_ | refine awp_block ?_ | refine next_then ?_ | refine next_block ?_ | refine exit_then ?_ | refine ret_then ?_ | refine ret_block ?_ | refine exit_here ?_ | refine awp_exit ?_ | refine awp_ret ?_ | refine awp_skip ?_ | refine awp_label ?_ | refine next_noGoto ?_ | refine ret_noGoto ?_ | refine exit_noGoto ?_ | refine awp_scope ?_
    | ((with_reducible refine exit_past ?_ ?_); exact rfl)
    | ((with_reducible refine isCond ?_); refine awp_condO rfl ?_ ?_ <;> intro hb <;> (try simp only [zH] at hb))
    | ((with_reducible refine isReg ?_); (first | refine awp_textM htb hmz spCo_ok (fun _ => false) rfl rfl ?_ | refine awp_drawM hmo htb hmz spCo_ok (fun _ => false) rfl rfl (by kernel_rfl) ?_); intro m' e' l' ob h; simp only [zE0, zE1, zE2, zE3, zE4, zE5, evp, evx, ev1, evLoad, evStore, evBin, isBoolK, forall_const, z38, tb, Nat.reduceAdd, Nat.reduceSub, Nat.reduceMul, Nat.reduceEqDiff, Nat.reduceLeDiff, Nat.reduceLT, Nat.reduceBEq, Nat.reduceBNe, ↓reduceIte, reduceIte, spCo, cmpS] at h; obtain ⟨rfl, rfl, rfl, rfl⟩ := h; refine ⟨?_, ?_⟩)
    | ((with_reducible refine Ob.mk ?_); first | exact trivial | (intros; omega) | ((repeat' first | apply And.intro | (intro hg; have hg' := hg; try simp only [zH] at hg')) <;> first | assumption | omega | (simp only [zH]; omega)))
  · refine fin_ret rfl rfl (spec_flat rfl ?_ rfl)
    rw [hst (by omega) (by omega)]
    unfold cmpI at hb ⊢
    split
    · rfl
    · rename_i h1
      rw [if_neg h1] at hb
      split
      · rfl
      · rename_i h2
        rw [if_neg h2] at hb
        exact absurd rfl hb
  · refine back (i + 1) [] ?_ ⟨by omega, ?_⟩ (by omega)
    · (refine ⟨rfl, ?_, ?_⟩ <;> simp only [zE0, zE1, zE2, zE3, zE4, zE5, evp, evx, ev1, evLoad, evStore, evBin, isBoolK, forall_const, z38, tb, Nat.reduceAdd, Nat.reduceSub, Nat.reduceMul, Nat.reduceEqDiff, Nat.reduceLeDiff, Nat.reduceLT, Nat.reduceBEq, Nat.reduceBNe, ↓reduceIte, reduceIte, spCo, cmpS, zI])
    · have hst := hst (by omega) (by omega)
      unfold cmpI at hb
      by_cases h1 : a.getD i 0 < b.getD i 0
      · rw [if_pos h1] at hb; cases hb
      · by_cases h2 : b.getD i 0 < a.getD i 0
        · rw [if_neg h1, if_pos h2] at hb; cases hb
        · rw [if_neg h1, if_neg h2] at hst; exact hst.symm
  · refine fin_ret rfl rfl (spec_flat rfl ?_ rfl)
    rw [hen (by omega)]
    rfl
/-- Whether a measure is less. -/
def lessM (a b : Bool × List Int) : Bool := if a.1 || b.1 then !a.1 && b.1 else decide (cmpL a.2 b.2 < 0)
theorem lessM_V {many : List Int} (hp : posL many) {V W : Int} (h0 : 0 ≤ V) (h1 : V ≤ rpr many) (h2 : 0 ≤ W) (h3 : W ≤ rpr many) : lessM (deM many V) (deM many W) = decide (V < W) := by
  unfold lessM
  rcases deM_cases hp h0 h1 with ⟨a1, a2⟩ | ⟨a1, a2, a3, a4⟩
  · rw [a2]
    rcases deM_cases hp h2 h3 with ⟨b1, b2⟩ | ⟨b1, b2, b3, b4⟩
    · rw [b2]; simp; omega
    · rw [b4]; simp; omega
  · rw [a4]
    rcases deM_cases hp h2 h3 with ⟨b1, b2⟩ | ⟨b1, b2, b3, b4⟩
    · rw [b2]; simp; omega
    · rw [b4]
      have := (cmp_nv a2 b2).1
      rw [a3, b3] at this
      simp [this]
def lessS : Spec
  | [.agg (.cons (.bool t) (.cons (.roI xs) .nil)), .agg (.cons (.bool t') (.cons (.roI ys) .nil))] => some ⟨True, .bool (lessM (t, xs) (t', ys)), none⟩
  | _ => none
def spLe : Nat → Option Spec
  | 57 => some compareS
  | _ => none
theorem spLe_ok : SpOK Try.prog spLe := by
  intro f S h
  unfold spLe at h
  split at h
  · cases h; exact compare_ok
  · cases h
set_option maxRecDepth 4000 in
set_option maxHeartbeats 4000000 in
theorem less_ok : FSpec Try.prog 50 lessS := by
  refine fspec_of htb (fn := Try.f50) (by kernel_rfl) (by kernel_rfl) rfl (fun args r hS => ?_) (fun args r hS hob hl => ?_)
  · unfold lessS at hS; split at hS <;> first | (cases hS; done) | (cases hS; exact Nat.le_of_ble_eq_true rfl)
  unfold lessS at hS
  split at hS
  case h_2 => cases hS
  rename_i t xs t' ys
  simp only [Option.some.injEq] at hS
  subst hS
  simp only [lenP, mkL, lim] at hl
  dsimp only at hob
  repeat' first
    | with_reducible first | refine awp_seq ?_ | refine awp_block ?_ | refine next_then ?_ | refine next_block ?_ | refine exit_then ?_ | refine ret_then ?_ | refine ret_block ?_ | refine exit_here ?_ | refine awp_exit ?_ | refine awp_ret ?_ | refine awp_skip ?_ | refine awp_label ?_ | refine next_noGoto ?_ | refine ret_noGoto ?_ | refine exit_noGoto ?_ | refine awp_scope ?_
    | ((with_reducible refine exit_past ?_ ?_); exact rfl)
    | ((with_reducible refine isCond ?_); refine awp_condO rfl ?_ ?_ <;> intro hb <;> (try simp only [zH] at hb))
    | ((with_reducible refine isReg ?_); (first | refine awp_textM htb hmz spLe_ok (fun _ => false) rfl rfl ?_ | refine awp_drawM hmo htb hmz spLe_ok (fun _ => false) rfl rfl (by kernel_rfl) ?_); intro m' e' l' ob h; simp only [zE0, zE1, zE2, zE3, zE4, zE5, evp, evx, ev1, evLoad, evStore, evBin, isBoolK, forall_const, z38, tb, Nat.reduceAdd, Nat.reduceSub, Nat.reduceMul, Nat.reduceEqDiff, Nat.reduceLeDiff, Nat.reduceLT, Nat.reduceBEq, Nat.reduceBNe, ↓reduceIte, reduceIte, spLe, compareS] at h; obtain ⟨rfl, rfl, rfl, rfl⟩ := h; refine ⟨?_, ?_⟩)
    | ((with_reducible refine Ob.mk ?_); first | exact trivial | (intros; omega) | ((repeat' first | apply And.intro | (intro hg; have hg' := hg; try simp only [zH] at hg')) <;> first | assumption | omega | (simp only [zH]; omega)))
  · refine fin_ret rfl rfl (spec_flat rfl ?_ rfl)
    show AV.bool (!t && t') = AV.bool (lessM (t, xs) (t', ys))
    unfold lessM
    rw [if_pos (by simpa using hb)]
  · refine fin_ret rfl rfl (spec_flat rfl ?_ rfl)
    show AV.bool (decide (cmpL xs ys < 0)) = AV.bool (lessM (t, xs) (t', ys))
    unfold lessM
    rw [if_neg (by simpa using hb)]
end Go.Proofs.Ytgminhedbeblpaa.Cal
namespace Go.Proofs.Ytgminhedbeblpaa.Cal
open Go Pl
def aboveS : Spec
  | [.agg (.cons (.roI odd) (.cons (.roI many) .nil)), .int .i64 q] => some ⟨True, .int .i64 (abv odd q), none⟩
  | _ => none
set_option maxRecDepth 4000 in
set_option maxHeartbeats 4000000 in
theorem above_ok : FSpec Try.prog 55 aboveS := by
  refine fspec_of htb (fn := Try.f55) (by kernel_rfl) (by kernel_rfl) rfl (fun args r hS => ?_) (fun args r hS hob hl => ?_)
  · unfold aboveS at hS; split at hS <;> first | (cases hS; done) | (cases hS; exact Nat.le_of_ble_eq_true rfl)
  unfold aboveS at hS
  split at hS
  case h_2 => cases hS
  rename_i odd many q
  simp only [Option.some.injEq] at hS
  subst hS
  simp only [lenP, mkL, lim] at hl
  dsimp only at hob
  repeat' first
    | with_reducible first | refine awp_seq ?_ | refine awp_block ?_ | refine next_then ?_ | refine next_block ?_ | refine exit_then ?_ | refine ret_then ?_ | refine ret_block ?_ | refine exit_here ?_ | refine awp_exit ?_ | refine awp_ret ?_ | refine awp_skip ?_ | refine awp_label ?_ | refine next_noGoto ?_ | refine ret_noGoto ?_ | refine exit_noGoto ?_ | refine awp_scope ?_
    | ((with_reducible refine exit_past ?_ ?_); exact rfl)
    | ((with_reducible refine isCond ?_); refine awp_condO rfl ?_ ?_ <;> intro hb <;> (try simp only [zH] at hb))
    | ((with_reducible refine isReg ?_); (first | refine awp_textM htb hmz noSp (fun _ => false) rfl rfl ?_ | refine awp_drawM hmo htb hmz noSp (fun _ => false) rfl rfl (by kernel_rfl) ?_); intro m' e' l' ob h; simp only [zE0, zE1, zE2, zE3, zE4, zE5, evp, evx, ev1, evLoad, evStore, evBin, isBoolK, forall_const, z38, tb, Nat.reduceAdd, Nat.reduceSub, Nat.reduceMul, Nat.reduceEqDiff, Nat.reduceLeDiff, Nat.reduceLT, Nat.reduceBEq, Nat.reduceBNe, ↓reduceIte, reduceIte] at h; obtain ⟨rfl, rfl, rfl, rfl⟩ := h; refine ⟨?_, ?_⟩)
    | ((with_reducible refine Ob.mk ?_); first | exact trivial | (intros; omega) | ((repeat' first | apply And.intro | (intro hg; have hg' := hg; try simp only [zH] at hg')) <;> first | assumption | omega | (simp only [zH]; omega)))
  refine awp_loopC (τ := Nat) (fun j => j ≤ abv odd q) (fun j => ⟨3, [(5, .int .i64 j), (2, .rop (.agg (.cons (.roI odd) (.cons (.roI many) .nil)))), (1, .int .i64 q)], [], []⟩) (fun j => abv odd q - j) 0 [] ?_ (Nat.zero_le _) ?_
  · (refine ⟨rfl, ?_, ?_⟩ <;> simp only [zE0, zE1, zE2, zE3, zE4, zE5, evp, evx, ev1, evLoad, evStore, evBin, isBoolK, forall_const, z38, tb, Nat.reduceAdd, Nat.reduceSub, Nat.reduceMul, Nat.reduceEqDiff, Nat.reduceLeDiff, Nat.reduceLT, Nat.reduceBEq, Nat.reduceBNe, ↓reduceIte, reduceIte, zI])
  intro j hj
  have hs := abv_step hj
  have hl : abv odd q ≤ odd.length := abv_le
  repeat' first
    | with_reducible first | refine awp_seq ?_ | refine awp_block ?_ | refine next_then ?_ | refine next_block ?_ | refine exit_then ?_ | refine ret_then ?_ | refine ret_block ?_ | refine exit_here ?_ | refine awp_exit ?_ | refine awp_ret ?_ | refine awp_skip ?_ | refine awp_label ?_ | refine next_noGoto ?_ | refine ret_noGoto ?_ | refine exit_noGoto ?_ | refine awp_scope ?_
    | ((with_reducible refine exit_past ?_ ?_); exact rfl)
    | ((with_reducible refine isCond ?_); refine awp_condO rfl ?_ ?_ <;> intro hb <;> (try simp only [zH] at hb))
    | ((with_reducible refine isReg ?_); (first | refine awp_textM htb hmz noSp (fun _ => false) rfl rfl ?_ | refine awp_drawM hmo htb hmz noSp (fun _ => false) rfl rfl (by kernel_rfl) ?_); intro m' e' l' ob h; simp only [zE0, zE1, zE2, zE3, zE4, zE5, evp, evx, ev1, evLoad, evStore, evBin, isBoolK, forall_const, z38, tb, Nat.reduceAdd, Nat.reduceSub, Nat.reduceMul, Nat.reduceEqDiff, Nat.reduceLeDiff, Nat.reduceLT, Nat.reduceBEq, Nat.reduceBNe, ↓reduceIte, reduceIte] at h; obtain ⟨rfl, rfl, rfl, rfl⟩ := h; refine ⟨?_, ?_⟩)
    | ((with_reducible refine Ob.mk ?_); first | exact trivial | (intros; omega) | ((repeat' first | apply And.intro | (intro hg; have hg' := hg; try simp only [zH] at hg')) <;> first | assumption | omega | (simp only [zH]; omega)))
  · have hjl : j < abv odd q := hs.1 ⟨by omega, hb.2⟩
    refine back (j + 1) [] ?_ (by omega) (by omega)
    (refine ⟨rfl, ?_, ?_⟩ <;> simp only [zE0, zE1, zE2, zE3, zE4, zE5, evp, evx, ev1, evLoad, evStore, evBin, isBoolK, forall_const, z38, tb, Nat.reduceAdd, Nat.reduceSub, Nat.reduceMul, Nat.reduceEqDiff, Nat.reduceLeDiff, Nat.reduceLT, Nat.reduceBEq, Nat.reduceBNe, ↓reduceIte, reduceIte, zI])
  · refine fin_ret rfl rfl (spec_flat rfl ?_ rfl)
    have : j = abv odd q := by
      refine Nat.le_antisymm hj (Nat.le_of_not_lt fun h => ?_)
      have := hs.2 h
      rcases hb with h2 | h2
      · omega
      · omega
    rw [this]
    rfl
def enM (many : List Int) (m : Bool × List Int) : Int := bif m.1 then rpr many else nvl many m.2
def okM (many : List Int) (m : Bool × List Int) : Prop := (m.1 = true ∧ m.2 = []) ∨ (m.1 = false ∧ wfL many m.2)
theorem okM_bd {many : List Int} {m : Bool × List Int} (hp : posL many) (h : okM many m) : 0 ≤ enM many m ∧ enM many m ≤ rpr many := by
  have := rpr_pos hp
  rcases h with ⟨h1, h2⟩ | ⟨h1, h2⟩
  · unfold enM; rw [h1]; exact ⟨Int.le_of_lt this, Int.le_refl _⟩
  · have := nvl_bd h2
    unfold enM; rw [h1]
    exact ⟨this.1, Int.le_of_lt this.2⟩
theorem de_en {many : List Int} {m : Bool × List Int} (h : okM many m) : deM many (enM many m) = m := by
  obtain ⟨t, xs⟩ := m
  rcases h with ⟨h1, h2⟩ | ⟨h1, h2⟩
  · have h1 : t = true := h1
    have h2 : xs = [] := h2
    subst h1 h2
    exact deM_top
  · have h1 : t = false := h1
    subst h1
    exact deM_low h2
theorem en_de {many : List Int} (hp : posL many) {V : Int} (h0 : 0 ≤ V) (h1 : V ≤ rpr many) : enM many (deM many V) = V ∧ okM many (deM many V) := by
  rcases deM_cases hp h0 h1 with ⟨a1, a2⟩ | ⟨a1, a2, a3, a4⟩
  · rw [a2]; exact ⟨a1.symm, .inl ⟨rfl, rfl⟩⟩
  · rw [a4]; exact ⟨a3, .inr ⟨rfl, a2⟩⟩
def progS : Spec
  | [.agg (.cons (.roI odd) (.cons (.roI many) .nil)), .agg (.cons (.bool t) (.cons (.roI xs) .nil)), .int .i64 q] =>
    some ⟨odd.length = many.length ∧ odd.length ≤ 100 ∧ (∀ i, many.getD i 0 ≤ 1000000000) ∧ posL many ∧ okM many (t, xs) ∧ 0 ≤ q, .agg (.cons (.bool (deM many (progV odd many (enM many (t, xs)) q)).1) (.cons (.roI (deM many (progV odd many (enM many (t, xs)) q)).2) .nil)), none⟩
  | _ => none
def spPr : Nat → Option Spec
  | 55 => some aboveS
  | _ => none
theorem spPr_ok : SpOK Try.prog spPr := by
  intro f S h
  unfold spPr at h
  split at h
  · cases h; exact above_ok
  · cases h
theorem cpL_pad {k j : Nat} {xs : List Int} (hx : xs.length = k) (hj : j ≤ k) : cpL (List.replicate k (0 : Int)) (xs.take j) = xs.take j ++ List.replicate (k - j) 0 := by
  unfold cpL
  have h1 : (xs.take j).length = j := by rw [List.length_take]; omega
  rw [List.length_replicate, h1, List.drop_replicate, List.take_take, Nat.min_eq_right hj]
/-- What the loop of progress keeps: the digits from i on are nought. -/
structure PI (many : List Int) (X : Int) (i : Nat) (out : List Int) : Prop where
  wf : wfL many out
  zr : ∀ t, i ≤ t → out.getD t 0 = 0
  vl : nvl many out + rpr (many.drop i) = X
theorem PI_up {many : List Int} {X : Int} {i : Nat} {out : List Int} (h : PI many X (i + 1) out) (hi : i < many.length) (hlt : out.getD i 0 < many.getD i 0) : wfL many (out.set i (out.getD i 0 + 1)) ∧ nvl many (out.set i (out.getD i 0 + 1)) = X := by
  have hg := wfL_get h.wf hi
  refine ⟨wfL_set h.wf (by omega) (by omega), ?_⟩
  rw [nvl_set h.wf hi, show out.getD i 0 + 1 - out.getD i 0 = 1 by omega, Int.one_mul]
  exact h.vl
theorem PI_down {many : List Int} {X : Int} {i : Nat} {out : List Int} (h : PI many X (i + 1) out) (hi : i < many.length) (hge : ¬ out.getD i 0 < many.getD i 0) : PI many X i (out.set i 0) := by
  have hg := wfL_get h.wf hi
  have hol := wfL_len h.wf
  have hp := wfL_pos h.wf
  refine ⟨wfL_set h.wf (Int.le_refl _) (by omega), fun t ht => ?_, ?_⟩
  · rw [getD_set (by omega)]
    split
    · rfl
    · exact h.zr t (by omega)
  · have hv := h.vl
    have e : out.getD i 0 = many.getD i 0 := by omega
    rw [nvl_set h.wf hi, rpr_drop hi, e, Int.add_mul, Int.sub_mul]
    omega
theorem PI_top {many : List Int} {X : Int} {out : List Int} (h : PI many X 0 out) : X = rpr many := by
  have e : out = List.replicate many.length 0 := by
    refine List.ext_getElem (by rw [wfL_len h.wf]; simp) fun j h1 h2 => ?_
    have := h.zr j (Nat.zero_le _)
    rw [List.getD_eq_getElem?_getD, List.getElem?_eq_getElem h1] at this
    simpa using this
  have := (zero_wf (wfL_pos h.wf)).2
  have hv := h.vl
  rw [e, this, List.drop_zero] at hv
  omega
structure PS where
  i : Nat
  out : List Int
set_option maxRecDepth 4000 in
set_option maxHeartbeats 4000000 in
theorem prog_ok : FSpec Try.prog 43 progS := by
  refine fspec_of htb (fn := Try.f43) (by kernel_rfl) (by kernel_rfl) rfl (fun args r hS => ?_) (fun args r hS hob hl => ?_)
  · unfold progS at hS; split at hS <;> first | (cases hS; done) | (cases hS; exact Nat.le_of_ble_eq_true rfl)
  unfold progS at hS
  split at hS
  case h_2 => cases hS
  rename_i odd many t xs q
  simp only [Option.some.injEq] at hS
  subst hS
  simp only [lenP, mkL, lim] at hl
  dsimp only at hob
  obtain ⟨hl2, hl3, hmb, hp, hok, hq⟩ := hob
  have hj : abv odd q ≤ odd.length := abv_le
  repeat' first
    | with_reducible first | refine awp_seq ?_ | refine awp_block ?_ | refine next_then ?_ | refine next_block ?_ | refine exit_then ?_ | refine ret_then ?_ | refine ret_block ?_ | refine exit_here ?_ | refine awp_exit ?_ | refine awp_ret ?_ | refine awp_skip ?_ | refine awp_label ?_ | refine next_noGoto ?_ | refine ret_noGoto ?_ | refine exit_noGoto ?_ | refine awp_scope ?_
    | ((with_reducible refine exit_past ?_ ?_); exact rfl)
    | ((with_reducible refine isCond ?_); refine awp_condO rfl ?_ ?_ <;> intro hb <;> (try simp only [zH] at hb))
    | ((with_reducible refine isRegS 3 ?_ ?_); (· exact rfl); (with_reducible refine isRegS 3 ?_ ?_); (· exact rfl); (first | refine awp_textM htb hmz spPr_ok (fun _ => false) rfl rfl ?_ | refine awp_drawM hmo htb hmz spPr_ok (fun _ => false) rfl rfl (by kernel_rfl) ?_); intro m' e' l' ob h; simp only [zE0, zE1, zE2, zE3, zE4, zE5, evp, evx, ev1, evLoad, evStore, evBin, isBoolK, forall_const, z38, tb, Nat.reduceAdd, Nat.reduceSub, Nat.reduceMul, Nat.reduceEqDiff, Nat.reduceLeDiff, Nat.reduceLT, Nat.reduceBEq, Nat.reduceBNe, ↓reduceIte, reduceIte, spPr, aboveS] at h; obtain ⟨rfl, rfl, rfl, rfl⟩ := h; refine ⟨?_, ?_⟩)
    | ((with_reducible refine Ob.mk ?_); first | exact trivial | (intros; omega) | ((repeat' first | apply And.intro | (intro hg; have hg' := hg; try simp only [zH] at hg')) <;> first | assumption | omega | (simp only [zH]; omega)))
  · refine fin_ret rfl rfl (spec_imp rfl ?_ rfl)
    obtain ⟨rfl, rfl⟩ : t = true ∧ xs = [] := by
      rcases hok with h | h
      · exact h
      · have h1 : t = false := h.1
        rw [h1] at hb; cases hb
    have : deM many (progV odd many (enM many (true, [])) q) = (true, []) := by
      have e : enM many (true, []) = rpr many := rfl
      unfold progV
      rw [e, if_pos rfl, deM_top]
    rw [this]
    exact imp_agg (imp_cons (imp_eq rfl) (imp_cons imp_nilI (imp_eq rfl)))
  have hwf : wfL many xs := by
    rcases hok with h | h
    · have h1 : t = true := h.1
      rw [h1] at hb; cases hb
    · exact h.2
  subst hb
  have hxl := wfL_len hwf
  have hbd := nvl_bd hwf
  obtain ⟨hw0, hv0⟩ := pad_nv hwf (j := abv odd q) (by omega)
  have hen : enM many (false, xs) = nvl many xs := rfl
  rw [hen]
  have hpv : progV odd many (nvl many xs) q = if q % 2 = 0 then nvl many (xs.take (abv odd q) ++ List.replicate (many.length - abv odd q) 0) else nvl many (xs.take (abv odd q) ++ List.replicate (many.length - abv odd q) 0) + rpr (many.drop (abv odd q)) := by
    rw [hv0]; unfold progV; rw [if_neg (by omega)]
  repeat' first
    | with_reducible first | refine awp_seq ?_ | refine awp_block ?_ | refine next_then ?_ | refine next_block ?_ | refine exit_then ?_ | refine ret_then ?_ | refine ret_block ?_ | refine exit_here ?_ | refine awp_exit ?_ | refine awp_ret ?_ | refine awp_skip ?_ | refine awp_label ?_ | refine next_noGoto ?_ | refine ret_noGoto ?_ | refine exit_noGoto ?_ | refine awp_scope ?_
    | ((with_reducible refine exit_past ?_ ?_); exact rfl)
    | ((with_reducible refine isCond ?_); refine awp_condO rfl ?_ ?_ <;> intro hb <;> (try simp only [zH] at hb))
    | ((with_reducible refine isRegS 6 ?_ ?_); (· exact rfl); (first | refine awp_textM htb hmz spPr_ok (fun _ => false) rfl rfl ?_ | refine awp_drawM hmo htb hmz spPr_ok (fun _ => false) rfl rfl (by kernel_rfl) ?_); intro m' e' l' ob h; simp only [zE0, zE1, zE2, zE3, zE4, zE5, evp, evx, ev1, evLoad, evStore, evBin, isBoolK, forall_const, z38, tb, Nat.reduceAdd, Nat.reduceSub, Nat.reduceMul, Nat.reduceEqDiff, Nat.reduceLeDiff, Nat.reduceLT, Nat.reduceBEq, Nat.reduceBNe, ↓reduceIte, reduceIte, spPr, aboveS] at h; obtain ⟨rfl, rfl, rfl, rfl⟩ := h; refine ⟨?_, ?_⟩)
    | ((with_reducible refine Ob.mk ?_); first | exact trivial | (intros; omega) | ((repeat' first | apply And.intro | (intro hg; have hg' := hg; try simp only [zH] at hg')) <;> first | assumption | omega | (simp only [zH]; omega)))
  rw [hl2, cpL_pad hxl (by omega)]
  generalize hj2 : abv odd q = j at *
  generalize hoo : xs.take j ++ List.replicate (many.length - j) 0 = out at *
  have hol := wfL_len hw0
  repeat' first
    | with_reducible first | refine awp_seq ?_ | refine awp_block ?_ | refine next_then ?_ | refine next_block ?_ | refine exit_then ?_ | refine ret_then ?_ | refine ret_block ?_ | refine exit_here ?_ | refine awp_exit ?_ | refine awp_ret ?_ | refine awp_skip ?_ | refine awp_label ?_ | refine next_noGoto ?_ | refine ret_noGoto ?_ | refine exit_noGoto ?_ | refine awp_scope ?_
    | ((with_reducible refine exit_past ?_ ?_); exact rfl)
    | ((with_reducible refine isCond ?_); refine awp_condO rfl ?_ ?_ <;> intro hb <;> (try simp only [zH] at hb))
    | ((with_reducible refine isRegS 7 ?_ ?_); (· exact rfl); (with_reducible refine isRegS 8 ?_ ?_); (· exact rfl); (first | refine awp_textM htb hmz spPr_ok (fun _ => false) rfl rfl ?_ | refine awp_drawM hmo htb hmz spPr_ok (fun _ => false) rfl rfl (by kernel_rfl) ?_); intro m' e' l' ob h; simp only [zE0, zE1, zE2, zE3, zE4, zE5, evp, evx, ev1, evLoad, evStore, evBin, isBoolK, forall_const, z38, tb, Nat.reduceAdd, Nat.reduceSub, Nat.reduceMul, Nat.reduceEqDiff, Nat.reduceLeDiff, Nat.reduceLT, Nat.reduceBEq, Nat.reduceBNe, ↓reduceIte, reduceIte, spPr, aboveS] at h; obtain ⟨rfl, rfl, rfl, rfl⟩ := h; refine ⟨?_, ?_⟩)
    | ((with_reducible refine Ob.mk ?_); first | exact trivial | (intros; omega) | ((repeat' first | apply And.intro | (intro hg; have hg' := hg; try simp only [zH] at hg')) <;> first | assumption | omega | (simp only [zH]; omega)))
  · refine awp_fzN 12 (.roI out) (by simp only [lkr_cons, lkr_nil, fzE, fzA, fzR, fzB, set1, nbeq, Nat.reduceEqDiff, decide_true, decide_false, ↓reduceIte, reduceIte, cond_true, cond_false, List.take_length, Option.some.injEq]; rfl) (by first | exact rfl | (refine ⟨?_, rfl⟩; first | rfl | (intros; rfl))) (by simp only [lkr_cons, lkr_nil, fzE, fzA, fzR, fzB, set1, nbeq, Nat.reduceEqDiff, decide_true, decide_false, ↓reduceIte, reduceIte, cond_true, cond_false, List.take_length, Option.some.injEq]; rfl) (by simp only [lkr_cons, lkr_nil, fzE, fzA, fzR, fzB, set1, nbeq, Nat.reduceEqDiff, decide_true, decide_false, ↓reduceIte, reduceIte, cond_true, cond_false, List.take_length, Option.some.injEq]; rfl) ?_
    repeat' first
      | with_reducible first | refine awp_seq ?_ | refine awp_block ?_ | refine next_then ?_ | refine next_block ?_ | refine exit_then ?_ | refine ret_then ?_ | refine ret_block ?_ | refine exit_here ?_ | refine awp_exit ?_ | refine awp_ret ?_ | refine awp_skip ?_ | refine awp_label ?_ | refine next_noGoto ?_ | refine ret_noGoto ?_ | refine exit_noGoto ?_ | refine awp_scope ?_
      | ((with_reducible refine exit_past ?_ ?_); exact rfl)
      | ((with_reducible refine isCond ?_); refine awp_condO rfl ?_ ?_ <;> intro hb <;> (try simp only [zH] at hb))
      | ((with_reducible refine isReg ?_); (first | refine awp_textM htb hmz spPr_ok (fun _ => false) rfl rfl ?_ | refine awp_drawM hmo htb hmz spPr_ok (fun _ => false) rfl rfl (by kernel_rfl) ?_); intro m' e' l' ob h; simp only [zE0, zE1, zE2, zE3, zE4, zE5, evp, evx, ev1, evLoad, evStore, evBin, isBoolK, forall_const, z38, tb, Nat.reduceAdd, Nat.reduceSub, Nat.reduceMul, Nat.reduceEqDiff, Nat.reduceLeDiff, Nat.reduceLT, Nat.reduceBEq, Nat.reduceBNe, ↓reduceIte, reduceIte, spPr, aboveS] at h; obtain ⟨rfl, rfl, rfl, rfl⟩ := h; refine ⟨?_, ?_⟩)
      | ((with_reducible refine Ob.mk ?_); first | exact trivial | (intros; omega) | ((repeat' first | apply And.intro | (intro hg; have hg' := hg; try simp only [zH] at hg')) <;> first | assumption | omega | (simp only [zH]; omega)))
    refine fin_ret rfl rfl (spec_flat rfl ?_ rfl)
    rw [hpv, if_pos hb, deM_low hw0]
    rfl
  have hX : PI many (progV odd many (nvl many xs) q) j out := by
    refine ⟨hw0, fun t ht => ?_, by rw [hpv, if_neg hb]⟩
    rw [← hoo, List.getD_eq_getElem?_getD, List.getElem?_append_right (by rw [List.length_take]; omega), List.getElem?_replicate]
    split <;> rfl
  generalize progV odd many (nvl many xs) q = X at *
  repeat' first
    | with_reducible first | refine awp_seq ?_ | refine awp_block ?_ | refine next_then ?_ | refine next_block ?_ | refine exit_then ?_ | refine ret_then ?_ | refine ret_block ?_ | refine exit_here ?_ | refine awp_exit ?_ | refine awp_ret ?_ | refine awp_skip ?_ | refine awp_label ?_ | refine next_noGoto ?_ | refine ret_noGoto ?_ | refine exit_noGoto ?_ | refine awp_scope ?_
    | ((with_reducible refine exit_past ?_ ?_); exact rfl)
    | ((with_reducible refine isCond ?_); refine awp_condO rfl ?_ ?_ <;> intro hb <;> (try simp only [zH] at hb))
    | ((with_reducible refine isRegS 9 ?_ ?_); (· exact rfl); (first | refine awp_textM htb hmz spPr_ok (fun _ => false) rfl rfl ?_ | refine awp_drawM hmo htb hmz spPr_ok (fun _ => false) rfl rfl (by kernel_rfl) ?_); intro m' e' l' ob h; simp only [zE0, zE1, zE2, zE3, zE4, zE5, evp, evx, ev1, evLoad, evStore, evBin, isBoolK, forall_const, z38, tb, Nat.reduceAdd, Nat.reduceSub, Nat.reduceMul, Nat.reduceEqDiff, Nat.reduceLeDiff, Nat.reduceLT, Nat.reduceBEq, Nat.reduceBNe, ↓reduceIte, reduceIte, spPr, aboveS] at h; obtain ⟨rfl, rfl, rfl, rfl⟩ := h; refine ⟨?_, ?_⟩)
    | ((with_reducible refine Ob.mk ?_); first | exact trivial | (intros; omega) | ((repeat' first | apply And.intro | (intro hg; have hg' := hg; try simp only [zH] at hg')) <;> first | assumption | omega | (simp only [zH]; omega)))
  refine awp_loopC (τ := PS) (fun s => s.i ≤ many.length ∧ PI many X s.i s.out) (fun s => ⟨27, [(9, .int .i64 ((s.i : Int) - 1)), (8, .own 12), (6, .own 2), (3, .rop (.agg (.cons (.roI odd) (.cons (.roI many) .nil))))],
    [(2, some (.box (.agg (.cons (.bool false) (.cons (.cst (Value.slice none 0 0)) .nil))))), (12, some (.ints s.out))], []⟩) (fun s => s.i) ⟨j, out⟩ [] ?_ ⟨by dsimp only; omega, hX⟩ ?_
  · (refine ⟨rfl, ?_, ?_⟩ <;> simp only [zE0, zE1, zE2, zE3, zE4, zE5, evp, evx, ev1, evLoad, evStore, evBin, isBoolK, forall_const, z38, tb, Nat.reduceAdd, Nat.reduceSub, Nat.reduceMul, Nat.reduceEqDiff, Nat.reduceLeDiff, Nat.reduceLT, Nat.reduceBEq, Nat.reduceBNe, ↓reduceIte, reduceIte, spPr, aboveS, zI])
  clear hX hpv hv0 hw0 hol hoo
  rintro ⟨i, out⟩ ⟨hi, hP⟩
  dsimp only at hi hP ⊢
  have hol := wfL_len hP.wf
  repeat' first
    | with_reducible first | refine awp_seq ?_ | refine awp_block ?_ | refine next_then ?_ | refine next_block ?_ | refine exit_then ?_ | refine ret_then ?_ | refine ret_block ?_ | refine exit_here ?_ | refine awp_exit ?_ | refine awp_ret ?_ | refine awp_skip ?_ | refine awp_label ?_ | refine next_noGoto ?_ | refine ret_noGoto ?_ | refine exit_noGoto ?_ | refine awp_scope ?_
    | ((with_reducible refine exit_past ?_ ?_); exact rfl)
    | ((with_reducible refine isCond ?_); refine awp_condO rfl ?_ ?_ <;> intro hb <;> (try simp only [zH] at hb))
    | ((with_reducible refine isRegS 11 ?_ ?_); (· exact rfl); (with_reducible refine isRegS 15 ?_ ?_); (· exact rfl); (first | refine awp_textM htb hmz spPr_ok (fun _ => false) rfl rfl ?_ | refine awp_drawM hmo htb hmz spPr_ok (fun _ => false) rfl rfl (by kernel_rfl) ?_); intro m' e' l' ob h; simp only [zE0, zE1, zE2, zE3, zE4, zE5, evp, evx, ev1, evLoad, evStore, evBin, isBoolK, forall_const, z38, tb, Nat.reduceAdd, Nat.reduceSub, Nat.reduceMul, Nat.reduceEqDiff, Nat.reduceLeDiff, Nat.reduceLT, Nat.reduceBEq, Nat.reduceBNe, ↓reduceIte, reduceIte, spPr, aboveS] at h; obtain ⟨rfl, rfl, rfl, rfl⟩ := h; refine ⟨?_, ?_⟩)
    | ((with_reducible refine Ob.mk ?_); first | exact trivial | (intros; omega) | ((repeat' first | apply And.intro | (intro hg; have hg' := hg; try simp only [zH] at hg')) <;> first | assumption | omega | (simp only [zH]; omega)))
  · obtain ⟨i, rfl⟩ : ∃ k, i = k + 1 := ⟨i - 1, by omega⟩
    have e : ((i + 1 : Nat) : Int) - 1 = (i : Int) := by omega
    rw [e]
    repeat' first
      | with_reducible first | refine awp_seq ?_ | refine awp_block ?_ | refine next_then ?_ | refine next_block ?_ | refine exit_then ?_ | refine ret_then ?_ | refine ret_block ?_ | refine exit_here ?_ | refine awp_exit ?_ | refine awp_ret ?_ | refine awp_skip ?_ | refine awp_label ?_ | refine next_noGoto ?_ | refine ret_noGoto ?_ | refine exit_noGoto ?_ | refine awp_scope ?_
      | ((with_reducible refine exit_past ?_ ?_); exact rfl)
      | ((with_reducible refine isCond ?_); refine awp_condO rfl ?_ ?_ <;> intro hb <;> (try simp only [zH] at hb))
      | ((with_reducible refine isRegS 12 ?_ ?_); (· exact rfl); (with_reducible refine isRegS 14 ?_ ?_); (· exact rfl); (first | refine awp_textM htb hmz spPr_ok (fun _ => false) rfl rfl ?_ | refine awp_drawM hmo htb hmz spPr_ok (fun _ => false) rfl rfl (by kernel_rfl) ?_); intro m' e' l' ob h; simp only [zE0, zE1, zE2, zE3, zE4, zE5, evp, evx, ev1, evLoad, evStore, evBin, isBoolK, forall_const, z38, tb, Nat.reduceAdd, Nat.reduceSub, Nat.reduceMul, Nat.reduceEqDiff, Nat.reduceLeDiff, Nat.reduceLT, Nat.reduceBEq, Nat.reduceBNe, ↓reduceIte, reduceIte, spPr, aboveS] at h; obtain ⟨rfl, rfl, rfl, rfl⟩ := h; refine ⟨?_, ?_⟩)
      | ((with_reducible refine Ob.mk ?_); first | exact trivial | (intros; omega) | ((repeat' first | apply And.intro | (intro hg; have hg' := hg; try simp only [zH] at hg')) <;> first | assumption | omega | (simp only [zH]; omega)))
    · obtain ⟨u1, u2⟩ := PI_up hP (by omega) hb
      have hmb := hmb i
      have hg := wfL_get hP.wf (i := i) (by omega)
      repeat' first
        | with_reducible first | refine awp_seq ?_ | refine awp_block ?_ | refine next_then ?_ | refine next_block ?_ | refine exit_then ?_ | refine ret_then ?_ | refine ret_block ?_ | refine exit_here ?_ | refine awp_exit ?_ | refine awp_ret ?_ | refine awp_skip ?_ | refine awp_label ?_ | refine next_noGoto ?_ | refine ret_noGoto ?_ | refine exit_noGoto ?_ | refine awp_scope ?_
        | ((with_reducible refine exit_past ?_ ?_); exact rfl)
        | ((with_reducible refine isCond ?_); refine awp_condO rfl ?_ ?_ <;> intro hb <;> (try simp only [zH] at hb))
        | ((with_reducible refine isRegS 13 ?_ ?_); (· exact rfl); (first | refine awp_textM htb hmz spPr_ok (fun _ => false) rfl rfl ?_ | refine awp_drawM hmo htb hmz spPr_ok (fun _ => false) rfl rfl (by kernel_rfl) ?_); intro m' e' l' ob h; simp only [zE0, zE1, zE2, zE3, zE4, zE5, evp, evx, ev1, evLoad, evStore, evBin, isBoolK, forall_const, z38, tb, Nat.reduceAdd, Nat.reduceSub, Nat.reduceMul, Nat.reduceEqDiff, Nat.reduceLeDiff, Nat.reduceLT, Nat.reduceBEq, Nat.reduceBNe, ↓reduceIte, reduceIte, spPr, aboveS] at h; obtain ⟨rfl, rfl, rfl, rfl⟩ := h; refine ⟨?_, ?_⟩)
        | ((with_reducible refine Ob.mk ?_); first | exact trivial | (intros; omega) | ((repeat' first | apply And.intro | (intro hg; have hg' := hg; try simp only [zH] at hg')) <;> first | assumption | omega | (simp only [zH]; omega)))
      refine awp_fzN 12 (.roI (out.set i (out.getD i 0 + 1))) (by simp only [lkr_cons, lkr_nil, fzE, fzA, fzR, fzB, set1, nbeq, Nat.reduceEqDiff, decide_true, decide_false, ↓reduceIte, reduceIte, cond_true, cond_false, List.take_length, Option.some.injEq]; rfl) (by first | exact rfl | (refine ⟨?_, rfl⟩; first | rfl | (intros; rfl))) (by simp only [lkr_cons, lkr_nil, fzE, fzA, fzR, fzB, set1, nbeq, Nat.reduceEqDiff, decide_true, decide_false, ↓reduceIte, reduceIte, cond_true, cond_false, List.take_length, Option.some.injEq]; rfl) (by simp only [lkr_cons, lkr_nil, fzE, fzA, fzR, fzB, set1, nbeq, Nat.reduceEqDiff, decide_true, decide_false, ↓reduceIte, reduceIte, cond_true, cond_false, List.take_length, Option.some.injEq]; rfl) ?_
      repeat' first
        | with_reducible first | refine awp_seq ?_ | refine awp_block ?_ | refine next_then ?_ | refine next_block ?_ | refine exit_then ?_ | refine ret_then ?_ | refine ret_block ?_ | refine exit_here ?_ | refine awp_exit ?_ | refine awp_ret ?_ | refine awp_skip ?_ | refine awp_label ?_ | refine next_noGoto ?_ | refine ret_noGoto ?_ | refine exit_noGoto ?_ | refine awp_scope ?_
        | ((with_reducible refine exit_past ?_ ?_); exact rfl)
        | ((with_reducible refine isCond ?_); refine awp_condO rfl ?_ ?_ <;> intro hb <;> (try simp only [zH] at hb))
        | ((with_reducible refine isReg ?_); (first | refine awp_textM htb hmz spPr_ok (fun _ => false) rfl rfl ?_ | refine awp_drawM hmo htb hmz spPr_ok (fun _ => false) rfl rfl (by kernel_rfl) ?_); intro m' e' l' ob h; simp only [zE0, zE1, zE2, zE3, zE4, zE5, evp, evx, ev1, evLoad, evStore, evBin, isBoolK, forall_const, z38, tb, Nat.reduceAdd, Nat.reduceSub, Nat.reduceMul, Nat.reduceEqDiff, Nat.reduceLeDiff, Nat.reduceLT, Nat.reduceBEq, Nat.reduceBNe, ↓reduceIte, reduceIte, spPr, aboveS] at h; obtain ⟨rfl, rfl, rfl, rfl⟩ := h; refine ⟨?_, ?_⟩)
        | ((with_reducible refine Ob.mk ?_); first | exact trivial | (intros; omega) | ((repeat' first | apply And.intro | (intro hg; have hg' := hg; try simp only [zH] at hg')) <;> first | assumption | omega | (simp only [zH]; omega)))
      refine fin_ret rfl rfl (spec_flat rfl ?_ rfl)
      rw [← u2, deM_low u1]
      rfl
    · have hD := PI_down hP (by omega) (by omega)
      repeat' first
        | with_reducible first | refine awp_seq ?_ | refine awp_block ?_ | refine next_then ?_ | refine next_block ?_ | refine exit_then ?_ | refine ret_then ?_ | refine ret_block ?_ | refine exit_here ?_ | refine awp_exit ?_ | refine awp_ret ?_ | refine awp_skip ?_ | refine awp_label ?_ | refine next_noGoto ?_ | refine ret_noGoto ?_ | refine exit_noGoto ?_ | refine awp_scope ?_
        | ((with_reducible refine exit_past ?_ ?_); exact rfl)
        | ((with_reducible refine isCond ?_); refine awp_condO rfl ?_ ?_ <;> intro hb <;> (try simp only [zH] at hb))
        | ((with_reducible refine isReg ?_); (first | refine awp_textM htb hmz spPr_ok (fun _ => false) rfl rfl ?_ | refine awp_drawM hmo htb hmz spPr_ok (fun _ => false) rfl rfl (by kernel_rfl) ?_); intro m' e' l' ob h; simp only [zE0, zE1, zE2, zE3, zE4, zE5, evp, evx, ev1, evLoad, evStore, evBin, isBoolK, forall_const, z38, tb, Nat.reduceAdd, Nat.reduceSub, Nat.reduceMul, Nat.reduceEqDiff, Nat.reduceLeDiff, Nat.reduceLT, Nat.reduceBEq, Nat.reduceBNe, ↓reduceIte, reduceIte, spPr, aboveS] at h; obtain ⟨rfl, rfl, rfl, rfl⟩ := h; refine ⟨?_, ?_⟩)
        | ((with_reducible refine Ob.mk ?_); first | exact trivial | (intros; omega) | ((repeat' first | apply And.intro | (intro hg; have hg' := hg; try simp only [zH] at hg')) <;> first | assumption | omega | (simp only [zH]; omega)))
      refine back ⟨i, out.set i 0⟩ [] ?_ ⟨by dsimp only; omega, hD⟩ (by dsimp only; omega)
      (refine ⟨rfl, ?_, ?_⟩ <;> simp only [zE0, zE1, zE2, zE3, zE4, zE5, evp, evx, ev1, evLoad, evStore, evBin, isBoolK, forall_const, z38, tb, Nat.reduceAdd, Nat.reduceSub, Nat.reduceMul, Nat.reduceEqDiff, Nat.reduceLeDiff, Nat.reduceLT, Nat.reduceBEq, Nat.reduceBNe, ↓reduceIte, reduceIte, spPr, aboveS, zI])
  have hi0 : i = 0 := by omega
  subst hi0
  repeat' first
    | with_reducible first | refine awp_seq ?_ | refine awp_block ?_ | refine next_then ?_ | refine next_block ?_ | refine exit_then ?_ | refine ret_then ?_ | refine ret_block ?_ | refine exit_here ?_ | refine awp_exit ?_ | refine awp_ret ?_ | refine awp_skip ?_ | refine awp_label ?_ | refine next_noGoto ?_ | refine ret_noGoto ?_ | refine exit_noGoto ?_ | refine awp_scope ?_
    | ((with_reducible refine exit_past ?_ ?_); exact rfl)
    | ((with_reducible refine isCond ?_); refine awp_condO rfl ?_ ?_ <;> intro hb <;> (try simp only [zH] at hb))
    | ((with_reducible refine isReg ?_); (first | refine awp_textM htb hmz spPr_ok (fun _ => false) rfl rfl ?_ | refine awp_drawM hmo htb hmz spPr_ok (fun _ => false) rfl rfl (by kernel_rfl) ?_); intro m' e' l' ob h; simp only [zE0, zE1, zE2, zE3, zE4, zE5, evp, evx, ev1, evLoad, evStore, evBin, isBoolK, forall_const, z38, tb, Nat.reduceAdd, Nat.reduceSub, Nat.reduceMul, Nat.reduceEqDiff, Nat.reduceLeDiff, Nat.reduceLT, Nat.reduceBEq, Nat.reduceBNe, ↓reduceIte, reduceIte, spPr, aboveS] at h; obtain ⟨rfl, rfl, rfl, rfl⟩ := h; refine ⟨?_, ?_⟩)
    | ((with_reducible refine Ob.mk ?_); first | exact trivial | (intros; omega) | ((repeat' first | apply And.intro | (intro hg; have hg' := hg; try simp only [zH] at hg')) <;> first | assumption | omega | (simp only [zH]; omega)))
  refine fin_ret rfl rfl (spec_imp rfl ?_ rfl)
  rw [PI_top hP, deM_top]
  exact imp_agg (imp_cons (imp_eq rfl) (imp_cons imp_nilI (imp_eq rfl)))
end Go.Proofs.Ytgminhedbeblpaa.Cal
namespace Go.Proofs.Ytgminhedbeblpaa.Cal
open Go
section
variable {P : Program} {ro : Option Nat} {N κ : Nat} {tb : Nat → Option TI}
/-- What a caller hands over and gets back, around whatever is called. -/
theorem call_frame {s : CS} {kk : List Nat} {rin : List (Nat × Option Blk)} {Q0 : GR → Prop} {Q : Exit → St → Prop} {dst : Option Nat} (hd' : ∀ d, dst = some d → d < N) (hkk : kkOK s.m kk = true) (hκ : Nat.ble κ s.m = true)
    (hrin : ∀ j B, lkr rin j = some B → j < kk.length ∧ menB (ltK kk.length) B ∧ lkr s.rs (rhoC kk s.m j) = some (renB (rhoC kk s.m) B))
    (next : ∀ g, Q0 g → kk.length ≤ g.m → Q .normal (CS.st ⟨s.m + (g.m - kk.length), putE dst (ren (rhoC kk s.m) g.val) s.env, outR kk s.m g.rs s.rs, s.ms⟩))
    {K Z : Nat → Prop} {w : World} {ν : Nat → Value} {a : Act} (hg : Good K Z N w ν s.st a) :
    ∃ Kc : Nat → Prop, GoodRs Kc Z w (fun j => ν (rhoC kk s.m j)) (ltK kk.length) (lkr rin) ∧ (∀ b, Z b → Kc b) ∧ (∀ b, Kc b → b < w.heap.size) ∧
      ∀ (y : Value) (w' : World) (Z' : Nat → Prop) (ν' : Nat → Value) (g : GR), Step Kc Z w Z' w' → (∀ k, (ν' k).oneCell' = true) → (∀ k, k < kk.length → ν' k = ν (rhoC kk s.m k)) → R Z' w' g.val ν' true [y] → men (ltK g.m) g.val = true →
        GoodRs (un Kc Z') Z' w' ν' (ltK g.m) (lkr g.rs) → (∀ b, Z' b → b < w'.heap.size) → Q0 g → kk.length ≤ g.m → Post N κ K Z w ν Q .normal (a.put dst y) w' := by
  obtain ⟨Ft, hF⟩ := id hg.rs
  have hF' : ∀ k B, lkr s.rs k = some B → k < s.m := fun k B hk => by
    have := (hF k B hk).1
    rwa [show (s.st).mu k = Nat.blt k s.m from rfl, Nat.blt_eq] at this
  let ρ := rhoC kk s.m
  have hρ : ∀ i j, ρ i = ρ j → i = j := fun i j h => rhoC_inj hkk h
  let Kc : Nat → Prop := fun b => K b ∨ ∃ k B, k ∉ kk ∧ lkr s.rs k = some B ∧ Ft k b
  have hKc : ∀ b, Kc b → b < w.heap.size := fun b hb => hb.elim (hg.kl b) fun ⟨k, B, _, hk, hb⟩ => ((hF k B hk).2.2.2.1 b hb).2
  refine ⟨Kc,
      ⟨fun j => Ft (ρ j), fun j B hj => by
        obtain ⟨r1, r2, r3⟩ := hrin j B hj
        obtain ⟨g1, g2, g3, g4, g5⟩ := hF _ _ r3
        refine ⟨by show Nat.blt j _ = true; rw [Nat.blt_eq]; exact r1, r2, sat_ren.1 g3, fun b hb => ⟨?_, (g4 b hb).2⟩, fun j' B' hne hj' => ?_⟩
        · rintro (h | ⟨k, B', hk, hkr, h⟩)
          · exact (g4 b hb).1 h
          · exact g5 k B' (fun e => hk (e ▸ (rhoC_lt r1 hkk).1)) hkr b hb h
        · obtain ⟨q1, q2, q3⟩ := hrin j' B' hj'
          exact g5 _ _ (fun e => hne (hρ _ _ e)) q3⟩,
    fun b hb => .inl (hg.zk b hb), hKc, ?_⟩
  intro y w' Z' ν' g hstep h1' hν hr' hm' ⟨Fn, hFn⟩ hzs hq hle
  let νn : Nat → Value := fun k => if k < s.m then ν k else ν' (k - s.m + kk.length)
  have hνρ : ∀ j, j < g.m → νn (ρ j) = ν' j := fun j hj => by
    show (if ρ j < s.m then _ else _) = _
    rcases Nat.lt_or_ge j kk.length with h | h
    · rw [if_pos (rhoC_lt h hkk).2, hν j h]
    · rw [show ρ j = s.m + (j - kk.length) from rhoC_ge h, if_neg (by omega)]
      congr 1; omega
  have hold : ∀ b, Kc b → w'.heap[b]? = w.heap[b]? := hstep.ext.block
  have hst : Step K Z w Z' w' := ⟨⟨hstep.ext.os, hstep.ext.tape, hstep.ext.output, hstep.ext.size, fun b hb => hold b (.inl hb)⟩, hstep.le, fun b hb => (hstep.new b hb).imp id fun h hk => h (.inl hk)⟩
  have hνold : ∀ k, ltK s.m k = true → νn k = ν k := fun k hk => by
    rw [ltK, Nat.blt_eq] at hk
    exact if_pos hk
  have hR' : R Z' w' (ren ρ g.val) νn true [y] := R_ren.2 (R_nu (fun k hk => hνρ k (by rw [ltK, Nat.blt_eq] at hk; exact hk)) hm' hr')
  have hgood : Good (un K Z') Z' N w' νn ⟨ltK (s.m + (g.m - kk.length)), lke s.env, lkr (outR kk s.m g.rs s.rs), s.ms⟩ a := by
    have hwide : ∀ k, ltK s.m k = true → ltK (s.m + (g.m - kk.length)) k = true := fun k hk => by
      simp only [ltK, Nat.blt_eq] at hk ⊢; omega
    refine ⟨hg.size, fun k => ?_, fun t => ⟨men_le hwide (hg.env t).1, R_nu hνold (hg.env t).1 (R_mono hst.le (fun b hb => hst.ext.block b (hg.zk b hb)) (hg.env t).2)⟩, ?_, fun b hb => .inr hb, fun b hb => ?_, ?_, fun k hk => hwide k (hg.ml k hk)⟩
    · show (if k < s.m then _ else _ : Value).oneCell' = true
      split
      · exact hg.one k
      · exact h1' _
    · refine ⟨fun k b => (∃ j B, ρ j = k ∧ lkr g.rs j = some B ∧ Fn j b) ∨ (k ∉ kk ∧ (∃ B, lkr s.rs k = some B) ∧ Ft k b), fun k B hk => ?_⟩
      have hcase : ∀ {k B}, lkr (outR kk s.m g.rs s.rs) k = some B → (∃ j B0, ρ j = k ∧ lkr g.rs j = some B0 ∧ B = renB ρ B0) ∨ ((∀ j B0, ρ j = k → lkr g.rs j ≠ some B0) ∧ k ∉ kk ∧ lkr s.rs k = some B) := by
        intro k B hk
        unfold lkr outR at hk
        rw [lko_app] at hk
        rcases lko_renR hρ (g := g.rs) (k := k) with ⟨j, e, x, h1, h2⟩ | ⟨h1, h2⟩
        · rw [h2] at hk
          dsimp only at hk
          cases x with
          | none => cases hk
          | some B0 =>
            simp only [Option.map_some, Option.some.injEq] at hk
            exact .inl ⟨j, B0, e, by unfold lkr; rw [h1], hk.symm⟩
        · rw [h1] at hk
          dsimp only at hk
          obtain ⟨d1, d2⟩ := lkr_dels (kk := kk) (l := s.rs) (k := k) (B := B) hk
          refine .inr ⟨fun j B0 e h => ?_, d1, d2⟩
          unfold lkr at h
          rw [h2 j e] at h; cases h
      have hnewF : ∀ {j B0}, lkr g.rs j = some B0 → ∀ b, ((∃ j' B, ρ j' = ρ j ∧ lkr g.rs j' = some B ∧ Fn j' b) ∨ (ρ j ∉ kk ∧ (∃ B, lkr s.rs (ρ j) = some B) ∧ Ft (ρ j) b)) ↔ Fn j b := by
        intro j B0 hj b
        constructor
        · rintro (⟨j', B, e, _, h⟩ | ⟨h1, ⟨B, h2⟩, _⟩)
          · rw [hρ _ _ e] at h; exact h
          · exfalso
            rcases Nat.lt_or_ge j kk.length with h | h
            · exact h1 (rhoC_lt h hkk).1
            · have := hF' _ _ h2
              rw [show ρ j = s.m + (j - kk.length) from rhoC_ge h] at this
              omega
        · exact fun h => .inl ⟨j, B0, rfl, hj, h⟩
      have holdF : ∀ {k B}, (∀ j B0, ρ j = k → lkr g.rs j ≠ some B0) → k ∉ kk → lkr s.rs k = some B → ∀ b, ((∃ j' B, ρ j' = k ∧ lkr g.rs j' = some B ∧ Fn j' b) ∨ (k ∉ kk ∧ (∃ B, lkr s.rs k = some B) ∧ Ft k b)) ↔ Ft k b := by
        intro k B h1 h2 h3 b
        constructor
        · rintro (⟨j', B, e, h, _⟩ | ⟨_, _, h⟩)
          · exact absurd h (h1 j' B e)
          · exact h
        · exact fun h => .inr ⟨h2, ⟨B, h3⟩, h⟩
      rcases hcase hk with ⟨j, B0, rfl, hj, rfl⟩ | ⟨c1, c2, c3⟩
      · obtain ⟨f1, f2, f3, f4, f5⟩ := hFn j B0 hj
        have hjm : j < g.m := by rw [ltK, Nat.blt_eq] at f1; exact f1
        have hFe := funext fun b => propext (hnewF hj b)
        refine ⟨men_rhoC hkk hle j f1, menB_renK (men_rhoC hkk hle) f2, ?_, fun b hb => ⟨?_, (f4 b ((hnewF hj b).1 hb)).2⟩, fun k' B' hne hk' b hb => ?_⟩
        · dsimp only
          rw [hFe, hνρ j hjm]
          exact sat_ren.2 (sat_nu (fun k hk => hνρ k (by rw [ltK, Nat.blt_eq] at hk; exact hk)) f2 f3)
        · have := (f4 b ((hnewF hj b).1 hb)).1
          rintro (h | h)
          · exact this (.inl (.inl h))
          · exact this (.inr h)
        · have hb := (hnewF hj b).1 hb
          rcases hcase hk' with ⟨j', B0', rfl, hj', rfl⟩ | ⟨c1, c2, c3⟩
          · exact fun h => f5 j' B0' (fun e => hne (by rw [e])) hj' b hb ((hnewF hj' b).1 h)
          · exact fun h => (f4 b hb).1 (.inl (.inr ⟨k', B', c2, c3, (holdF c1 c2 c3 b).1 h⟩))
      · obtain ⟨g1, g2, g3, g4, g5⟩ := hF k B c3
        have hFe := funext fun b => propext (holdF c1 c2 c3 b)
        have hnz : ∀ b, Ft k b → ¬ un K Z' b := fun b hb => by
          rintro (h | h)
          · exact (g4 b hb).1 h
          · rcases hstep.new b h with h2 | h2
            · exact (g4 b hb).1 (hg.zk b h2)
            · exact h2 (.inr ⟨k, B, c2, c3, hb⟩)
        refine ⟨hwide k g1, menB_le hwide g2, ?_, fun b hb => ⟨hnz b ((holdF c1 c2 c3 b).1 hb), Nat.lt_of_lt_of_le (g4 b ((holdF c1 c2 c3 b).1 hb)).2 hstep.ext.size⟩, fun k' B' hne hk' b hb => ?_⟩
        · dsimp only
          rw [hFe, hνold k g1]
          exact sat_nu hνold g2 (sat_mono hst.le (fun b hb => hst.ext.block b (hg.zk b hb)) (fun b hb => hold b (.inr ⟨k, B, c2, c3, hb⟩)) g3)
        · have hb := (holdF c1 c2 c3 b).1 hb
          rcases hcase hk' with ⟨j', B0', rfl, hj', rfl⟩ | ⟨d1, d2, d3⟩
          · exact fun h => ((hFn j' B0' hj').2.2.2.1 b ((hnewF hj' b).1 h)).1 (.inl (.inr ⟨k, B, c2, c3, hb⟩))
          · exact fun h => g5 k' B' hne d3 b hb ((holdF d1 d2 d3 b).1 h)
    · rcases hb with h | h
      · exact Nat.lt_of_lt_of_le (hg.kl b h) hst.ext.size
      · exact hzs b h
    · rw [hg.ds]
      exact List.map_congr_left fun k hk => by rw [hνold k (hg.ml k hk)]
  refine ⟨Z', νn, _, hst, fun k hk => hνold k (by rw [ltK, Nat.blt_eq]; have := Nat.le_of_ble_eq_true hκ; omega), ?_, next g hq hle⟩
  have := Good.setd hgood hd' hR' (men_renK (men_rhoC hkk hle) hm')
  rw [show CS.st ⟨s.m + (g.m - kk.length), putE dst (ren (rhoC kk s.m) g.val) s.env, outR kk s.m g.rs s.rs, s.ms⟩ = ⟨ltK (s.m + (g.m - kk.length)), lke (putE dst (ren (rhoC kk s.m) g.val) s.env), lkr (outR kk s.m g.rs s.rs), s.ms⟩ from rfl, putE_lke]
  exact this
/-- What a call of yield comes to: the marker of its loop lies under key 0. -/
def YCall (P : Program) (args : List AV) (rin : List (Nat × Option Blk)) (κ : Nat) (Q : GR → Prop) : Prop :=
  ∀ (n : Nat) (K Z : Nat → Prop) (ν : Nat → Value) (w : World) (vals : Array Value) (l : Nat), (∀ k, (ν k).oneCell' = true) → R Z w (mkL args) ν true vals.toList → GoodRs K Z w ν (ltK κ) (lkr rin) → (∀ b, Z b → K b) → (∀ b, K b → b < w.heap.size) → ν 0 = .map (some l) →
    ∃ (f : FuncId) (tmps : Array Value) (assign body : Code), (Instr.yield l vals).run P w = .ok (.round l f tmps assign body) w ∧ RoundIn (FF none) n P l f tmps assign body w fun e w' => ∃ (y : Value) (Z' : Nat → Prop) (ν' : Nat → Value) (g : GR),
      e = .returned y ∧ Step K Z w Z' w' ∧ (∀ k, (ν' k).oneCell' = true) ∧ (∀ k, k < κ → ν' k = ν k) ∧ R Z' w' g.val ν' true [y] ∧ men (ltK g.m) g.val = true ∧ GoodRs (un K Z') Z' w' ν' (ltK g.m) (lkr g.rs) ∧ (∀ b, Z' b → b < w'.heap.size) ∧ Q g ∧ κ ≤ g.m
theorem awpL_yield {o : Oper} {x : Operand} {xs : List Operand} {ts : Array TypeId} {ky m : Nat} {env : List (Nat × AV)} {l : List (Nat × Option Blk)} {ms : List Nat} (kk : List Nat) {args : List AV} {rin : List (Nat × Option Blk)} {Q0 : GR → Prop} {Q : Exit → St → Prop}
    (hS : YCall P args rin kk.length Q0)
    (ho : o.op = .call ⟨.value x, xs.toArray, ts⟩) (hgd : o.guard.isNone = true) (hd : dstOK N [o] = true) (hf : opv (lke env) x = .yld ky) (hky : rhoC kk m 0 = ky)
    (hargs : ofL (opv (lke env)) xs = ren (rhoC kk m) (mkL args)) (hkk : kkOK m kk = true) (hκ : Nat.ble κ m = true)
    (hrin : rinR kk m l rin)
    (next : ∀ gm gv gr, Q0 ⟨gm, gv, gr⟩ → ∀ m' e' l', (m + (gm - kk.length) = m' ∧ putE o.dst (ren (rhoC kk m) gv) env = e' ∧ outR kk m gr l = l') → Q .normal (CS.st ⟨m', e', l', ms⟩)) : awpL P ro N κ [o] (CS.st ⟨m, env, l, ms⟩) Q := by
  intro n K Z ν w a hg
  have hw : Region.wanted o (yielded #[] a.tmps) = true := wanted_none hgd _
  simp only [wpListIn, hw, if_true]
  have hev : ∀ y : Operand, R Z w (opv (lke env) y) ν true [a.eval y] ∧ men (ltK m) (opv (lke env) y) = true := fun y => ⟨opv_R hg y, opv_men hg y⟩
  have rf := (hev x).1
  rw [hf] at rf
  obtain ⟨lp, hlp, ecv⟩ := rf
  have ecv := one1 ecv
  have hargs2 : R Z w (ofL (opv (lke env)) xs) ν true (xs.map a.eval) ∧ men (ltK m) (ofL (opv (lke env)) xs) = true := ofL_ok xs fun y _ => hev y
  have hall := hargs2.1
  rw [hargs] at hall
  have hall := R_ren.1 hall
  have hd' : ∀ d, o.dst = some d → d < N := fun d hd2 => by
    simp [dstOK, hd2] at hd; exact hd
  obtain ⟨Kc, h1, h2, h3, h4⟩ := call_frame (s := ⟨m, env, l, ms⟩) (kk := kk) (Q := Q) hd' hkk hκ (fun j B hj => by
    obtain ⟨h1, h2, h3⟩ := rinR_mem hrin (mem_keysOf hj).2
    rw [Nat.blt_eq] at h1
    exact ⟨h1, h2, h3⟩) (fun g hg hle => next g.m g.val g.rs hg _ _ _ ⟨rfl, rfl, rfl⟩) hg
  obtain ⟨f, tmps, assign, body, hrun, hround⟩ := hS (n - 1) Kc Z (fun j => ν (rhoC kk m j)) w (xs.map a.eval).toArray lp (fun j => hg.one _) (by exact hall) h1 h2 h3 (by show ν (rhoC kk m 0) = _; rw [hky]; exact hlp)
  have hsem : (o.semAt (FF ro).round a.eval).run P w = .ok (.round lp f tmps assign body) w := by
    rw [semAt_plain (by rw [ho]; intro c hc; cases hc)]
    simp [execOp, ho, resolve, ecv, Deferred.ofValue, invoke, hrun, Sem.run_bind, Result.andThen, Sem.run]
  refine ⟨fun f hf => trivial, ?_⟩
  rw [hsem]
  refine ⟨(fun h => by cases h), RoundIn.mono hround ?_⟩
  rintro e w' ⟨y, Z', ν', g, rfl, c1, c2, c3, c4, c5, c6, c7, c8, c9⟩
  exact h4 y w' Z' ν' g c1 c2 c3 c4 c5 c6 c7 c8 c9
end
end Go.Proofs.Ytgminhedbeblpaa.Cal
