/- Own texts of the proof, merged, in order. -/
import Derived.Deep.Slices
import Derived.Lib.SmallJoins
import Derived.ProofKit
import Derived.OpenShut
import Derived.ShutString
import Derived.ChangeOld
import Derived.Below
import Derived.SizedLaws
import Derived.Test.YtlckljphakkomaaS28
set_option linter.unusedVariables false
set_option linter.unusedSimpArgs false
namespace Go.Proofs.Ytlckljphakkomaa.Cal
open Go Pl
theorem kp_nodup {k : List Bool} {n : Nat} : (kp k n).Nodup := List.Pairwise.sublist List.filter_sublist List.nodup_range
theorem kp_idx {k : List Bool} {n i : Nat} (h : i < (kp k n).length) : (kp k ((kp k n).getD i 0)).length = i := by
  obtain ⟨h1, h2⟩ := kp_at h
  obtain ⟨h3, h4⟩ := kp_get h2 h1
  have hn := kp_nodup (k := k) (n := n)
  have e1 : (kp k n)[(kp k ((kp k n).getD i 0)).length] = (kp k n).getD i 0 := by
    rw [List.getD_eq_getElem?_getD, List.getElem?_eq_getElem h3] at h4
    exact h4
  have e2 : (kp k n)[i] = (kp k n).getD i 0 := by rw [List.getD_eq_getElem?_getD, List.getElem?_eq_getElem h]; rfl
  rcases Nat.lt_trichotomy (kp k ((kp k n).getD i 0)).length i with h5 | h5 | h5
  · exact absurd (e1.trans e2.symm) (List.pairwise_iff_getElem.1 hn _ _ h3 h h5)
  · exact h5
  · exact absurd (e2.trans e1.symm) (List.pairwise_iff_getElem.1 hn _ _ h h3 h5)
/-- The numbers of the first i kept positions, and 0. -/
def nbL (k : List Bool) (n i : Nat) : List Int := (List.range n).map fun v => if k.getD v false = true ∧ (kp k v).length < i then ((kp k v).length : Int) else 0
theorem nbL_len {k : List Bool} {n i : Nat} : (nbL k n i).length = n := by simp [nbL]
theorem nbL_zero {k : List Bool} {n : Nat} : nbL k n 0 = List.replicate n 0 := by
  refine List.ext_getElem (by simp [nbL]) fun j h1 h2 => ?_
  simp [nbL]
theorem nbL_next {k : List Bool} {n i : Nat} (h : i < (kp k n).length) : (nbL k n i).set ((kp k n).getD i 0) (i : Int) = nbL k n (i + 1) := by
  obtain ⟨h1, h2⟩ := kp_at h
  have h3 := kp_idx h
  refine List.ext_getElem (by rw [List.length_set, nbL_len, nbL_len]) fun j q1 q2 => ?_
  rw [List.getElem_set]
  rw [nbL_len] at q2
  simp only [nbL, List.getElem_map, List.getElem_range]
  by_cases e : (kp k n).getD i 0 = j
  · rw [if_pos e, if_pos ⟨by rw [← e]; exact h2, by rw [← e, h3]; omega⟩, ← e, h3]
  · rw [if_neg e]
    by_cases hk : k.getD j false = true
    · have hne : (kp k j).length ≠ i := fun h => e (by rw [← h]; exact (kp_get hk q2).2)
      by_cases hl : (kp k j).length < i
      · rw [if_pos ⟨hk, hl⟩, if_pos ⟨hk, by omega⟩]
      · rw [if_neg (fun h => hl h.2), if_neg (fun h => by have := h.2; omega)]
    · rw [if_neg (fun h => hk h.1), if_neg (fun h => hk h.1)]
theorem nbL_all {k : List Bool} {n v : Nat} (hv : v < n) (hk : k.getD v false = true) : (nbL k n (kp k n).length).getD v 0 = nmF k v := by
  have h := (kp_get hk hv).1
  unfold nmF
  rw [if_pos hk]
  simp [nbL, List.getD_eq_getElem?_getD, hv]
  intro h2
  have := h2 (by simpa [List.getD_eq_getElem?_getD] using hk)
  omega
theorem kpm_next {k : List Bool} {f : Nat → Int} {i : Nat} (h : k.getD i false = true) : (kp k (i + 1)).map f = (kp k i).map f ++ [f i] := by rw [kp_succ, if_pos h, List.map_append]; rfl
theorem kpm_keep {k : List Bool} {f : Nat → Int} {i : Nat} (h : k.getD i false = false) : (kp k (i + 1)).map f = (kp k i).map f := by rw [kp_succ, if_neg (by rw [h]; decide)]
noncomputable def spZq : Nat → Option Spec
  | 8 => some fewS
  | 9 => some awk13S
  | 11 => some validS
  | 12 => some easyS
  | 13 => some solS
  | 18 => some partS
  | _ => none
theorem spZq_ok : SpOK Try.prog spZq := by
  intro f S h
  unfold spZq at h
  split at h
  · cases h; exact few_ok
  · cases h; exact awk13_ok
  · cases h; exact valid12_ok
  · cases h; exact easy_ok
  · cases h; exact solution_ok
  · cases h; exact part13_ok
  · cases h
def gkS : Spec
  | [.agg (.cons (.roI o) (.cons (.roI p) (.cons (.roII x) .nil))), .roB _] => some ⟨True, .bool true, none⟩
  | _ => none
set_option maxRecDepth 4000 in
set_option maxHeartbeats 4000000 in
theorem zpl_ok : FSpec Try.prog 5 gkS := by
  refine fspec_of htb (fn := Try.f5) (by kernel_rfl) (by kernel_rfl) rfl (fun args r hS => ?_) (fun args r hS hob hl => ?_)
  · unfold gkS at hS; split at hS <;> first | (cases hS; done) | (cases hS; exact Nat.le_of_ble_eq_true rfl)
  unfold gkS at hS
  split at hS
  case h_2 => cases hS
  rename_i o p x k
  simp only [Option.some.injEq] at hS
  subst hS
  simp only [lenP, mkL, lim] at hl
  dsimp only at hob
  repeat' first
    | with_reducible first | refine awp_seq ?_ | refine awp_block ?_ | refine next_then ?_ | refine next_block ?_ | refine exit_then ?_ | refine ret_then ?_ | refine ret_block ?_ | refine exit_here ?_ | refine awp_exit ?_ | refine awp_ret ?_ | refine awp_skip ?_ | refine awp_label ?_ | refine next_noGoto ?_ | refine ret_noGoto ?_ | refine exit_noGoto ?_ | refine awp_scope ?_
    | ((with_reducible refine exit_past ?_ ?_); exact rfl)
    | ((with_reducible refine isCond ?_); refine awp_condO rfl ?_ ?_ <;> intro hb <;> (try simp only [zH] at hb))
    | ((with_reducible refine isRegS 3 ?_ ?_); (· exact rfl); (first | refine awp_textM htb hmz spZq_ok (fun _ => false) rfl rfl ?_ | refine awp_drawM hmo htb hmz spZq_ok (fun _ => false) rfl rfl (by kernel_rfl) ?_); intro m' e' l' ob h; simp only [zE0, zE1, zE2, zE3, zE4, zE5, evp, evx, ev1, evLoad, evStore, evBin, isBoolK, forall_const, z38, tb, Nat.reduceAdd, Nat.reduceSub, Nat.reduceMul, Nat.reduceEqDiff, Nat.reduceLeDiff, Nat.reduceLT, Nat.reduceBEq, Nat.reduceBNe, ↓reduceIte, reduceIte, spZq, fewS, awk13S, validS, easyS, solS, partS, PartR.av, gmA] at h; obtain ⟨rfl, rfl, rfl, rfl⟩ := h; refine ⟨?_, ?_⟩)
    | ((with_reducible refine Ob.mk ?_); first | exact trivial | (intros; omega) | ((repeat' first | apply And.intro | (intro hg; have hg' := hg; try simp only [zH] at hg')) <;> first | assumption | omega | (simp only [zH]; omega)))
  · refine fin_ret rfl rfl (spec_flat rfl ?_ rfl)
    rfl
  have hfew : few 60 300 ⟨o, p, x⟩ = true := by
    cases h : few 60 300 ⟨o, p, x⟩ with
    | true => rfl
    | false => rw [h] at hb; simp at hb
  unfold few at hfew
  simp only [Bool.not_eq_true', Bool.not_eq_false', Bool.and_eq_true, Bool.or_eq_false_iff, decide_eq_false_iff_not] at hfew
  have ho60 : o.length ≤ 60 := by have := hfew.1.1.1; omega
  have hp60 : p.length ≤ 60 := by have := hfew.1.1.2; omega
  clear hfew hb
  refine awp_cut ([_, _]) ([_, _, _, _, _, _]) rfl rfl ?_
  refine awpL_text htb hmz spZq_ok (fun _ => false) rfl rfl rfl ?_; intro m' e' l' ob h; simp only [zE0, zE1, zE2, zE3, zE4, zE5, evp, evx, ev1, evLoad, evStore, evBin, isBoolK, forall_const, z38, tb, Nat.reduceAdd, Nat.reduceSub, Nat.reduceMul, Nat.reduceEqDiff, Nat.reduceLeDiff, Nat.reduceLT, Nat.reduceBEq, Nat.reduceBNe, ↓reduceIte, reduceIte, spZq, fewS, awk13S, validS, easyS, solS, partS, PartR.av, gmA] at h; obtain ⟨rfl, rfl, rfl, rfl⟩ := h; refine ⟨?_, next_then ?_⟩
  · first | ((with_reducible refine Ob.mk ?_); first | exact trivial | (intros; omega) | ((repeat' first | apply And.intro | (intro hg; have hg' := hg; try simp only [zH] at hg')) <;> first | (with_reducible exact True.intro) | assumption | omega | (simp only [zH]; omega))) | skip
  refine awpL_callG ([]) (zpart_fg) rfl rfl rfl rfl rfl rfl rfl rfl rfl (by simp only [rinR, rhoC, zE0, zE1, zE2, zE3, zE4, zE5, evp, evx, ev1, evLoad, evStore, evBin, isBoolK, forall_const, z38, tb, Nat.reduceAdd, Nat.reduceSub, Nat.reduceMul, Nat.reduceEqDiff, Nat.reduceLeDiff, Nat.reduceLT, Nat.reduceBEq, Nat.reduceBNe, ↓reduceIte, reduceIte, spZq, fewS, awk13S, validS, easyS, solS, partS, PartR.av, gmA]) ?_; intro gm gv gr hq m' e' l' h; obtain ⟨W, C, e, hZ, hq⟩ := hq; simp only [GR.mk.injEq] at hq; obtain ⟨rfl, rfl, rfl⟩ := hq; simp only [rhoC, outR, renR, dels, zE0, zE1, zE2, zE3, zE4, zE5, evp, evx, ev1, evLoad, evStore, evBin, isBoolK, forall_const, z38, tb, Nat.reduceAdd, Nat.reduceSub, Nat.reduceMul, Nat.reduceEqDiff, Nat.reduceLeDiff, Nat.reduceLT, Nat.reduceBEq, Nat.reduceBNe, ↓reduceIte, reduceIte, spZq, fewS, awk13S, validS, easyS, solS, partS, PartR.av, gmA] at h; obtain ⟨rfl, rfl, rfl⟩ := h; refine next_then ?_
  refine awpL_text htb hmz spZq_ok (fun _ => false) rfl rfl rfl ?_; intro m' e' l' ob h; simp only [zE0, zE1, zE2, zE3, zE4, zE5, evp, evx, ev1, evLoad, evStore, evBin, isBoolK, forall_const, z38, tb, Nat.reduceAdd, Nat.reduceSub, Nat.reduceMul, Nat.reduceEqDiff, Nat.reduceLeDiff, Nat.reduceLT, Nat.reduceBEq, Nat.reduceBNe, ↓reduceIte, reduceIte, spZq, fewS, awk13S, validS, easyS, solS, partS, PartR.av, gmA] at h; obtain ⟨rfl, rfl, rfl, rfl⟩ := h; refine ⟨?_, ?_⟩
  · first | ((with_reducible refine Ob.mk ?_); first | exact trivial | (intros; omega) | ((repeat' first | apply And.intro | (intro hg; have hg' := hg; try simp only [zH] at hg')) <;> first | (with_reducible exact True.intro) | assumption | omega | (simp only [zH]; omega))) | skip
  refine next_then (awp_seq ?_)
  rcases hZ with ⟨hv, rfl, rfl, rfl⟩ | ⟨hv, ⟨hk, rfl, rfl, rfl⟩ | ⟨hk, ⟨hn, rfl, rfl, rfl⟩ | ⟨hn, ⟨rfl, hWl, hCl, S⟩ | ⟨rfl, rfl, rfl, h16, h2⟩⟩⟩⟩
  · repeat' first
      | with_reducible first | refine awp_seq ?_ | refine awp_block ?_ | refine next_then ?_ | refine next_block ?_ | refine exit_then ?_ | refine ret_then ?_ | refine ret_block ?_ | refine exit_here ?_ | refine awp_exit ?_ | refine awp_ret ?_ | refine awp_skip ?_ | refine awp_label ?_ | refine next_noGoto ?_ | refine ret_noGoto ?_ | refine exit_noGoto ?_ | refine awp_scope ?_
      | ((with_reducible refine exit_past ?_ ?_); exact rfl)
      | ((with_reducible refine isCond ?_); refine awp_condO rfl ?_ ?_ <;> intro hb <;> (try simp only [zH] at hb))
      | ((with_reducible refine isRegS 5 ?_ ?_); (· exact rfl); (with_reducible refine isRegS 6 ?_ ?_); (· exact rfl); (first | refine awp_textM htb hmz spZq_ok (fun _ => false) rfl rfl ?_ | refine awp_drawM hmo htb hmz spZq_ok (fun _ => false) rfl rfl (by kernel_rfl) ?_); intro m' e' l' ob h; simp only [zE0, zE1, zE2, zE3, zE4, zE5, evp, evx, ev1, evLoad, evStore, evBin, isBoolK, forall_const, z38, tb, Nat.reduceAdd, Nat.reduceSub, Nat.reduceMul, Nat.reduceEqDiff, Nat.reduceLeDiff, Nat.reduceLT, Nat.reduceBEq, Nat.reduceBNe, ↓reduceIte, reduceIte, spZq, fewS, awk13S, validS, easyS, solS, partS, PartR.av, gmA] at h; obtain ⟨rfl, rfl, rfl, rfl⟩ := h; refine ⟨?_, ?_⟩)
      | ((with_reducible refine Ob.mk ?_); first | exact trivial | (intros; omega) | ((repeat' first | apply And.intro | (intro hg; have hg' := hg; try simp only [zH] at hg')) <;> first | assumption | omega | (simp only [zH]; omega)))
    · repeat' first
        | with_reducible first | refine awp_seq ?_ | refine awp_block ?_ | refine next_then ?_ | refine next_block ?_ | refine exit_then ?_ | refine ret_then ?_ | refine ret_block ?_ | refine exit_here ?_ | refine awp_exit ?_ | refine awp_ret ?_ | refine awp_skip ?_ | refine awp_label ?_ | refine next_noGoto ?_ | refine ret_noGoto ?_ | refine exit_noGoto ?_ | refine awp_scope ?_
        | ((with_reducible refine exit_past ?_ ?_); exact rfl)
        | ((with_reducible refine isCond ?_); refine awp_condO rfl ?_ ?_ <;> intro hb <;> (try simp only [zH] at hb))
        | ((with_reducible refine isReg ?_); (first | refine awp_textM htb hmz spZq_ok (fun _ => false) rfl rfl ?_ | refine awp_drawM hmo htb hmz spZq_ok (fun _ => false) rfl rfl (by kernel_rfl) ?_); intro m' e' l' ob h; simp only [zE0, zE1, zE2, zE3, zE4, zE5, evp, evx, ev1, evLoad, evStore, evBin, isBoolK, forall_const, z38, tb, Nat.reduceAdd, Nat.reduceSub, Nat.reduceMul, Nat.reduceEqDiff, Nat.reduceLeDiff, Nat.reduceLT, Nat.reduceBEq, Nat.reduceBNe, ↓reduceIte, reduceIte, spZq, fewS, awk13S, validS, easyS, solS, partS, PartR.av, gmA] at h; obtain ⟨rfl, rfl, rfl, rfl⟩ := h; refine ⟨?_, ?_⟩)
        | ((with_reducible refine Ob.mk ?_); first | exact trivial | (intros; omega) | ((repeat' first | apply And.intro | (intro hg; have hg' := hg; try simp only [zH] at hg')) <;> first | assumption | omega | (simp only [zH]; omega)))
      refine fin_ret rfl rfl (spec_flat rfl ?_ rfl)
      rfl
    rw [hv] at hb; cases hb
  · have ep := part_e2 (g := ⟨o, p, x⟩) (k := k) hk
    repeat' first
      | with_reducible first | refine awp_seq ?_ | refine awp_block ?_ | refine next_then ?_ | refine next_block ?_ | refine exit_then ?_ | refine ret_then ?_ | refine ret_block ?_ | refine exit_here ?_ | refine awp_exit ?_ | refine awp_ret ?_ | refine awp_skip ?_ | refine awp_label ?_ | refine next_noGoto ?_ | refine ret_noGoto ?_ | refine exit_noGoto ?_ | refine awp_scope ?_
      | ((with_reducible refine exit_past ?_ ?_); exact rfl)
      | ((with_reducible refine isCond ?_); refine awp_condO rfl ?_ ?_ <;> intro hb <;> (try simp only [zH] at hb))
      | ((with_reducible refine isRegS 5 ?_ ?_); (· exact rfl); (with_reducible refine isRegS 7 ?_ ?_); (· exact rfl); (first | refine awp_textM htb hmz spZq_ok (fun _ => false) rfl rfl ?_ | refine awp_drawM hmo htb hmz spZq_ok (fun _ => false) rfl rfl (by kernel_rfl) ?_); intro m' e' l' ob h; simp only [zE0, zE1, zE2, zE3, zE4, zE5, evp, evx, ev1, evLoad, evStore, evBin, isBoolK, forall_const, z38, tb, Nat.reduceAdd, Nat.reduceSub, Nat.reduceMul, Nat.reduceEqDiff, Nat.reduceLeDiff, Nat.reduceLT, Nat.reduceBEq, Nat.reduceBNe, ↓reduceIte, reduceIte, spZq, fewS, awk13S, validS, easyS, solS, partS, PartR.av, gmA] at h; obtain ⟨rfl, rfl, rfl, rfl⟩ := h; refine ⟨?_, ?_⟩)
      | ((with_reducible refine Ob.mk ?_); first | exact trivial | (intros; omega) | ((repeat' first | apply And.intro | (intro hg; have hg' := hg; try simp only [zH] at hg')) <;> first | assumption | omega | (simp only [zH]; omega)))
    · rw [hv] at hb; cases hb
    rw [ep]
    repeat' first
      | with_reducible first | refine awp_seq ?_ | refine awp_block ?_ | refine next_then ?_ | refine next_block ?_ | refine exit_then ?_ | refine ret_then ?_ | refine ret_block ?_ | refine exit_here ?_ | refine awp_exit ?_ | refine awp_ret ?_ | refine awp_skip ?_ | refine awp_label ?_ | refine next_noGoto ?_ | refine ret_noGoto ?_ | refine exit_noGoto ?_ | refine awp_scope ?_
      | ((with_reducible refine exit_past ?_ ?_); exact rfl)
      | ((with_reducible refine isCond ?_); refine awp_condO rfl ?_ ?_ <;> intro hb <;> (try simp only [zH] at hb))
      | ((with_reducible refine isRegS 9 ?_ ?_); (· exact rfl); (first | refine awp_textM htb hmz spZq_ok (fun _ => false) rfl rfl ?_ | refine awp_drawM hmo htb hmz spZq_ok (fun _ => false) rfl rfl (by kernel_rfl) ?_); intro m' e' l' ob h; simp only [zE0, zE1, zE2, zE3, zE4, zE5, evp, evx, ev1, evLoad, evStore, evBin, isBoolK, forall_const, z38, tb, Nat.reduceAdd, Nat.reduceSub, Nat.reduceMul, Nat.reduceEqDiff, Nat.reduceLeDiff, Nat.reduceLT, Nat.reduceBEq, Nat.reduceBNe, ↓reduceIte, reduceIte, spZq, fewS, awk13S, validS, easyS, solS, partS, PartR.av, gmA] at h; obtain ⟨rfl, rfl, rfl, rfl⟩ := h; refine ⟨?_, ?_⟩)
      | ((with_reducible refine Ob.mk ?_); first | exact trivial | (intros; omega) | ((repeat' first | apply And.intro | (intro hg; have hg' := hg; try simp only [zH] at hg')) <;> first | assumption | omega | (simp only [zH]; omega)))
    · refine fin_ret rfl rfl (spec_flat rfl ?_ rfl)
      rfl
    cases hb
  · have ep := part_e3 (g := ⟨o, p, x⟩) (k := k) hk hn
    repeat' first
      | with_reducible first | refine awp_seq ?_ | refine awp_block ?_ | refine next_then ?_ | refine next_block ?_ | refine exit_then ?_ | refine ret_then ?_ | refine ret_block ?_ | refine exit_here ?_ | refine awp_exit ?_ | refine awp_ret ?_ | refine awp_skip ?_ | refine awp_label ?_ | refine next_noGoto ?_ | refine ret_noGoto ?_ | refine exit_noGoto ?_ | refine awp_scope ?_
      | ((with_reducible refine exit_past ?_ ?_); exact rfl)
      | ((with_reducible refine isCond ?_); refine awp_condO rfl ?_ ?_ <;> intro hb <;> (try simp only [zH] at hb))
      | ((with_reducible refine isRegS 5 ?_ ?_); (· exact rfl); (with_reducible refine isRegS 7 ?_ ?_); (· exact rfl); (first | refine awp_textM htb hmz spZq_ok (fun _ => false) rfl rfl ?_ | refine awp_drawM hmo htb hmz spZq_ok (fun _ => false) rfl rfl (by kernel_rfl) ?_); intro m' e' l' ob h; simp only [zE0, zE1, zE2, zE3, zE4, zE5, evp, evx, ev1, evLoad, evStore, evBin, isBoolK, forall_const, z38, tb, Nat.reduceAdd, Nat.reduceSub, Nat.reduceMul, Nat.reduceEqDiff, Nat.reduceLeDiff, Nat.reduceLT, Nat.reduceBEq, Nat.reduceBNe, ↓reduceIte, reduceIte, spZq, fewS, awk13S, validS, easyS, solS, partS, PartR.av, gmA] at h; obtain ⟨rfl, rfl, rfl, rfl⟩ := h; refine ⟨?_, ?_⟩)
      | ((with_reducible refine Ob.mk ?_); first | exact trivial | (intros; omega) | ((repeat' first | apply And.intro | (intro hg; have hg' := hg; try simp only [zH] at hg')) <;> first | assumption | omega | (simp only [zH]; omega)))
    · rw [hv] at hb; cases hb
    rw [ep]
    repeat' first
      | with_reducible first | refine awp_seq ?_ | refine awp_block ?_ | refine next_then ?_ | refine next_block ?_ | refine exit_then ?_ | refine ret_then ?_ | refine ret_block ?_ | refine exit_here ?_ | refine awp_exit ?_ | refine awp_ret ?_ | refine awp_skip ?_ | refine awp_label ?_ | refine next_noGoto ?_ | refine ret_noGoto ?_ | refine exit_noGoto ?_ | refine awp_scope ?_
      | ((with_reducible refine exit_past ?_ ?_); exact rfl)
      | ((with_reducible refine isCond ?_); refine awp_condO rfl ?_ ?_ <;> intro hb <;> (try simp only [zH] at hb))
      | ((with_reducible refine isRegS 9 ?_ ?_); (· exact rfl); (first | refine awp_textM htb hmz spZq_ok (fun _ => false) rfl rfl ?_ | refine awp_drawM hmo htb hmz spZq_ok (fun _ => false) rfl rfl (by kernel_rfl) ?_); intro m' e' l' ob h; simp only [zE0, zE1, zE2, zE3, zE4, zE5, evp, evx, ev1, evLoad, evStore, evBin, isBoolK, forall_const, z38, tb, Nat.reduceAdd, Nat.reduceSub, Nat.reduceMul, Nat.reduceEqDiff, Nat.reduceLeDiff, Nat.reduceLT, Nat.reduceBEq, Nat.reduceBNe, ↓reduceIte, reduceIte, spZq, fewS, awk13S, validS, easyS, solS, partS, PartR.av, gmA] at h; obtain ⟨rfl, rfl, rfl, rfl⟩ := h; refine ⟨?_, ?_⟩)
      | ((with_reducible refine Ob.mk ?_); first | exact trivial | (intros; omega) | ((repeat' first | apply And.intro | (intro hg; have hg' := hg; try simp only [zH] at hg')) <;> first | assumption | omega | (simp only [zH]; omega)))
    · refine fin_ret rfl rfl (spec_flat rfl ?_ rfl)
      rfl
    cases hb
  · have ep : partR ⟨o, p, x⟩ k = ⟨partG ⟨o, p, x⟩ k, (kp k o.length).map fun v : Nat => (v : Int), 0⟩ := part_e4 (g := ⟨o, p, x⟩) (k := k) hk hn
    have hV := validB_iff.1 hv
    have hko : k.length = o.length := hk
    have hne : ∀ v, v < o.length → k.getD v false = true → ptr x k v ≠ [] := fun v hv2 h3 h4 => hn (.inr ⟨v, List.mem_filter.2 ⟨List.mem_range.2 hv2, h3⟩, h4⟩)
    have hvp : validB (partG ⟨o, p, x⟩ k) = true := validB_true (part_valid hV hne)
    have hs : solB (partG ⟨o, p, x⟩ k) ((kp k k.length).map fun v => W.getD v 0) ((kp k k.length).map fun v => chF k (C.getD v 0)) = true := by rw [hko]; exact part_sol hV (Nat.le_of_eq hk) hne S
    rw [← hko] at ep
    clear hn hne
    repeat' first
      | with_reducible first | refine awp_seq ?_ | refine awp_block ?_ | refine next_then ?_ | refine next_block ?_ | refine exit_then ?_ | refine ret_then ?_ | refine ret_block ?_ | refine exit_here ?_ | refine awp_exit ?_ | refine awp_ret ?_ | refine awp_skip ?_ | refine awp_label ?_ | refine next_noGoto ?_ | refine ret_noGoto ?_ | refine exit_noGoto ?_ | refine awp_scope ?_
      | ((with_reducible refine exit_past ?_ ?_); exact rfl)
      | ((with_reducible refine isCond ?_); refine awp_condO rfl ?_ ?_ <;> intro hb <;> (try simp only [zH] at hb))
      | ((with_reducible refine isRegS 5 ?_ ?_); (· exact rfl); (with_reducible refine isRegS 7 ?_ ?_); (· exact rfl); (first | refine awp_textM htb hmz spZq_ok (fun _ => false) rfl rfl ?_ | refine awp_drawM hmo htb hmz spZq_ok (fun _ => false) rfl rfl (by kernel_rfl) ?_); intro m' e' l' ob h; simp only [zE0, zE1, zE2, zE3, zE4, zE5, evp, evx, ev1, evLoad, evStore, evBin, isBoolK, forall_const, z38, tb, Nat.reduceAdd, Nat.reduceSub, Nat.reduceMul, Nat.reduceEqDiff, Nat.reduceLeDiff, Nat.reduceLT, Nat.reduceBEq, Nat.reduceBNe, ↓reduceIte, reduceIte, spZq, fewS, awk13S, validS, easyS, solS, partS, PartR.av, gmA] at h; obtain ⟨rfl, rfl, rfl, rfl⟩ := h; refine ⟨?_, ?_⟩)
      | ((with_reducible refine Ob.mk ?_); first | exact trivial | (intros; omega) | ((repeat' first | apply And.intro | (intro hg; have hg' := hg; try simp only [zH] at hg')) <;> first | assumption | omega | (simp only [zH]; omega)))
    · rw [hv] at hb; cases hb
    rw [ep]
    dsimp only
    generalize partG ⟨o, p, x⟩ k = h at hs hvp ⊢
    obtain ⟨ho, hp, hx⟩ := h
    dsimp only
    clear ep
    repeat' first
      | with_reducible first | refine awp_seq ?_ | refine awp_block ?_ | refine next_then ?_ | refine next_block ?_ | refine exit_then ?_ | refine ret_then ?_ | refine ret_block ?_ | refine exit_here ?_ | refine awp_exit ?_ | refine awp_ret ?_ | refine awp_skip ?_ | refine awp_label ?_ | refine next_noGoto ?_ | refine ret_noGoto ?_ | refine exit_noGoto ?_ | refine awp_scope ?_
      | ((with_reducible refine exit_past ?_ ?_); exact rfl)
      | ((with_reducible refine isCond ?_); refine awp_condO rfl ?_ ?_ <;> intro hb <;> (try simp only [zH] at hb))
      | ((with_reducible refine isRegS 8 ?_ ?_); (· exact rfl); (with_reducible refine isRegS 10 ?_ ?_); (· exact rfl); (with_reducible refine isRegS 12 ?_ ?_); (· exact rfl); (first | refine awp_textM htb hmz spZq_ok (fun _ => false) rfl rfl ?_ | refine awp_drawM hmo htb hmz spZq_ok (fun _ => false) rfl rfl (by kernel_rfl) ?_); intro m' e' l' ob h; simp only [zE0, zE1, zE2, zE3, zE4, zE5, evp, evx, ev1, evLoad, evStore, evBin, isBoolK, forall_const, z38, tb, Nat.reduceAdd, Nat.reduceSub, Nat.reduceMul, Nat.reduceEqDiff, Nat.reduceLeDiff, Nat.reduceLT, Nat.reduceBEq, Nat.reduceBNe, ↓reduceIte, reduceIte, spZq, fewS, awk13S, validS, easyS, solS, partS, PartR.av, gmA] at h; obtain ⟨rfl, rfl, rfl, rfl⟩ := h; refine ⟨?_, ?_⟩)
      | ((with_reducible refine Ob.mk ?_); first | exact trivial | (intros; omega) | ((repeat' first | apply And.intro | (intro hg; have hg' := hg; try simp only [zH] at hg')) <;> first | (with_reducible exact True.intro) | assumption | omega | (simp only [zH]; omega)))
    · cases hb
    · exact absurd hb (by decide)
    · exfalso; omega
    clear hb
    have hkp := kp_len (k := k) (n := k.length)
    have hol : ((kp k k.length).map fun v : Nat => (v : Int)).length = (kp k k.length).length := List.length_map ..
    have hog : ∀ i, i < (kp k k.length).length → ((kp k k.length).map fun v : Nat => (v : Int)).getD i 0 = ((kp k k.length).getD i 0 : Nat) := fun i hi => map_getD hi
    have hkb : ∀ i, i < (kp k k.length).length → (kp k k.length).getD i 0 < k.length := fun i hi => (kp_at hi).1
    have hnx : ∀ i, i < (kp k k.length).length → (nbL k k.length i).set ((kp k k.length).getD i 0) (i : Int) = nbL k k.length (i + 1) := fun i hi => nbL_next hi
    generalize hoo : (kp k k.length).map (fun v : Nat => (v : Int)) = ol at *
    refine awp_loopC (τ := Nat) (fun i => i ≤ (kp k k.length).length) (fun i => ⟨61, [(86, .int .i64 i), (85, .int .i64 ol.length), (84, .roI ol), (10, .own 56), (7, .own 28), (5, .own 15), (1, .roB k)],
      [(56, some (.ints (nbL k k.length i))), (28, some (.box (.agg (.cons (.roI ho) (.cons (.roI hp) (.cons (.roII hx) .nil)))))), (15, some (.box (.agg (.cons (.roI W) (.cons (.roI C) .nil)))))], []⟩) (fun i => (kp k k.length).length - i) 0 [] ?_ (Nat.zero_le _) ?_
    · (refine ⟨rfl, ?_, ?_⟩ <;> simp only [zE0, zE1, zE2, zE3, zE4, zE5, evp, evx, ev1, evLoad, evStore, evBin, isBoolK, forall_const, z38, tb, Nat.reduceAdd, Nat.reduceSub, Nat.reduceMul, Nat.reduceEqDiff, Nat.reduceLeDiff, Nat.reduceLT, Nat.reduceBEq, Nat.reduceBNe, ↓reduceIte, reduceIte, spZq, fewS, awk13S, validS, easyS, solS, partS, PartR.av, gmA, zI])
      exact nbL_zero.symm
    intro i hi
    have hog1 := hog i
    have hkb1 := hkb i
    have hnx1 := hnx i
    have hnl := nbL_len (k := k) (n := k.length) (i := i)
    repeat' first
      | with_reducible first | refine awp_seq ?_ | refine awp_block ?_ | refine next_then ?_ | refine next_block ?_ | refine exit_then ?_ | refine ret_then ?_ | refine ret_block ?_ | refine exit_here ?_ | refine awp_exit ?_ | refine awp_ret ?_ | refine awp_skip ?_ | refine awp_label ?_ | refine next_noGoto ?_ | refine ret_noGoto ?_ | refine exit_noGoto ?_ | refine awp_scope ?_
      | ((with_reducible refine exit_past ?_ ?_); exact rfl)
      | ((with_reducible refine isCond ?_); refine awp_condO rfl ?_ ?_ <;> intro hb <;> (try simp only [zH] at hb))
      | ((with_reducible refine isRegS 17 ?_ ?_); (· exact rfl); (with_reducible refine isRegS 19 ?_ ?_); (· exact rfl); (first | refine awp_textM htb hmz spZq_ok (fun _ => false) rfl rfl ?_ | refine awp_drawM hmo htb hmz spZq_ok (fun _ => false) rfl rfl (by kernel_rfl) ?_); intro m' e' l' ob h; simp only [zE0, zE1, zE2, zE3, zE4, zE5, evp, evx, ev1, evLoad, evStore, evBin, isBoolK, forall_const, z38, tb, Nat.reduceAdd, Nat.reduceSub, Nat.reduceMul, Nat.reduceEqDiff, Nat.reduceLeDiff, Nat.reduceLT, Nat.reduceBEq, Nat.reduceBNe, ↓reduceIte, reduceIte, spZq, fewS, awk13S, validS, easyS, solS, partS, PartR.av, gmA] at h; obtain ⟨rfl, rfl, rfl, rfl⟩ := h; refine ⟨?_, ?_⟩)
      | ((with_reducible refine Ob.mk ?_); first | exact trivial | (intros; omega) | ((repeat' first | apply And.intro | (intro hg; have hg' := hg; try simp only [zH] at hg')) <;> first | assumption | omega | (simp only [zH]; omega)))
    · have hil : i < (kp k k.length).length := by omega
      have hog2 := hog1 hil
      have hkb2 := hkb1 hil
      have hnx2 := hnx1 hil
      rw [hog2]
      clear hog2 hog1 hkb1 hnx1 hnx hog hkb
      generalize (kp k k.length).getD i 0 = v at *
      repeat' first
        | with_reducible first | refine awp_seq ?_ | refine awp_block ?_ | refine next_then ?_ | refine next_block ?_ | refine exit_then ?_ | refine ret_then ?_ | refine ret_block ?_ | refine exit_here ?_ | refine awp_exit ?_ | refine awp_ret ?_ | refine awp_skip ?_ | refine awp_label ?_ | refine next_noGoto ?_ | refine ret_noGoto ?_ | refine exit_noGoto ?_ | refine awp_scope ?_
        | ((with_reducible refine exit_past ?_ ?_); exact rfl)
        | ((with_reducible refine isCond ?_); refine awp_condO rfl ?_ ?_ <;> intro hb <;> (try simp only [zH] at hb))
        | ((with_reducible refine isReg ?_); (first | refine awp_textM htb hmz spZq_ok (fun _ => false) rfl rfl ?_ | refine awp_drawM hmo htb hmz spZq_ok (fun _ => false) rfl rfl (by kernel_rfl) ?_); intro m' e' l' ob h; simp only [zE0, zE1, zE2, zE3, zE4, zE5, evp, evx, ev1, evLoad, evStore, evBin, isBoolK, forall_const, z38, tb, Nat.reduceAdd, Nat.reduceSub, Nat.reduceMul, Nat.reduceEqDiff, Nat.reduceLeDiff, Nat.reduceLT, Nat.reduceBEq, Nat.reduceBNe, ↓reduceIte, reduceIte, spZq, fewS, awk13S, validS, easyS, solS, partS, PartR.av, gmA] at h; obtain ⟨rfl, rfl, rfl, rfl⟩ := h; refine ⟨?_, ?_⟩)
        | ((with_reducible refine Ob.mk ?_); first | exact trivial | (intros; omega) | ((repeat' first | apply And.intro | (intro hg; have hg' := hg; try simp only [zH] at hg')) <;> first | assumption | omega | (simp only [zH]; omega)))
      refine back (i + 1) [] ?_ (by omega) (by omega)
      (refine ⟨rfl, ?_, ?_⟩ <;> simp only [zE0, zE1, zE2, zE3, zE4, zE5, evp, evx, ev1, evLoad, evStore, evBin, isBoolK, forall_const, z38, tb, Nat.reduceAdd, Nat.reduceSub, Nat.reduceMul, Nat.reduceEqDiff, Nat.reduceLeDiff, Nat.reduceLT, Nat.reduceBEq, Nat.reduceBNe, ↓reduceIte, reduceIte, spZq, fewS, awk13S, validS, easyS, solS, partS, PartR.av, gmA, zI])
      exact hnx2
    have hie : i = (kp k k.length).length := by omega
    subst hie
    have hnb : ∀ v, v < k.length → k.getD v false = true → (nbL k k.length (kp k k.length).length).getD v 0 = nmF k v := fun v h1 h2 => nbL_all h1 h2
    clear hog1 hkb1 hnx1 hnx hog hkb
    generalize hnll : nbL k k.length (kp k k.length).length = nl at *
    refine awp_fzN 56 (.roI nl) (by simp only [lkr_cons, lkr_nil, fzE, fzA, fzR, fzB, set1, nbeq, Nat.reduceEqDiff, decide_true, decide_false, ↓reduceIte, reduceIte, cond_true, cond_false, List.take_length, Option.some.injEq]; rfl) (by first | exact rfl | (refine ⟨?_, rfl⟩; first | rfl | (intros; rfl))) (by simp only [lkr_cons, lkr_nil, fzE, fzA, fzR, fzB, set1, nbeq, Nat.reduceEqDiff, decide_true, decide_false, ↓reduceIte, reduceIte, cond_true, cond_false, List.take_length, Option.some.injEq]; rfl) (by simp only [lkr_cons, lkr_nil, fzE, fzA, fzR, fzB, set1, nbeq, Nat.reduceEqDiff, decide_true, decide_false, ↓reduceIte, reduceIte, cond_true, cond_false, List.take_length, Option.some.injEq]; rfl) ?_
    repeat' first
      | with_reducible first | refine awp_seq ?_ | refine awp_block ?_ | refine next_then ?_ | refine next_block ?_ | refine exit_then ?_ | refine ret_then ?_ | refine ret_block ?_ | refine exit_here ?_ | refine awp_exit ?_ | refine awp_ret ?_ | refine awp_skip ?_ | refine awp_label ?_ | refine next_noGoto ?_ | refine ret_noGoto ?_ | refine exit_noGoto ?_ | refine awp_scope ?_
      | ((with_reducible refine exit_past ?_ ?_); exact rfl)
      | ((with_reducible refine isCond ?_); refine awp_condO rfl ?_ ?_ <;> intro hb <;> (try simp only [zH] at hb))
      | ((with_reducible refine isReg ?_); (first | refine awp_textM htb hmz spZq_ok (fun _ => false) rfl rfl ?_ | refine awp_drawM hmo htb hmz spZq_ok (fun _ => false) rfl rfl (by kernel_rfl) ?_); intro m' e' l' ob h; simp only [zE0, zE1, zE2, zE3, zE4, zE5, evp, evx, ev1, evLoad, evStore, evBin, isBoolK, forall_const, z38, tb, Nat.reduceAdd, Nat.reduceSub, Nat.reduceMul, Nat.reduceEqDiff, Nat.reduceLeDiff, Nat.reduceLT, Nat.reduceBEq, Nat.reduceBNe, ↓reduceIte, reduceIte, spZq, fewS, awk13S, validS, easyS, solS, partS, PartR.av, gmA] at h; obtain ⟨rfl, rfl, rfl, rfl⟩ := h; refine ⟨?_, ?_⟩)
      | ((with_reducible refine Ob.mk ?_); first | exact trivial | (intros; omega) | ((repeat' first | apply And.intro | (intro hg; have hg' := hg; try simp only [zH] at hg')) <;> first | assumption | omega | (simp only [zH]; omega)))
    have hoW : ∀ v, v < k.length → k.getD v false = false → W.getD v 0 = -1 := fun v h1 h2 => by
      rw [S.outW v h2]
      simp only [Gm.n]
      rw [List.getD_eq_getElem?_getD, List.getElem?_replicate, if_pos (by rw [← hko]; exact h1)]; rfl
    have hoC : ∀ v, v < k.length → k.getD v false = false → C.getD v 0 = -1 := fun v h1 h2 => by
      rw [S.outC v h2]
      simp only [Gm.n]
      rw [List.getD_eq_getElem?_getD, List.getElem?_replicate, if_pos (by rw [← hko]; exact h1)]; rfl
    have hiC : ∀ v, v < k.length → k.getD v false = true → C.getD v 0 ≠ -1 → 0 ≤ C.getD v 0 ∧ C.getD v 0 < k.length ∧ k.getD (C.getD v 0).toNat false = true := fun v h1 h2 h3 => by
      by_cases he : o.getD v 0 = W.getD v 0
      · have h4 := S.inD v h2 he
        have h5 := ((S.sol _ (S.inW v h2)).mine v h2 rfl he).2.1
        have h5 : k.getD (C.getD v 0).toNat false = true := h5
        have := lt_of_in (Nat.le_refl _) h5
        exact ⟨h4, by omega, h5⟩
      · exact absurd (S.inC v h2 he) h3
    clear S hoo hnll hol
    refine awp_nilbox 62 (.ints []) (.agg (.cons (.own 66) (.cons (.cst (.slice none 0 0)) .nil))) rfl rfl rfl (by first | exact .inl rfl | exact .inr (.inl rfl) | exact .inr (.inr (.inl rfl)) | exact .inr (.inr (.inr rfl))) (by simp only [lkr_cons, lkr_nil, fzE, fzA, fzR, fzB, set1, nbeq, Nat.reduceEqDiff, decide_true, decide_false, ↓reduceIte, reduceIte, cond_true, cond_false, List.take_length, Option.some.injEq] <;> rfl) rfl ?_
    refine awp_nilbox 62 (.ints []) (.agg (.cons (.own 66) (.cons (.own 67) .nil))) rfl rfl rfl (by first | exact .inl rfl | exact .inr (.inl rfl) | exact .inr (.inr (.inl rfl)) | exact .inr (.inr (.inr rfl))) (by simp only [lkr_cons, lkr_nil, fzE, fzA, fzR, fzB, set1, nbeq, Nat.reduceEqDiff, decide_true, decide_false, ↓reduceIte, reduceIte, cond_true, cond_false, List.take_length, Option.some.injEq] <;> rfl) rfl ?_
    refine awp_loopC (τ := Nat) (fun i => i ≤ k.length) (fun i => ⟨68, [(98, .int .i64 i), (97, .int .i64 k.length), (96, .roB k), (13, .own 62), (10, .roI nl), (7, .own 28), (5, .own 15), (1, .roB k)],
      [(66, some (.ints ((kp k i).map fun v => W.getD v 0))), (67, some (.ints ((kp k i).map fun v => chF k (C.getD v 0)))), (62, some (.box (.agg (.cons (.own 66) (.cons (.own 67) .nil))))), (28, some (.box (.agg (.cons (.roI ho) (.cons (.roI hp) (.cons (.roII hx) .nil)))))), (15, some (.box (.agg (.cons (.roI W) (.cons (.roI C) .nil)))))], []⟩) (fun i => k.length - i) 0 [] ?_ (Nat.zero_le _) ?_
    · (refine ⟨rfl, ?_, ?_⟩ <;> simp only [zE0, zE1, zE2, zE3, zE4, zE5, evp, evx, ev1, evLoad, evStore, evBin, isBoolK, forall_const, z38, tb, Nat.reduceAdd, Nat.reduceSub, Nat.reduceMul, Nat.reduceEqDiff, Nat.reduceLeDiff, Nat.reduceLT, Nat.reduceBEq, Nat.reduceBNe, ↓reduceIte, reduceIte, spZq, fewS, awk13S, validS, easyS, solS, partS, PartR.av, gmA, zI])
      exact ⟨rfl, rfl⟩
    intro i hi
    have hkpi := kp_len (k := k) (n := i)
    have hl1 : ((kp k i).map fun v => W.getD v 0).length = (kp k i).length := List.length_map ..
    have hl2 : ((kp k i).map fun v => chF k (C.getD v 0)).length = (kp k i).length := List.length_map ..
    repeat' first
      | with_reducible first | refine awp_seq ?_ | refine awp_block ?_ | refine next_then ?_ | refine next_block ?_ | refine exit_then ?_ | refine ret_then ?_ | refine ret_block ?_ | refine exit_here ?_ | refine awp_exit ?_ | refine awp_ret ?_ | refine awp_skip ?_ | refine awp_label ?_ | refine next_noGoto ?_ | refine ret_noGoto ?_ | refine exit_noGoto ?_ | refine awp_scope ?_
      | ((with_reducible refine exit_past ?_ ?_); exact rfl)
      | ((with_reducible refine isCond ?_); refine awp_condO rfl ?_ ?_ <;> intro hb <;> (try simp only [zH] at hb))
      | ((with_reducible refine isRegS 24 ?_ ?_); (· exact rfl); (with_reducible refine isRegS 33 ?_ ?_); (· exact rfl); (first | refine awp_textM htb hmz spZq_ok (fun _ => false) rfl rfl ?_ | refine awp_drawM hmo htb hmz spZq_ok (fun _ => false) rfl rfl (by kernel_rfl) ?_); intro m' e' l' ob h; simp only [zE0, zE1, zE2, zE3, zE4, zE5, evp, evx, ev1, evLoad, evStore, evBin, isBoolK, forall_const, z38, tb, Nat.reduceAdd, Nat.reduceSub, Nat.reduceMul, Nat.reduceEqDiff, Nat.reduceLeDiff, Nat.reduceLT, Nat.reduceBEq, Nat.reduceBNe, ↓reduceIte, reduceIte, spZq, fewS, awk13S, validS, easyS, solS, partS, PartR.av, gmA] at h; obtain ⟨rfl, rfl, rfl, rfl⟩ := h; refine ⟨?_, ?_⟩)
      | ((with_reducible refine Ob.mk ?_); first | exact trivial | (intros; omega) | ((repeat' first | apply And.intro | (intro hg; have hg' := hg; try simp only [zH] at hg')) <;> first | assumption | omega | (simp only [zH]; omega)))
    · have hil : i < k.length := by omega
      have hoW1 := hoW i hil
      have hoC1 := hoC i hil
      have hiC1 := hiC i hil
      repeat' first
        | with_reducible first | refine awp_seq ?_ | refine awp_block ?_ | refine next_then ?_ | refine next_block ?_ | refine exit_then ?_ | refine ret_then ?_ | refine ret_block ?_ | refine exit_here ?_ | refine awp_exit ?_ | refine awp_ret ?_ | refine awp_skip ?_ | refine awp_label ?_ | refine next_noGoto ?_ | refine ret_noGoto ?_ | refine exit_noGoto ?_ | refine awp_scope ?_
        | ((with_reducible refine exit_past ?_ ?_); exact rfl)
        | ((with_reducible refine isCond ?_); refine awp_condO rfl ?_ ?_ <;> intro hb <;> (try simp only [zH] at hb))
        | ((with_reducible refine isRegS 26 ?_ ?_); (· exact rfl); (with_reducible refine isRegS 29 ?_ ?_); (· exact rfl); (with_reducible refine isRegS 31 ?_ ?_); (· exact rfl); (first | refine awp_textM htb hmz spZq_ok (fun _ => false) rfl rfl ?_ | refine awp_drawM hmo htb hmz spZq_ok (fun _ => false) rfl rfl (by kernel_rfl) ?_); intro m' e' l' ob h; simp only [zE0, zE1, zE2, zE3, zE4, zE5, evp, evx, ev1, evLoad, evStore, evBin, isBoolK, forall_const, z38, tb, Nat.reduceAdd, Nat.reduceSub, Nat.reduceMul, Nat.reduceEqDiff, Nat.reduceLeDiff, Nat.reduceLT, Nat.reduceBEq, Nat.reduceBNe, ↓reduceIte, reduceIte, spZq, fewS, awk13S, validS, easyS, solS, partS, PartR.av, gmA] at h; obtain ⟨rfl, rfl, rfl, rfl⟩ := h; refine ⟨?_, ?_⟩)
        | ((with_reducible refine Ob.mk ?_); first | exact trivial | (intros; omega) | ((repeat' first | apply And.intro | (intro hg; have hg' := hg; try simp only [zH] at hg')) <;> first | (with_reducible exact True.intro) | assumption | omega | (simp only [zH]; omega)))
      · exfalso
        rename_i hk2
        rcases hb with h | h
        · exact h (hoW1 hk2)
        · exact h (hoC1 hk2)
      · rename_i hk2
        refine back (i + 1) [] ?_ (by omega) (by omega)
        (refine ⟨rfl, ?_, ?_⟩ <;> simp only [zE0, zE1, zE2, zE3, zE4, zE5, evp, evx, ev1, evLoad, evStore, evBin, isBoolK, forall_const, z38, tb, Nat.reduceAdd, Nat.reduceSub, Nat.reduceMul, Nat.reduceEqDiff, Nat.reduceLeDiff, Nat.reduceLT, Nat.reduceBEq, Nat.reduceBNe, ↓reduceIte, reduceIte, spZq, fewS, awk13S, validS, easyS, solS, partS, PartR.av, gmA, zI])
        exact ⟨(kpm_keep hk2).symm, (kpm_keep hk2).symm⟩
      · exfalso
        rename_i hk2 hc2
        obtain ⟨q1, q2, q3⟩ := hiC1 hk2 hc2
        rcases hb with (h | h) | h
        · omega
        · omega
        · rw [q3] at h; cases h
      · rename_i hk2 hc2
        have e1 : nl.getD (C.getD i 0).toNat 0 = chF k (C.getD i 0) := by
          rw [hnb _ (by omega) hb.2]
          unfold chF
          rw [if_neg hc2]
        rw [e1]
        repeat' first
          | with_reducible first | refine awp_seq ?_ | refine awp_block ?_ | refine next_then ?_ | refine next_block ?_ | refine exit_then ?_ | refine ret_then ?_ | refine ret_block ?_ | refine exit_here ?_ | refine awp_exit ?_ | refine awp_ret ?_ | refine awp_skip ?_ | refine awp_label ?_ | refine next_noGoto ?_ | refine ret_noGoto ?_ | refine exit_noGoto ?_ | refine awp_scope ?_
          | ((with_reducible refine exit_past ?_ ?_); exact rfl)
          | ((with_reducible refine isCond ?_); refine awp_condO rfl ?_ ?_ <;> intro hb <;> (try simp only [zH] at hb))
          | ((with_reducible refine isReg ?_); (first | refine awp_textM htb hmz spZq_ok (fun _ => false) rfl rfl ?_ | refine awp_drawM hmo htb hmz spZq_ok (fun _ => false) rfl rfl (by kernel_rfl) ?_); intro m' e' l' ob h; simp only [zE0, zE1, zE2, zE3, zE4, zE5, evp, evx, ev1, evLoad, evStore, evBin, isBoolK, forall_const, z38, tb, Nat.reduceAdd, Nat.reduceSub, Nat.reduceMul, Nat.reduceEqDiff, Nat.reduceLeDiff, Nat.reduceLT, Nat.reduceBEq, Nat.reduceBNe, ↓reduceIte, reduceIte, spZq, fewS, awk13S, validS, easyS, solS, partS, PartR.av, gmA] at h; obtain ⟨rfl, rfl, rfl, rfl⟩ := h; refine ⟨?_, ?_⟩)
          | ((with_reducible refine Ob.mk ?_); first | exact trivial | (intros; omega) | ((repeat' first | apply And.intro | (intro hg; have hg' := hg; try simp only [zH] at hg')) <;> first | assumption | omega | (simp only [zH]; omega)))
        refine back (i + 1) [(66, 112), (67, 117)] ?_ (by omega) (by omega)
        (refine ⟨rfl, ?_, ?_⟩ <;> simp only [zE0, zE1, zE2, zE3, zE4, zE5, evp, evx, ev1, evLoad, evStore, evBin, isBoolK, forall_const, z38, tb, Nat.reduceAdd, Nat.reduceSub, Nat.reduceMul, Nat.reduceEqDiff, Nat.reduceLeDiff, Nat.reduceLT, Nat.reduceBEq, Nat.reduceBNe, ↓reduceIte, reduceIte, spZq, fewS, awk13S, validS, easyS, solS, partS, PartR.av, gmA, zI])
        exact ⟨(kpm_next hk2).symm, (kpm_next hk2).symm⟩
      · rename_i hk2
        have e1 : C.getD i 0 = chF k (C.getD i 0) := by
          unfold chF
          rw [if_pos hb, hb]
        repeat' first
          | with_reducible first | refine awp_seq ?_ | refine awp_block ?_ | refine next_then ?_ | refine next_block ?_ | refine exit_then ?_ | refine ret_then ?_ | refine ret_block ?_ | refine exit_here ?_ | refine awp_exit ?_ | refine awp_ret ?_ | refine awp_skip ?_ | refine awp_label ?_ | refine next_noGoto ?_ | refine ret_noGoto ?_ | refine exit_noGoto ?_ | refine awp_scope ?_
          | ((with_reducible refine exit_past ?_ ?_); exact rfl)
          | ((with_reducible refine isCond ?_); refine awp_condO rfl ?_ ?_ <;> intro hb <;> (try simp only [zH] at hb))
          | ((with_reducible refine isReg ?_); (first | refine awp_textM htb hmz spZq_ok (fun _ => false) rfl rfl ?_ | refine awp_drawM hmo htb hmz spZq_ok (fun _ => false) rfl rfl (by kernel_rfl) ?_); intro m' e' l' ob h; simp only [zE0, zE1, zE2, zE3, zE4, zE5, evp, evx, ev1, evLoad, evStore, evBin, isBoolK, forall_const, z38, tb, Nat.reduceAdd, Nat.reduceSub, Nat.reduceMul, Nat.reduceEqDiff, Nat.reduceLeDiff, Nat.reduceLT, Nat.reduceBEq, Nat.reduceBNe, ↓reduceIte, reduceIte, spZq, fewS, awk13S, validS, easyS, solS, partS, PartR.av, gmA] at h; obtain ⟨rfl, rfl, rfl, rfl⟩ := h; refine ⟨?_, ?_⟩)
          | ((with_reducible refine Ob.mk ?_); first | exact trivial | (intros; omega) | ((repeat' first | apply And.intro | (intro hg; have hg' := hg; try simp only [zH] at hg')) <;> first | assumption | omega | (simp only [zH]; omega)))
        refine back (i + 1) [(66, 92), (67, 97)] ?_ (by omega) (by omega)
        (refine ⟨rfl, ?_, ?_⟩ <;> simp only [zE0, zE1, zE2, zE3, zE4, zE5, evp, evx, ev1, evLoad, evStore, evBin, isBoolK, forall_const, z38, tb, Nat.reduceAdd, Nat.reduceSub, Nat.reduceMul, Nat.reduceEqDiff, Nat.reduceLeDiff, Nat.reduceLT, Nat.reduceBEq, Nat.reduceBNe, ↓reduceIte, reduceIte, spZq, fewS, awk13S, validS, easyS, solS, partS, PartR.av, gmA, zI])
        refine ⟨(kpm_next hk2).symm, ?_⟩
        rw [kpm_next (f := fun v => chF k (C.getD v 0)) hk2, ← e1]
    have hie : i = k.length := by omega
    subst hie
    refine awp_fzN 66 (.roI ((kp k k.length).map fun v => W.getD v 0)) (by simp only [lkr_cons, lkr_nil, fzE, fzA, fzR, fzB, set1, nbeq, Nat.reduceEqDiff, decide_true, decide_false, ↓reduceIte, reduceIte, cond_true, cond_false, List.take_length, Option.some.injEq]; rfl) (by first | exact rfl | (refine ⟨?_, rfl⟩; first | rfl | (intros; rfl))) (by simp only [lkr_cons, lkr_nil, fzE, fzA, fzR, fzB, set1, nbeq, Nat.reduceEqDiff, decide_true, decide_false, ↓reduceIte, reduceIte, cond_true, cond_false, List.take_length, Option.some.injEq]; rfl) (by simp only [lkr_cons, lkr_nil, fzE, fzA, fzR, fzB, set1, nbeq, Nat.reduceEqDiff, decide_true, decide_false, ↓reduceIte, reduceIte, cond_true, cond_false, List.take_length, Option.some.injEq]; rfl) ?_
    refine awp_fzN 67 (.roI ((kp k k.length).map fun v => chF k (C.getD v 0))) (by simp only [lkr_cons, lkr_nil, fzE, fzA, fzR, fzB, set1, nbeq, Nat.reduceEqDiff, decide_true, decide_false, ↓reduceIte, reduceIte, cond_true, cond_false, List.take_length, Option.some.injEq]; rfl) (by first | exact rfl | (refine ⟨?_, rfl⟩; first | rfl | (intros; rfl))) (by simp only [lkr_cons, lkr_nil, fzE, fzA, fzR, fzB, set1, nbeq, Nat.reduceEqDiff, decide_true, decide_false, ↓reduceIte, reduceIte, cond_true, cond_false, List.take_length, Option.some.injEq]; rfl) (by simp only [lkr_cons, lkr_nil, fzE, fzA, fzR, fzB, set1, nbeq, Nat.reduceEqDiff, decide_true, decide_false, ↓reduceIte, reduceIte, cond_true, cond_false, List.take_length, Option.some.injEq]; rfl) ?_
    generalize (kp k k.length).map (fun v => W.getD v 0) = W' at *
    generalize (kp k k.length).map (fun v => chF k (C.getD v 0)) = C' at *
    repeat' first
      | with_reducible first | refine awp_seq ?_ | refine awp_block ?_ | refine next_then ?_ | refine next_block ?_ | refine exit_then ?_ | refine ret_then ?_ | refine ret_block ?_ | refine exit_here ?_ | refine awp_exit ?_ | refine awp_ret ?_ | refine awp_skip ?_ | refine awp_label ?_ | refine next_noGoto ?_ | refine ret_noGoto ?_ | refine exit_noGoto ?_ | refine awp_scope ?_
      | ((with_reducible refine exit_past ?_ ?_); exact rfl)
      | ((with_reducible refine isCond ?_); refine awp_condO rfl ?_ ?_ <;> intro hb <;> (try simp only [zH] at hb))
      | ((with_reducible refine isReg ?_); (first | refine awp_textM htb hmz spZq_ok (fun _ => false) rfl rfl ?_ | refine awp_drawM hmo htb hmz spZq_ok (fun _ => false) rfl rfl (by kernel_rfl) ?_); intro m' e' l' ob h; simp only [zE0, zE1, zE2, zE3, zE4, zE5, evp, evx, ev1, evLoad, evStore, evBin, isBoolK, forall_const, z38, tb, Nat.reduceAdd, Nat.reduceSub, Nat.reduceMul, Nat.reduceEqDiff, Nat.reduceLeDiff, Nat.reduceLT, Nat.reduceBEq, Nat.reduceBNe, ↓reduceIte, reduceIte, spZq, fewS, awk13S, validS, easyS, solS, partS, PartR.av, gmA] at h; obtain ⟨rfl, rfl, rfl, rfl⟩ := h; refine ⟨?_, ?_⟩)
      | ((with_reducible refine Ob.mk ?_); first | exact trivial | (intros; omega) | ((repeat' first | apply And.intro | (intro hg; have hg' := hg; try simp only [zH] at hg')) <;> first | assumption | omega | (simp only [zH]; omega)))
    refine fin_ret rfl rfl (spec_flat rfl ?_ rfl)
    show AV.bool _ = AV.bool true
    rw [hs]
  · have ep : partR ⟨o, p, x⟩ k = ⟨partG ⟨o, p, x⟩ k, (kp k o.length).map fun v : Nat => (v : Int), 0⟩ := part_e4 (g := ⟨o, p, x⟩) (k := k) hk hn
    have hpl : (partG ⟨o, p, x⟩ k).pri.length = (partG ⟨o, p, x⟩ k).own.length := by show ((kp k o.length).map _).length = ((kp k o.length).map _).length; rw [List.length_map, List.length_map]
    have hpl2 : (partG ⟨o, p, x⟩ k).pri.length ≤ 60 := by
      show ((kp k o.length).map _).length ≤ 60
      rw [List.length_map]
      exact Nat.le_trans kp_len ho60
    have he : easyB (partG ⟨o, p, x⟩ k) = false := by
      unfold easyB
      rw [decide_eq_false (Nat.not_le_of_lt h16), Bool.false_or]
      refine decide_eq_false fun h => h2 ?_
      obtain ⟨a, b, hab⟩ := ds_two h
      exact ⟨a, b, fun v hv => hab v (by rw [hpl]; exact hv)⟩
    repeat' first
      | with_reducible first | refine awp_seq ?_ | refine awp_block ?_ | refine next_then ?_ | refine next_block ?_ | refine exit_then ?_ | refine ret_then ?_ | refine ret_block ?_ | refine exit_here ?_ | refine awp_exit ?_ | refine awp_ret ?_ | refine awp_skip ?_ | refine awp_label ?_ | refine next_noGoto ?_ | refine ret_noGoto ?_ | refine exit_noGoto ?_ | refine awp_scope ?_
      | ((with_reducible refine exit_past ?_ ?_); exact rfl)
      | ((with_reducible refine isCond ?_); refine awp_condO rfl ?_ ?_ <;> intro hb <;> (try simp only [zH] at hb))
      | ((with_reducible refine isRegS 5 ?_ ?_); (· exact rfl); (with_reducible refine isRegS 7 ?_ ?_); (· exact rfl); (first | refine awp_textM htb hmz spZq_ok (fun _ => false) rfl rfl ?_ | refine awp_drawM hmo htb hmz spZq_ok (fun _ => false) rfl rfl (by kernel_rfl) ?_); intro m' e' l' ob h; simp only [zE0, zE1, zE2, zE3, zE4, zE5, evp, evx, ev1, evLoad, evStore, evBin, isBoolK, forall_const, z38, tb, Nat.reduceAdd, Nat.reduceSub, Nat.reduceMul, Nat.reduceEqDiff, Nat.reduceLeDiff, Nat.reduceLT, Nat.reduceBEq, Nat.reduceBNe, ↓reduceIte, reduceIte, spZq, fewS, awk13S, validS, easyS, solS, partS, PartR.av, gmA] at h; obtain ⟨rfl, rfl, rfl, rfl⟩ := h; refine ⟨?_, ?_⟩)
      | ((with_reducible refine Ob.mk ?_); first | exact trivial | (intros; omega) | ((repeat' first | apply And.intro | (intro hg; have hg' := hg; try simp only [zH] at hg')) <;> first | assumption | omega | (simp only [zH]; omega)))
    · rw [hv] at hb; cases hb
    rw [ep]
    dsimp only
    generalize partG ⟨o, p, x⟩ k = h at *
    obtain ⟨ho, hp, hx⟩ := h
    dsimp only at *
    repeat' first
      | with_reducible first | refine awp_seq ?_ | refine awp_block ?_ | refine next_then ?_ | refine next_block ?_ | refine exit_then ?_ | refine ret_then ?_ | refine ret_block ?_ | refine exit_here ?_ | refine awp_exit ?_ | refine awp_ret ?_ | refine awp_skip ?_ | refine awp_label ?_ | refine next_noGoto ?_ | refine ret_noGoto ?_ | refine exit_noGoto ?_ | refine awp_scope ?_
      | ((with_reducible refine exit_past ?_ ?_); exact rfl)
      | ((with_reducible refine isCond ?_); refine awp_condO rfl ?_ ?_ <;> intro hb <;> (try simp only [zH] at hb))
      | ((with_reducible refine isRegS 8 ?_ ?_); (· exact rfl); (with_reducible refine isRegS 10 ?_ ?_); (· exact rfl); (with_reducible refine isRegS 11 ?_ ?_); (· exact rfl); (first | refine awp_textM htb hmz spZq_ok (fun _ => false) rfl rfl ?_ | refine awp_drawM hmo htb hmz spZq_ok (fun _ => false) rfl rfl (by kernel_rfl) ?_); intro m' e' l' ob h; simp only [zE0, zE1, zE2, zE3, zE4, zE5, evp, evx, ev1, evLoad, evStore, evBin, isBoolK, forall_const, z38, tb, Nat.reduceAdd, Nat.reduceSub, Nat.reduceMul, Nat.reduceEqDiff, Nat.reduceLeDiff, Nat.reduceLT, Nat.reduceBEq, Nat.reduceBNe, ↓reduceIte, reduceIte, spZq, fewS, awk13S, validS, easyS, solS, partS, PartR.av, gmA] at h; obtain ⟨rfl, rfl, rfl, rfl⟩ := h; refine ⟨?_, ?_⟩)
      | ((with_reducible refine Ob.mk ?_); first | exact trivial | (intros; omega) | ((repeat' first | apply And.intro | (intro hg; have hg' := hg; try simp only [zH] at hg')) <;> first | (with_reducible exact True.intro) | assumption | omega | (simp only [zH]; omega)))
    · cases hb
    · repeat' first
        | with_reducible first | refine awp_seq ?_ | refine awp_block ?_ | refine next_then ?_ | refine next_block ?_ | refine exit_then ?_ | refine ret_then ?_ | refine ret_block ?_ | refine exit_here ?_ | refine awp_exit ?_ | refine awp_ret ?_ | refine awp_skip ?_ | refine awp_label ?_ | refine next_noGoto ?_ | refine ret_noGoto ?_ | refine exit_noGoto ?_ | refine awp_scope ?_
        | ((with_reducible refine exit_past ?_ ?_); exact rfl)
        | ((with_reducible refine isCond ?_); refine awp_condO rfl ?_ ?_ <;> intro hb <;> (try simp only [zH] at hb))
        | ((with_reducible refine isReg ?_); (first | refine awp_textM htb hmz spZq_ok (fun _ => false) rfl rfl ?_ | refine awp_drawM hmo htb hmz spZq_ok (fun _ => false) rfl rfl (by kernel_rfl) ?_); intro m' e' l' ob h; simp only [zE0, zE1, zE2, zE3, zE4, zE5, evp, evx, ev1, evLoad, evStore, evBin, isBoolK, forall_const, z38, tb, Nat.reduceAdd, Nat.reduceSub, Nat.reduceMul, Nat.reduceEqDiff, Nat.reduceLeDiff, Nat.reduceLT, Nat.reduceBEq, Nat.reduceBNe, ↓reduceIte, reduceIte, spZq, fewS, awk13S, validS, easyS, solS, partS, PartR.av, gmA] at h; obtain ⟨rfl, rfl, rfl, rfl⟩ := h; refine ⟨?_, ?_⟩)
        | ((with_reducible refine Ob.mk ?_); first | exact trivial | (intros; omega) | ((repeat' first | apply And.intro | (intro hg; have hg' := hg; try simp only [zH] at hg')) <;> first | assumption | omega | (simp only [zH]; omega)))
      refine fin_ret rfl rfl (spec_flat rfl ?_ rfl)
      show AV.bool (!easyB _) = AV.bool true
      rw [he]
      rfl
    cases hb
end Go.Proofs.Ytlckljphakkomaa.Cal
namespace Go.Proofs.Ytlckljphakkomaa.Cal
open Go Go.ChangeShapes Go.WideShapes Go.ChangeAt Go.RowKit Go.Deep
/-- The memory that was there at the call. -/
def old (w : World) : Nat → Prop := fun b => b < w.heap.size
def light {H : Type} (P : Program) (t : Nat) (d : DataW H) : Prop := ∀ n, n ∈ d.weights P t → n ≤ 140737488351232
section
variable {H : Type} {enc : TypeId × Value → H} {P : Program} {w : World} {base : Nat} {spare : Nat → Bool} {held : Bool}
theorem weights_all {e : TypeId} {d : DataW H} : ∀ {l : List (DataW H)}, d ∈ l → ∀ n, n ∈ d.weights P e → n ∈ DataW.weightsAll P e l
  | [], h, _, _ => absurd h List.not_mem_nil
  | x :: l, h, n, hn => by
    simp only [DataW.weightsAll, List.mem_append]
    rcases List.mem_cons.1 h with rfl | h
    · exact .inl hn
    · exact .inr (weights_all h n hn)
theorem cell_lt {a : Addr} {v : Value} (h : w.cell? a = some v) : a.spot = none ∧ a.block < w.heap.size := by
  unfold World.cell? at h
  cases hb : w.heap[a.block]? with
  | none => rw [hb] at h; cases h
  | some o =>
    rw [hb] at h
    refine ⟨?_, (Array.getElem?_eq_some_iff.1 hb).1⟩
    cases o <;> first | (cases h; done) | skip
    dsimp only at h
    split at h
    · cases h
    · rename_i hs; simpa using hs
/-- A slice that is read, whatever its elements are: of one cell each. -/
theorem rd_slice {α : Type} {t e fuel : Nat} {v : Value} {x : DataW H × List MemPlace} (d0 : α) (G : α → List Value → Prop) (ht : P.underlying t = some (.slice e)) (hc : P.cellsOf e = 1) (hB : 8 ≤ P.bytesOf e ∨ 1 ≤ P.bytesOf e)
    (hel : ∀ n c y, DataW.trod enc P w base spare held n e [c] = some y → light P e y.1 → ∃ a, G a [c])
    (h : DataW.trod enc P w base spare held fuel t [v] = some x) (hl : light P t x.1) : ∃ l : List α, roRow (old w) w 1 l.length (fun j es => G (l.getD j d0) es) [v] := by
  rcases open_slice1 ht hc h with ⟨hcs, _⟩ | ⟨a, len, cap, m, n, V, D, Pl, hcs, hba, hle, hcap, hm, hx, hel2⟩
  · cases hcs
    exact ⟨[], none, 0, rfl, Nat.le_refl _, Nat.zero_le _, fun h => absurd h (Nat.lt_irrefl 0)⟩
  · cases hcs
    subst hx
    have hlm : len ≤ m := by rw [hm]; split <;> omega
    have hex : ∀ i, i < len → ∃ a, G a [V i] := fun i hi => by
      obtain ⟨h1, h2⟩ := hel2 i (by omega)
      refine hel _ _ _ h2 fun k hk => hl k ?_
      simp only [DataW.weights, ht, List.mem_cons, List.mem_append]
      exact .inr (.inl (weights_all (List.mem_map.2 ⟨i, List.mem_range.2 hi, rfl⟩) k hk))
    obtain ⟨F, hF⟩ : ∃ F : Nat → α, ∀ i, i < len → G (F i) [V i] := by
      refine ⟨fun i => if h : i < len then Classical.choose (hex i h) else d0, fun i hi => ?_⟩
      simp only [dif_pos hi]
      exact Classical.choose_spec (hex i hi)
    refine ⟨(List.range len).map F, some a, cap, by simp, by simpa using hle, ?_, fun hn => ?_⟩
    · have := hl ((((List.range len).map D).length + ((List.range (m - len)).map fun j => D (len + j)).length) * P.bytesOf e) (by simp only [DataW.weights, ht]; exact List.mem_cons_self)
      simp only [List.length_map, List.length_range] at this ⊢
      have hb1 : 1 ≤ P.bytesOf e := by omega
      have h3 : len ≤ (len + (m - len)) * P.bytesOf e := Nat.le_trans (Nat.le_add_right _ _) (Nat.le_mul_of_pos_right _ hb1)
      unfold lim; omega
    · simp only [List.length_map, List.length_range] at hn ⊢
      obtain ⟨h0, _⟩ := hel2 0 (by omega)
      obtain ⟨s1, s2⟩ := cell_lt h0
      obtain ⟨b, off, spot⟩ := a
      obtain rfl : spot = none := by simpa [Addr.add] using s1
      refine ⟨b, off, rfl, by simpa [Addr.add, old] using s2, fun j hj => ⟨[V j], ?_, rfl, fun i c hi => ?_⟩⟩
      · have : ((List.range len).map F).getD j d0 = F j := by simp [List.getD_eq_getElem?_getD, hj]
        rw [this]; exact hF j hj
      · cases i with
        | succ i => simp at hi
        | zero =>
          simp only [List.getElem?_cons_zero, Option.some.injEq] at hi
          subst hi
          obtain ⟨h1, _⟩ := hel2 j (by omega)
          rw [← Go.WideShapes.add_plain, Nat.mul_one, Nat.add_zero]; exact h1
theorem rd_ints {t e fuel : Nat} {v : Value} {x : DataW H × List MemPlace} (ht : P.underlying t = some (.slice e)) (he : P.underlying e = some (.int .i64)) (hc : P.cellsOf e = 1) (hB : 1 ≤ P.bytesOf e)
    (h : DataW.trod enc P w base spare held fuel t [v] = some x) (hl : light P t x.1) (ν : Nat → Value) (m : Bool) : ∃ l : List Int, R (old w) w (.roI l) ν m [v] :=
  rd_slice 0 (fun n es => es = [.int .i64 n]) ht hc (.inr hB) (fun n c y hy _ => by
    obtain ⟨k, hk, _⟩ := DataW.trod_int he hy
    exact ⟨k, hk⟩) h hl
theorem rd_bools {t e fuel : Nat} {v : Value} {x : DataW H × List MemPlace} (ht : P.underlying t = some (.slice e)) (he : P.underlying e = some .bool) (hc : P.cellsOf e = 1) (hB : 1 ≤ P.bytesOf e)
    (h : DataW.trod enc P w base spare held fuel t [v] = some x) (hl : light P t x.1) (ν : Nat → Value) (m : Bool) : ∃ l : List Bool, R (old w) w (.roB l) ν m [v] :=
  rd_slice false (fun n es => es = [.bool n]) ht hc (.inr hB) (fun n c y hy _ => by
    obtain ⟨k, hk, _⟩ := DataW.trod_bool he hy
    exact ⟨k, hk⟩) h hl
theorem rd_intss {t e e2 fuel : Nat} {v : Value} {x : DataW H × List MemPlace} (ht : P.underlying t = some (.slice e)) (hc : P.cellsOf e = 1) (hB : 1 ≤ P.bytesOf e) (he : P.underlying e = some (.slice e2)) (he2 : P.underlying e2 = some (.int .i64)) (hc2 : P.cellsOf e2 = 1) (hB2 : 1 ≤ P.bytesOf e2)
    (h : DataW.trod enc P w base spare held fuel t [v] = some x) (hl : light P t x.1) (ν : Nat → Value) (m : Bool) : ∃ l : List (List Int), R (old w) w (.roII l) ν m [v] :=
  rd_slice [] (fun l es => R (old w) w (.roI l) ν m es) ht hc (.inr hB) (fun n c y hy hl => rd_ints he he2 hc2 hB2 hy hl ν m) h hl
/-- A game among the arguments. -/
theorem rd_game {r : Reach} {b0 t : Nat} {f0 f1 f2 : Field} {v : Value} {d : DataW H} {p : List MemPlace} (hs : P.underlying t = some (.struct #[f0, f1, f2])) (hone : oneCellFields P #[f0, f1, f2] = true) (hC : P.cellsOf t = 3) (hv : Value.okWide P w r b0 t v) (h : DataW.Trod enc P w base spare held t v d p) (hl : light P t d)
    {e1 e2 : Nat} (h0 : P.underlying f0.type = some (.slice e1)) (h1 : P.underlying f1.type = some (.slice e1)) (h2 : P.underlying f2.type = some (.slice e2)) (he1 : P.underlying e1 = some (.int .i64)) (he2 : P.underlying e2 = some (.slice e1)) (hc1 : P.cellsOf e1 = 1) (hc2 : P.cellsOf e2 = 1) (hB1 : 1 ≤ P.bytesOf e1) (hB2 : 1 ≤ P.bytesOf e2) (ν : Nat → Value) :
    ∃ g : Gm, R (old w) w (gmA g) ν true [v] := by
  obtain ⟨v0, v1, v2, y0, y1, y2, n, rfl, rfl, rfl, t0, t1, t2⟩ := Go.Joins.open_agg3 hs hone hC hv h
  have hw : ∀ k, k ∈ y0.1.weights P f0.type ∨ k ∈ y1.1.weights P f1.type ∨ k ∈ y2.1.weights P f2.type → k ≤ 140737488351232 := fun k hk => hl k (by
    simp only [DataW.weights, hs, DataW.weightsEach, List.mem_append, List.map_cons, List.map_nil, List.not_mem_nil, or_false]
    exact hk)
  obtain ⟨o, ho⟩ := rd_ints h0 he1 hc1 hB1 t0 (fun k hk => hw k (.inl hk)) ν true
  obtain ⟨q, hq⟩ := rd_ints h1 he1 hc1 hB1 t1 (fun k hk => hw k (.inr (.inl hk))) ν true
  obtain ⟨x, hx⟩ := rd_intss h2 hc2 hB2 he2 he1 hc1 hB1 t2 (fun k hk => hw k (.inr (.inr hk))) ν true
  exact ⟨⟨o, q, x⟩, [v0, v1, v2], rfl, v0, [v1, v2], rfl, ho, v1, [v2], rfl, hq, v2, [], rfl, hx, rfl⟩
theorem light_of {ts : List TypeId} {ds : List (DataW H)} (hsz : (DataW.weightsEach P ts ds).all (· ≤ reachBytes) = true) {j t : Nat} {d : DataW H} (ht : ts[j]? = some t) (hd : ds[j]? = some d) : light P t d := fun n hn => by
  have := List.all_eq_true.1 hsz _ (DataW.weights_mem_each ht hd n hn)
  exact of_decide_eq_true this
end
/-- A law's contract, as its row asks for it. -/
theorem law_calls {P : Program} {f : Nat} {S : Spec} (hS : FSpec P f S) {args : List AV} {W : World} {vals : Array Value} (hs : S args = some ⟨True, .bool true, none⟩) (hm : men noK (mkL args) = true) (hr : R (old W) W (mkL args) nu0 true vals.toList) :
    Calls P f vals W fun e W' => e = .returned (.bool true) ∧ Below W.heap.size W W' := by
  have := hS.2 args _ hs trivial hm (old W) (old W) nu0 W vals (fun _ => rfl) hr (men_free hm) ⟨fun _ _ => False, fun k b h => by cases h⟩ (fun _ h => h) (fun _ h => h)
  refine CallsIn.calls (F := FF none) (n := 0) (CallsIn.mono (ff_calls this) ?_) (fun k d hd => by cases hd)
  rintro e W' ⟨y, Z', ν', v, μ', rs', rfl, hst, _, _, _, hr', _, _, _, rfl, _⟩
  have : y = .bool true := one1 hr'
  subst this
  exact ⟨rfl, hst.ext.os, hst.ext.tape, hst.ext.output, hst.ext.size, fun k hk => hst.ext.block k hk⟩
end Go.Proofs.Ytlckljphakkomaa.Cal
