/- Own texts of the proof, merged, in order. -/
import Derived.Test.YtlckljphakkomaaS25
set_option linter.unusedVariables false
set_option linter.unusedSimpArgs false
namespace Go.Proofs.Ytlckljphakkomaa.Cal
open Go Pl
noncomputable def solS : Spec
  | [.agg (.cons (.roI o) (.cons (.roI p) (.cons (.roII x) .nil))), .agg (.cons (.roI w) (.cons (.roI c) .nil))] => some ⟨validB ⟨o, p, x⟩ = true, .bool (solB ⟨o, p, x⟩ w c), none⟩
  | _ => none
noncomputable def spSo : Nat → Option Spec
  | 27 => some claimS
  | 28 => some folS
  | 29 => some aloneoS
  | _ => none
theorem spSo_ok : SpOK Try.prog spSo := by
  intro f S h
  unfold spSo at h
  split at h
  · cases h; exact claim_ok
  · cases h; exact follow_ok
  · cases h; exact aloneo_ok
  · cases h
set_option maxRecDepth 4000 in
set_option maxHeartbeats 4000000 in
theorem solution_ok : FSpec Try.prog 13 solS := by
  refine fspec_of htb (fn := Try.f13) (by kernel_rfl) (by kernel_rfl) rfl (fun args r hS => ?_) (fun args r hS hob hl => ?_)
  · unfold solS at hS; split at hS <;> first | (cases hS; done) | (cases hS; exact Nat.le_of_ble_eq_true rfl)
  unfold solS at hS
  split at hS
  case h_2 => cases hS
  rename_i o p x w c
  simp only [Option.some.injEq] at hS
  subst hS
  simp only [lenP, mkL, lim] at hl
  dsimp only at hob
  have hv := hob
  have hV := validB_iff.1 hv
  repeat' first
    | with_reducible first | refine awp_seq ?_ | refine awp_block ?_ | refine next_then ?_ | refine next_block ?_ | refine exit_then ?_ | refine ret_then ?_ | refine ret_block ?_ | refine exit_here ?_ | refine awp_exit ?_ | refine awp_ret ?_ | refine awp_skip ?_ | refine awp_label ?_ | refine next_noGoto ?_ | refine ret_noGoto ?_ | refine exit_noGoto ?_ | refine awp_scope ?_
    | ((with_reducible refine exit_past ?_ ?_); exact rfl)
    | ((with_reducible refine isCond ?_); refine awp_condO rfl ?_ ?_ <;> intro hb <;> (try simp only [zH] at hb))
    | ((with_reducible refine isRegS 2 ?_ ?_); (· exact rfl); (with_reducible refine isRegS 3 ?_ ?_); (· exact rfl); (first | refine awp_textM htb hmz spSo_ok (fun _ => false) rfl rfl ?_ | refine awp_drawM hmo htb hmz spSo_ok (fun _ => false) rfl rfl (by kernel_rfl) ?_); intro m' e' l' ob h; simp only [zE0, zE1, zE2, zE3, zE4, zE5, evp, evx, ev1, evLoad, evStore, evBin, isBoolK, forall_const, z38, tb, Nat.reduceAdd, Nat.reduceSub, Nat.reduceMul, Nat.reduceEqDiff, Nat.reduceLeDiff, Nat.reduceLT, Nat.reduceBEq, Nat.reduceBNe, ↓reduceIte, reduceIte, spSo, claimS, folS, aloneoS, gmA] at h; obtain ⟨rfl, rfl, rfl, rfl⟩ := h; refine ⟨?_, ?_⟩)
    | ((with_reducible refine Ob.mk ?_); first | exact trivial | (intros; omega) | ((repeat' first | apply And.intro | (intro hg; have hg' := hg; try simp only [zH] at hg')) <;> first | assumption | omega | (simp only [zH]; omega)))
  · have e : solB ⟨o, p, x⟩ w c = false := by unfold solB; rw [hb]; rfl
    repeat' first
      | with_reducible first | refine awp_seq ?_ | refine awp_block ?_ | refine next_then ?_ | refine next_block ?_ | refine exit_then ?_ | refine ret_then ?_ | refine ret_block ?_ | refine exit_here ?_ | refine awp_exit ?_ | refine awp_ret ?_ | refine awp_skip ?_ | refine awp_label ?_ | refine next_noGoto ?_ | refine ret_noGoto ?_ | refine exit_noGoto ?_ | refine awp_scope ?_
      | ((with_reducible refine exit_past ?_ ?_); exact rfl)
      | ((with_reducible refine isCond ?_); refine awp_condO rfl ?_ ?_ <;> intro hb <;> (try simp only [zH] at hb))
      | ((with_reducible refine isReg ?_); (first | refine awp_textM htb hmz spSo_ok (fun _ => false) rfl rfl ?_ | refine awp_drawM hmo htb hmz spSo_ok (fun _ => false) rfl rfl (by kernel_rfl) ?_); intro m' e' l' ob h; simp only [zE0, zE1, zE2, zE3, zE4, zE5, evp, evx, ev1, evLoad, evStore, evBin, isBoolK, forall_const, z38, tb, Nat.reduceAdd, Nat.reduceSub, Nat.reduceMul, Nat.reduceEqDiff, Nat.reduceLeDiff, Nat.reduceLT, Nat.reduceBEq, Nat.reduceBNe, ↓reduceIte, reduceIte, spSo, claimS, folS, aloneoS, gmA] at h; obtain ⟨rfl, rfl, rfl, rfl⟩ := h; refine ⟨?_, ?_⟩)
      | ((with_reducible refine Ob.mk ?_); first | exact trivial | (intros; omega) | ((repeat' first | apply And.intro | (intro hg; have hg' := hg; try simp only [zH] at hg')) <;> first | assumption | omega | (simp only [zH]; omega)))
    refine fin_ret rfl rfl (spec_flat rfl ?_ rfl)
    rw [e]; rfl
  have hcb := hb
  clear hb
  have hw := of_decide_eq_true hcb
  have hwl : w.length = o.length := hw.1
  have hcl : c.length = o.length := hw.2.1
  have hcc : ∀ q : Int, ∀ v, v < o.length → w.getD v 0 = q → o.getD v 0 = q → c.getD v 0 ∈ x.getD v [] := fun q => claim_c hcb
  clear hw
  repeat' first
    | with_reducible first | refine awp_seq ?_ | refine awp_block ?_ | refine next_then ?_ | refine next_block ?_ | refine exit_then ?_ | refine ret_then ?_ | refine ret_block ?_ | refine exit_here ?_ | refine awp_exit ?_ | refine awp_ret ?_ | refine awp_skip ?_ | refine awp_label ?_ | refine next_noGoto ?_ | refine ret_noGoto ?_ | refine exit_noGoto ?_ | refine awp_scope ?_
    | ((with_reducible refine exit_past ?_ ?_); exact rfl)
    | ((with_reducible refine isCond ?_); refine awp_condO rfl ?_ ?_ <;> intro hb <;> (try simp only [zH] at hb))
    | ((with_reducible refine isReg ?_); (first | refine awp_textM htb hmz spSo_ok (fun _ => false) rfl rfl ?_ | refine awp_drawM hmo htb hmz spSo_ok (fun _ => false) rfl rfl (by kernel_rfl) ?_); intro m' e' l' ob h; simp only [zE0, zE1, zE2, zE3, zE4, zE5, evp, evx, ev1, evLoad, evStore, evBin, isBoolK, forall_const, z38, tb, Nat.reduceAdd, Nat.reduceSub, Nat.reduceMul, Nat.reduceEqDiff, Nat.reduceLeDiff, Nat.reduceLT, Nat.reduceBEq, Nat.reduceBNe, ↓reduceIte, reduceIte, spSo, claimS, folS, aloneoS, gmA] at h; obtain ⟨rfl, rfl, rfl, rfl⟩ := h; refine ⟨?_, ?_⟩)
    | ((with_reducible refine Ob.mk ?_); first | exact trivial | (intros; omega) | ((repeat' first | apply And.intro | (intro hg; have hg' := hg; try simp only [zH] at hg')) <;> first | assumption | omega | (simp only [zH]; omega)))
  refine awp_loopC (τ := Nat) (fun i => i ≤ 2 ∧ ∀ q, q < i → slP ⟨o, p, x⟩ w c (q : Int) = true) (fun i => ⟨9, [(14, .int .i64 i), (3, .rop (.agg (.cons (.roI w) (.cons (.roI c) .nil)))), (2, .rop (.agg (.cons (.roI o) (.cons (.roI p) (.cons (.roII x) .nil)))))], [], []⟩) (fun i => 2 - i) 0 [] ?_ ⟨Nat.zero_le _, fun q hq => absurd hq (Nat.not_lt_zero q)⟩ ?_
  · (refine ⟨rfl, ?_, ?_⟩ <;> simp only [zE0, zE1, zE2, zE3, zE4, zE5, evp, evx, ev1, evLoad, evStore, evBin, isBoolK, forall_const, z38, tb, Nat.reduceAdd, Nat.reduceSub, Nat.reduceMul, Nat.reduceEqDiff, Nat.reduceLeDiff, Nat.reduceLT, Nat.reduceBEq, Nat.reduceBNe, ↓reduceIte, reduceIte, spSo, claimS, folS, aloneoS, gmA, zI])
  rintro i ⟨hi, hq⟩
  have hcc1 := hcc (i : Int)
  have hso : i < 2 → slP ⟨o, p, x⟩ w c (i : Int) = false → solB ⟨o, p, x⟩ w c = false := fun h hs => by
    have : i = 0 ∨ i = 1 := by omega
    unfold solB
    rcases this with rfl | rfl
    · rw [show slP ⟨o, p, x⟩ w c 0 = false from hs]; simp
    · rw [show slP ⟨o, p, x⟩ w c 1 = false from hs]; simp
  repeat' first
    | with_reducible first | refine awp_seq ?_ | refine awp_block ?_ | refine next_then ?_ | refine next_block ?_ | refine exit_then ?_ | refine ret_then ?_ | refine ret_block ?_ | refine exit_here ?_ | refine awp_exit ?_ | refine awp_ret ?_ | refine awp_skip ?_ | refine awp_label ?_ | refine next_noGoto ?_ | refine ret_noGoto ?_ | refine exit_noGoto ?_ | refine awp_scope ?_
    | ((with_reducible refine exit_past ?_ ?_); exact rfl)
    | ((with_reducible refine isCond ?_); refine awp_condO rfl ?_ ?_ <;> intro hb <;> (try simp only [zH] at hb))
    | ((with_reducible refine isRegS 7 ?_ ?_); (· exact rfl); (with_reducible refine isRegS 16 ?_ ?_); (· exact rfl); (first | refine awp_textM htb hmz spSo_ok (fun _ => false) rfl rfl ?_ | refine awp_drawM hmo htb hmz spSo_ok (fun _ => false) rfl rfl (by kernel_rfl) ?_); intro m' e' l' ob h; simp only [zE0, zE1, zE2, zE3, zE4, zE5, evp, evx, ev1, evLoad, evStore, evBin, isBoolK, forall_const, z38, tb, Nat.reduceAdd, Nat.reduceSub, Nat.reduceMul, Nat.reduceEqDiff, Nat.reduceLeDiff, Nat.reduceLT, Nat.reduceBEq, Nat.reduceBNe, ↓reduceIte, reduceIte, spSo, claimS, folS, aloneoS, gmA] at h; obtain ⟨rfl, rfl, rfl, rfl⟩ := h; refine ⟨?_, ?_⟩)
    | ((with_reducible refine Ob.mk ?_); first | exact trivial | (intros; omega) | ((repeat' first | apply And.intro | (intro hg; have hg' := hg; try simp only [zH] at hg')) <;> first | assumption | omega | (simp only [zH]; omega)))
  · exact Ob.mk ⟨hv, hwl, hcl, hcc1⟩
  · have hi2 : i < 2 := by omega
    have hsp : slP ⟨o, p, x⟩ w c (i : Int) = (cloB ⟨o, p, x⟩ w c (i : Int) && !(aloneL (folG ⟨o, p, x⟩ w c (i : Int)) (1 - (i : Int))).any id) := rfl
    have hvf : cloB ⟨o, p, x⟩ w c (i : Int) = true → validB (folG ⟨o, p, x⟩ w c (i : Int)) = true := fun h => validB_true (fol_valid hV hcc1 h)
    repeat' first
      | with_reducible first | refine awp_seq ?_ | refine awp_block ?_ | refine next_then ?_ | refine next_block ?_ | refine exit_then ?_ | refine ret_then ?_ | refine ret_block ?_ | refine exit_here ?_ | refine awp_exit ?_ | refine awp_ret ?_ | refine awp_skip ?_ | refine awp_label ?_ | refine next_noGoto ?_ | refine ret_noGoto ?_ | refine exit_noGoto ?_ | refine awp_scope ?_
      | ((with_reducible refine exit_past ?_ ?_); exact rfl)
      | ((with_reducible refine isCond ?_); refine awp_condO rfl ?_ ?_ <;> intro hb <;> (try simp only [zH] at hb))
      | ((with_reducible refine isRegS 8 ?_ ?_); (· exact rfl); (with_reducible refine isRegS 9 ?_ ?_); (· exact rfl); (first | refine awp_textM htb hmz spSo_ok (fun _ => false) rfl rfl ?_ | refine awp_drawM hmo htb hmz spSo_ok (fun _ => false) rfl rfl (by kernel_rfl) ?_); intro m' e' l' ob h; simp only [zE0, zE1, zE2, zE3, zE4, zE5, evp, evx, ev1, evLoad, evStore, evBin, isBoolK, forall_const, z38, tb, Nat.reduceAdd, Nat.reduceSub, Nat.reduceMul, Nat.reduceEqDiff, Nat.reduceLeDiff, Nat.reduceLT, Nat.reduceBEq, Nat.reduceBNe, ↓reduceIte, reduceIte, spSo, claimS, folS, aloneoS, gmA] at h; obtain ⟨rfl, rfl, rfl, rfl⟩ := h; refine ⟨?_, ?_⟩)
      | ((with_reducible refine Ob.mk ?_); first | exact trivial | (intros; omega) | ((repeat' first | apply And.intro | (intro hg; have hg' := hg; try simp only [zH] at hg')) <;> first | assumption | omega | (simp only [zH]; omega)))
    · rw [hb] at hsp
      have e := hso hi2 hsp
      repeat' first
        | with_reducible first | refine awp_seq ?_ | refine awp_block ?_ | refine next_then ?_ | refine next_block ?_ | refine exit_then ?_ | refine ret_then ?_ | refine ret_block ?_ | refine exit_here ?_ | refine awp_exit ?_ | refine awp_ret ?_ | refine awp_skip ?_ | refine awp_label ?_ | refine next_noGoto ?_ | refine ret_noGoto ?_ | refine exit_noGoto ?_ | refine awp_scope ?_
        | ((with_reducible refine exit_past ?_ ?_); exact rfl)
        | ((with_reducible refine isCond ?_); refine awp_condO rfl ?_ ?_ <;> intro hb <;> (try simp only [zH] at hb))
        | ((with_reducible refine isReg ?_); (first | refine awp_textM htb hmz spSo_ok (fun _ => false) rfl rfl ?_ | refine awp_drawM hmo htb hmz spSo_ok (fun _ => false) rfl rfl (by kernel_rfl) ?_); intro m' e' l' ob h; simp only [zE0, zE1, zE2, zE3, zE4, zE5, evp, evx, ev1, evLoad, evStore, evBin, isBoolK, forall_const, z38, tb, Nat.reduceAdd, Nat.reduceSub, Nat.reduceMul, Nat.reduceEqDiff, Nat.reduceLeDiff, Nat.reduceLT, Nat.reduceBEq, Nat.reduceBNe, ↓reduceIte, reduceIte, spSo, claimS, folS, aloneoS, gmA] at h; obtain ⟨rfl, rfl, rfl, rfl⟩ := h; refine ⟨?_, ?_⟩)
        | ((with_reducible refine Ob.mk ?_); first | exact trivial | (intros; omega) | ((repeat' first | apply And.intro | (intro hg; have hg' := hg; try simp only [zH] at hg')) <;> first | assumption | omega | (simp only [zH]; omega)))
      refine fin_ret rfl rfl (spec_flat rfl ?_ rfl)
      rw [e]; rfl
    have hff : folR ⟨o, p, x⟩ w c (i : Int) = folG ⟨o, p, x⟩ w c (i : Int) := by unfold folR; rw [if_pos hb]
    have hvg := hvf hb
    rw [hb] at hsp
    clear hvf
    rw [hff]
    generalize folG ⟨o, p, x⟩ w c (i : Int) = H at *
    have hAl : (aloneL H (1 - (i : Int))).length = H.own.length := by simp [aloneL]
    have hHn : H.own.length ≤ 20000 := (validB_iff.1 hvg).1
    clear hff hcc1 hcc
    repeat' first
      | with_reducible first | refine awp_seq ?_ | refine awp_block ?_ | refine next_then ?_ | refine next_block ?_ | refine exit_then ?_ | refine ret_then ?_ | refine ret_block ?_ | refine exit_here ?_ | refine awp_exit ?_ | refine awp_ret ?_ | refine awp_skip ?_ | refine awp_label ?_ | refine next_noGoto ?_ | refine ret_noGoto ?_ | refine exit_noGoto ?_ | refine awp_scope ?_
      | ((with_reducible refine exit_past ?_ ?_); exact rfl)
      | ((with_reducible refine isCond ?_); refine awp_condO rfl ?_ ?_ <;> intro hb <;> (try simp only [zH] at hb))
      | ((with_reducible refine isReg ?_); (first | refine awp_textM htb hmz spSo_ok (fun _ => false) rfl rfl ?_ | refine awp_drawM hmo htb hmz spSo_ok (fun _ => false) rfl rfl (by kernel_rfl) ?_); intro m' e' l' ob h; simp only [zE0, zE1, zE2, zE3, zE4, zE5, evp, evx, ev1, evLoad, evStore, evBin, isBoolK, forall_const, z38, tb, Nat.reduceAdd, Nat.reduceSub, Nat.reduceMul, Nat.reduceEqDiff, Nat.reduceLeDiff, Nat.reduceLT, Nat.reduceBEq, Nat.reduceBNe, ↓reduceIte, reduceIte, spSo, claimS, folS, aloneoS, gmA] at h; obtain ⟨rfl, rfl, rfl, rfl⟩ := h; refine ⟨?_, ?_⟩)
      | ((with_reducible refine Ob.mk ?_); first | exact trivial | (intros; omega) | ((repeat' first | apply And.intro | (intro hg; have hg' := hg; try simp only [zH] at hg')) <;> first | assumption | omega | (simp only [zH]; omega)))
    generalize aloneL H (1 - (i : Int)) = A at *
    have hAn : A.length ≤ 20000 := by omega
    refine awp_loopC (τ := Nat) (fun r => r ≤ A.length ∧ ∀ j, j < r → A.getD j false = false) (fun r => ⟨30, [(31, .int .i64 r), (30, .int .i64 A.length), (29, .own 27), (14, .int .i64 i), (3, (.rop (.agg (.cons (.roI w) (.cons (.roI c) .nil))))), (2, (.rop (.agg (.cons (.roI o) (.cons (.roI p) (.cons (.roII x) .nil))))))], [(27, some (.bools A))], []⟩) (fun r => A.length - r) 0 [] ?_ ⟨Nat.zero_le _, fun j hj => absurd hj (Nat.not_lt_zero j)⟩ ?_
    · (refine ⟨rfl, ?_, ?_⟩ <;> simp only [zE0, zE1, zE2, zE3, zE4, zE5, evp, evx, ev1, evLoad, evStore, evBin, isBoolK, forall_const, z38, tb, Nat.reduceAdd, Nat.reduceSub, Nat.reduceMul, Nat.reduceEqDiff, Nat.reduceLeDiff, Nat.reduceLT, Nat.reduceBEq, Nat.reduceBNe, ↓reduceIte, reduceIte, spSo, claimS, folS, aloneoS, gmA, zI])
    rintro r ⟨hr, hno⟩
    repeat' first
      | with_reducible first | refine awp_seq ?_ | refine awp_block ?_ | refine next_then ?_ | refine next_block ?_ | refine exit_then ?_ | refine ret_then ?_ | refine ret_block ?_ | refine exit_here ?_ | refine awp_exit ?_ | refine awp_ret ?_ | refine awp_skip ?_ | refine awp_label ?_ | refine next_noGoto ?_ | refine ret_noGoto ?_ | refine exit_noGoto ?_ | refine awp_scope ?_
      | ((with_reducible refine exit_past ?_ ?_); exact rfl)
      | ((with_reducible refine isCond ?_); refine awp_condO rfl ?_ ?_ <;> intro hb <;> (try simp only [zH] at hb))
      | ((with_reducible refine isRegS 15 ?_ ?_); (· exact rfl); (first | refine awp_textM htb hmz spSo_ok (fun _ => false) rfl rfl ?_ | refine awp_drawM hmo htb hmz spSo_ok (fun _ => false) rfl rfl (by kernel_rfl) ?_); intro m' e' l' ob h; simp only [zE0, zE1, zE2, zE3, zE4, zE5, evp, evx, ev1, evLoad, evStore, evBin, isBoolK, forall_const, z38, tb, Nat.reduceAdd, Nat.reduceSub, Nat.reduceMul, Nat.reduceEqDiff, Nat.reduceLeDiff, Nat.reduceLT, Nat.reduceBEq, Nat.reduceBNe, ↓reduceIte, reduceIte, spSo, claimS, folS, aloneoS, gmA] at h; obtain ⟨rfl, rfl, rfl, rfl⟩ := h; refine ⟨?_, ?_⟩)
      | ((with_reducible refine Ob.mk ?_); first | exact trivial | (intros; omega) | ((repeat' first | apply And.intro | (intro hg; have hg' := hg; try simp only [zH] at hg')) <;> first | assumption | omega | (simp only [zH]; omega)))
    · have hsl : slP ⟨o, p, x⟩ w c (i : Int) = false := by
        rw [hsp]
        have : A.any id = true := by
          rw [List.any_eq_true]
          refine ⟨A.getD r false, ?_, hb⟩
          rw [List.getD_eq_getElem?_getD, List.getElem?_eq_getElem (by omega)]; exact List.getElem_mem _
        rw [this]; rfl
      have e := hso hi2 hsl
      repeat' first
        | with_reducible first | refine awp_seq ?_ | refine awp_block ?_ | refine next_then ?_ | refine next_block ?_ | refine exit_then ?_ | refine ret_then ?_ | refine ret_block ?_ | refine exit_here ?_ | refine awp_exit ?_ | refine awp_ret ?_ | refine awp_skip ?_ | refine awp_label ?_ | refine next_noGoto ?_ | refine ret_noGoto ?_ | refine exit_noGoto ?_ | refine awp_scope ?_
        | ((with_reducible refine exit_past ?_ ?_); exact rfl)
        | ((with_reducible refine isCond ?_); refine awp_condO rfl ?_ ?_ <;> intro hb <;> (try simp only [zH] at hb))
        | ((with_reducible refine isReg ?_); (first | refine awp_textM htb hmz spSo_ok (fun _ => false) rfl rfl ?_ | refine awp_drawM hmo htb hmz spSo_ok (fun _ => false) rfl rfl (by kernel_rfl) ?_); intro m' e' l' ob h; simp only [zE0, zE1, zE2, zE3, zE4, zE5, evp, evx, ev1, evLoad, evStore, evBin, isBoolK, forall_const, z38, tb, Nat.reduceAdd, Nat.reduceSub, Nat.reduceMul, Nat.reduceEqDiff, Nat.reduceLeDiff, Nat.reduceLT, Nat.reduceBEq, Nat.reduceBNe, ↓reduceIte, reduceIte, spSo, claimS, folS, aloneoS, gmA] at h; obtain ⟨rfl, rfl, rfl, rfl⟩ := h; refine ⟨?_, ?_⟩)
        | ((with_reducible refine Ob.mk ?_); first | exact trivial | (intros; omega) | ((repeat' first | apply And.intro | (intro hg; have hg' := hg; try simp only [zH] at hg')) <;> first | assumption | omega | (simp only [zH]; omega)))
      refine fin_ret rfl rfl (spec_flat rfl ?_ rfl)
      rw [e]; rfl
    · refine back (r + 1) [] ?_ ⟨by omega, fun j hj => ?_⟩ (by omega)
      · (refine ⟨rfl, ?_, ?_⟩ <;> simp only [zE0, zE1, zE2, zE3, zE4, zE5, evp, evx, ev1, evLoad, evStore, evBin, isBoolK, forall_const, z38, tb, Nat.reduceAdd, Nat.reduceSub, Nat.reduceMul, Nat.reduceEqDiff, Nat.reduceLeDiff, Nat.reduceLT, Nat.reduceBEq, Nat.reduceBNe, ↓reduceIte, reduceIte, spSo, claimS, folS, aloneoS, gmA, zI])
      · rcases Nat.lt_succ_iff_lt_or_eq.1 hj with h | rfl
        · exact hno j h
        · exact hb
    have hre : r = A.length := by omega
    subst hre
    have hsl : slP ⟨o, p, x⟩ w c (i : Int) = true := by
      rw [hsp]
      have : A.any id = false := by
        rw [List.any_eq_false]
        intro b hb2 hb3
        obtain ⟨j, hj, e⟩ := List.getElem_of_mem hb2
        have := hno j hj
        rw [List.getD_eq_getElem?_getD, List.getElem?_eq_getElem hj, Option.getD_some, e] at this
        rw [this] at hb3; cases hb3
      rw [this]; rfl
    clear hno hsp
    repeat' first
      | with_reducible first | refine awp_seq ?_ | refine awp_block ?_ | refine next_then ?_ | refine next_block ?_ | refine exit_then ?_ | refine ret_then ?_ | refine ret_block ?_ | refine exit_here ?_ | refine awp_exit ?_ | refine awp_ret ?_ | refine awp_skip ?_ | refine awp_label ?_ | refine next_noGoto ?_ | refine ret_noGoto ?_ | refine exit_noGoto ?_ | refine awp_scope ?_
      | ((with_reducible refine exit_past ?_ ?_); exact rfl)
      | ((with_reducible refine isCond ?_); refine awp_condO rfl ?_ ?_ <;> intro hb <;> (try simp only [zH] at hb))
      | ((with_reducible refine isReg ?_); (first | refine awp_textM htb hmz spSo_ok (fun _ => false) rfl rfl ?_ | refine awp_drawM hmo htb hmz spSo_ok (fun _ => false) rfl rfl (by kernel_rfl) ?_); intro m' e' l' ob h; simp only [zE0, zE1, zE2, zE3, zE4, zE5, evp, evx, ev1, evLoad, evStore, evBin, isBoolK, forall_const, z38, tb, Nat.reduceAdd, Nat.reduceSub, Nat.reduceMul, Nat.reduceEqDiff, Nat.reduceLeDiff, Nat.reduceLT, Nat.reduceBEq, Nat.reduceBNe, ↓reduceIte, reduceIte, spSo, claimS, folS, aloneoS, gmA] at h; obtain ⟨rfl, rfl, rfl, rfl⟩ := h; refine ⟨?_, ?_⟩)
      | ((with_reducible refine Ob.mk ?_); first | exact trivial | (intros; omega) | ((repeat' first | apply And.intro | (intro hg; have hg' := hg; try simp only [zH] at hg')) <;> first | assumption | omega | (simp only [zH]; omega)))
    refine back (i + 1) [] ?_ ⟨by omega, fun q hq2 => ?_⟩ (by omega)
    · (refine ⟨rfl, ?_, ?_⟩ <;> simp only [zE0, zE1, zE2, zE3, zE4, zE5, evp, evx, ev1, evLoad, evStore, evBin, isBoolK, forall_const, z38, tb, Nat.reduceAdd, Nat.reduceSub, Nat.reduceMul, Nat.reduceEqDiff, Nat.reduceLeDiff, Nat.reduceLT, Nat.reduceBEq, Nat.reduceBNe, ↓reduceIte, reduceIte, spSo, claimS, folS, aloneoS, gmA, zI])
    · rcases Nat.lt_succ_iff_lt_or_eq.1 hq2 with h | rfl
      · exact hq q h
      · exact hsl
  have hi2 : i = 2 := by omega
  subst hi2
  repeat' first
    | with_reducible first | refine awp_seq ?_ | refine awp_block ?_ | refine next_then ?_ | refine next_block ?_ | refine exit_then ?_ | refine ret_then ?_ | refine ret_block ?_ | refine exit_here ?_ | refine awp_exit ?_ | refine awp_ret ?_ | refine awp_skip ?_ | refine awp_label ?_ | refine next_noGoto ?_ | refine ret_noGoto ?_ | refine exit_noGoto ?_ | refine awp_scope ?_
    | ((with_reducible refine exit_past ?_ ?_); exact rfl)
    | ((with_reducible refine isCond ?_); refine awp_condO rfl ?_ ?_ <;> intro hb <;> (try simp only [zH] at hb))
    | ((with_reducible refine isReg ?_); (first | refine awp_textM htb hmz spSo_ok (fun _ => false) rfl rfl ?_ | refine awp_drawM hmo htb hmz spSo_ok (fun _ => false) rfl rfl (by kernel_rfl) ?_); intro m' e' l' ob h; simp only [zE0, zE1, zE2, zE3, zE4, zE5, evp, evx, ev1, evLoad, evStore, evBin, isBoolK, forall_const, z38, tb, Nat.reduceAdd, Nat.reduceSub, Nat.reduceMul, Nat.reduceEqDiff, Nat.reduceLeDiff, Nat.reduceLT, Nat.reduceBEq, Nat.reduceBNe, ↓reduceIte, reduceIte, spSo, claimS, folS, aloneoS, gmA] at h; obtain ⟨rfl, rfl, rfl, rfl⟩ := h; refine ⟨?_, ?_⟩)
    | ((with_reducible refine Ob.mk ?_); first | exact trivial | (intros; omega) | ((repeat' first | apply And.intro | (intro hg; have hg' := hg; try simp only [zH] at hg')) <;> first | assumption | omega | (simp only [zH]; omega)))
  refine fin_ret rfl rfl (spec_flat rfl ?_ rfl)
  have e : solB ⟨o, p, x⟩ w c = true := by
    unfold solB
    rw [hcb, show slP ⟨o, p, x⟩ w c 0 = true from hq 0 (by decide), show slP ⟨o, p, x⟩ w c 1 = true from hq 1 (by decide)]; rfl
  rw [e]; rfl
end Go.Proofs.Ytlckljphakkomaa.Cal
namespace Go.Proofs.Ytlckljphakkomaa.Cal
open Go Pl
theorem zs_ex1 {W C : List Int} {e : Int} (h : zsP ⟨[0, 1], [1, 2], [[0, 1], [0, 1]]⟩ W C e) : W = [0, 0] ∧ C = [1, -1] ∧ e = 0 := by
  have hv : validB ⟨[0, 1], [1, 2], [[0, 1], [0, 1]]⟩ = true := validB_true ex1_valid
  rcases h with ⟨h1, _⟩ | ⟨_, ⟨h1, h2, h3⟩ | ⟨_, _, _, h4, _⟩⟩
  · rw [hv] at h1; cases h1
  · obtain ⟨a, b⟩ := ex1_sol h2
    exact ⟨a, b, h1⟩
  · have h4 : 16 < 2 := h4
    omega
theorem zs_ex2 {W C : List Int} {e : Int} (h : zsP ⟨[1], [3], [[0]]⟩ W C e) : W = [1] ∧ C = [0] ∧ e = 0 := by
  have hv : validB ⟨[1], [3], [[0]]⟩ = true := validB_true ex2_valid
  rcases h with ⟨h1, _⟩ | ⟨_, ⟨h1, h2, h3⟩ | ⟨_, _, _, h4, _⟩⟩
  · rw [hv] at h1; cases h1
  · obtain ⟨a, b⟩ := ex2_sol h2
    exact ⟨a, b, h1⟩
  · have h4 : 16 < 1 := h4
    omega
def exS : Spec
  | [] => some ⟨True, .agg (.cons (.roI [0, 1]) (.cons (.roI [1, 2]) (.cons (.roII [[0, 1], [0, 1]]) .nil))), none⟩
  | _ => none
set_option maxRecDepth 4000 in
set_option maxHeartbeats 4000000 in
theorem ex_ok : FSpec Try.prog 22 exS := by
  refine fspec_of htb (fn := Try.f22) (by kernel_rfl) (by kernel_rfl) rfl (fun args r hS => ?_) (fun args r hS hob hl => ?_)
  · unfold exS at hS; split at hS <;> first | (cases hS; done) | (cases hS; exact Nat.le_of_ble_eq_true rfl)
  unfold exS at hS
  split at hS
  case h_2 => cases hS
  simp only [Option.some.injEq] at hS
  subst hS
  repeat' first
    | with_reducible first | refine awp_seq ?_ | refine awp_block ?_ | refine next_then ?_ | refine next_block ?_ | refine exit_then ?_ | refine ret_then ?_ | refine ret_block ?_ | refine exit_here ?_ | refine awp_exit ?_ | refine awp_ret ?_ | refine awp_skip ?_ | refine awp_label ?_ | refine next_noGoto ?_ | refine ret_noGoto ?_ | refine exit_noGoto ?_ | refine awp_scope ?_
    | ((with_reducible refine exit_past ?_ ?_); exact rfl)
    | ((with_reducible refine isCond ?_); refine awp_condO rfl ?_ ?_ <;> intro hb <;> (try simp only [zH] at hb))
    | ((with_reducible refine isReg ?_); (first | refine awp_textM htb hmz noSp (fun _ => false) rfl rfl ?_ | refine awp_drawM hmo htb hmz noSp (fun _ => false) rfl rfl (by kernel_rfl) ?_); intro m' e' l' ob h; simp only [zE0, zE1, zE2, zE3, zE4, zE5, evp, evx, ev1, evLoad, evStore, evBin, isBoolK, forall_const, z38, tb, Nat.reduceAdd, Nat.reduceSub, Nat.reduceMul, Nat.reduceEqDiff, Nat.reduceLeDiff, Nat.reduceLT, Nat.reduceBEq, Nat.reduceBNe, ↓reduceIte, reduceIte] at h; obtain ⟨rfl, rfl, rfl, rfl⟩ := h; refine ⟨?_, ?_⟩)
    | ((with_reducible refine Ob.mk ?_); first | exact trivial | (intros; omega) | ((repeat' first | apply And.intro | (intro hg; have hg' := hg; try simp only [zH] at hg')) <;> first | assumption | omega | (simp only [zH]; omega)))
  refine fin_ret rfl rfl (spec_flat rfl ?_ rfl)
  rfl
def awk13S : Spec
  | [] => some ⟨True, .bool true, none⟩
  | _ => none
noncomputable def spAz : Nat → Option Spec
  | 22 => some exS
  | 14 => some listS
  | _ => none
theorem spAz_ok : SpOK Try.prog spAz := by
  intro f S h
  unfold spAz at h
  split at h
  · cases h; exact ex_ok
  · cases h; exact list_ok
  · cases h
set_option maxRecDepth 4000 in
set_option maxHeartbeats 4000000 in
theorem awk13_ok : FSpec Try.prog 9 awk13S := by
  refine fspec_of htb (fn := Try.f9) (by kernel_rfl) (by kernel_rfl) rfl (fun args r hS => ?_) (fun args r hS hob hl => ?_)
  · unfold awk13S at hS; split at hS <;> first | (cases hS; done) | (cases hS; exact Nat.le_of_ble_eq_true rfl)
  unfold awk13S at hS
  split at hS
  case h_2 => cases hS
  simp only [Option.some.injEq] at hS
  subst hS
  repeat' first
    | with_reducible first | refine awp_seq ?_ | refine awp_block ?_ | refine next_then ?_ | refine next_block ?_ | refine exit_then ?_ | refine ret_then ?_ | refine ret_block ?_ | refine exit_here ?_ | refine awp_exit ?_ | refine awp_ret ?_ | refine awp_skip ?_ | refine awp_label ?_ | refine next_noGoto ?_ | refine ret_noGoto ?_ | refine exit_noGoto ?_ | refine awp_scope ?_
    | ((with_reducible refine exit_past ?_ ?_); exact rfl)
    | ((with_reducible refine isCond ?_); refine awp_condO rfl ?_ ?_ <;> intro hb <;> (try simp only [zH] at hb))
    | ((with_reducible refine isRegS 1 ?_ ?_); (· exact rfl); (first | refine awp_textM htb hmz spAz_ok (fun _ => false) rfl rfl ?_ | refine awp_drawM hmo htb hmz spAz_ok (fun _ => false) rfl rfl (by kernel_rfl) ?_); intro m' e' l' ob h; simp only [zE0, zE1, zE2, zE3, zE4, zE5, evp, evx, ev1, evLoad, evStore, evBin, isBoolK, forall_const, z38, tb, Nat.reduceAdd, Nat.reduceSub, Nat.reduceMul, Nat.reduceEqDiff, Nat.reduceLeDiff, Nat.reduceLT, Nat.reduceBEq, Nat.reduceBNe, ↓reduceIte, reduceIte, spAz, exS, listS] at h; obtain ⟨rfl, rfl, rfl, rfl⟩ := h; refine ⟨?_, ?_⟩)
    | ((with_reducible refine Ob.mk ?_); first | exact trivial | (intros; omega) | ((repeat' first | apply And.intro | (intro hg; have hg' := hg; try simp only [zH] at hg')) <;> first | assumption | omega | (simp only [zH]; omega)))
  refine awp_cut ([_]) ([_, _, _, _, _, _]) rfl rfl ?_
  refine awpL_text htb hmz spAz_ok (fun _ => false) rfl rfl rfl ?_; intro m' e' l' ob h; simp only [zE0, zE1, zE2, zE3, zE4, zE5, evp, evx, ev1, evLoad, evStore, evBin, isBoolK, forall_const, z38, tb, Nat.reduceAdd, Nat.reduceSub, Nat.reduceMul, Nat.reduceEqDiff, Nat.reduceLeDiff, Nat.reduceLT, Nat.reduceBEq, Nat.reduceBNe, ↓reduceIte, reduceIte, spAz, exS, listS] at h; obtain ⟨rfl, rfl, rfl, rfl⟩ := h; refine ⟨?_, next_then ?_⟩
  · first | ((with_reducible refine Ob.mk ?_); first | exact trivial | (intros; omega) | ((repeat' first | apply And.intro | (intro hg; have hg' := hg; try simp only [zH] at hg')) <;> first | (with_reducible exact True.intro) | assumption | omega | (simp only [zH]; omega))) | skip
  refine awpL_callG ([]) (zsolve_fg) rfl rfl rfl rfl rfl rfl rfl rfl rfl (by simp only [rinR, rhoC, zE0, zE1, zE2, zE3, zE4, zE5, evp, evx, ev1, evLoad, evStore, evBin, isBoolK, forall_const, z38, tb, Nat.reduceAdd, Nat.reduceSub, Nat.reduceMul, Nat.reduceEqDiff, Nat.reduceLeDiff, Nat.reduceLT, Nat.reduceBEq, Nat.reduceBNe, ↓reduceIte, reduceIte, spAz, exS, listS]) ?_; intro gm gv gr hq m' e' l' h; obtain ⟨W1, C1, e1, hZ1, hq⟩ := hq; simp only [GR.mk.injEq] at hq; obtain ⟨rfl, rfl, rfl⟩ := hq; simp only [rhoC, outR, renR, dels, zE0, zE1, zE2, zE3, zE4, zE5, evp, evx, ev1, evLoad, evStore, evBin, isBoolK, forall_const, z38, tb, Nat.reduceAdd, Nat.reduceSub, Nat.reduceMul, Nat.reduceEqDiff, Nat.reduceLeDiff, Nat.reduceLT, Nat.reduceBEq, Nat.reduceBNe, ↓reduceIte, reduceIte, spAz, exS, listS] at h; obtain ⟨rfl, rfl, rfl⟩ := h; refine next_then ?_
  obtain ⟨rfl, rfl, rfl⟩ := zs_ex1 hZ1
  refine awpL_text htb hmz spAz_ok (fun _ => false) rfl rfl rfl ?_; intro m' e' l' ob h; simp only [zE0, zE1, zE2, zE3, zE4, zE5, evp, evx, ev1, evLoad, evStore, evBin, isBoolK, forall_const, z38, tb, Nat.reduceAdd, Nat.reduceSub, Nat.reduceMul, Nat.reduceEqDiff, Nat.reduceLeDiff, Nat.reduceLT, Nat.reduceBEq, Nat.reduceBNe, ↓reduceIte, reduceIte, spAz, exS, listS] at h; obtain ⟨rfl, rfl, rfl, rfl⟩ := h; refine ⟨?_, ?_⟩
  · first | ((with_reducible refine Ob.mk ?_); first | exact trivial | (intros; omega) | ((repeat' first | apply And.intro | (intro hg; have hg' := hg; try simp only [zH] at hg')) <;> first | (with_reducible exact True.intro) | assumption | omega | (simp only [zH]; omega))) | skip
  refine next_then (awp_seq ?_)
  refine awp_cut ([_, _, _, _, _]) ([_, _, _, _, _, _]) rfl rfl ?_
  refine awpL_text htb hmz spAz_ok (fun _ => false) rfl rfl rfl ?_; intro m' e' l' ob h; simp only [zE0, zE1, zE2, zE3, zE4, zE5, evp, evx, ev1, evLoad, evStore, evBin, isBoolK, forall_const, z38, tb, Nat.reduceAdd, Nat.reduceSub, Nat.reduceMul, Nat.reduceEqDiff, Nat.reduceLeDiff, Nat.reduceLT, Nat.reduceBEq, Nat.reduceBNe, ↓reduceIte, reduceIte, spAz, exS, listS] at h; obtain ⟨rfl, rfl, rfl, rfl⟩ := h; refine ⟨?_, next_then ?_⟩
  · first | ((with_reducible refine Ob.mk ?_); first | exact trivial | (intros; omega) | ((repeat' first | apply And.intro | (intro hg; have hg' := hg; try simp only [zH] at hg')) <;> first | (with_reducible exact True.intro) | assumption | omega | (simp only [zH]; omega))) | skip
  refine awpL_callG ([]) (zsolve_fg) rfl rfl rfl rfl rfl rfl rfl rfl rfl (by simp only [rinR, rhoC, zE0, zE1, zE2, zE3, zE4, zE5, evp, evx, ev1, evLoad, evStore, evBin, isBoolK, forall_const, z38, tb, Nat.reduceAdd, Nat.reduceSub, Nat.reduceMul, Nat.reduceEqDiff, Nat.reduceLeDiff, Nat.reduceLT, Nat.reduceBEq, Nat.reduceBNe, ↓reduceIte, reduceIte, spAz, exS, listS]) ?_; intro gm gv gr hq m' e' l' h; obtain ⟨W2, C2, e2, hZ2, hq⟩ := hq; simp only [GR.mk.injEq] at hq; obtain ⟨rfl, rfl, rfl⟩ := hq; simp only [rhoC, outR, renR, dels, zE0, zE1, zE2, zE3, zE4, zE5, evp, evx, ev1, evLoad, evStore, evBin, isBoolK, forall_const, z38, tb, Nat.reduceAdd, Nat.reduceSub, Nat.reduceMul, Nat.reduceEqDiff, Nat.reduceLeDiff, Nat.reduceLT, Nat.reduceBEq, Nat.reduceBNe, ↓reduceIte, reduceIte, spAz, exS, listS] at h; obtain ⟨rfl, rfl, rfl⟩ := h; refine next_then ?_
  obtain ⟨rfl, rfl, rfl⟩ := zs_ex2 hZ2
  refine awpL_text htb hmz spAz_ok (fun _ => false) rfl rfl rfl ?_; intro m' e' l' ob h; simp only [zE0, zE1, zE2, zE3, zE4, zE5, evp, evx, ev1, evLoad, evStore, evBin, isBoolK, forall_const, z38, tb, Nat.reduceAdd, Nat.reduceSub, Nat.reduceMul, Nat.reduceEqDiff, Nat.reduceLeDiff, Nat.reduceLT, Nat.reduceBEq, Nat.reduceBNe, ↓reduceIte, reduceIte, spAz, exS, listS] at h; obtain ⟨rfl, rfl, rfl, rfl⟩ := h; refine ⟨?_, ?_⟩
  · first | ((with_reducible refine Ob.mk ?_); first | exact trivial | (intros; omega) | ((repeat' first | apply And.intro | (intro hg; have hg' := hg; try simp only [zH] at hg')) <;> first | (with_reducible exact True.intro) | assumption | omega | (simp only [zH]; omega))) | skip
  repeat' first
    | with_reducible first | refine awp_seq ?_ | refine awp_block ?_ | refine next_then ?_ | refine next_block ?_ | refine exit_then ?_ | refine ret_then ?_ | refine ret_block ?_ | refine exit_here ?_ | refine awp_exit ?_ | refine awp_ret ?_ | refine awp_skip ?_ | refine awp_label ?_ | refine next_noGoto ?_ | refine ret_noGoto ?_ | refine exit_noGoto ?_ | refine awp_scope ?_
    | ((with_reducible refine exit_past ?_ ?_); exact rfl)
    | ((with_reducible refine isCond ?_); refine awp_condO rfl ?_ ?_ <;> intro hb <;> (try simp only [zH] at hb))
    | ((with_reducible refine isReg ?_); (first | refine awp_textM htb hmz spAz_ok (fun _ => false) rfl rfl ?_ | refine awp_drawM hmo htb hmz spAz_ok (fun _ => false) rfl rfl (by kernel_rfl) ?_); intro m' e' l' ob h; simp only [zE0, zE1, zE2, zE3, zE4, zE5, evp, evx, ev1, evLoad, evStore, evBin, isBoolK, forall_const, z38, tb, Nat.reduceAdd, Nat.reduceSub, Nat.reduceMul, Nat.reduceEqDiff, Nat.reduceLeDiff, Nat.reduceLT, Nat.reduceBEq, Nat.reduceBNe, ↓reduceIte, reduceIte, spAz, exS, listS] at h; obtain ⟨rfl, rfl, rfl, rfl⟩ := h; refine ⟨?_, ?_⟩)
    | ((with_reducible refine Ob.mk ?_); first | exact trivial | (intros; omega) | ((repeat' first | apply And.intro | (intro hg; have hg' := hg; try simp only [zH] at hg')) <;> first | assumption | omega | (simp only [zH]; omega)))
  refine fin_ret rfl rfl (spec_flat rfl ?_ rfl)
  rfl
end Go.Proofs.Ytlckljphakkomaa.Cal
