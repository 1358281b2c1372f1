/- Own texts of the proof, merged, in order. -/
import Derived.Test.YtlckljphakkomaaS24
set_option linter.unusedVariables false
set_option linter.unusedSimpArgs false
namespace Go.Proofs.Ytlckljphakkomaa.Cal
open Go Pl
noncomputable def claimS : Spec
  | [.agg (.cons (.roI o) (.cons (.roI p) (.cons (.roII x) .nil))), .agg (.cons (.roI w) (.cons (.roI c) .nil))] => some ⟨validB ⟨o, p, x⟩ = true, .bool (claimB ⟨o, p, x⟩ w c), none⟩
  | _ => none
noncomputable def spCl : Nat → Option Spec
  | 26 => some hasS
  | _ => none
theorem spCl_ok : SpOK Try.prog spCl := by
  intro f S h
  unfold spCl at h
  split at h
  · cases h; exact has13_ok
  · cases h
set_option maxRecDepth 4000 in
set_option maxHeartbeats 4000000 in
theorem claim_ok : FSpec Try.prog 27 claimS := by
  refine fspec_of htb (fn := Try.f27) (by kernel_rfl) (by kernel_rfl) rfl (fun args r hS => ?_) (fun args r hS hob hl => ?_)
  · unfold claimS at hS; split at hS <;> first | (cases hS; done) | (cases hS; exact Nat.le_of_ble_eq_true rfl)
  unfold claimS at hS
  split at hS
  case h_2 => cases hS
  rename_i o p x w c
  simp only [Option.some.injEq] at hS
  subst hS
  simp only [lenP, mkL, lim] at hl
  dsimp only at hob
  have hv := hob
  have hG := gok (validB_iff.1 hob)
  have hpl : p.length = o.length := hG.pl
  have hxl : x.length = o.length := hG.xl
  have hn : o.length ≤ 20000 := hG.n
  have hno : ∀ v, v < o.length → ¬ ((w.getD v 0 = 0 ∨ w.getD v 0 = 1) ∧ (o.getD v 0 = w.getD v 0 → c.getD v 0 ∈ x.getD v []) ∧ (o.getD v 0 ≠ w.getD v 0 → c.getD v 0 = -1)) → claimB ⟨o, p, x⟩ w c = false := fun v hv h => decide_eq_false fun h2 => h (h2.2.2 v hv)
  repeat' first
    | with_reducible first | refine awp_seq ?_ | refine awp_block ?_ | refine next_then ?_ | refine next_block ?_ | refine exit_then ?_ | refine ret_then ?_ | refine ret_block ?_ | refine exit_here ?_ | refine awp_exit ?_ | refine awp_ret ?_ | refine awp_skip ?_ | refine awp_label ?_ | refine next_noGoto ?_ | refine ret_noGoto ?_ | refine exit_noGoto ?_ | refine awp_scope ?_
    | ((with_reducible refine exit_past ?_ ?_); exact rfl)
    | ((with_reducible refine isCond ?_); refine awp_condO rfl ?_ ?_ <;> intro hb <;> (try simp only [zH] at hb))
    | ((with_reducible refine isRegS 2 ?_ ?_); (· exact rfl); (with_reducible refine isRegS 3 ?_ ?_); (· exact rfl); (first | refine awp_textM htb hmz spCl_ok (fun _ => false) rfl rfl ?_ | refine awp_drawM hmo htb hmz spCl_ok (fun _ => false) rfl rfl (by kernel_rfl) ?_); intro m' e' l' ob h; simp only [zE0, zE1, zE2, zE3, zE4, zE5, evp, evx, ev1, evLoad, evStore, evBin, isBoolK, forall_const, z38, tb, Nat.reduceAdd, Nat.reduceSub, Nat.reduceMul, Nat.reduceEqDiff, Nat.reduceLeDiff, Nat.reduceLT, Nat.reduceBEq, Nat.reduceBNe, ↓reduceIte, reduceIte, spCl, hasS] at h; obtain ⟨rfl, rfl, rfl, rfl⟩ := h; refine ⟨?_, ?_⟩)
    | ((with_reducible refine Ob.mk ?_); first | exact trivial | (intros; omega) | ((repeat' first | apply And.intro | (intro hg; have hg' := hg; try simp only [zH] at hg')) <;> first | assumption | omega | (simp only [zH]; omega)))
  · have hcb : claimB ⟨o, p, x⟩ w c = false := decide_eq_false fun h => by
      have h1 : w.length = o.length := h.1
      have h2 : c.length = o.length := h.2.1
      omega
    repeat' first
      | with_reducible first | refine awp_seq ?_ | refine awp_block ?_ | refine next_then ?_ | refine next_block ?_ | refine exit_then ?_ | refine ret_then ?_ | refine ret_block ?_ | refine exit_here ?_ | refine awp_exit ?_ | refine awp_ret ?_ | refine awp_skip ?_ | refine awp_label ?_ | refine next_noGoto ?_ | refine ret_noGoto ?_ | refine exit_noGoto ?_ | refine awp_scope ?_
      | ((with_reducible refine exit_past ?_ ?_); exact rfl)
      | ((with_reducible refine isCond ?_); refine awp_condO rfl ?_ ?_ <;> intro hb <;> (try simp only [zH] at hb))
      | ((with_reducible refine isReg ?_); (first | refine awp_textM htb hmz spCl_ok (fun _ => false) rfl rfl ?_ | refine awp_drawM hmo htb hmz spCl_ok (fun _ => false) rfl rfl (by kernel_rfl) ?_); intro m' e' l' ob h; simp only [zE0, zE1, zE2, zE3, zE4, zE5, evp, evx, ev1, evLoad, evStore, evBin, isBoolK, forall_const, z38, tb, Nat.reduceAdd, Nat.reduceSub, Nat.reduceMul, Nat.reduceEqDiff, Nat.reduceLeDiff, Nat.reduceLT, Nat.reduceBEq, Nat.reduceBNe, ↓reduceIte, reduceIte, spCl, hasS] at h; obtain ⟨rfl, rfl, rfl, rfl⟩ := h; refine ⟨?_, ?_⟩)
      | ((with_reducible refine Ob.mk ?_); first | exact trivial | (intros; omega) | ((repeat' first | apply And.intro | (intro hg; have hg' := hg; try simp only [zH] at hg')) <;> first | assumption | omega | (simp only [zH]; omega)))
    refine fin_ret rfl rfl (spec_flat rfl ?_ rfl)
    rw [hcb]; rfl
  have hwl : w.length = o.length := by omega
  have hcl : c.length = o.length := by omega
  clear hb
  have hrl : ∀ v, v < o.length → (x.getD v []).length ≤ 64 := fun v h => (hG.len v h).2
  repeat' first
    | with_reducible first | refine awp_seq ?_ | refine awp_block ?_ | refine next_then ?_ | refine next_block ?_ | refine exit_then ?_ | refine ret_then ?_ | refine ret_block ?_ | refine exit_here ?_ | refine awp_exit ?_ | refine awp_ret ?_ | refine awp_skip ?_ | refine awp_label ?_ | refine next_noGoto ?_ | refine ret_noGoto ?_ | refine exit_noGoto ?_ | refine awp_scope ?_
    | ((with_reducible refine exit_past ?_ ?_); exact rfl)
    | ((with_reducible refine isCond ?_); refine awp_condO rfl ?_ ?_ <;> intro hb <;> (try simp only [zH] at hb))
    | ((with_reducible refine isReg ?_); (first | refine awp_textM htb hmz spCl_ok (fun _ => false) rfl rfl ?_ | refine awp_drawM hmo htb hmz spCl_ok (fun _ => false) rfl rfl (by kernel_rfl) ?_); intro m' e' l' ob h; simp only [zE0, zE1, zE2, zE3, zE4, zE5, evp, evx, ev1, evLoad, evStore, evBin, isBoolK, forall_const, z38, tb, Nat.reduceAdd, Nat.reduceSub, Nat.reduceMul, Nat.reduceEqDiff, Nat.reduceLeDiff, Nat.reduceLT, Nat.reduceBEq, Nat.reduceBNe, ↓reduceIte, reduceIte, spCl, hasS] at h; obtain ⟨rfl, rfl, rfl, rfl⟩ := h; refine ⟨?_, ?_⟩)
    | ((with_reducible refine Ob.mk ?_); first | exact trivial | (intros; omega) | ((repeat' first | apply And.intro | (intro hg; have hg' := hg; try simp only [zH] at hg')) <;> first | assumption | omega | (simp only [zH]; omega)))
  refine awp_loopC (τ := Nat) (fun i => i ≤ o.length ∧ ∀ v, v < i → (w.getD v 0 = 0 ∨ w.getD v 0 = 1) ∧ (o.getD v 0 = w.getD v 0 → c.getD v 0 ∈ x.getD v []) ∧ (o.getD v 0 ≠ w.getD v 0 → c.getD v 0 = -1)) (fun i => ⟨23, [(26, .int .i64 i), (25, .int .i64 w.length), (24, .roI w), (3, .rop (.agg (.cons (.roI w) (.cons (.roI c) .nil)))), (2, (.rop (.agg (.cons (.roI o) (.cons (.roI p) (.cons (.roII x) .nil))))))], [], []⟩) (fun i => o.length - i) 0 [] ?_ ⟨Nat.zero_le _, fun v hv => absurd hv (Nat.not_lt_zero v)⟩ ?_
  · (refine ⟨rfl, ?_, ?_⟩ <;> simp only [zE0, zE1, zE2, zE3, zE4, zE5, evp, evx, ev1, evLoad, evStore, evBin, isBoolK, forall_const, z38, tb, Nat.reduceAdd, Nat.reduceSub, Nat.reduceMul, Nat.reduceEqDiff, Nat.reduceLeDiff, Nat.reduceLT, Nat.reduceBEq, Nat.reduceBNe, ↓reduceIte, reduceIte, spCl, hasS, zI])
  rintro i ⟨hi, hk⟩
  have hno1 := hno i
  have hrl1 := hrl i
  clear hno hrl
  repeat' first
    | with_reducible first | refine awp_seq ?_ | refine awp_block ?_ | refine next_then ?_ | refine next_block ?_ | refine exit_then ?_ | refine ret_then ?_ | refine ret_block ?_ | refine exit_here ?_ | refine awp_exit ?_ | refine awp_ret ?_ | refine awp_skip ?_ | refine awp_label ?_ | refine next_noGoto ?_ | refine ret_noGoto ?_ | refine exit_noGoto ?_ | refine awp_scope ?_
    | ((with_reducible refine exit_past ?_ ?_); exact rfl)
    | ((with_reducible refine isCond ?_); refine awp_condO rfl ?_ ?_ <;> intro hb <;> (try simp only [zH] at hb))
    | ((with_reducible refine isRegS 7 ?_ ?_); (· exact rfl); (with_reducible refine isRegS 8 ?_ ?_); (· exact rfl); (first | refine awp_textM htb hmz spCl_ok (fun _ => false) rfl rfl ?_ | refine awp_drawM hmo htb hmz spCl_ok (fun _ => false) rfl rfl (by kernel_rfl) ?_); intro m' e' l' ob h; simp only [zE0, zE1, zE2, zE3, zE4, zE5, evp, evx, ev1, evLoad, evStore, evBin, isBoolK, forall_const, z38, tb, Nat.reduceAdd, Nat.reduceSub, Nat.reduceMul, Nat.reduceEqDiff, Nat.reduceLeDiff, Nat.reduceLT, Nat.reduceBEq, Nat.reduceBNe, ↓reduceIte, reduceIte, spCl, hasS] at h; obtain ⟨rfl, rfl, rfl, rfl⟩ := h; refine ⟨?_, ?_⟩)
    | ((with_reducible refine Ob.mk ?_); first | exact trivial | (intros; omega) | ((repeat' first | apply And.intro | (intro hg; have hg' := hg; try simp only [zH] at hg')) <;> first | assumption | omega | (simp only [zH]; omega)))
  · rw [hno1 (by omega) fun h => by omega] at *
    repeat' first
      | with_reducible first | refine awp_seq ?_ | refine awp_block ?_ | refine next_then ?_ | refine next_block ?_ | refine exit_then ?_ | refine ret_then ?_ | refine ret_block ?_ | refine exit_here ?_ | refine awp_exit ?_ | refine awp_ret ?_ | refine awp_skip ?_ | refine awp_label ?_ | refine next_noGoto ?_ | refine ret_noGoto ?_ | refine exit_noGoto ?_ | refine awp_scope ?_
      | ((with_reducible refine exit_past ?_ ?_); exact rfl)
      | ((with_reducible refine isCond ?_); refine awp_condO rfl ?_ ?_ <;> intro hb <;> (try simp only [zH] at hb))
      | ((with_reducible refine isReg ?_); (first | refine awp_textM htb hmz spCl_ok (fun _ => false) rfl rfl ?_ | refine awp_drawM hmo htb hmz spCl_ok (fun _ => false) rfl rfl (by kernel_rfl) ?_); intro m' e' l' ob h; simp only [zE0, zE1, zE2, zE3, zE4, zE5, evp, evx, ev1, evLoad, evStore, evBin, isBoolK, forall_const, z38, tb, Nat.reduceAdd, Nat.reduceSub, Nat.reduceMul, Nat.reduceEqDiff, Nat.reduceLeDiff, Nat.reduceLT, Nat.reduceBEq, Nat.reduceBNe, ↓reduceIte, reduceIte, spCl, hasS] at h; obtain ⟨rfl, rfl, rfl, rfl⟩ := h; refine ⟨?_, ?_⟩)
      | ((with_reducible refine Ob.mk ?_); first | exact trivial | (intros; omega) | ((repeat' first | apply And.intro | (intro hg; have hg' := hg; try simp only [zH] at hg')) <;> first | assumption | omega | (simp only [zH]; omega)))
    refine fin_ret rfl rfl (spec_flat rfl ?_ rfl)
    rfl
  · (refine awp_drawM hmo htb hmz spCl_ok (fun _ => false) rfl rfl (by kernel_rfl) ?_; intro m' e' l' ob h; simp only [zE0, zE1, zE2, zE3, zE4, zE5, evp, evx, ev1, evLoad, evStore, evBin, isBoolK, forall_const, z38, tb, Nat.reduceAdd, Nat.reduceSub, Nat.reduceMul, Nat.reduceEqDiff, Nat.reduceLeDiff, Nat.reduceLT, Nat.reduceBEq, Nat.reduceBNe, ↓reduceIte, reduceIte, spCl, hasS] at h; obtain ⟨rfl, rfl, rfl, rfl⟩ := h; refine ⟨?_, ?_⟩)
    · first | ((with_reducible refine Ob.mk ?_); first | exact trivial | (intros; omega) | ((repeat' first | apply And.intro | (intro hg; have hg' := hg; try simp only [zH] at hg')) <;> first | assumption | omega | (simp only [zH]; omega))) | skip
    repeat' first
      | with_reducible first | refine awp_seq ?_ | refine awp_block ?_ | refine next_then ?_ | refine next_block ?_ | refine exit_then ?_ | refine ret_then ?_ | refine ret_block ?_ | refine exit_here ?_ | refine awp_exit ?_ | refine awp_ret ?_ | refine awp_skip ?_ | refine awp_label ?_ | refine next_noGoto ?_ | refine ret_noGoto ?_ | refine exit_noGoto ?_ | refine awp_scope ?_
      | ((with_reducible refine exit_past ?_ ?_); exact rfl)
      | ((with_reducible refine isCond ?_); refine awp_condO rfl ?_ ?_ <;> intro hb <;> (try simp only [zH] at hb))
      | ((with_reducible refine isRegS 9 ?_ ?_); (· exact rfl); (with_reducible refine isRegS 10 ?_ ?_); (· exact rfl); (first | refine awp_textM htb hmz spCl_ok (fun _ => false) rfl rfl ?_ | refine awp_drawM hmo htb hmz spCl_ok (fun _ => false) rfl rfl (by kernel_rfl) ?_); intro m' e' l' ob h; simp only [zE0, zE1, zE2, zE3, zE4, zE5, evp, evx, ev1, evLoad, evStore, evBin, isBoolK, forall_const, z38, tb, Nat.reduceAdd, Nat.reduceSub, Nat.reduceMul, Nat.reduceEqDiff, Nat.reduceLeDiff, Nat.reduceLT, Nat.reduceBEq, Nat.reduceBNe, ↓reduceIte, reduceIte, spCl, hasS] at h; obtain ⟨rfl, rfl, rfl, rfl⟩ := h; refine ⟨?_, ?_⟩)
      | ((with_reducible refine Ob.mk ?_); first | exact trivial | (intros; omega) | ((repeat' first | apply And.intro | (intro hg; have hg' := hg; try simp only [zH] at hg')) <;> first | assumption | omega | (simp only [zH]; omega)))
    · rename_i hb1
      repeat' first
        | with_reducible first | refine awp_seq ?_ | refine awp_block ?_ | refine next_then ?_ | refine next_block ?_ | refine exit_then ?_ | refine ret_then ?_ | refine ret_block ?_ | refine exit_here ?_ | refine awp_exit ?_ | refine awp_ret ?_ | refine awp_skip ?_ | refine awp_label ?_ | refine next_noGoto ?_ | refine ret_noGoto ?_ | refine exit_noGoto ?_ | refine awp_scope ?_
        | ((with_reducible refine exit_past ?_ ?_); exact rfl)
        | ((with_reducible refine isCond ?_); refine awp_condO rfl ?_ ?_ <;> intro hb <;> (try simp only [zH] at hb))
        | ((with_reducible refine isReg ?_); (first | refine awp_textM htb hmz spCl_ok (fun _ => false) rfl rfl ?_ | refine awp_drawM hmo htb hmz spCl_ok (fun _ => false) rfl rfl (by kernel_rfl) ?_); intro m' e' l' ob h; simp only [zE0, zE1, zE2, zE3, zE4, zE5, evp, evx, ev1, evLoad, evStore, evBin, isBoolK, forall_const, z38, tb, Nat.reduceAdd, Nat.reduceSub, Nat.reduceMul, Nat.reduceEqDiff, Nat.reduceLeDiff, Nat.reduceLT, Nat.reduceBEq, Nat.reduceBNe, ↓reduceIte, reduceIte, spCl, hasS] at h; obtain ⟨rfl, rfl, rfl, rfl⟩ := h; refine ⟨?_, ?_⟩)
        | ((with_reducible refine Ob.mk ?_); first | exact trivial | (intros; omega) | ((repeat' first | apply And.intro | (intro hg; have hg' := hg; try simp only [zH] at hg')) <;> first | assumption | omega | (simp only [zH]; omega)))
      refine fin_ret rfl rfl (spec_flat rfl ?_ rfl)
      rw [hno1 (by omega) fun h => hb.2 (h.2.1 hb.1)]
      rfl
    rename_i hb1
    repeat' first
      | with_reducible first | refine awp_seq ?_ | refine awp_block ?_ | refine next_then ?_ | refine next_block ?_ | refine exit_then ?_ | refine ret_then ?_ | refine ret_block ?_ | refine exit_here ?_ | refine awp_exit ?_ | refine awp_ret ?_ | refine awp_skip ?_ | refine awp_label ?_ | refine next_noGoto ?_ | refine ret_noGoto ?_ | refine exit_noGoto ?_ | refine awp_scope ?_
      | ((with_reducible refine exit_past ?_ ?_); exact rfl)
      | ((with_reducible refine isCond ?_); refine awp_condO rfl ?_ ?_ <;> intro hb <;> (try simp only [zH] at hb))
      | ((with_reducible refine isReg ?_); (first | refine awp_textM htb hmz spCl_ok (fun _ => false) rfl rfl ?_ | refine awp_drawM hmo htb hmz spCl_ok (fun _ => false) rfl rfl (by kernel_rfl) ?_); intro m' e' l' ob h; simp only [zE0, zE1, zE2, zE3, zE4, zE5, evp, evx, ev1, evLoad, evStore, evBin, isBoolK, forall_const, z38, tb, Nat.reduceAdd, Nat.reduceSub, Nat.reduceMul, Nat.reduceEqDiff, Nat.reduceLeDiff, Nat.reduceLT, Nat.reduceBEq, Nat.reduceBNe, ↓reduceIte, reduceIte, spCl, hasS] at h; obtain ⟨rfl, rfl, rfl, rfl⟩ := h; refine ⟨?_, ?_⟩)
      | ((with_reducible refine Ob.mk ?_); first | exact trivial | (intros; omega) | ((repeat' first | apply And.intro | (intro hg; have hg' := hg; try simp only [zH] at hg')) <;> first | assumption | omega | (simp only [zH]; omega)))
    · refine fin_ret rfl rfl (spec_flat rfl ?_ rfl)
      rw [hno1 (by omega) fun h => hb.2 (h.2.2 hb.1)]
      rfl
    · rename_i hb2
      refine back (i + 1) [] ?_ ⟨by omega, fun v hv => ?_⟩ (by omega)
      · (refine ⟨rfl, ?_, ?_⟩ <;> simp only [zE0, zE1, zE2, zE3, zE4, zE5, evp, evx, ev1, evLoad, evStore, evBin, isBoolK, forall_const, z38, tb, Nat.reduceAdd, Nat.reduceSub, Nat.reduceMul, Nat.reduceEqDiff, Nat.reduceLeDiff, Nat.reduceLT, Nat.reduceBEq, Nat.reduceBNe, ↓reduceIte, reduceIte, spCl, hasS, zI])
      · rcases Nat.lt_succ_iff_lt_or_eq.1 hv with h | rfl
        · exact hk v h
        · refine ⟨by omega, fun h => ?_, fun h => ?_⟩
          · rcases hb2 with h2 | h2
            · exact absurd h h2
            · exact h2
          · rcases hb with h2 | h2
            · exact absurd h2 h
            · exact h2
  have hie : i = o.length := by omega
  subst hie
  refine fin_ret rfl rfl (spec_flat rfl ?_ rfl)
  have hcb : claimB ⟨o, p, x⟩ w c = true := decide_eq_true ⟨hwl, hcl, hk⟩
  rw [hcb]
  rfl
noncomputable def folR (g : Gm) (W C : List Int) (p : Int) : Gm := if cloB g W C p = true then folG g W C p else ⟨[], [], []⟩
noncomputable def folS : Spec
  | [.agg (.cons (.roI o) (.cons (.roI p) (.cons (.roII x) .nil))), .agg (.cons (.roI w) (.cons (.roI c) .nil)), .int .i64 pl] =>
    some ⟨validB ⟨o, p, x⟩ = true ∧ w.length = o.length ∧ c.length = o.length ∧ (∀ v, v < o.length → w.getD v 0 = pl → o.getD v 0 = pl → c.getD v 0 ∈ x.getD v []), .tup (.cons (gmA (folR ⟨o, p, x⟩ w c pl)) (.cons (.bool (cloB ⟨o, p, x⟩ w c pl)) .nil)), none⟩
  | _ => none
set_option maxRecDepth 4000 in
set_option maxHeartbeats 4000000 in
theorem follow_ok : FSpec Try.prog 28 folS := by
  refine fspec_of htb (fn := Try.f28) (by kernel_rfl) (by kernel_rfl) rfl (fun args r hS => ?_) (fun args r hS hob hl => ?_)
  · unfold folS at hS; split at hS <;> first | (cases hS; done) | (cases hS; exact Nat.le_of_ble_eq_true rfl)
  unfold folS at hS
  split at hS
  case h_2 => cases hS
  rename_i o p x w c pl
  simp only [Option.some.injEq] at hS
  subst hS
  simp only [lenP, mkL, lim] at hl
  dsimp only at hob
  obtain ⟨hv, hwl, hcl, hcc⟩ := hob
  have hG := gok (validB_iff.1 hv)
  have hpl : p.length = o.length := hG.pl
  have hxl : x.length = o.length := hG.xl
  have hn : o.length ≤ 20000 := hG.n
  obtain ⟨k, hk⟩ : ∃ k, selL ⟨o, p, x⟩ w pl = k := ⟨_, rfl⟩
  have hkl : k.length = o.length := by rw [← hk]; simp [selL]
  have hki : ∀ v, v < o.length → (k.getD v false = true ↔ w.getD v 0 = pl) := fun v hv => by rw [← hk]; exact sel_iff (g := ⟨o, p, x⟩) hv
  repeat' first
    | with_reducible first | refine awp_seq ?_ | refine awp_block ?_ | refine next_then ?_ | refine next_block ?_ | refine exit_then ?_ | refine ret_then ?_ | refine ret_block ?_ | refine exit_here ?_ | refine awp_exit ?_ | refine awp_ret ?_ | refine awp_skip ?_ | refine awp_label ?_ | refine next_noGoto ?_ | refine ret_noGoto ?_ | refine exit_noGoto ?_ | refine awp_scope ?_
    | ((with_reducible refine exit_past ?_ ?_); exact rfl)
    | ((with_reducible refine isCond ?_); refine awp_condO rfl ?_ ?_ <;> intro hb <;> (try simp only [zH] at hb))
    | ((with_reducible refine isReg ?_); (first | refine awp_textM htb hmz noSp (fun _ => false) rfl rfl ?_ | refine awp_drawM hmo htb hmz noSp (fun _ => false) rfl rfl (by kernel_rfl) ?_); intro m' e' l' ob h; simp only [zE0, zE1, zE2, zE3, zE4, zE5, evp, evx, ev1, evLoad, evStore, evBin, isBoolK, forall_const, z38, tb, Nat.reduceAdd, Nat.reduceSub, Nat.reduceMul, Nat.reduceEqDiff, Nat.reduceLeDiff, Nat.reduceLT, Nat.reduceBEq, Nat.reduceBNe, ↓reduceIte, reduceIte] at h; obtain ⟨rfl, rfl, rfl, rfl⟩ := h; refine ⟨?_, ?_⟩)
    | ((with_reducible refine Ob.mk ?_); first | exact trivial | (intros; omega) | ((repeat' first | apply And.intro | (intro hg; have hg' := hg; try simp only [zH] at hg')) <;> first | assumption | omega | (simp only [zH]; omega)))
  refine awp_nilown 9 (.ints []) (by simp only [zE0, zE1, zE2, zE3, zE4, zE5, evp, evx, ev1, evLoad, evStore, evBin, isBoolK, forall_const, z38, tb, Nat.reduceAdd, Nat.reduceSub, Nat.reduceMul, Nat.reduceEqDiff, Nat.reduceLeDiff, Nat.reduceLT, Nat.reduceBEq, Nat.reduceBNe, ↓reduceIte, reduceIte]) (.inl rfl) rfl ?_
  refine awp_loopC (τ := Nat) (fun i => i ≤ o.length) (fun i => ⟨15, [(25, .int .i64 i), (24, .int .i64 o.length), (9, .own 14), (8, .own 7), (7, .bool false), (6, .own 2), (4, (.rop (.agg (.cons (.roI w) (.cons (.roI c) .nil))))), (3, (.rop (.agg (.cons (.roI o) (.cons (.roI p) (.cons (.roII x) .nil)))))), (2, .int .i64 pl)], [(14, some (.ints ((kp k i).map fun v : Nat => (v : Int)))), (2, some (.box (.agg (.cons (.cst (.slice none 0 0)) (.cons (.cst (.slice none 0 0)) (.cons (.cst (.slice none 0 0)) .nil)))))), (7, some (.ints (mix (nmF k) (fun _ => 0) o.length i)))], []⟩) (fun i => o.length - i) 0 [] ?_ (Nat.zero_le _) ?_
  · (refine ⟨rfl, ?_, ?_⟩ <;> simp only [zE0, zE1, zE2, zE3, zE4, zE5, evp, evx, ev1, evLoad, evStore, evBin, isBoolK, forall_const, z38, tb, Nat.reduceAdd, Nat.reduceSub, Nat.reduceMul, Nat.reduceEqDiff, Nat.reduceLeDiff, Nat.reduceLT, Nat.reduceBEq, Nat.reduceBNe, ↓reduceIte, reduceIte, zI])
    refine ⟨rfl, ?_⟩
    exact List.ext_getElem (by simp [mix]) fun j h1 h2 => by simp [mix]
  intro i hi
  have hml : (mix (nmF k) (fun _ => 0) o.length i).length = o.length := mix_len
  have hml2 : ((mix (nmF k) (fun _ => 0) o.length i).set i (-1)).length = o.length := by rw [List.length_set, hml]
  have hkl3 := kp_len (k := k) (n := i)
  have hkl4 : ((kp k i).map fun v : Nat => (v : Int)).length = (kp k i).length := List.length_map ..
  have hms : (mix (nmF k) (fun _ => 0) o.length i).set i (nmF k i) = mix (nmF k) (fun _ => 0) o.length (i + 1) := mix_set
  have hki1 := hki i
  repeat' first
    | with_reducible first | refine awp_seq ?_ | refine awp_block ?_ | refine next_then ?_ | refine next_block ?_ | refine exit_then ?_ | refine ret_then ?_ | refine ret_block ?_ | refine exit_here ?_ | refine awp_exit ?_ | refine awp_ret ?_ | refine awp_skip ?_ | refine awp_label ?_ | refine next_noGoto ?_ | refine ret_noGoto ?_ | refine exit_noGoto ?_ | refine awp_scope ?_
    | ((with_reducible refine exit_past ?_ ?_); exact rfl)
    | ((with_reducible refine isCond ?_); refine awp_condO rfl ?_ ?_ <;> intro hb <;> (try simp only [zH] at hb))
    | ((with_reducible refine isRegS 11 ?_ ?_); (· exact rfl); (first | refine awp_textM htb hmz noSp (fun _ => false) rfl rfl ?_ | refine awp_drawM hmo htb hmz noSp (fun _ => false) rfl rfl (by kernel_rfl) ?_); intro m' e' l' ob h; simp only [zE0, zE1, zE2, zE3, zE4, zE5, evp, evx, ev1, evLoad, evStore, evBin, isBoolK, forall_const, z38, tb, Nat.reduceAdd, Nat.reduceSub, Nat.reduceMul, Nat.reduceEqDiff, Nat.reduceLeDiff, Nat.reduceLT, Nat.reduceBEq, Nat.reduceBNe, ↓reduceIte, reduceIte] at h; obtain ⟨rfl, rfl, rfl, rfl⟩ := h; refine ⟨?_, ?_⟩)
    | ((with_reducible refine Ob.mk ?_); first | exact trivial | (intros; omega) | ((repeat' first | apply And.intro | (intro hg; have hg' := hg; try simp only [zH] at hg')) <;> first | assumption | omega | (simp only [zH]; omega)))
  · have hkt := (hki1 (by omega)).2 hb
    refine back (i + 1) [(14, 38)] ?_ (by omega) (by omega)
    (refine ⟨rfl, ?_, ?_⟩ <;> simp only [zE0, zE1, zE2, zE3, zE4, zE5, evp, evx, ev1, evLoad, evStore, evBin, isBoolK, forall_const, z38, tb, Nat.reduceAdd, Nat.reduceSub, Nat.reduceMul, Nat.reduceEqDiff, Nat.reduceLeDiff, Nat.reduceLT, Nat.reduceBEq, Nat.reduceBNe, ↓reduceIte, reduceIte, zI])
    refine ⟨?_, ?_⟩
    · rw [kp_succ, if_pos hkt, List.map_append]; rfl
    · rw [List.set_set, hkl4, ← hms]
      unfold nmF
      rw [if_pos hkt]
  · have hkf : k.getD i false ≠ true := fun h => hb ((hki1 (by omega)).1 h)
    refine back (i + 1) [] ?_ (by omega) (by omega)
    (refine ⟨rfl, ?_, ?_⟩ <;> simp only [zE0, zE1, zE2, zE3, zE4, zE5, evp, evx, ev1, evLoad, evStore, evBin, isBoolK, forall_const, z38, tb, Nat.reduceAdd, Nat.reduceSub, Nat.reduceMul, Nat.reduceEqDiff, Nat.reduceLeDiff, Nat.reduceLT, Nat.reduceBEq, Nat.reduceBNe, ↓reduceIte, reduceIte, zI])
    refine ⟨?_, ?_⟩
    · rw [kp_succ, if_neg hkf]
    · rw [← hms]
      unfold nmF
      rw [if_neg hkf]
  have hie : i = o.length := by omega
  subst hie
  rw [mix_all]
  have hnl : ((List.range o.length).map (nmF k)).length = o.length := by simp
  have hnm : ∀ v, v < o.length → ((List.range o.length).map (nmF k)).getD v 0 = nmF k v := fun v h => by
    simp [List.getD_eq_getElem?_getD, h]
  have hkp : ∀ j, j < (kp k o.length).length → ((kp k o.length).map fun v : Nat => (v : Int)).getD j 0 = ((kp k o.length).getD j 0 : Nat) ∧ (kp k o.length).getD j 0 < o.length ∧ w.getD ((kp k o.length).getD j 0) 0 = pl := fun j h => by
    have := kp_at h
    refine ⟨?_, this.1, (hki _ this.1).1 this.2⟩
    simp [List.getD_eq_getElem?_getD, List.getElem?_eq_getElem h]
  have hnf : ∀ v, v < o.length → (nmF k v < 0 ↔ w.getD v 0 ≠ pl) ∧ -1 ≤ nmF k v ∧ nmF k v ≤ 20000 := fun v hv => by
    have h1 := hki v hv
    have h2 := kp_len (k := k) (n := v)
    unfold nmF
    split
    · rename_i h
      exact ⟨⟨fun h3 => by omega, fun h3 => absurd (h1.1 h) h3⟩, by omega, by omega⟩
    · rename_i h
      exact ⟨⟨fun _ h3 => h (h1.2 h3), fun _ => by omega⟩, by omega, by omega⟩
  have hkpl := kp_len (k := k) (n := o.length)
  have hol : ((kp k o.length).map fun v : Nat => (v : Int)).length = (kp k o.length).length := List.length_map ..
  have hsel : ∀ v, v < o.length → w.getD v 0 = pl → v ∈ kp k o.length := fun v hv hw => List.mem_filter.2 ⟨List.mem_range.2 hv, (hki v hv).2 hw⟩
  have hfol : folG ⟨o, p, x⟩ w c pl = ⟨(kp k o.length).map fun v => o.getD v 0, (kp k o.length).map fun v => p.getD v 0, (kp k o.length).map fun v => (nxF ⟨o, p, x⟩ c pl v).map fun t => nmF k t.toNat⟩ := by rw [← hk]; rfl
  have hnx : ∀ v, nxF ⟨o, p, x⟩ c pl v = if o.getD v 0 = pl then [c.getD v 0] else x.getD v [] := fun v => rfl
  have hnb : ∀ v, v < o.length → w.getD v 0 = pl → ∀ t, t ∈ nxF ⟨o, p, x⟩ c pl v → 0 ≤ t ∧ t < o.length := fun v hv hw t ht => (nxF_bd (W := w) hG hcc hv hw ht).2
  have hnl64 : ∀ v, v < o.length → (nxF ⟨o, p, x⟩ c pl v).length ≤ 64 := fun v hv => by
    rw [hnx]; split
    · show 1 ≤ 64; decide
    · exact (hG.len v hv).2
  generalize (List.range o.length).map (nmF k) = nl at *
  generalize hee : (kp k o.length).map (fun v : Nat => (v : Int)) = ol at *
  generalize kp k o.length = kl at *
  generalize hNX : nxF ⟨o, p, x⟩ c pl = nx at *
  clear hki hki1 hml hml2 hkl3 hkl4 hms
  refine awp_fzN 14 (.roI ol) (by simp only [lkr_cons, lkr_nil, fzE, fzA, fzR, fzB, set1, nbeq, Nat.reduceEqDiff, decide_true, decide_false, ↓reduceIte, reduceIte, cond_true, cond_false, List.take_length, Option.some.injEq]; rfl) (by first | exact rfl | (refine ⟨?_, rfl⟩; first | rfl | (intros; rfl))) (by simp only [lkr_cons, lkr_nil, fzE, fzA, fzR, fzB, set1, nbeq, Nat.reduceEqDiff, decide_true, decide_false, ↓reduceIte, reduceIte, cond_true, cond_false, List.take_length, Option.some.injEq]; rfl) (by simp only [lkr_cons, lkr_nil, fzE, fzA, fzR, fzB, set1, nbeq, Nat.reduceEqDiff, decide_true, decide_false, ↓reduceIte, reduceIte, cond_true, cond_false, List.take_length, Option.some.injEq]; rfl) ?_
  refine awp_fzN 7 (.roI nl) (by simp only [lkr_cons, lkr_nil, fzE, fzA, fzR, fzB, set1, nbeq, Nat.reduceEqDiff, decide_true, decide_false, ↓reduceIte, reduceIte, cond_true, cond_false, List.take_length, Option.some.injEq]; rfl) (by first | exact rfl | (refine ⟨?_, rfl⟩; first | rfl | (intros; rfl))) (by simp only [lkr_cons, lkr_nil, fzE, fzA, fzR, fzB, set1, nbeq, Nat.reduceEqDiff, decide_true, decide_false, ↓reduceIte, reduceIte, cond_true, cond_false, List.take_length, Option.some.injEq]; rfl) (by simp only [lkr_cons, lkr_nil, fzE, fzA, fzR, fzB, set1, nbeq, Nat.reduceEqDiff, decide_true, decide_false, ↓reduceIte, reduceIte, cond_true, cond_false, List.take_length, Option.some.injEq]; rfl) ?_
  repeat' first
    | with_reducible first | refine awp_seq ?_ | refine awp_block ?_ | refine next_then ?_ | refine next_block ?_ | refine exit_then ?_ | refine ret_then ?_ | refine ret_block ?_ | refine exit_here ?_ | refine awp_exit ?_ | refine awp_ret ?_ | refine awp_skip ?_ | refine awp_label ?_ | refine next_noGoto ?_ | refine ret_noGoto ?_ | refine exit_noGoto ?_ | refine awp_scope ?_
    | ((with_reducible refine exit_past ?_ ?_); exact rfl)
    | ((with_reducible refine isCond ?_); refine awp_condO rfl ?_ ?_ <;> intro hb <;> (try simp only [zH] at hb))
    | ((with_reducible refine isReg ?_); (first | refine awp_textM htb hmz noSp (fun _ => false) rfl rfl ?_ | refine awp_drawM hmo htb hmz noSp (fun _ => false) rfl rfl (by kernel_rfl) ?_); intro m' e' l' ob h; simp only [zE0, zE1, zE2, zE3, zE4, zE5, evp, evx, ev1, evLoad, evStore, evBin, isBoolK, forall_const, z38, tb, Nat.reduceAdd, Nat.reduceSub, Nat.reduceMul, Nat.reduceEqDiff, Nat.reduceLeDiff, Nat.reduceLT, Nat.reduceBEq, Nat.reduceBNe, ↓reduceIte, reduceIte] at h; obtain ⟨rfl, rfl, rfl, rfl⟩ := h; refine ⟨?_, ?_⟩)
    | ((with_reducible refine Ob.mk ?_); first | exact trivial | (intros; omega) | ((repeat' first | apply And.intro | (intro hg; have hg' := hg; try simp only [zH] at hg')) <;> first | assumption | omega | (simp only [zH]; omega)))
  refine awp_nilbox 16 (.ints []) (.agg (.cons (.own 20) (.cons (.cst (.slice none 0 0)) (.cons (.cst (.slice none 0 0)) .nil)))) rfl rfl rfl (by first | exact .inl rfl | exact .inr (.inl rfl) | exact .inr (.inr (.inl rfl)) | exact .inr (.inr (.inr rfl))) (by simp only [lkr_cons, lkr_nil, fzE, fzA, fzR, fzB, set1, nbeq, Nat.reduceEqDiff, decide_true, decide_false, ↓reduceIte, reduceIte, cond_true, cond_false, List.take_length, Option.some.injEq] <;> rfl) rfl ?_
  refine awp_nilbox 16 (.ints []) (.agg (.cons (.own 20) (.cons (.own 21) (.cons (.cst (.slice none 0 0)) .nil)))) rfl rfl rfl (by first | exact .inl rfl | exact .inr (.inl rfl) | exact .inr (.inr (.inl rfl)) | exact .inr (.inr (.inr rfl))) (by simp only [lkr_cons, lkr_nil, fzE, fzA, fzR, fzB, set1, nbeq, Nat.reduceEqDiff, decide_true, decide_false, ↓reduceIte, reduceIte, cond_true, cond_false, List.take_length, Option.some.injEq] <;> rfl) rfl ?_
  refine awp_nilbox 16 (.rowsR []) (.agg (.cons (.own 20) (.cons (.own 21) (.cons (.own 22) .nil)))) rfl rfl rfl (by first | exact .inl rfl | exact .inr (.inl rfl) | exact .inr (.inr (.inl rfl)) | exact .inr (.inr (.inr rfl))) (by simp only [lkr_cons, lkr_nil, fzE, fzA, fzR, fzB, set1, nbeq, Nat.reduceEqDiff, decide_true, decide_false, ↓reduceIte, reduceIte, cond_true, cond_false, List.take_length, Option.some.injEq] <;> rfl) rfl ?_
  refine awp_loopC (τ := Nat) (fun j => j ≤ ol.length ∧ ∀ i, i < j → ∀ t, t ∈ nx (kl.getD i 0) → w.getD t.toNat 0 = pl) (fun j => ⟨23, [(50, .int .i64 j), (49, .int .i64 ol.length), (48, .roI ol), (11, .own 16), (8, .roI nl), (7, .bool false), (6, .own 2), (4, (.rop (.agg (.cons (.roI w) (.cons (.roI c) .nil))))), (3, (.rop (.agg (.cons (.roI o) (.cons (.roI p) (.cons (.roII x) .nil)))))), (2, .int .i64 pl)], [(20, some (.ints ((kl.take j).map fun v => o.getD v 0))), (21, some (.ints ((kl.take j).map fun v => p.getD v 0))), (22, some (.rowsR ((kl.take j).map fun v => (nx v).map fun t => nmF k t.toNat))), (16, some (.box (.agg (.cons (.own 20) (.cons (.own 21) (.cons (.own 22) .nil)))))), (2, some (.box (.agg (.cons (.cst (.slice none 0 0)) (.cons (.cst (.slice none 0 0)) (.cons (.cst (.slice none 0 0)) .nil))))))], []⟩) (fun j => ol.length - j) 0 [] ?_ ⟨Nat.zero_le _, fun i hi => absurd hi (Nat.not_lt_zero i)⟩ ?_
  · refine ⟨rfl, ?_, ?_⟩ <;> simp only [zE0, zE1, zE2, zE3, zE4, zE5, evp, evx, ev1, evLoad, evStore, evBin, isBoolK, forall_const, z38, tb, Nat.reduceAdd, Nat.reduceSub, Nat.reduceMul, Nat.reduceEqDiff, Nat.reduceLeDiff, Nat.reduceLT, Nat.reduceBEq, Nat.reduceBNe, ↓reduceIte, reduceIte, zI, List.take_zero]
  rintro j ⟨hj, hok⟩
  have hkp1 := hkp j
  generalize hvv : kl.getD j 0 = v at *
  repeat' first
    | with_reducible first | refine awp_seq ?_ | refine awp_block ?_ | refine next_then ?_ | refine next_block ?_ | refine exit_then ?_ | refine ret_then ?_ | refine ret_block ?_ | refine exit_here ?_ | refine awp_exit ?_ | refine awp_ret ?_ | refine awp_skip ?_ | refine awp_label ?_ | refine next_noGoto ?_ | refine ret_noGoto ?_ | refine exit_noGoto ?_ | refine awp_scope ?_
    | ((with_reducible refine exit_past ?_ ?_); exact rfl)
    | ((with_reducible refine isCond ?_); refine awp_condO rfl ?_ ?_ <;> intro hb <;> (try simp only [zH] at hb))
    | ((with_reducible refine isRegS 15 ?_ ?_); (· exact rfl); (with_reducible refine isRegS 30 ?_ ?_); (· exact rfl); (first | refine awp_textM htb hmz noSp (fun _ => false) rfl rfl ?_ | refine awp_drawM hmo htb hmz noSp (fun _ => false) rfl rfl (by kernel_rfl) ?_); intro m' e' l' ob h; simp only [zE0, zE1, zE2, zE3, zE4, zE5, evp, evx, ev1, evLoad, evStore, evBin, isBoolK, forall_const, z38, tb, Nat.reduceAdd, Nat.reduceSub, Nat.reduceMul, Nat.reduceEqDiff, Nat.reduceLeDiff, Nat.reduceLT, Nat.reduceBEq, Nat.reduceBNe, ↓reduceIte, reduceIte] at h; obtain ⟨rfl, rfl, rfl, rfl⟩ := h; refine ⟨?_, ?_⟩)
    | ((with_reducible refine Ob.mk ?_); first | exact trivial | (intros; omega) | ((repeat' first | apply And.intro | (intro hg; have hg' := hg; try simp only [zH] at hg')) <;> first | assumption | omega | (simp only [zH]; omega)))
  · have hjl : j < kl.length := by omega
    obtain ⟨hov, hvo, hwv⟩ := hkp1 hjl
    rw [hov]
    have hlk : (kl.take j).length = j := by rw [List.length_take]; omega
    have hl1 : ((kl.take j).map fun v => o.getD v 0).length = j := by rw [List.length_map, hlk]
    have hl2 : ((kl.take j).map fun v => p.getD v 0).length = j := by rw [List.length_map, hlk]
    have hl3 : ((kl.take j).map fun v => (nx v).map fun t => nmF k t.toNat).length = j := by rw [List.length_map, hlk]
    have hv0 : ((v : Nat) : Int).toNat = v := Int.toNat_natCast v
    have hnv := hnb v hvo hwv
    have hnl64v := hnl64 v hvo
    have hnxv := hnx v
    have hnw : ∀ r, r < (nx v).length → (0 ≤ (nx v).getD r 0 ∧ (nx v).getD r 0 < o.length) ∧ (nx v).getD r 0 ∈ nx v := fun r hr => by
      have hm : (nx v).getD r 0 ∈ nx v := by
        rw [List.getD_eq_getElem?_getD, List.getElem?_eq_getElem hr]; exact List.getElem_mem hr
      exact ⟨hnv _ hm, hm⟩
    clear hnb hnl64 hkp hcc hkp1 hnx
    repeat' first
      | with_reducible first | refine awp_seq ?_ | refine awp_block ?_ | refine next_then ?_ | refine next_block ?_ | refine exit_then ?_ | refine ret_then ?_ | refine ret_block ?_ | refine exit_here ?_ | refine awp_exit ?_ | refine awp_ret ?_ | refine awp_skip ?_ | refine awp_label ?_ | refine next_noGoto ?_ | refine ret_noGoto ?_ | refine exit_noGoto ?_ | refine awp_scope ?_
      | ((with_reducible refine exit_past ?_ ?_); exact rfl)
      | ((with_reducible refine isCond ?_); refine awp_condO rfl ?_ ?_ <;> intro hb <;> (try simp only [zH] at hb))
      | ((with_reducible refine isRegS 18 ?_ ?_); (· exact rfl); (first | refine awp_textM htb hmz noSp (fun _ => false) rfl rfl ?_ | refine awp_drawM hmo htb hmz noSp (fun _ => false) rfl rfl (by kernel_rfl) ?_); intro m' e' l' ob h; simp only [zE0, zE1, zE2, zE3, zE4, zE5, evp, evx, ev1, evLoad, evStore, evBin, isBoolK, forall_const, z38, tb, Nat.reduceAdd, Nat.reduceSub, Nat.reduceMul, Nat.reduceEqDiff, Nat.reduceLeDiff, Nat.reduceLT, Nat.reduceBEq, Nat.reduceBNe, ↓reduceIte, reduceIte] at h; obtain ⟨rfl, rfl, rfl, rfl⟩ := h; refine ⟨?_, ?_⟩)
      | ((with_reducible refine Ob.mk ?_); first | exact trivial | (intros; omega) | ((repeat' first | apply And.intro | (intro hg; have hg' := hg; try simp only [zH] at hg')) <;> first | assumption | omega | (simp only [zH]; omega)))
    refine awp_leC ⟨60, [(14, .roI (nx v)), (13, .int .i64 v), (50, .int .i64 j), (49, .int .i64 ol.length), (48, .roI ol), (11, .own 16), (8, .roI nl), (7, .bool false), (6, .own 2), (4, (.rop (.agg (.cons (.roI w) (.cons (.roI c) .nil))))), (3, (.rop (.agg (.cons (.roI o) (.cons (.roI p) (.cons (.roII x) .nil)))))), (2, .int .i64 pl)], [(20, some (.ints ((kl.take j).map fun v => o.getD v 0))), (21, some (.ints ((kl.take j).map fun v => p.getD v 0))), (22, some (.rowsR ((kl.take j).map fun v => (nx v).map fun t => nmF k t.toNat))), (16, some (.box (.agg (.cons (.own 20) (.cons (.own 21) (.cons (.own 22) .nil)))))), (2, some (.box (.agg (.cons (.cst (.slice none 0 0)) (.cons (.cst (.slice none 0 0)) (.cons (.cst (.slice none 0 0)) .nil))))))], []⟩ [] ?_ ?_
    · (refine ⟨rfl, ?_, ?_⟩ <;> simp only [zE0, zE1, zE2, zE3, zE4, zE5, evp, evx, ev1, evLoad, evStore, evBin, isBoolK, forall_const, z38, tb, Nat.reduceAdd, Nat.reduceSub, Nat.reduceMul, Nat.reduceEqDiff, Nat.reduceLeDiff, Nat.reduceLT, Nat.reduceBEq, Nat.reduceBNe, ↓reduceIte, reduceIte, zI])
      rw [hnxv, if_pos hb]
    rotate_left
    refine awp_leC ⟨60, [(14, .roI (nx v)), (13, .int .i64 v), (50, .int .i64 j), (49, .int .i64 ol.length), (48, .roI ol), (11, .own 16), (8, .roI nl), (7, .bool false), (6, .own 2), (4, (.rop (.agg (.cons (.roI w) (.cons (.roI c) .nil))))), (3, (.rop (.agg (.cons (.roI o) (.cons (.roI p) (.cons (.roII x) .nil)))))), (2, .int .i64 pl)], [(20, some (.ints ((kl.take j).map fun v => o.getD v 0))), (21, some (.ints ((kl.take j).map fun v => p.getD v 0))), (22, some (.rowsR ((kl.take j).map fun v => (nx v).map fun t => nmF k t.toNat))), (16, some (.box (.agg (.cons (.own 20) (.cons (.own 21) (.cons (.own 22) .nil)))))), (2, some (.box (.agg (.cons (.cst (.slice none 0 0)) (.cons (.cst (.slice none 0 0)) (.cons (.cst (.slice none 0 0)) .nil))))))], []⟩ [] ?_ ?_
    · (refine ⟨rfl, ?_, ?_⟩ <;> simp only [zE0, zE1, zE2, zE3, zE4, zE5, evp, evx, ev1, evLoad, evStore, evBin, isBoolK, forall_const, z38, tb, Nat.reduceAdd, Nat.reduceSub, Nat.reduceMul, Nat.reduceEqDiff, Nat.reduceLeDiff, Nat.reduceLT, Nat.reduceBEq, Nat.reduceBNe, ↓reduceIte, reduceIte, zI])
      rw [hnxv, if_neg hb]
    all_goals clear hb hnxv
    all_goals
      repeat' first
        | with_reducible first | refine awp_seq ?_ | refine awp_block ?_ | refine next_then ?_ | refine next_block ?_ | refine exit_then ?_ | refine ret_then ?_ | refine ret_block ?_ | refine exit_here ?_ | refine awp_exit ?_ | refine awp_ret ?_ | refine awp_skip ?_ | refine awp_label ?_ | refine next_noGoto ?_ | refine ret_noGoto ?_ | refine exit_noGoto ?_ | refine awp_scope ?_
        | ((with_reducible refine exit_past ?_ ?_); exact rfl)
        | ((with_reducible refine isCond ?_); refine awp_condO rfl ?_ ?_ <;> intro hb <;> (try simp only [zH] at hb))
        | ((with_reducible refine isReg ?_); (first | refine awp_textM htb hmz noSp (fun _ => false) rfl rfl ?_ | refine awp_drawM hmo htb hmz noSp (fun _ => false) rfl rfl (by kernel_rfl) ?_); intro m' e' l' ob h; simp only [zE0, zE1, zE2, zE3, zE4, zE5, evp, evx, ev1, evLoad, evStore, evBin, isBoolK, forall_const, z38, tb, Nat.reduceAdd, Nat.reduceSub, Nat.reduceMul, Nat.reduceEqDiff, Nat.reduceLeDiff, Nat.reduceLT, Nat.reduceBEq, Nat.reduceBNe, ↓reduceIte, reduceIte] at h; obtain ⟨rfl, rfl, rfl, rfl⟩ := h; refine ⟨?_, ?_⟩)
        | ((with_reducible refine Ob.mk ?_); first | exact trivial | (intros; omega) | ((repeat' first | apply And.intro | (intro hg; have hg' := hg; try simp only [zH] at hg')) <;> first | assumption | omega | (simp only [zH]; omega)))
      refine awp_nilown 15 (.ints []) (by simp only [zE0, zE1, zE2, zE3, zE4, zE5, evp, evx, ev1, evLoad, evStore, evBin, isBoolK, forall_const, z38, tb, Nat.reduceAdd, Nat.reduceSub, Nat.reduceMul, Nat.reduceEqDiff, Nat.reduceLeDiff, Nat.reduceLT, Nat.reduceBEq, Nat.reduceBNe, ↓reduceIte, reduceIte]) (.inl rfl) rfl ?_
      refine awp_loopC (τ := Nat) (fun r => r ≤ (nx v).length ∧ ∀ i, i < r → w.getD ((nx v).getD i 0).toNat 0 = pl) (fun r => ⟨65, [(74, .int .i64 r), (73, .int .i64 (nx v).length), (72, .roI (nx v)), (15, .own 64), (13, .int .i64 v), (50, .int .i64 j), (49, .int .i64 ol.length), (48, .roI ol), (11, .own 16), (8, .roI nl), (7, .bool false), (6, .own 2), (4, (.rop (.agg (.cons (.roI w) (.cons (.roI c) .nil))))), (3, (.rop (.agg (.cons (.roI o) (.cons (.roI p) (.cons (.roII x) .nil)))))), (2, .int .i64 pl)], [(64, some (.ints (((nx v).take r).map fun t => nmF k t.toNat))), (20, some (.ints ((kl.take j).map fun v => o.getD v 0))), (21, some (.ints ((kl.take j).map fun v => p.getD v 0))), (22, some (.rowsR ((kl.take j).map fun v => (nx v).map fun t => nmF k t.toNat))), (16, some (.box (.agg (.cons (.own 20) (.cons (.own 21) (.cons (.own 22) .nil)))))), (2, some (.box (.agg (.cons (.cst (.slice none 0 0)) (.cons (.cst (.slice none 0 0)) (.cons (.cst (.slice none 0 0)) .nil))))))], []⟩) (fun r => (nx v).length - r) 0 [] ?_ ⟨Nat.zero_le _, fun i hi => absurd hi (Nat.not_lt_zero i)⟩ ?_
      · refine ⟨rfl, ?_, ?_⟩ <;> simp only [zE0, zE1, zE2, zE3, zE4, zE5, evp, evx, ev1, evLoad, evStore, evBin, isBoolK, forall_const, z38, tb, Nat.reduceAdd, Nat.reduceSub, Nat.reduceMul, Nat.reduceEqDiff, Nat.reduceLeDiff, Nat.reduceLT, Nat.reduceBEq, Nat.reduceBNe, ↓reduceIte, reduceIte, zI, List.take_zero, List.map_nil]
      rintro r ⟨hr, hwr⟩
      have hnw1 := hnw r
      have hnm1 : r < (nx v).length → nl.getD ((nx v).getD r 0).toNat 0 = nmF k ((nx v).getD r 0).toNat ∧ ((nmF k ((nx v).getD r 0).toNat < 0 ↔ w.getD ((nx v).getD r 0).toNat 0 ≠ pl) ∧ -1 ≤ nmF k ((nx v).getD r 0).toNat ∧ nmF k ((nx v).getD r 0).toNat ≤ 20000) := fun h => by
        have := (hnw1 h).1
        exact ⟨hnm _ (by omega), hnf _ (by omega)⟩
      have htl : (((nx v).take r).map fun t => nmF k t.toNat).length = r := by rw [List.length_map, List.length_take]; omega
      have htn : r < (nx v).length → ((nx v).take (r + 1)).map (fun t => nmF k t.toNat) = (((nx v).take r).map fun t => nmF k t.toNat) ++ [nmF k ((nx v).getD r 0).toNat] := fun h => by
        rw [take1 (d := 0) h, List.map_append]; rfl
      repeat' first
        | with_reducible first | refine awp_seq ?_ | refine awp_block ?_ | refine next_then ?_ | refine next_block ?_ | refine exit_then ?_ | refine ret_then ?_ | refine ret_block ?_ | refine exit_here ?_ | refine awp_exit ?_ | refine awp_ret ?_ | refine awp_skip ?_ | refine awp_label ?_ | refine next_noGoto ?_ | refine ret_noGoto ?_ | refine exit_noGoto ?_ | refine awp_scope ?_
        | ((with_reducible refine exit_past ?_ ?_); exact rfl)
        | ((with_reducible refine isCond ?_); refine awp_condO rfl ?_ ?_ <;> intro hb <;> (try simp only [zH] at hb))
        | ((with_reducible refine isRegS 23 ?_ ?_); (· exact rfl); (with_reducible refine isRegS 26 ?_ ?_); (· exact rfl); (first | refine awp_textM htb hmz noSp (fun _ => false) rfl rfl ?_ | refine awp_drawM hmo htb hmz noSp (fun _ => false) rfl rfl (by kernel_rfl) ?_); intro m' e' l' ob h; simp only [zE0, zE1, zE2, zE3, zE4, zE5, evp, evx, ev1, evLoad, evStore, evBin, isBoolK, forall_const, z38, tb, Nat.reduceAdd, Nat.reduceSub, Nat.reduceMul, Nat.reduceEqDiff, Nat.reduceLeDiff, Nat.reduceLT, Nat.reduceBEq, Nat.reduceBNe, ↓reduceIte, reduceIte] at h; obtain ⟨rfl, rfl, rfl, rfl⟩ := h; refine ⟨?_, ?_⟩)
        | ((with_reducible refine Ob.mk ?_); first | exact trivial | (intros; omega) | ((repeat' first | apply And.intro | (intro hg; have hg' := hg; try simp only [zH] at hg')) <;> first | assumption | omega | (simp only [zH]; omega)))
      · have hrl : r < (nx v).length := by omega
        have hne := (hnm1 hrl).2.1.1 (by rw [← (hnm1 hrl).1]; exact hb)
        have hcf : cloB ⟨o, p, x⟩ w c pl = false := decide_eq_false fun h => hne (h v hvo hwv _ (by rw [hNX]; exact (hnw1 hrl).2))
        repeat' first
          | with_reducible first | refine awp_seq ?_ | refine awp_block ?_ | refine next_then ?_ | refine next_block ?_ | refine exit_then ?_ | refine ret_then ?_ | refine ret_block ?_ | refine exit_here ?_ | refine awp_exit ?_ | refine awp_ret ?_ | refine awp_skip ?_ | refine awp_label ?_ | refine next_noGoto ?_ | refine ret_noGoto ?_ | refine exit_noGoto ?_ | refine awp_scope ?_
          | ((with_reducible refine exit_past ?_ ?_); exact rfl)
          | ((with_reducible refine isCond ?_); refine awp_condO rfl ?_ ?_ <;> intro hb <;> (try simp only [zH] at hb))
          | ((with_reducible refine isReg ?_); (first | refine awp_textM htb hmz noSp (fun _ => false) rfl rfl ?_ | refine awp_drawM hmo htb hmz noSp (fun _ => false) rfl rfl (by kernel_rfl) ?_); intro m' e' l' ob h; simp only [zE0, zE1, zE2, zE3, zE4, zE5, evp, evx, ev1, evLoad, evStore, evBin, isBoolK, forall_const, z38, tb, Nat.reduceAdd, Nat.reduceSub, Nat.reduceMul, Nat.reduceEqDiff, Nat.reduceLeDiff, Nat.reduceLT, Nat.reduceBEq, Nat.reduceBNe, ↓reduceIte, reduceIte] at h; obtain ⟨rfl, rfl, rfl, rfl⟩ := h; refine ⟨?_, ?_⟩)
          | ((with_reducible refine Ob.mk ?_); first | exact trivial | (intros; omega) | ((repeat' first | apply And.intro | (intro hg; have hg' := hg; try simp only [zH] at hg')) <;> first | assumption | omega | (simp only [zH]; omega)))
        refine fin_ret rfl rfl (spec_imp rfl ?_ rfl)
        have hff : folR ⟨o, p, x⟩ w c pl = ⟨[], [], []⟩ := by unfold folR; rw [if_neg (by rw [hcf]; decide)]
        rw [hff, hcf]
        exact imp_tup (imp_cons (imp_agg (imp_cons imp_nilI (imp_cons imp_nilI (imp_cons imp_nilII (imp_eq rfl))))) (imp_eq rfl))
      · have hrl : r < (nx v).length := by omega
        refine back (r + 1) [(64, 80)] ?_ ⟨by omega, fun i hi => ?_⟩ (by omega)
        · (refine ⟨rfl, ?_, ?_⟩ <;> simp only [zE0, zE1, zE2, zE3, zE4, zE5, evp, evx, ev1, evLoad, evStore, evBin, isBoolK, forall_const, z38, tb, Nat.reduceAdd, Nat.reduceSub, Nat.reduceMul, Nat.reduceEqDiff, Nat.reduceLeDiff, Nat.reduceLT, Nat.reduceBEq, Nat.reduceBNe, ↓reduceIte, reduceIte, zI])
          rw [htn hrl, (hnm1 hrl).1]
        · rcases Nat.lt_succ_iff_lt_or_eq.1 hi with h | rfl
          · exact hwr i h
          · refine Classical.byContradiction fun h => ?_
            have := (hnm1 hrl).2.1.2 h
            rw [← (hnm1 hrl).1] at this
            omega
      · have hre : r = (nx v).length := by omega
        subst hre
        have hwa : ∀ t, t ∈ nx v → w.getD t.toNat 0 = pl := fun t ht => by
          obtain ⟨i, hi, e⟩ := mem_ix ht
          rw [← e]; exact hwr i hi
        rw [List.take_length]
        refine awp_fzN 64 (.roI ((nx v).map fun t => nmF k t.toNat)) (by simp only [lkr_cons, lkr_nil, fzE, fzA, fzR, fzB, set1, nbeq, Nat.reduceEqDiff, decide_true, decide_false, ↓reduceIte, reduceIte, cond_true, cond_false, List.take_length, Option.some.injEq]; rfl) (by first | exact rfl | (refine ⟨?_, rfl⟩; first | rfl | (intros; rfl))) (by simp only [lkr_cons, lkr_nil, fzE, fzA, fzR, fzB, set1, nbeq, Nat.reduceEqDiff, decide_true, decide_false, ↓reduceIte, reduceIte, cond_true, cond_false, List.take_length, Option.some.injEq]; rfl) (by simp only [lkr_cons, lkr_nil, fzE, fzA, fzR, fzB, set1, nbeq, Nat.reduceEqDiff, decide_true, decide_false, ↓reduceIte, reduceIte, cond_true, cond_false, List.take_length, Option.some.injEq]; rfl) ?_
        clear hwr hnw hnm1 htn hnm hnf hsel
        repeat' first
          | with_reducible first | refine awp_seq ?_ | refine awp_block ?_ | refine next_then ?_ | refine next_block ?_ | refine exit_then ?_ | refine ret_then ?_ | refine ret_block ?_ | refine exit_here ?_ | refine awp_exit ?_ | refine awp_ret ?_ | refine awp_skip ?_ | refine awp_label ?_ | refine next_noGoto ?_ | refine ret_noGoto ?_ | refine exit_noGoto ?_ | refine awp_scope ?_
          | ((with_reducible refine exit_past ?_ ?_); exact rfl)
          | ((with_reducible refine isCond ?_); refine awp_condO rfl ?_ ?_ <;> intro hb <;> (try simp only [zH] at hb))
          | ((with_reducible refine isReg ?_); (first | refine awp_textM htb hmz noSp (fun _ => false) rfl rfl ?_ | refine awp_drawM hmo htb hmz noSp (fun _ => false) rfl rfl (by kernel_rfl) ?_); intro m' e' l' ob h; simp only [zE0, zE1, zE2, zE3, zE4, zE5, evp, evx, ev1, evLoad, evStore, evBin, isBoolK, forall_const, z38, tb, Nat.reduceAdd, Nat.reduceSub, Nat.reduceMul, Nat.reduceEqDiff, Nat.reduceLeDiff, Nat.reduceLT, Nat.reduceBEq, Nat.reduceBNe, ↓reduceIte, reduceIte] at h; obtain ⟨rfl, rfl, rfl, rfl⟩ := h; refine ⟨?_, ?_⟩)
          | ((with_reducible refine Ob.mk ?_); first | exact trivial | (intros; omega) | ((repeat' first | apply And.intro | (intro hg; have hg' := hg; try simp only [zH] at hg')) <;> first | assumption | omega | (simp only [zH]; omega)))
        refine back (j + 1) [(20, 74), (21, 85), (22, 92)] ?_ ⟨by omega, fun i hi => ?_⟩ (by omega)
        · (refine ⟨rfl, ?_, ?_⟩ <;> simp only [zE0, zE1, zE2, zE3, zE4, zE5, evp, evx, ev1, evLoad, evStore, evBin, isBoolK, forall_const, z38, tb, Nat.reduceAdd, Nat.reduceSub, Nat.reduceMul, Nat.reduceEqDiff, Nat.reduceLeDiff, Nat.reduceLT, Nat.reduceBEq, Nat.reduceBNe, ↓reduceIte, reduceIte, zI])
          rw [take1 (d := 0) hjl, hvv]
          simp only [List.map_append, List.map_cons, List.map_nil]
          exact ⟨trivial, trivial, trivial⟩
        · rcases Nat.lt_succ_iff_lt_or_eq.1 hi with h | rfl
          · exact hok i h
          · rw [hvv]; exact hwa
  have hje : j = kl.length := by omega
  subst hje
  rw [List.take_length]
  refine awp_fzN 20 (.roI (kl.map fun v => o.getD v 0)) (by simp only [lkr_cons, lkr_nil, fzE, fzA, fzR, fzB, set1, nbeq, Nat.reduceEqDiff, decide_true, decide_false, ↓reduceIte, reduceIte, cond_true, cond_false, List.take_length, Option.some.injEq]; rfl) (by first | exact rfl | (refine ⟨?_, rfl⟩; first | rfl | (intros; rfl))) (by simp only [lkr_cons, lkr_nil, fzE, fzA, fzR, fzB, set1, nbeq, Nat.reduceEqDiff, decide_true, decide_false, ↓reduceIte, reduceIte, cond_true, cond_false, List.take_length, Option.some.injEq]; rfl) (by simp only [lkr_cons, lkr_nil, fzE, fzA, fzR, fzB, set1, nbeq, Nat.reduceEqDiff, decide_true, decide_false, ↓reduceIte, reduceIte, cond_true, cond_false, List.take_length, Option.some.injEq]; rfl) ?_
  refine awp_fzN 21 (.roI (kl.map fun v => p.getD v 0)) (by simp only [lkr_cons, lkr_nil, fzE, fzA, fzR, fzB, set1, nbeq, Nat.reduceEqDiff, decide_true, decide_false, ↓reduceIte, reduceIte, cond_true, cond_false, List.take_length, Option.some.injEq]; rfl) (by first | exact rfl | (refine ⟨?_, rfl⟩; first | rfl | (intros; rfl))) (by simp only [lkr_cons, lkr_nil, fzE, fzA, fzR, fzB, set1, nbeq, Nat.reduceEqDiff, decide_true, decide_false, ↓reduceIte, reduceIte, cond_true, cond_false, List.take_length, Option.some.injEq]; rfl) (by simp only [lkr_cons, lkr_nil, fzE, fzA, fzR, fzB, set1, nbeq, Nat.reduceEqDiff, decide_true, decide_false, ↓reduceIte, reduceIte, cond_true, cond_false, List.take_length, Option.some.injEq]; rfl) ?_
  refine awp_fzN 22 (.roII (kl.map fun v => (nx v).map fun t => nmF k t.toNat)) (by simp only [lkr_cons, lkr_nil, fzE, fzA, fzR, fzB, set1, nbeq, Nat.reduceEqDiff, decide_true, decide_false, ↓reduceIte, reduceIte, cond_true, cond_false, List.take_length, Option.some.injEq]; rfl) (by first | exact rfl | (refine ⟨?_, rfl⟩; first | rfl | (intros; rfl))) (by simp only [lkr_cons, lkr_nil, fzE, fzA, fzR, fzB, set1, nbeq, Nat.reduceEqDiff, decide_true, decide_false, ↓reduceIte, reduceIte, cond_true, cond_false, List.take_length, Option.some.injEq]; rfl) (by simp only [lkr_cons, lkr_nil, fzE, fzA, fzR, fzB, set1, nbeq, Nat.reduceEqDiff, decide_true, decide_false, ↓reduceIte, reduceIte, cond_true, cond_false, List.take_length, Option.some.injEq]; rfl) ?_
  repeat' first
    | with_reducible first | refine awp_seq ?_ | refine awp_block ?_ | refine next_then ?_ | refine next_block ?_ | refine exit_then ?_ | refine ret_then ?_ | refine ret_block ?_ | refine exit_here ?_ | refine awp_exit ?_ | refine awp_ret ?_ | refine awp_skip ?_ | refine awp_label ?_ | refine next_noGoto ?_ | refine ret_noGoto ?_ | refine exit_noGoto ?_ | refine awp_scope ?_
    | ((with_reducible refine exit_past ?_ ?_); exact rfl)
    | ((with_reducible refine isCond ?_); refine awp_condO rfl ?_ ?_ <;> intro hb <;> (try simp only [zH] at hb))
    | ((with_reducible refine isReg ?_); (first | refine awp_textM htb hmz noSp (fun _ => false) rfl rfl ?_ | refine awp_drawM hmo htb hmz noSp (fun _ => false) rfl rfl (by kernel_rfl) ?_); intro m' e' l' ob h; simp only [zE0, zE1, zE2, zE3, zE4, zE5, evp, evx, ev1, evLoad, evStore, evBin, isBoolK, forall_const, z38, tb, Nat.reduceAdd, Nat.reduceSub, Nat.reduceMul, Nat.reduceEqDiff, Nat.reduceLeDiff, Nat.reduceLT, Nat.reduceBEq, Nat.reduceBNe, ↓reduceIte, reduceIte] at h; obtain ⟨rfl, rfl, rfl, rfl⟩ := h; refine ⟨?_, ?_⟩)
    | ((with_reducible refine Ob.mk ?_); first | exact trivial | (intros; omega) | ((repeat' first | apply And.intro | (intro hg; have hg' := hg; try simp only [zH] at hg')) <;> first | assumption | omega | (simp only [zH]; omega)))
  refine fin_ret rfl rfl (spec_flat rfl ?_ rfl)
  have hct : cloB ⟨o, p, x⟩ w c pl = true := decide_eq_true fun v hv hw t ht => by
    rw [hNX] at ht
    obtain ⟨i, hi, e⟩ := List.getElem_of_mem (hsel v hv hw)
    refine hok i hi t ?_
    rw [List.getD_eq_getElem?_getD, List.getElem?_eq_getElem hi, Option.getD_some, e]
    exact ht
  have hff : folR ⟨o, p, x⟩ w c pl = folG ⟨o, p, x⟩ w c pl := by unfold folR; rw [if_pos hct]
  rw [hff, hct, hfol]
  rfl
end Go.Proofs.Ytlckljphakkomaa.Cal
