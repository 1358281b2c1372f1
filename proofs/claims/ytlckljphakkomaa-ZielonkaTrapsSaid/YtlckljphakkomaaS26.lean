/- Own texts of the proof, merged, in order. -/
import Derived.Test.YtlckljphakkomaaS25
set_option linter.unusedVariables false
set_option linter.unusedSimpArgs false
namespace Go.Proofs.Ytlckljphakkomaa.Cal
open Go Pl
theorem nxv_spec {F : List Bool} : ∀ (d i : Nat), F.length - i ≤ d → i ≤ F.length → i ≤ nxv F i ∧ nxv F i ≤ F.length ∧ (nxv F i < F.length → F.getD (nxv F i) false = true) ∧ ∀ w, i ≤ w → w < nxv F i → F.getD w false = false
  | 0, i, h1, h2 => by
    have : i = F.length := by omega
    subst this
    rw [nxv_end]
    exact ⟨Nat.le_refl _, Nat.le_refl _, fun h => absurd h (Nat.lt_irrefl _), fun w h1 h2 => by omega⟩
  | d + 1, i, h1, h2 => by
    rcases Nat.lt_or_ge i F.length with h3 | h3
    · cases h : F.getD i false with
      | true =>
        rw [nxv_true h]
        exact ⟨Nat.le_refl _, h2, fun _ => h, fun w h4 h5 => by omega⟩
      | false =>
        obtain ⟨a, b, c, e⟩ := nxv_spec d (i + 1) (by omega) h3
        rw [nxv_false h h3]
        refine ⟨by omega, b, c, fun w h4 h5 => ?_⟩
        rcases Nat.eq_or_lt_of_le h4 with rfl | h6
        · exact h
        · exact e w h6 h5
    · have : i = F.length := by omega
      subst this
      rw [nxv_end]
      exact ⟨Nat.le_refl _, Nat.le_refl _, fun h => absurd h (Nat.lt_irrefl _), fun w h1 h2 => by omega⟩
structure TpS where
  F : List Bool
  c : Bool
structure TqS where
  v : Nat
  F : List Bool
  c : Bool
noncomputable def trapS : Spec
  | [.agg (.cons (.roI o) (.cons (.roI p) (.cons (.roII x) .nil))), .int .i64 pl, .roI l] => some ⟨True, .tup (.cons (.roI (trapR ⟨o, p, x⟩ pl l).1) (.cons (.int .i64 (trapR ⟨o, p, x⟩ pl l).2) .nil)), none⟩
  | _ => none
theorem trap_imp {r : List Int × Int} {e : Int} (h : r = ([], e)) : Imp (.tup (.cons (.cst (.slice none 0 0)) (.cons (.int .i64 e) .nil))) (.tup (.cons (.roI r.1) (.cons (.int .i64 r.2) .nil))) := by
  rw [h]; exact imp_tup (imp_cons imp_nilI (imp_eq rfl))
set_option maxRecDepth 4000 in
set_option maxHeartbeats 4000000 in
theorem trap_ok : FSpec Try.prog 20 trapS := by
  refine fspec_of htb (fn := Try.f20) (by kernel_rfl) (by kernel_rfl) rfl (fun args r hS => ?_) (fun args r hS hob hl => ?_)
  · unfold trapS at hS; split at hS <;> first | (cases hS; done) | (cases hS; exact Nat.le_of_ble_eq_true rfl)
  unfold trapS at hS
  split at hS
  case h_2 => cases hS
  rename_i o p x pl l
  simp only [Option.some.injEq] at hS
  subst hS
  simp only [lenP, mkL, lim] at hl
  dsimp only at hob
  repeat' first
    | with_reducible first | refine awp_seq ?_ | refine awp_block ?_ | refine next_then ?_ | refine next_block ?_ | refine exit_then ?_ | refine ret_then ?_ | refine ret_block ?_ | refine exit_here ?_ | refine awp_exit ?_ | refine awp_ret ?_ | refine awp_skip ?_ | refine awp_label ?_ | refine next_noGoto ?_ | refine ret_noGoto ?_ | refine exit_noGoto ?_ | refine awp_scope ?_
    | ((with_reducible refine exit_past ?_ ?_); exact rfl)
    | ((with_reducible refine isCond ?_); refine awp_condO rfl ?_ ?_ <;> intro hb <;> (try simp only [zH] at hb))
    | ((with_reducible refine isRegS 3 ?_ ?_); (· exact rfl); (first | refine awp_textM htb hmz spZp_ok (fun _ => false) rfl rfl ?_ | refine awp_drawM hmo htb hmz spZp_ok (fun _ => false) rfl rfl (by kernel_rfl) ?_); intro m' e' l' ob h; simp only [zE0, zE1, zE2, zE3, zE4, zE5, evp, evx, ev1, evLoad, evStore, evBin, isBoolK, forall_const, z38, tb, Nat.reduceAdd, Nat.reduceSub, Nat.reduceMul, Nat.reduceEqDiff, Nat.reduceLeDiff, Nat.reduceLT, Nat.reduceBEq, Nat.reduceBNe, ↓reduceIte, reduceIte, spZp, validS, membersS, svA] at h; obtain ⟨rfl, rfl, rfl, rfl⟩ := h; refine ⟨?_, ?_⟩)
    | ((with_reducible refine Ob.mk ?_); first | exact trivial | (intros; omega) | ((repeat' first | apply And.intro | (intro hg; have hg' := hg; try simp only [zH] at hg')) <;> first | assumption | omega | (simp only [zH]; omega)))
  · refine fin_ret rfl rfl (spec_imp rfl ?_ rfl)
    have hv : validB ⟨o, p, x⟩ = false := by cases h : validB ⟨o, p, x⟩ with | false => rfl | true => rw [h] at hb; cases hb
    exact trap_imp (trap_e1 hv)
  have hv : validB ⟨o, p, x⟩ = true := hb
  have hV := validB_iff.1 hv
  obtain ⟨hn, hpl, hxl, hpos⟩ := id hV
  simp only [Gm.n] at hn hpl hxl
  clear hb
  repeat' first
    | with_reducible first | refine awp_seq ?_ | refine awp_block ?_ | refine next_then ?_ | refine next_block ?_ | refine exit_then ?_ | refine ret_then ?_ | refine ret_block ?_ | refine exit_here ?_ | refine awp_exit ?_ | refine awp_ret ?_ | refine awp_skip ?_ | refine awp_label ?_ | refine next_noGoto ?_ | refine ret_noGoto ?_ | refine exit_noGoto ?_ | refine awp_scope ?_
    | ((with_reducible refine exit_past ?_ ?_); exact rfl)
    | ((with_reducible refine isCond ?_); refine awp_condO rfl ?_ ?_ <;> intro hb <;> (try simp only [zH] at hb))
    | ((with_reducible refine isRegS 5 ?_ ?_); (· exact rfl); (first | refine awp_textM htb hmz spZp_ok (fun _ => false) rfl rfl ?_ | refine awp_drawM hmo htb hmz spZp_ok (fun _ => false) rfl rfl (by kernel_rfl) ?_); intro m' e' l' ob h; simp only [zE0, zE1, zE2, zE3, zE4, zE5, evp, evx, ev1, evLoad, evStore, evBin, isBoolK, forall_const, z38, tb, Nat.reduceAdd, Nat.reduceSub, Nat.reduceMul, Nat.reduceEqDiff, Nat.reduceLeDiff, Nat.reduceLT, Nat.reduceBEq, Nat.reduceBNe, ↓reduceIte, reduceIte, spZp, validS, membersS, svA] at h; obtain ⟨rfl, rfl, rfl, rfl⟩ := h; refine ⟨?_, ?_⟩)
    | ((with_reducible refine Ob.mk ?_); first | exact trivial | (intros; omega) | ((repeat' first | apply And.intro | (intro hg; have hg' := hg; try simp only [zH] at hg')) <;> first | assumption | omega | (simp only [zH]; omega)))
  · repeat' first
      | with_reducible first | refine awp_seq ?_ | refine awp_block ?_ | refine next_then ?_ | refine next_block ?_ | refine exit_then ?_ | refine ret_then ?_ | refine ret_block ?_ | refine exit_here ?_ | refine awp_exit ?_ | refine awp_ret ?_ | refine awp_skip ?_ | refine awp_label ?_ | refine next_noGoto ?_ | refine ret_noGoto ?_ | refine exit_noGoto ?_ | refine awp_scope ?_
      | ((with_reducible refine exit_past ?_ ?_); exact rfl)
      | ((with_reducible refine isCond ?_); refine awp_condO rfl ?_ ?_ <;> intro hb <;> (try simp only [zH] at hb))
      | ((with_reducible refine isReg ?_); (first | refine awp_textM htb hmz spZp_ok (fun _ => false) rfl rfl ?_ | refine awp_drawM hmo htb hmz spZp_ok (fun _ => false) rfl rfl (by kernel_rfl) ?_); intro m' e' l' ob h; simp only [zE0, zE1, zE2, zE3, zE4, zE5, evp, evx, ev1, evLoad, evStore, evBin, isBoolK, forall_const, z38, tb, Nat.reduceAdd, Nat.reduceSub, Nat.reduceMul, Nat.reduceEqDiff, Nat.reduceLeDiff, Nat.reduceLT, Nat.reduceBEq, Nat.reduceBNe, ↓reduceIte, reduceIte, spZp, validS, membersS, svA] at h; obtain ⟨rfl, rfl, rfl, rfl⟩ := h; refine ⟨?_, ?_⟩)
      | ((with_reducible refine Ob.mk ?_); first | exact trivial | (intros; omega) | ((repeat' first | apply And.intro | (intro hg; have hg' := hg; try simp only [zH] at hg')) <;> first | assumption | omega | (simp only [zH]; omega)))
    refine fin_ret rfl rfl (spec_imp rfl ?_ rfl)
    exact trap_imp (trap_e2 hv hb)
  have hp01 : ¬ (pl ≠ 0 ∧ pl ≠ 1) := fun h => by omega
  clear hb
  refine awp_loopC (τ := Nat) (fun i => i ≤ l.length ∧ ∀ j, j < i → 0 ≤ l.getD j 0 ∧ l.getD j 0 < (o.length : Int)) (fun i => ⟨22, [(32, .int .i64 i), (31, .int .i64 l.length), (30, .roI l), (8, .own 11), (7, .int .i64 0), (6, .cst (.slice none 0 0)), (4, .rop (.int .i64 pl)), (3, .rop (.agg (.cons (.roI o) (.cons (.roI p) (.cons (.roII x) .nil)))))],
    [(10, some (.bools (iniF o.length l i))), (11, some (.box (.own 10)))], []⟩) (fun i => l.length - i) 0 [] ?_ ⟨Nat.zero_le _, fun j hj => absurd hj (Nat.not_lt_zero j)⟩ ?_
  · (refine ⟨rfl, ?_, ?_⟩ <;> simp only [zE0, zE1, zE2, zE3, zE4, zE5, evp, evx, ev1, evLoad, evStore, evBin, isBoolK, forall_const, z38, tb, Nat.reduceAdd, Nat.reduceSub, Nat.reduceMul, Nat.reduceEqDiff, Nat.reduceLeDiff, Nat.reduceLT, Nat.reduceBEq, Nat.reduceBNe, ↓reduceIte, reduceIte, spZp, validS, membersS, svA, zI])
    exact iniF_zero.symm
  rintro i ⟨hi, hok⟩
  have hil := iniF_len (n := o.length) (l := l) (i := i)
  repeat' first
    | with_reducible first | refine awp_seq ?_ | refine awp_block ?_ | refine next_then ?_ | refine next_block ?_ | refine exit_then ?_ | refine ret_then ?_ | refine ret_block ?_ | refine exit_here ?_ | refine awp_exit ?_ | refine awp_ret ?_ | refine awp_skip ?_ | refine awp_label ?_ | refine next_noGoto ?_ | refine ret_noGoto ?_ | refine exit_noGoto ?_ | refine awp_scope ?_
    | ((with_reducible refine exit_past ?_ ?_); exact rfl)
    | ((with_reducible refine isCond ?_); refine awp_condO rfl ?_ ?_ <;> intro hb <;> (try simp only [zH] at hb))
    | ((with_reducible refine isRegS 10 ?_ ?_); (· exact rfl); (with_reducible refine isRegS 11 ?_ ?_); (· exact rfl); (with_reducible refine isRegS 13 ?_ ?_); (· exact rfl); (first | refine awp_textM htb hmz spZp_ok (fun _ => false) rfl rfl ?_ | refine awp_drawM hmo htb hmz spZp_ok (fun _ => false) rfl rfl (by kernel_rfl) ?_); intro m' e' l' ob h; simp only [zE0, zE1, zE2, zE3, zE4, zE5, evp, evx, ev1, evLoad, evStore, evBin, isBoolK, forall_const, z38, tb, Nat.reduceAdd, Nat.reduceSub, Nat.reduceMul, Nat.reduceEqDiff, Nat.reduceLeDiff, Nat.reduceLT, Nat.reduceBEq, Nat.reduceBNe, ↓reduceIte, reduceIte, spZp, validS, membersS, svA] at h; obtain ⟨rfl, rfl, rfl, rfl⟩ := h; refine ⟨?_, ?_⟩)
    | ((with_reducible refine Ob.mk ?_); first | exact trivial | (intros; omega) | ((repeat' first | apply And.intro | (intro hg; have hg' := hg; try simp only [zH] at hg')) <;> first | (with_reducible exact True.intro) | assumption | omega | (simp only [zH]; omega)))
  · repeat' first
      | with_reducible first | refine awp_seq ?_ | refine awp_block ?_ | refine next_then ?_ | refine next_block ?_ | refine exit_then ?_ | refine ret_then ?_ | refine ret_block ?_ | refine exit_here ?_ | refine awp_exit ?_ | refine awp_ret ?_ | refine awp_skip ?_ | refine awp_label ?_ | refine next_noGoto ?_ | refine ret_noGoto ?_ | refine exit_noGoto ?_ | refine awp_scope ?_
      | ((with_reducible refine exit_past ?_ ?_); exact rfl)
      | ((with_reducible refine isCond ?_); refine awp_condO rfl ?_ ?_ <;> intro hb <;> (try simp only [zH] at hb))
      | ((with_reducible refine isReg ?_); (first | refine awp_textM htb hmz spZp_ok (fun _ => false) rfl rfl ?_ | refine awp_drawM hmo htb hmz spZp_ok (fun _ => false) rfl rfl (by kernel_rfl) ?_); intro m' e' l' ob h; simp only [zE0, zE1, zE2, zE3, zE4, zE5, evp, evx, ev1, evLoad, evStore, evBin, isBoolK, forall_const, z38, tb, Nat.reduceAdd, Nat.reduceSub, Nat.reduceMul, Nat.reduceEqDiff, Nat.reduceLeDiff, Nat.reduceLT, Nat.reduceBEq, Nat.reduceBNe, ↓reduceIte, reduceIte, spZp, validS, membersS, svA] at h; obtain ⟨rfl, rfl, rfl, rfl⟩ := h; refine ⟨?_, ?_⟩)
      | ((with_reducible refine Ob.mk ?_); first | exact trivial | (intros; omega) | ((repeat' first | apply And.intro | (intro hg; have hg' := hg; try simp only [zH] at hg')) <;> first | assumption | omega | (simp only [zH]; omega)))
    refine fin_ret rfl rfl (spec_imp rfl ?_ rfl)
    refine trap_imp (trap_e3 hv hp01 ⟨i, by omega, ?_⟩)
    show l.getD i 0 < 0 ∨ (o.length : Int) ≤ l.getD i 0
    omega
  · repeat' first
      | with_reducible first | refine awp_seq ?_ | refine awp_block ?_ | refine next_then ?_ | refine next_block ?_ | refine exit_then ?_ | refine ret_then ?_ | refine ret_block ?_ | refine exit_here ?_ | refine awp_exit ?_ | refine awp_ret ?_ | refine awp_skip ?_ | refine awp_label ?_ | refine next_noGoto ?_ | refine ret_noGoto ?_ | refine exit_noGoto ?_ | refine awp_scope ?_
      | ((with_reducible refine exit_past ?_ ?_); exact rfl)
      | ((with_reducible refine isCond ?_); refine awp_condO rfl ?_ ?_ <;> intro hb <;> (try simp only [zH] at hb))
      | ((with_reducible refine isReg ?_); (first | refine awp_textM htb hmz spZp_ok (fun _ => false) rfl rfl ?_ | refine awp_drawM hmo htb hmz spZp_ok (fun _ => false) rfl rfl (by kernel_rfl) ?_); intro m' e' l' ob h; simp only [zE0, zE1, zE2, zE3, zE4, zE5, evp, evx, ev1, evLoad, evStore, evBin, isBoolK, forall_const, z38, tb, Nat.reduceAdd, Nat.reduceSub, Nat.reduceMul, Nat.reduceEqDiff, Nat.reduceLeDiff, Nat.reduceLT, Nat.reduceBEq, Nat.reduceBNe, ↓reduceIte, reduceIte, spZp, validS, membersS, svA] at h; obtain ⟨rfl, rfl, rfl, rfl⟩ := h; refine ⟨?_, ?_⟩)
      | ((with_reducible refine Ob.mk ?_); first | exact trivial | (intros; omega) | ((repeat' first | apply And.intro | (intro hg; have hg' := hg; try simp only [zH] at hg')) <;> first | assumption | omega | (simp only [zH]; omega)))
    refine back (i + 1) [] ?_ ⟨by omega, fun j hj => ?_⟩ (by omega)
    · (refine ⟨rfl, ?_, ?_⟩ <;> simp only [zE0, zE1, zE2, zE3, zE4, zE5, evp, evx, ev1, evLoad, evStore, evBin, isBoolK, forall_const, z38, tb, Nat.reduceAdd, Nat.reduceSub, Nat.reduceMul, Nat.reduceEqDiff, Nat.reduceLeDiff, Nat.reduceLT, Nat.reduceBEq, Nat.reduceBNe, ↓reduceIte, reduceIte, spZp, validS, membersS, svA, zI])
      exact iniF_next (by omega)
    · rcases Nat.lt_succ_iff_lt_or_eq.1 hj with h | rfl
      · exact hok j h
      · omega
  have hie : i = l.length := by omega
  subst hie
  have hok4 : ¬ ∃ i, i < l.length ∧ (l.getD i 0 < 0 ∨ (o.length : Int) ≤ l.getD i 0) := fun ⟨i, h1, h2⟩ => by have := hok i h1; omega
  have et : trapR ⟨o, p, x⟩ pl l = ((kp (trT ⟨o, p, x⟩ pl (iniF o.length l l.length)) o.length).map fun v : Nat => (v : Int), 0) := trap_e4 hv hp01 hok4
  clear hok hok4
  generalize iniF o.length l l.length = F0 at *
  have hTl : (trT ⟨o, p, x⟩ pl F0).length = o.length := trT_len.trans hil
  generalize hTT : trT ⟨o, p, x⟩ pl F0 = T at *
  refine awp_cut ([_]) ([_, _]) rfl rfl ?_
  refine awpL_text htb hmz spZp_ok (fun _ => false) rfl rfl rfl ?_; intro m' e' l' ob h; simp only [zE0, zE1, zE2, zE3, zE4, zE5, evp, evx, ev1, evLoad, evStore, evBin, isBoolK, forall_const, z38, tb, Nat.reduceAdd, Nat.reduceSub, Nat.reduceMul, Nat.reduceEqDiff, Nat.reduceLeDiff, Nat.reduceLT, Nat.reduceBEq, Nat.reduceBNe, ↓reduceIte, reduceIte, spZp, validS, membersS, svA] at h; obtain ⟨rfl, rfl, rfl, rfl⟩ := h; refine ⟨?_, next_then ?_⟩
  · first | ((with_reducible refine Ob.mk ?_); first | exact trivial | (intros; omega) | ((repeat' first | apply And.intro | (intro hg; have hg' := hg; try simp only [zH] at hg')) <;> first | (with_reducible exact True.intro) | assumption | omega | (simp only [zH]; omega))) | skip
  refine awpL_callG ([]) (solverOf_fg hv) rfl rfl rfl rfl rfl rfl rfl rfl rfl (by simp only [rinR, rhoC, zE0, zE1, zE2, zE3, zE4, zE5, evp, evx, ev1, evLoad, evStore, evBin, isBoolK, forall_const, z38, tb, Nat.reduceAdd, Nat.reduceSub, Nat.reduceMul, Nat.reduceEqDiff, Nat.reduceLeDiff, Nat.reduceLT, Nat.reduceBEq, Nat.reduceBNe, ↓reduceIte, reduceIte, spZp, validS, membersS, svA]) ?_; intro gm gv gr hq m' e' l' h; simp only [GR.mk.injEq] at hq; obtain ⟨rfl, rfl, rfl⟩ := hq; simp only [rhoC, outR, renR, dels, zE0, zE1, zE2, zE3, zE4, zE5, evp, evx, ev1, evLoad, evStore, evBin, isBoolK, forall_const, z38, tb, Nat.reduceAdd, Nat.reduceSub, Nat.reduceMul, Nat.reduceEqDiff, Nat.reduceLeDiff, Nat.reduceLT, Nat.reduceBEq, Nat.reduceBNe, ↓reduceIte, reduceIte, spZp, validS, membersS, svA] at h; obtain ⟨rfl, rfl, rfl⟩ := h; refine next_then ?_
  refine awpL_text htb hmz spZp_ok (fun _ => false) rfl rfl rfl ?_; intro m' e' l' ob h; simp only [zE0, zE1, zE2, zE3, zE4, zE5, evp, evx, ev1, evLoad, evStore, evBin, isBoolK, forall_const, z38, tb, Nat.reduceAdd, Nat.reduceSub, Nat.reduceMul, Nat.reduceEqDiff, Nat.reduceLeDiff, Nat.reduceLT, Nat.reduceBEq, Nat.reduceBNe, ↓reduceIte, reduceIte, spZp, validS, membersS, svA] at h; obtain ⟨rfl, rfl, rfl, rfl⟩ := h; refine ⟨?_, ?_⟩
  · first | ((with_reducible refine Ob.mk ?_); first | exact trivial | (intros; omega) | ((repeat' first | apply And.intro | (intro hg; have hg' := hg; try simp only [zH] at hg')) <;> first | (with_reducible exact True.intro) | assumption | omega | (simp only [zH]; omega))) | skip
  refine next_then (awp_seq ?_)
  repeat' first
    | with_reducible first | refine awp_seq ?_ | refine awp_block ?_ | refine next_then ?_ | refine next_block ?_ | refine exit_then ?_ | refine ret_then ?_ | refine ret_block ?_ | refine exit_here ?_ | refine awp_exit ?_ | refine awp_ret ?_ | refine awp_skip ?_ | refine awp_label ?_ | refine next_noGoto ?_ | refine ret_noGoto ?_ | refine exit_noGoto ?_ | refine awp_scope ?_
    | ((with_reducible refine exit_past ?_ ?_); exact rfl)
    | ((with_reducible refine isCond ?_); refine awp_condO rfl ?_ ?_ <;> intro hb <;> (try simp only [zH] at hb))
    | ((with_reducible refine isRegS 15 ?_ ?_); (· exact rfl); (first | refine awp_textM htb hmz spZp_ok (fun _ => false) rfl rfl ?_ | refine awp_drawM hmo htb hmz spZp_ok (fun _ => false) rfl rfl (by kernel_rfl) ?_); intro m' e' l' ob h; simp only [zE0, zE1, zE2, zE3, zE4, zE5, evp, evx, ev1, evLoad, evStore, evBin, isBoolK, forall_const, z38, tb, Nat.reduceAdd, Nat.reduceSub, Nat.reduceMul, Nat.reduceEqDiff, Nat.reduceLeDiff, Nat.reduceLT, Nat.reduceBEq, Nat.reduceBNe, ↓reduceIte, reduceIte, spZp, validS, membersS, svA] at h; obtain ⟨rfl, rfl, rfl, rfl⟩ := h; refine ⟨?_, ?_⟩)
    | ((with_reducible refine Ob.mk ?_); first | exact trivial | (intros; omega) | ((repeat' first | apply And.intro | (intro hg; have hg' := hg; try simp only [zH] at hg')) <;> first | (with_reducible exact True.intro) | assumption | omega | (simp only [zH]; omega)))
  refine awp_mark0 rfl ?_
  have hrow : ∀ v, v < o.length → (x.getD v []).length ≤ 64 ∧ ∀ j, j < (x.getD v []).length → 0 ≤ (x.getD v []).getD j 0 ∧ (x.getD v []).getD j 0 < (o.length : Int) := fun v hv => by
    obtain ⟨⟨_, _, _, _, _, a6⟩, hr⟩ := hpos v hv
    exact ⟨a6, fun j hj => by have := hr j hj; simp only [Gm.x, Gm.n] at this; exact ⟨this.1, this.2.1⟩⟩
  refine awp_loopC (τ := TpS) (fun t => t.F.length = o.length ∧ trT ⟨o, p, x⟩ pl t.F = T ∧ (t.c = false → sw ⟨o, p, x⟩ pl t.F o.length = t.F)) (fun t => ⟨32, [(12, .own 29), (11, .own 27), (8, .own 11), (7, .int .i64 0), (6, .cst (.slice none 0 0)), (4, .rop (.int .i64 pl)), (3, .rop (.agg (.cons (.roI o) (.cons (.roI p) (.cons (.roII x) .nil)))))],
    [(31, some .dfr), (24, some (.box (svA o p x (backL x) 131072 25 26))), (25, some (.ints (List.replicate x.length (-1)))), (26, some (.ints (List.replicate x.length (-1)))), (10, some (.bools t.F)), (11, some (.box (.own 10))), (27, some (.box (.own 24))), (29, some (.box (.bool t.c)))], [31]⟩) (fun t => ctB t.F + (bif t.c then 1 else 0)) ⟨F0, true⟩ [] ?_ ⟨hil, hTT, fun h => by cases h⟩ ?_
  · (refine ⟨rfl, ?_, ?_⟩ <;> simp only [zE0, zE1, zE2, zE3, zE4, zE5, evp, evx, ev1, evLoad, evStore, evBin, isBoolK, forall_const, z38, tb, Nat.reduceAdd, Nat.reduceSub, Nat.reduceMul, Nat.reduceEqDiff, Nat.reduceLeDiff, Nat.reduceLT, Nat.reduceBEq, Nat.reduceBNe, ↓reduceIte, reduceIte, spZp, validS, membersS, svA, zI])
  rintro ⟨F, c⟩ ⟨hFl, hFT, hFc⟩
  dsimp only at hFl hFT hFc ⊢
  repeat' first
    | with_reducible first | refine awp_seq ?_ | refine awp_block ?_ | refine next_then ?_ | refine next_block ?_ | refine exit_then ?_ | refine ret_then ?_ | refine ret_block ?_ | refine exit_here ?_ | refine awp_exit ?_ | refine awp_ret ?_ | refine awp_skip ?_ | refine awp_label ?_ | refine next_noGoto ?_ | refine ret_noGoto ?_ | refine exit_noGoto ?_ | refine awp_scope ?_
    | ((with_reducible refine exit_past ?_ ?_); exact rfl)
    | ((with_reducible refine isCond ?_); refine awp_condO rfl ?_ ?_ <;> intro hb <;> (try simp only [zH] at hb))
    | ((with_reducible refine isRegS 17 ?_ ?_); (· exact rfl); (with_reducible refine isRegS 24 ?_ ?_); (· exact rfl); (first | refine awp_textM htb hmz spZp_ok (fun _ => false) rfl rfl ?_ | refine awp_drawM hmo htb hmz spZp_ok (fun _ => false) rfl rfl (by kernel_rfl) ?_); intro m' e' l' ob h; simp only [zE0, zE1, zE2, zE3, zE4, zE5, evp, evx, ev1, evLoad, evStore, evBin, isBoolK, forall_const, z38, tb, Nat.reduceAdd, Nat.reduceSub, Nat.reduceMul, Nat.reduceEqDiff, Nat.reduceLeDiff, Nat.reduceLT, Nat.reduceBEq, Nat.reduceBNe, ↓reduceIte, reduceIte, spZp, validS, membersS, svA] at h; obtain ⟨rfl, rfl, rfl, rfl⟩ := h; refine ⟨?_, ?_⟩)
    | ((with_reducible refine Ob.mk ?_); first | exact trivial | (intros; omega) | ((repeat' first | apply And.intro | (intro hg; have hg' := hg; try simp only [zH] at hg')) <;> first | (with_reducible exact True.intro) | assumption | omega | (simp only [zH]; omega)))
  · have hc : c = true := hb
    subst hc
    clear hb
    refine awp_cut ([_]) ([]) rfl rfl ?_
    refine awpL_text htb hmz spZp_ok (fun _ => false) rfl rfl rfl ?_; intro m' e' l' ob h; simp only [zE0, zE1, zE2, zE3, zE4, zE5, evp, evx, ev1, evLoad, evStore, evBin, isBoolK, forall_const, z38, tb, Nat.reduceAdd, Nat.reduceSub, Nat.reduceMul, Nat.reduceEqDiff, Nat.reduceLeDiff, Nat.reduceLT, Nat.reduceBEq, Nat.reduceBNe, ↓reduceIte, reduceIte, spZp, validS, membersS, svA] at h; obtain ⟨rfl, rfl, rfl, rfl⟩ := h; refine ⟨?_, next_then ?_⟩
    · first | ((with_reducible refine Ob.mk ?_); first | exact trivial | (intros; omega) | ((repeat' first | apply And.intro | (intro hg; have hg' := hg; try simp only [zH] at hg')) <;> first | (with_reducible exact True.intro) | assumption | omega | (simp only [zH]; omega))) | skip
    refine awpL_callG ([10]) (membersO_fg (l := F)) rfl rfl rfl rfl rfl rfl rfl rfl rfl (by simp only [rinR, rhoC, zE0, zE1, zE2, zE3, zE4, zE5, evp, evx, ev1, evLoad, evStore, evBin, isBoolK, forall_const, z38, tb, Nat.reduceAdd, Nat.reduceSub, Nat.reduceMul, Nat.reduceEqDiff, Nat.reduceLeDiff, Nat.reduceLT, Nat.reduceBEq, Nat.reduceBNe, ↓reduceIte, reduceIte, spZp, validS, membersS, svA]) ?_; intro gm gv gr hq m' e' l' h; simp only [GR.mk.injEq] at hq; obtain ⟨rfl, rfl, rfl⟩ := hq; simp only [rhoC, outR, renR, dels, zE0, zE1, zE2, zE3, zE4, zE5, evp, evx, ev1, evLoad, evStore, evBin, isBoolK, forall_const, z38, tb, Nat.reduceAdd, Nat.reduceSub, Nat.reduceMul, Nat.reduceEqDiff, Nat.reduceLeDiff, Nat.reduceLT, Nat.reduceBEq, Nat.reduceBNe, ↓reduceIte, reduceIte, spZp, validS, membersS, svA] at h; obtain ⟨rfl, rfl, rfl⟩ := h; refine next_then ?_
    refine awpL_nil ?_
    refine next_then ?_
    refine awp_block ?_
    refine awp_leC ⟨36, [(52, .fn 41 (.cons (.own 35) .nil)), (12, .own 29), (11, .own 27), (8, .own 11), (7, .int .i64 0), (6, .cst (.slice none 0 0)), (4, .rop (.int .i64 pl)), (3, .rop (.agg (.cons (.roI o) (.cons (.roI p) (.cons (.roII x) .nil)))))],
      [(35, some (.box (.own 10))), (10, some (.bools F)), (31, some .dfr), (24, some (.box (svA o p x (backL x) 131072 25 26))), (25, some (.ints (List.replicate x.length (-1)))), (26, some (.ints (List.replicate x.length (-1)))), (11, some (.box (.own 10))), (27, some (.box (.own 24))), (29, some (.box (.bool false)))], [31]⟩ [] ?_ ?_
    · (refine ⟨rfl, ?_, ?_⟩ <;> simp only [zE0, zE1, zE2, zE3, zE4, zE5, evp, evx, ev1, evLoad, evStore, evBin, isBoolK, forall_const, z38, tb, Nat.reduceAdd, Nat.reduceSub, Nat.reduceMul, Nat.reduceEqDiff, Nat.reduceLeDiff, Nat.reduceLT, Nat.reduceBEq, Nat.reduceBNe, ↓reduceIte, reduceIte, spZp, validS, membersS, svA, zI])
    have hsl : ∀ i, (sw ⟨o, p, x⟩ pl F i).length = o.length := fun i => sw_len.trans hFl
    have hoff := @sw_off ⟨o, p, x⟩ pl F
    have hon := @sw_on ⟨o, p, x⟩ pl F
    have hskip := @sw_skip ⟨o, p, x⟩ pl F
    have hct := @sw_ct ⟨o, p, x⟩ pl F
    refine awp_rangeB (m := 36) (M := 36) (kb := 35) (kin := 10) (fun t : TqS => t.F.length = o.length ∧ t.v ≤ o.length ∧ t.F = sw ⟨o, p, x⟩ pl F t.v ∧ (t.c = true → t.F ≠ F) ∧ (t.c = false → t.F = F)) (fun t => t.F) (fun t => ((nxv t.F t.v : Nat) : Int)) (fun t => nxv t.F t.v < o.length) (fun t t' => t'.v = nxv t.F t.v + 1) (fun t => t.v = 0) (fun t => nxv t.F t.v = o.length)
      (fun t => [(31, some .dfr), (24, some (.box (svA o p x (backL x) 131072 25 26))), (25, some (.ints (List.replicate x.length (-1)))), (26, some (.ints (List.replicate x.length (-1)))), (11, some (.box (.own 10))), (27, some (.box (.own 24))), (29, some (.box (.bool t.c)))]) [31] ⟨0, F, false⟩
      (members1_iterB (n := o.length) _ (fun t : TqS => t.F) (fun t => t.v) (fun (t : TqS) h => h.1) hn) ⟨hFl, Nat.zero_le _, sw_zero.symm, (fun h => by cases h), fun _ => rfl⟩ rfl rfl rfl rfl rfl rfl rfl rfl rfl (fun k hk => by rw [List.mem_singleton.1 hk]; rfl)
      (fun t k b _ hk => ?_) ?_ ?_
    · refine sOK_mem (M := 36) (kq := 10) (kb := 35) ?_ (mem_keysOf hk).2
      refine ⟨⟨?_, ?_, ?_, ?_⟩, ⟨?_, ?_, ?_, ?_⟩, ⟨?_, ?_, ?_, ?_⟩, ⟨?_, ?_, ?_, ?_⟩, ⟨?_, ?_, ?_, ?_⟩, ⟨?_, ?_, ?_, ?_⟩, ⟨?_, ?_, ?_, ?_⟩, trivial⟩ <;> first | decide | exact rfl | exact trivial
    · rintro lp ⟨v, G, c⟩ ⟨hGl, hvn, hG, hc1, hc2⟩ hgo
      dsimp only at hGl hvn hG hc1 hc2 hgo ⊢
      obtain ⟨hu1, hu2, hu3, hu4⟩ := nxv_spec (F := G) (G.length - v) v (Nat.le_refl _) (by omega)
      have hu3 := hu3 (by omega)
      have hGu : sw ⟨o, p, x⟩ pl F (nxv G v) = G := by rw [hskip hu1 (by rw [← hG]; exact hu4), hG]
      generalize hnxu : nxv G v = u at *
      have hr := hrow u hgo
      first | (refine awp_textM htb hmz spZp_ok (fun _ => false) rfl rfl ?_; intro m' e' l' ob h; simp only [zE0, zE1, zE2, zE3, zE4, zE5, evp, evx, ev1, evLoad, evStore, evBin, isBoolK, forall_const, z38, tb, Nat.reduceAdd, Nat.reduceSub, Nat.reduceMul, Nat.reduceEqDiff, Nat.reduceLeDiff, Nat.reduceLT, Nat.reduceBEq, Nat.reduceBNe, ↓reduceIte, reduceIte, spZp, validS, membersS, svA] at h; obtain ⟨rfl, rfl, rfl, rfl⟩ := h; refine ⟨?_, ?_⟩)
            | (refine awp_drawM hmo htb hmz spZp_ok (fun _ => false) rfl rfl (by kernel_rfl) ?_; intro m' e' l' ob h; simp only [zE0, zE1, zE2, zE3, zE4, zE5, evp, evx, ev1, evLoad, evStore, evBin, isBoolK, forall_const, z38, tb, Nat.reduceAdd, Nat.reduceSub, Nat.reduceMul, Nat.reduceEqDiff, Nat.reduceLeDiff, Nat.reduceLT, Nat.reduceBEq, Nat.reduceBNe, ↓reduceIte, reduceIte, spZp, validS, membersS, svA] at h; obtain ⟨rfl, rfl, rfl, rfl⟩ := h; refine ⟨?_, ?_⟩)
      · first | ((with_reducible refine Ob.mk ?_); first | exact trivial | (intros; omega) | ((repeat' first | apply And.intro | (intro hg; have hg' := hg; try simp only [zH] at hg')) <;> first | assumption | omega | (simp only [zH]; omega))) | skip
      refine ⟨rfl, ?_⟩
      repeat' first
        | with_reducible first | refine awp_seq ?_ | refine awp_block ?_ | refine next_then ?_ | refine next_block ?_ | refine exit_then ?_ | refine ret_then ?_ | refine ret_block ?_ | refine exit_here ?_ | refine awp_exit ?_ | refine awp_ret ?_ | refine awp_skip ?_ | refine awp_label ?_ | refine next_noGoto ?_ | refine ret_noGoto ?_ | refine exit_noGoto ?_ | refine awp_scope ?_
        | ((with_reducible refine exit_past ?_ ?_); exact rfl)
        | ((with_reducible refine isCond ?_); refine awp_condO rfl ?_ ?_ <;> intro hb <;> (try simp only [zH] at hb))
        | ((with_reducible refine isRegS 19 ?_ ?_); (· exact rfl); (first | refine awp_textM htb hmz spZp_ok (fun _ => false) rfl rfl ?_ | refine awp_drawM hmo htb hmz spZp_ok (fun _ => false) rfl rfl (by kernel_rfl) ?_); intro m' e' l' ob h; simp only [zE0, zE1, zE2, zE3, zE4, zE5, evp, evx, ev1, evLoad, evStore, evBin, isBoolK, forall_const, z38, tb, Nat.reduceAdd, Nat.reduceSub, Nat.reduceMul, Nat.reduceEqDiff, Nat.reduceLeDiff, Nat.reduceLT, Nat.reduceBEq, Nat.reduceBNe, ↓reduceIte, reduceIte, spZp, validS, membersS, svA] at h; obtain ⟨rfl, rfl, rfl, rfl⟩ := h; refine ⟨?_, ?_⟩)
        | ((with_reducible refine Ob.mk ?_); first | exact trivial | (intros; omega) | ((repeat' first | apply And.intro | (intro hg; have hg' := hg; try simp only [zH] at hg')) <;> first | assumption | omega | (simp only [zH]; omega)))
      refine awp_cut ([_, _, _]) ([_]) rfl rfl ?_
      refine awpL_text htb hmz spZp_ok (fun _ => false) rfl rfl rfl ?_; intro m' e' l' ob h; simp only [zE0, zE1, zE2, zE3, zE4, zE5, evp, evx, ev1, evLoad, evStore, evBin, isBoolK, forall_const, z38, tb, Nat.reduceAdd, Nat.reduceSub, Nat.reduceMul, Nat.reduceEqDiff, Nat.reduceLeDiff, Nat.reduceLT, Nat.reduceBEq, Nat.reduceBNe, ↓reduceIte, reduceIte, spZp, validS, membersS, svA] at h; obtain ⟨rfl, rfl, rfl, rfl⟩ := h; refine ⟨?_, next_then ?_⟩
      · first | ((with_reducible refine Ob.mk ?_); first | exact trivial | (intros; omega) | ((repeat' first | apply And.intro | (intro hg; have hg' := hg; try simp only [zH] at hg')) <;> first | (with_reducible exact True.intro) | assumption | omega | (simp only [zH]; omega))) | skip
      refine awpL_callG ([24, 25, 26, 10]) (insdO_fg (o := o) (p := p) (x := x) (B := backL x) (left := 131072) (W := List.replicate x.length (-1)) (C := List.replicate x.length (-1)) (l := G) (v := u) (by omega) (by rw [hGl]; exact hr.2) hr.1) rfl rfl rfl rfl rfl rfl rfl rfl rfl (by simp only [rinR, rhoC, zE0, zE1, zE2, zE3, zE4, zE5, evp, evx, ev1, evLoad, evStore, evBin, isBoolK, forall_const, z38, tb, Nat.reduceAdd, Nat.reduceSub, Nat.reduceMul, Nat.reduceEqDiff, Nat.reduceLeDiff, Nat.reduceLT, Nat.reduceBEq, Nat.reduceBNe, ↓reduceIte, reduceIte, spZp, validS, membersS, svA]) ?_; intro gm gv gr hq m' e' l' h; simp only [GR.mk.injEq] at hq; obtain ⟨rfl, rfl, rfl⟩ := hq; simp only [rhoC, outR, renR, dels, zE0, zE1, zE2, zE3, zE4, zE5, evp, evx, ev1, evLoad, evStore, evBin, isBoolK, forall_const, z38, tb, Nat.reduceAdd, Nat.reduceSub, Nat.reduceMul, Nat.reduceEqDiff, Nat.reduceLeDiff, Nat.reduceLT, Nat.reduceBEq, Nat.reduceBNe, ↓reduceIte, reduceIte, spZp, validS, membersS, svA] at h; obtain ⟨rfl, rfl, rfl⟩ := h; refine next_then ?_
      refine awpL_text htb hmz spZp_ok (fun _ => false) rfl rfl rfl ?_; intro m' e' l' ob h; simp only [zE0, zE1, zE2, zE3, zE4, zE5, evp, evx, ev1, evLoad, evStore, evBin, isBoolK, forall_const, z38, tb, Nat.reduceAdd, Nat.reduceSub, Nat.reduceMul, Nat.reduceEqDiff, Nat.reduceLeDiff, Nat.reduceLT, Nat.reduceBEq, Nat.reduceBNe, ↓reduceIte, reduceIte, spZp, validS, membersS, svA] at h; obtain ⟨rfl, rfl, rfl, rfl⟩ := h; refine ⟨?_, ?_⟩
      · first | ((with_reducible refine Ob.mk ?_); first | exact trivial | (intros; omega) | ((repeat' first | apply And.intro | (intro hg; have hg' := hg; try simp only [zH] at hg')) <;> first | (with_reducible exact True.intro) | assumption | omega | (simp only [zH]; omega))) | skip
      refine next_then (awp_seq ?_)
      have hin : inN G (x.getD u []) ≤ 64 := Nat.le_trans List.countP_le_length hr.1
      have hty : tyB ⟨o, p, x⟩ pl G u = ((decide (o.getD u 0 = pl) && decide (0 < inN G (x.getD u []))) || (!decide (o.getD u 0 = pl) && decide (inN G (x.getD u []) = (x.getD u []).length))) := rfl
      have hrl := hr.1
      generalize inN G (x.getD u []) = N0 at *
      repeat' first
        | with_reducible first | refine awp_seq ?_ | refine awp_block ?_ | refine next_then ?_ | refine next_block ?_ | refine exit_then ?_ | refine ret_then ?_ | refine ret_block ?_ | refine exit_here ?_ | refine awp_exit ?_ | refine awp_ret ?_ | refine awp_skip ?_ | refine awp_label ?_ | refine next_noGoto ?_ | refine ret_noGoto ?_ | refine exit_noGoto ?_ | refine awp_scope ?_
        | ((with_reducible refine exit_past ?_ ?_); exact rfl)
        | ((with_reducible refine isCond ?_); refine awp_condO rfl ?_ ?_ <;> intro hb <;> (try simp only [zH] at hb))
        | ((with_reducible refine isRegS 21 ?_ ?_); (· exact rfl); (first | refine awp_textM htb hmz spZp_ok (fun _ => false) rfl rfl ?_ | refine awp_drawM hmo htb hmz spZp_ok (fun _ => false) rfl rfl (by kernel_rfl) ?_); intro m' e' l' ob h; simp only [zE0, zE1, zE2, zE3, zE4, zE5, evp, evx, ev1, evLoad, evStore, evBin, isBoolK, forall_const, z38, tb, Nat.reduceAdd, Nat.reduceSub, Nat.reduceMul, Nat.reduceEqDiff, Nat.reduceLeDiff, Nat.reduceLT, Nat.reduceBEq, Nat.reduceBNe, ↓reduceIte, reduceIte, spZp, validS, membersS, svA] at h; obtain ⟨rfl, rfl, rfl, rfl⟩ := h; refine ⟨?_, ?_⟩)
        | ((with_reducible refine Ob.mk ?_); first | exact trivial | (intros; omega) | ((repeat' first | apply And.intro | (intro hg; have hg' := hg; try simp only [zH] at hg')) <;> first | assumption | omega | (simp only [zH]; omega)))
      · have ht : tyB ⟨o, p, x⟩ pl G u = true := by
          rw [hty, Bool.or_eq_true, Bool.and_eq_true, Bool.and_eq_true]
          rcases hb with ⟨h1, h2⟩ | ⟨h1, h2⟩
          · exact .inl ⟨decide_eq_true h1, decide_eq_true (by omega)⟩
          · exact .inr ⟨by rw [decide_eq_false h1]; rfl, decide_eq_true (by omega)⟩
        have he := hon (i := u) (.inr (by rw [hGu]; exact ht))
        refine ⟨rfl, _, ⟨u + 1, G, c⟩, [], rfl, ?_, ⟨hGl, by dsimp only; omega, ?_, hc1, hc2⟩, by dsimp only; rw [hnxu]⟩
        · (refine ⟨rfl, ?_, ?_⟩ <;> simp only [zE0, zE1, zE2, zE3, zE4, zE5, evp, evx, ev1, evLoad, evStore, evBin, isBoolK, forall_const, z38, tb, Nat.reduceAdd, Nat.reduceSub, Nat.reduceMul, Nat.reduceEqDiff, Nat.reduceLeDiff, Nat.reduceLT, Nat.reduceBEq, Nat.reduceBNe, ↓reduceIte, reduceIte, spZp, validS, membersS, svA, zI])
        · dsimp only
          rw [he, hGu]
      · have ht : tyB ⟨o, p, x⟩ pl G u = false := by
          cases h : tyB ⟨o, p, x⟩ pl G u with
          | false => rfl
          | true =>
            exfalso
            rw [h] at hty
            have hty := hty.symm
            rw [Bool.or_eq_true, Bool.and_eq_true, Bool.and_eq_true] at hty
            rcases hty with ⟨h1, h2⟩ | ⟨h1, h2⟩
            · have h1 := of_decide_eq_true h1
              have h2 := of_decide_eq_true h2
              rcases hb.1 with h | h
              · exact h h1
              · omega
            · have h2 := of_decide_eq_true h2
              rcases hb.2 with h | h
              · rw [decide_eq_true h] at h1; cases h1
              · omega
        obtain ⟨he, hne⟩ := hoff (i := u) (by rw [hGu]; exact hu3) (by rw [hGu]; exact ht)
        rw [hGu] at he
        repeat' first
          | with_reducible first | refine awp_seq ?_ | refine awp_block ?_ | refine next_then ?_ | refine next_block ?_ | refine exit_then ?_ | refine ret_then ?_ | refine ret_block ?_ | refine exit_here ?_ | refine awp_exit ?_ | refine awp_ret ?_ | refine awp_skip ?_ | refine awp_label ?_ | refine next_noGoto ?_ | refine ret_noGoto ?_ | refine exit_noGoto ?_ | refine awp_scope ?_
          | ((with_reducible refine exit_past ?_ ?_); exact rfl)
          | ((with_reducible refine isCond ?_); refine awp_condO rfl ?_ ?_ <;> intro hb <;> (try simp only [zH] at hb))
          | ((with_reducible refine isReg ?_); (first | refine awp_textM htb hmz spZp_ok (fun _ => false) rfl rfl ?_ | refine awp_drawM hmo htb hmz spZp_ok (fun _ => false) rfl rfl (by kernel_rfl) ?_); intro m' e' l' ob h; simp only [zE0, zE1, zE2, zE3, zE4, zE5, evp, evx, ev1, evLoad, evStore, evBin, isBoolK, forall_const, z38, tb, Nat.reduceAdd, Nat.reduceSub, Nat.reduceMul, Nat.reduceEqDiff, Nat.reduceLeDiff, Nat.reduceLT, Nat.reduceBEq, Nat.reduceBNe, ↓reduceIte, reduceIte, spZp, validS, membersS, svA] at h; obtain ⟨rfl, rfl, rfl, rfl⟩ := h; refine ⟨?_, ?_⟩)
          | ((with_reducible refine Ob.mk ?_); first | exact trivial | (intros; omega) | ((repeat' first | apply And.intro | (intro hg; have hg' := hg; try simp only [zH] at hg')) <;> first | assumption | omega | (simp only [zH]; omega)))
        refine ⟨rfl, _, ⟨u + 1, G.set u false, true⟩, [], rfl, ?_, ⟨by dsimp only; rw [List.length_set, hGl], by dsimp only; omega, he.symm, fun _ => by dsimp only; rw [← he]; exact hne, fun h => by cases h⟩, by dsimp only; rw [hnxu]⟩
        (refine ⟨rfl, ?_, ?_⟩ <;> simp only [zE0, zE1, zE2, zE3, zE4, zE5, evp, evx, ev1, evLoad, evStore, evBin, isBoolK, forall_const, z38, tb, Nat.reduceAdd, Nat.reduceSub, Nat.reduceMul, Nat.reduceEqDiff, Nat.reduceLeDiff, Nat.reduceLT, Nat.reduceBEq, Nat.reduceBNe, ↓reduceIte, reduceIte, spZp, validS, membersS, svA, zI])
    · rintro ⟨v, G, c⟩ ⟨hGl, hvn, hG, hc1, hc2⟩ hfin
      dsimp only at hGl hvn hG hc1 hc2 hfin ⊢
      obtain ⟨hu1, hu2, _, hu4⟩ := nxv_spec (F := G) (G.length - v) v (Nat.le_refl _) (by omega)
      have hGn : sw ⟨o, p, x⟩ pl F o.length = G := by rw [hskip (i := v) hvn (by rw [← hG, ← hfin]; exact hu4), hG]
      have hGn2 : sw ⟨o, p, x⟩ pl F F.length = G := by rw [hFl]; exact hGn
      refine next_block (next_block (next_then ?_))
      refine awp_joinM 36 31 rfl rfl rfl rfl ?_
      simp only [dels, zE0, zE1, zE2, zE3, zE4, zE5, evp, evx, ev1, evLoad, evStore, evBin, isBoolK, forall_const, z38, tb, Nat.reduceAdd, Nat.reduceSub, Nat.reduceMul, Nat.reduceEqDiff, Nat.reduceLeDiff, Nat.reduceLT, Nat.reduceBEq, Nat.reduceBNe, ↓reduceIte, reduceIte, spZp, validS, membersS, svA]
      repeat' first
        | with_reducible first | refine awp_seq ?_ | refine awp_block ?_ | refine next_then ?_ | refine next_block ?_ | refine exit_then ?_ | refine ret_then ?_ | refine ret_block ?_ | refine exit_here ?_ | refine awp_exit ?_ | refine awp_ret ?_ | refine awp_skip ?_ | refine awp_label ?_ | refine next_noGoto ?_ | refine ret_noGoto ?_ | refine exit_noGoto ?_ | refine awp_scope ?_
        | ((with_reducible refine exit_past ?_ ?_); exact rfl)
        | ((with_reducible refine isCond ?_); refine awp_condO rfl ?_ ?_ <;> intro hb <;> (try simp only [zH] at hb))
        | ((with_reducible refine isReg ?_); (first | refine awp_textM htb hmz spZp_ok (fun _ => false) rfl rfl ?_ | refine awp_drawM hmo htb hmz spZp_ok (fun _ => false) rfl rfl (by kernel_rfl) ?_); intro m' e' l' ob h; simp only [zE0, zE1, zE2, zE3, zE4, zE5, evp, evx, ev1, evLoad, evStore, evBin, isBoolK, forall_const, z38, tb, Nat.reduceAdd, Nat.reduceSub, Nat.reduceMul, Nat.reduceEqDiff, Nat.reduceLeDiff, Nat.reduceLT, Nat.reduceBEq, Nat.reduceBNe, ↓reduceIte, reduceIte, spZp, validS, membersS, svA] at h; obtain ⟨rfl, rfl, rfl, rfl⟩ := h; refine ⟨?_, ?_⟩)
        | ((with_reducible refine Ob.mk ?_); first | exact trivial | (intros; omega) | ((repeat' first | apply And.intro | (intro hg; have hg' := hg; try simp only [zH] at hg')) <;> first | assumption | omega | (simp only [zH]; omega)))
      refine back ⟨G, c⟩ [(31, 37), (29, 39)] ?_ ⟨hGl, ?_, fun h => ?_⟩ ?_
      · (refine ⟨rfl, ?_, ?_⟩ <;> simp only [zE0, zE1, zE2, zE3, zE4, zE5, evp, evx, ev1, evLoad, evStore, evBin, isBoolK, forall_const, z38, tb, Nat.reduceAdd, Nat.reduceSub, Nat.reduceMul, Nat.reduceEqDiff, Nat.reduceLeDiff, Nat.reduceLT, Nat.reduceBEq, Nat.reduceBNe, ↓reduceIte, reduceIte, spZp, validS, membersS, svA, zI])
      · dsimp only
        cases c with
        | true =>
          rw [← hGn2, ← trT_next (by rw [hGn2]; exact hc1 rfl)]
          exact hFT
        | false => rw [hc2 rfl]; exact hFT
      · dsimp only at h ⊢
        rw [hc2 h] at hGn ⊢
        exact hGn
      · dsimp only
        cases c with
        | true =>
          have := (hct (i := o.length)).resolve_left (by rw [hGn]; exact hc1 rfl)
          rw [hGn] at this
          show ctB G + 1 < ctB F + 1
          omega
        | false =>
          rw [hc2 rfl]
          show ctB F + 0 < ctB F + 1
          omega
  have hFe : F = T := by
    have h1 := hFc hb
    rw [← hFl] at h1
    rw [← hFT, trT_end h1]
  subst hFe
  clear hFc hFT hb
  refine awp_fzN 10 (.roB F) (by simp only [lkr_cons, lkr_nil, fzE, fzA, fzR, fzB, set1, nbeq, Nat.reduceEqDiff, decide_true, decide_false, ↓reduceIte, reduceIte, cond_true, cond_false, List.take_length, Option.some.injEq]; rfl) (by first | exact rfl | (refine ⟨?_, rfl⟩; first | rfl | (intros; rfl))) (by simp only [lkr_cons, lkr_nil, fzE, fzA, fzR, fzB, set1, nbeq, Nat.reduceEqDiff, decide_true, decide_false, ↓reduceIte, reduceIte, cond_true, cond_false, List.take_length, Option.some.injEq]; rfl) (by simp only [lkr_cons, lkr_nil, fzE, fzA, fzR, fzB, set1, nbeq, Nat.reduceEqDiff, decide_true, decide_false, ↓reduceIte, reduceIte, cond_true, cond_false, List.take_length, Option.some.injEq]; rfl) ?_
  (refine awp_textM htb hmz spZp_ok (fun i => Nat.beq i 0) rfl rfl ?_; intro m' e' l' ob h; simp only [zE0, zE1, zE2, zE3, zE4, zE5, evp, evx, ev1, evLoad, evStore, evBin, isBoolK, forall_const, z38, tb, Nat.reduceAdd, Nat.reduceSub, Nat.reduceMul, Nat.reduceEqDiff, Nat.reduceLeDiff, Nat.reduceLT, Nat.reduceBEq, Nat.reduceBNe, ↓reduceIte, reduceIte, spZp, validS, membersS, svA] at h; obtain ⟨rfl, rfl, rfl, rfl⟩ := h; refine ⟨?_, ?_⟩)
  · first | ((with_reducible refine Ob.mk ?_); first | exact trivial | (intros; omega) | ((repeat' first | apply And.intro | (intro hg; have hg' := hg; try simp only [zH] at hg')) <;> first | assumption | omega | (simp only [zH]; omega))) | skip
  refine next_then ?_
  repeat' first
    | with_reducible first | refine awp_seq ?_ | refine awp_block ?_ | refine next_then ?_ | refine next_block ?_ | refine exit_then ?_ | refine ret_then ?_ | refine ret_block ?_ | refine exit_here ?_ | refine awp_exit ?_ | refine awp_ret ?_ | refine awp_skip ?_ | refine awp_label ?_ | refine next_noGoto ?_ | refine ret_noGoto ?_ | refine exit_noGoto ?_ | refine awp_scope ?_
    | ((with_reducible refine exit_past ?_ ?_); exact rfl)
    | ((with_reducible refine isCond ?_); refine awp_condO rfl ?_ ?_ <;> intro hb <;> (try simp only [zH] at hb))
    | ((with_reducible refine isRegS 27 ?_ ?_); (· exact rfl); (first | refine awp_textM htb hmz spZp_ok (fun _ => false) rfl rfl ?_ | refine awp_drawM hmo htb hmz spZp_ok (fun _ => false) rfl rfl (by kernel_rfl) ?_); intro m' e' l' ob h; simp only [zE0, zE1, zE2, zE3, zE4, zE5, evp, evx, ev1, evLoad, evStore, evBin, isBoolK, forall_const, z38, tb, Nat.reduceAdd, Nat.reduceSub, Nat.reduceMul, Nat.reduceEqDiff, Nat.reduceLeDiff, Nat.reduceLT, Nat.reduceBEq, Nat.reduceBNe, ↓reduceIte, reduceIte, spZp, validS, membersS, svA] at h; obtain ⟨rfl, rfl, rfl, rfl⟩ := h; refine ⟨?_, ?_⟩)
    | ((with_reducible refine Ob.mk ?_); first | exact trivial | (intros; omega) | ((repeat' first | apply And.intro | (intro hg; have hg' := hg; try simp only [zH] at hg')) <;> first | (with_reducible exact True.intro) | assumption | omega | (simp only [zH]; omega)))
  have hkp := kp_len (k := F) (n := F.length)
  refine awp_leC ⟨39, [(94, .fn 41 (.cons (.rop (.roB F)) .nil)), (15, .own 34)], [(34, some (.box (.own 38))), (38, some (.ints [])), (31, some .dfr)], [31]⟩ [(38, 33)] ?_ ?_
  · (refine ⟨rfl, ?_, ?_⟩ <;> simp only [zE0, zE1, zE2, zE3, zE4, zE5, evp, evx, ev1, evLoad, evStore, evBin, isBoolK, forall_const, z38, tb, Nat.reduceAdd, Nat.reduceSub, Nat.reduceMul, Nat.reduceEqDiff, Nat.reduceLeDiff, Nat.reduceLT, Nat.reduceBEq, Nat.reduceBNe, ↓reduceIte, reduceIte, spZp, validS, membersS, svA, zI])
  refine awp_rangeV (m := 38) (M := 39) (fun i => i ≤ (kp F F.length).length) (fun _ : Nat => False) (fun i => (((kp F F.length).getD i 0 : Nat) : Int)) (fun i => i < (kp F F.length).length) (fun i i' => i' = i + 1) (fun i => i = 0) (fun i => i = (kp F F.length).length) .ret (fun i => [(34, some (.box (.own 38))), (38, some (.ints (((kp F F.length).take i).map fun v : Nat => (v : Int)))), (31, some .dfr)]) [31] 0 (members1_iter F _ _ id fun t h => h) (Nat.zero_le _) rfl rfl rfl rfl rfl rfl rfl (fun k hk => by rw [List.mem_singleton.1 hk]; rfl) (fun t k _ _ hk => sV_mem (M := 39) (l := [(34, some (.box (.own 38))), (38, some (.ints (((kp F F.length).take t).map fun v : Nat => (v : Int)))), (31, some .dfr)]) ⟨⟨rfl, rfl⟩, ⟨rfl, trivial⟩, ⟨rfl, trivial⟩, trivial⟩ k _ hk) ?_ ?_ ?_
  · intro lp i hi hg
    obtain ⟨hv1, hv2⟩ := kp_at' hg
    have hkt : ((kp F F.length).take (i + 1)).map (fun v : Nat => (v : Int)) = ((kp F F.length).take i).map (fun v : Nat => (v : Int)) ++ [(((kp F F.length).getD i 0 : Nat) : Int)] := by rw [take1 (d := 0) hg, List.map_append]; rfl
    have hkq : (((kp F F.length).take i).map (fun v : Nat => (v : Int))).length ≤ F.length := by rw [List.length_map, List.length_take]; omega
    generalize hvv : (kp F F.length).getD i 0 = v at *
    first | (refine awp_textM htb hmz spZp_ok (fun _ => false) rfl rfl ?_; intro m' e' l' ob h; simp only [zE0, zE1, zE2, zE3, zE4, zE5, evp, evx, ev1, evLoad, evStore, evBin, isBoolK, forall_const, z38, tb, Nat.reduceAdd, Nat.reduceSub, Nat.reduceMul, Nat.reduceEqDiff, Nat.reduceLeDiff, Nat.reduceLT, Nat.reduceBEq, Nat.reduceBNe, ↓reduceIte, reduceIte, spZp, validS, membersS, svA] at h; obtain ⟨rfl, rfl, rfl, rfl⟩ := h; refine ⟨?_, ?_⟩)
          | (refine awp_drawM hmo htb hmz spZp_ok (fun _ => false) rfl rfl (by kernel_rfl) ?_; intro m' e' l' ob h; simp only [zE0, zE1, zE2, zE3, zE4, zE5, evp, evx, ev1, evLoad, evStore, evBin, isBoolK, forall_const, z38, tb, Nat.reduceAdd, Nat.reduceSub, Nat.reduceMul, Nat.reduceEqDiff, Nat.reduceLeDiff, Nat.reduceLT, Nat.reduceBEq, Nat.reduceBNe, ↓reduceIte, reduceIte, spZp, validS, membersS, svA] at h; obtain ⟨rfl, rfl, rfl, rfl⟩ := h; refine ⟨?_, ?_⟩)
    · first | ((with_reducible refine Ob.mk ?_); first | exact trivial | (intros; omega) | ((repeat' first | apply And.intro | (intro hg; have hg' := hg; try simp only [zH] at hg')) <;> first | assumption | omega | (simp only [zH]; omega))) | skip
    refine ⟨rfl, ?_⟩
    repeat' first
      | with_reducible first | refine awp_seq ?_ | refine awp_block ?_ | refine next_then ?_ | refine next_block ?_ | refine exit_then ?_ | refine ret_then ?_ | refine ret_block ?_ | refine exit_here ?_ | refine awp_exit ?_ | refine awp_ret ?_ | refine awp_skip ?_ | refine awp_label ?_ | refine next_noGoto ?_ | refine ret_noGoto ?_ | refine exit_noGoto ?_ | refine awp_scope ?_
      | ((with_reducible refine exit_past ?_ ?_); exact rfl)
      | ((with_reducible refine isCond ?_); refine awp_condO rfl ?_ ?_ <;> intro hb <;> (try simp only [zH] at hb))
      | ((with_reducible refine isReg ?_); (first | refine awp_textM htb hmz spZp_ok (fun _ => false) rfl rfl ?_ | refine awp_drawM hmo htb hmz spZp_ok (fun _ => false) rfl rfl (by kernel_rfl) ?_); intro m' e' l' ob h; simp only [zE0, zE1, zE2, zE3, zE4, zE5, evp, evx, ev1, evLoad, evStore, evBin, isBoolK, forall_const, z38, tb, Nat.reduceAdd, Nat.reduceSub, Nat.reduceMul, Nat.reduceEqDiff, Nat.reduceLeDiff, Nat.reduceLT, Nat.reduceBEq, Nat.reduceBNe, ↓reduceIte, reduceIte, spZp, validS, membersS, svA] at h; obtain ⟨rfl, rfl, rfl, rfl⟩ := h; refine ⟨?_, ?_⟩)
      | ((with_reducible refine Ob.mk ?_); first | exact trivial | (intros; omega) | ((repeat' first | apply And.intro | (intro hg; have hg' := hg; try simp only [zH] at hg')) <;> first | (with_reducible exact True.intro) | assumption | omega | (simp only [zH]; omega)))
    refine ⟨_, i + 1, [(38, 43)], rfl, ?_, .inl ⟨rfl, hg, rfl⟩⟩
    (refine ⟨rfl, ?_, ?_⟩ <;> simp only [zE0, zE1, zE2, zE3, zE4, zE5, evp, evx, ev1, evLoad, evStore, evBin, isBoolK, forall_const, z38, tb, Nat.reduceAdd, Nat.reduceSub, Nat.reduceMul, Nat.reduceEqDiff, Nat.reduceLeDiff, Nat.reduceLT, Nat.reduceBEq, Nat.reduceBNe, ↓reduceIte, reduceIte, spZp, validS, membersS, svA, zI])
    exact hkt.symm
  · intro i hi hfin
    have hfin : i = (kp F F.length).length := hfin
    subst hfin
    rw [List.take_length]
    refine next_block (next_then ?_)
    refine awp_fzN 38 (.roI ((kp F F.length).map fun v : Nat => (v : Int))) (by simp only [lkr_cons, lkr_nil, fzE, fzA, fzR, fzB, set1, nbeq, Nat.reduceEqDiff, decide_true, decide_false, ↓reduceIte, reduceIte, cond_true, cond_false, List.take_length, Option.some.injEq]; rfl) (by first | exact rfl | (refine ⟨?_, rfl⟩; first | rfl | (intros; rfl))) (by simp only [lkr_cons, lkr_nil, fzE, fzA, fzR, fzB, set1, nbeq, Nat.reduceEqDiff, decide_true, decide_false, ↓reduceIte, reduceIte, cond_true, cond_false, List.take_length, Option.some.injEq]; rfl) (by simp only [lkr_cons, lkr_nil, fzE, fzA, fzR, fzB, set1, nbeq, Nat.reduceEqDiff, decide_true, decide_false, ↓reduceIte, reduceIte, cond_true, cond_false, List.take_length, Option.some.injEq]; rfl) ?_
    repeat' first
      | with_reducible first | refine awp_seq ?_ | refine awp_block ?_ | refine next_then ?_ | refine next_block ?_ | refine exit_then ?_ | refine ret_then ?_ | refine ret_block ?_ | refine exit_here ?_ | refine awp_exit ?_ | refine awp_ret ?_ | refine awp_skip ?_ | refine awp_label ?_ | refine next_noGoto ?_ | refine ret_noGoto ?_ | refine exit_noGoto ?_ | refine awp_scope ?_
      | ((with_reducible refine exit_past ?_ ?_); exact rfl)
      | ((with_reducible refine isCond ?_); refine awp_condO rfl ?_ ?_ <;> intro hb <;> (try simp only [zH] at hb))
      | ((with_reducible refine isReg ?_); (first | refine awp_textM htb hmz spZp_ok (fun _ => false) rfl rfl ?_ | refine awp_drawM hmo htb hmz spZp_ok (fun _ => false) rfl rfl (by kernel_rfl) ?_); intro m' e' l' ob h; simp only [zE0, zE1, zE2, zE3, zE4, zE5, evp, evx, ev1, evLoad, evStore, evBin, isBoolK, forall_const, z38, tb, Nat.reduceAdd, Nat.reduceSub, Nat.reduceMul, Nat.reduceEqDiff, Nat.reduceLeDiff, Nat.reduceLT, Nat.reduceBEq, Nat.reduceBNe, ↓reduceIte, reduceIte, spZp, validS, membersS, svA] at h; obtain ⟨rfl, rfl, rfl, rfl⟩ := h; refine ⟨?_, ?_⟩)
      | ((with_reducible refine Ob.mk ?_); first | exact trivial | (intros; omega) | ((repeat' first | apply And.intro | (intro hg; have hg' := hg; try simp only [zH] at hg')) <;> first | assumption | omega | (simp only [zH]; omega)))
    refine ⟨_, _, rfl, rfl, fun k hk => ?_, (by show [39, 31].Nodup; decide), Nat.zero_le _, spec_flat rfl ?_ rfl⟩
    · rcases List.mem_cons.1 hk with rfl | hk
      · rfl
      · rw [List.mem_singleton.1 hk]; rfl
    · rw [et, hFl]
      rfl
  · intro t h; exact h.elim
end Go.Proofs.Ytlckljphakkomaa.Cal
