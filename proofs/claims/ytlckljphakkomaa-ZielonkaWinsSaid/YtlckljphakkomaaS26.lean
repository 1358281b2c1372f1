/- Own texts of the proof, merged, in order. -/
import Derived.Test.YtlckljphakkomaaS25
set_option linter.unusedVariables false
set_option linter.unusedSimpArgs false
namespace Go.Proofs.Ytlckljphakkomaa.Cal
open Go Pl
set_option maxRecDepth 4000 in
set_option maxHeartbeats 4000000 in
theorem zwins_fg {o p : List Int} {x : List (List Int)} {v : Int} :
    FG Try.prog 16 [.agg (.cons (.roI o) (.cons (.roI p) (.cons (.roII x) .nil))), .int .i64 v] [] 0 fun g => ∃ (w e : Int), zwP ⟨o, p, x⟩ v w e ∧ g = ⟨0, resV [.int .i64 w, .int .i64 e], []⟩ := by
  refine fg_of htb (fn := Try.f16) (by kernel_rfl) (by kernel_rfl) rfl (Nat.le_of_ble_eq_true rfl) fun hl => ?_
  simp only [lenP, mkL, lim] at hl
  repeat' first
    | with_reducible first | refine awp_seq ?_ | refine awp_block ?_ | refine next_then ?_ | refine next_block ?_ | refine exit_then ?_ | refine ret_then ?_ | refine ret_block ?_ | refine exit_here ?_ | refine awp_exit ?_ | refine awp_ret ?_ | refine awp_skip ?_ | refine awp_label ?_ | refine next_noGoto ?_ | refine ret_noGoto ?_ | refine exit_noGoto ?_ | refine awp_scope ?_
    | ((with_reducible refine exit_past ?_ ?_); exact rfl)
    | ((with_reducible refine isCond ?_); refine awp_condO rfl ?_ ?_ <;> intro hb <;> (try simp only [zH] at hb))
    | ((with_reducible refine isRegS 5 ?_ ?_); (· exact rfl); (first | refine awp_textM htb hmz spZs_ok (fun _ => false) rfl rfl ?_ | refine awp_drawM hmo htb hmz spZs_ok (fun _ => false) rfl rfl (by kernel_rfl) ?_); intro m' e' l' ob h; simp only [zE0, zE1, zE2, zE3, zE4, zE5, evp, evx, ev1, evLoad, evStore, evBin, isBoolK, forall_const, z38, tb, Nat.reduceAdd, Nat.reduceSub, Nat.reduceMul, Nat.reduceEqDiff, Nat.reduceLeDiff, Nat.reduceLT, Nat.reduceBEq, Nat.reduceBNe, ↓reduceIte, reduceIte, spZs, validS, allS] at h; obtain ⟨rfl, rfl, rfl, rfl⟩ := h; refine ⟨?_, ?_⟩)
    | ((with_reducible refine Ob.mk ?_); first | exact trivial | (intros; omega) | ((repeat' first | apply And.intro | (intro hg; have hg' := hg; try simp only [zH] at hg')) <;> first | (with_reducible exact True.intro) | assumption | omega | (simp only [zH]; omega)))
  · have hv : validB ⟨o, p, x⟩ = false := by cases h : validB ⟨o, p, x⟩ with | false => rfl | true => rw [h] at hb; cases hb
    refine fin_ret rfl rfl (gq_of ⟨0, resV [.int .i64 0, .int .i64 1], []⟩ [] ⟨0, 1, .inl ⟨hv, rfl, rfl⟩, rfl⟩ rfl (imp_eq rfl) trivial)
  · rename_i hb0
    refine fin_ret rfl rfl (gq_of ⟨0, resV [.int .i64 0, .int .i64 6], []⟩ [] ⟨0, 6, .inr ⟨hb0, .inl ⟨hb, rfl, rfl⟩⟩, rfl⟩ rfl (imp_eq rfl) trivial)
  rename_i hb0
  have hb1 := hb
  have hV := validB_iff.1 hb0
  have hs := zs_zi hV
  obtain ⟨hn, hpl, hxl, hpos⟩ := id hV
  simp only [Gm.n] at hn hpl hxl
  refine awp_drawS hmo ?_
  refine awpS_seg (m := 15) htb hmz spZs_ok (fun _ => false) 0 [0, 1, 2, 3, 4] [9] (os := [_, _, _, _, _]) (wos := [_]) rfl rfl (Nat.le_of_ble_eq_true rfl) rfl rfl rfl (by kernel_rfl) ?_; intro m' e' l' ob h; simp only [zE0, zE1, zE2, zE3, zE4, zE5, evp, evx, ev1, evLoad, evStore, evBin, isBoolK, forall_const, z38, tb, Nat.reduceAdd, Nat.reduceSub, Nat.reduceMul, Nat.reduceEqDiff, Nat.reduceLeDiff, Nat.reduceLT, Nat.reduceBEq, Nat.reduceBNe, ↓reduceIte, reduceIte, spZs, validS, allS] at h; obtain ⟨rfl, rfl, rfl, rfl⟩ := h; refine ⟨?_, ?_, ?_⟩
  · first | ((with_reducible refine Ob.mk ?_); first | exact trivial | (intros; omega) | ((repeat' first | apply And.intro | (intro hg; have hg' := hg; try simp only [zH] at hg')) <;> first | (with_reducible exact True.intro) | assumption | omega | (simp only [zH]; omega))) | skip
  · refine awpS_branch [5, 9] (by kernel_rfl) fun i hi => ?_
    simp only [List.mem_cons, List.not_mem_nil, or_false] at hi
    rcases hi with rfl | rfl
    · refine ⟨_, rfl, rfl, ?_⟩
      refine awpL_callG ([]) (solved_fg hb0 hs) rfl rfl rfl rfl rfl rfl rfl rfl rfl (by simp only [rinR, rhoC, zE0, zE1, zE2, zE3, zE4, zE5, evp, evx, ev1, evLoad, evStore, evBin, isBoolK, forall_const, z38, tb, Nat.reduceAdd, Nat.reduceSub, Nat.reduceMul, Nat.reduceEqDiff, Nat.reduceLeDiff, Nat.reduceLT, Nat.reduceBEq, Nat.reduceBNe, ↓reduceIte, reduceIte, spZs, validS, allS]) ?_; intro gm gv gr hq m' e' l' h; obtain ⟨W', C', e, hZ, hq⟩ := hq; simp only [GR.mk.injEq] at hq; obtain ⟨rfl, rfl, rfl⟩ := hq; simp only [rhoC, outR, renR, dels, zE0, zE1, zE2, zE3, zE4, zE5, evp, evx, ev1, evLoad, evStore, evBin, isBoolK, forall_const, z38, tb, Nat.reduceAdd, Nat.reduceSub, Nat.reduceMul, Nat.reduceEqDiff, Nat.reduceLeDiff, Nat.reduceLT, Nat.reduceBEq, Nat.reduceBNe, ↓reduceIte, reduceIte, spZs, validS, allS] at h; obtain ⟨rfl, rfl, rfl⟩ := h; refine next_then ?_
      refine awpS_seg (m := 14) htb hmz spZs_ok (fun _ => false) 6 [6, 7, 8, 9, 10, 11] [] (os := [_, _, _, _, _, _]) (wos := []) rfl rfl (Nat.le_of_ble_eq_true rfl) rfl rfl rfl (by kernel_rfl) ?_; intro m' e' l' ob h; simp only [zE0, zE1, zE2, zE3, zE4, zE5, evp, evx, ev1, evLoad, evStore, evBin, isBoolK, forall_const, z38, tb, Nat.reduceAdd, Nat.reduceSub, Nat.reduceMul, Nat.reduceEqDiff, Nat.reduceLeDiff, Nat.reduceLT, Nat.reduceBEq, Nat.reduceBNe, ↓reduceIte, reduceIte, spZs, validS, allS] at h; obtain ⟨rfl, rfl, rfl, rfl⟩ := h; refine ⟨?_, ?_, ?_⟩
      · first | ((with_reducible refine Ob.mk ?_); first | exact trivial | (intros; omega) | ((repeat' first | apply And.intro | (intro hg; have hg' := hg; try simp only [zH] at hg')) <;> first | (with_reducible exact True.intro) | assumption | omega | (simp only [zH]; omega))) | skip
      · refine awpS_end (by kernel_rfl) ?_
        refine next_then (awp_seq ?_)
        rcases zs_ans hV hZ with ⟨rfl, _, hW⟩ | ⟨rfl, rfl, rfl, h16, h2⟩
        · have l1 : W'.length = o.length := by rw [hW]; exact winL_len
          repeat' first
            | with_reducible first | refine awp_seq ?_ | refine awp_block ?_ | refine next_then ?_ | refine next_block ?_ | refine exit_then ?_ | refine ret_then ?_ | refine ret_block ?_ | refine exit_here ?_ | refine awp_exit ?_ | refine awp_ret ?_ | refine awp_skip ?_ | refine awp_label ?_ | refine next_noGoto ?_ | refine ret_noGoto ?_ | refine exit_noGoto ?_ | refine awp_scope ?_
            | ((with_reducible refine exit_past ?_ ?_); exact rfl)
            | ((with_reducible refine isCond ?_); refine awp_condO rfl ?_ ?_ <;> intro hb <;> (try simp only [zH] at hb))
            | ((with_reducible refine isRegS 7 ?_ ?_); (· exact rfl); (with_reducible refine isRegS 8 ?_ ?_); (· exact rfl); (first | refine awp_textM htb hmz spZs_ok (fun _ => false) rfl rfl ?_ | refine awp_drawM hmo htb hmz spZs_ok (fun _ => false) rfl rfl (by kernel_rfl) ?_); intro m' e' l' ob h; simp only [zE0, zE1, zE2, zE3, zE4, zE5, evp, evx, ev1, evLoad, evStore, evBin, isBoolK, forall_const, z38, tb, Nat.reduceAdd, Nat.reduceSub, Nat.reduceMul, Nat.reduceEqDiff, Nat.reduceLeDiff, Nat.reduceLT, Nat.reduceBEq, Nat.reduceBNe, ↓reduceIte, reduceIte, spZs, validS, allS] at h; obtain ⟨rfl, rfl, rfl, rfl⟩ := h; refine ⟨?_, ?_⟩)
            | ((with_reducible refine Ob.mk ?_); first | exact trivial | (intros; omega) | ((repeat' first | apply And.intro | (intro hg; have hg' := hg; try simp only [zH] at hg')) <;> first | assumption | omega | (simp only [zH]; omega)))
          · cases hb
          repeat' first
            | with_reducible first | refine awp_seq ?_ | refine awp_block ?_ | refine next_then ?_ | refine next_block ?_ | refine exit_then ?_ | refine ret_then ?_ | refine ret_block ?_ | refine exit_here ?_ | refine awp_exit ?_ | refine awp_ret ?_ | refine awp_skip ?_ | refine awp_label ?_ | refine next_noGoto ?_ | refine ret_noGoto ?_ | refine exit_noGoto ?_ | refine awp_scope ?_
            | ((with_reducible refine exit_past ?_ ?_); exact rfl)
            | ((with_reducible refine isCond ?_); refine awp_condO rfl ?_ ?_ <;> intro hb <;> (try simp only [zH] at hb))
            | ((with_reducible refine isReg ?_); (first | refine awp_textM htb hmz spZs_ok (fun _ => false) rfl rfl ?_ | refine awp_drawM hmo htb hmz spZs_ok (fun _ => false) rfl rfl (by kernel_rfl) ?_); intro m' e' l' ob h; simp only [zE0, zE1, zE2, zE3, zE4, zE5, evp, evx, ev1, evLoad, evStore, evBin, isBoolK, forall_const, z38, tb, Nat.reduceAdd, Nat.reduceSub, Nat.reduceMul, Nat.reduceEqDiff, Nat.reduceLeDiff, Nat.reduceLT, Nat.reduceBEq, Nat.reduceBNe, ↓reduceIte, reduceIte, spZs, validS, allS] at h; obtain ⟨rfl, rfl, rfl, rfl⟩ := h; refine ⟨?_, ?_⟩)
            | ((with_reducible refine Ob.mk ?_); first | exact trivial | (intros; omega) | ((repeat' first | apply And.intro | (intro hg; have hg' := hg; try simp only [zH] at hg')) <;> first | assumption | omega | (simp only [zH]; omega)))
          refine fin_ret rfl rfl (gq_of ⟨0, resV [.int .i64 (W'.getD v.toNat 0), .int .i64 0], []⟩ [] ⟨_, 0, .inr ⟨hb0, .inr ⟨hb1.1, hb1.2, .inl ⟨rfl, by rw [hW]⟩⟩⟩, rfl⟩ rfl (imp_eq rfl) trivial)
        · repeat' first
            | with_reducible first | refine awp_seq ?_ | refine awp_block ?_ | refine next_then ?_ | refine next_block ?_ | refine exit_then ?_ | refine ret_then ?_ | refine ret_block ?_ | refine exit_here ?_ | refine awp_exit ?_ | refine awp_ret ?_ | refine awp_skip ?_ | refine awp_label ?_ | refine next_noGoto ?_ | refine ret_noGoto ?_ | refine exit_noGoto ?_ | refine awp_scope ?_
            | ((with_reducible refine exit_past ?_ ?_); exact rfl)
            | ((with_reducible refine isCond ?_); refine awp_condO rfl ?_ ?_ <;> intro hb <;> (try simp only [zH] at hb))
            | ((with_reducible refine isRegS 7 ?_ ?_); (· exact rfl); (with_reducible refine isRegS 8 ?_ ?_); (· exact rfl); (first | refine awp_textM htb hmz spZs_ok (fun _ => false) rfl rfl ?_ | refine awp_drawM hmo htb hmz spZs_ok (fun _ => false) rfl rfl (by kernel_rfl) ?_); intro m' e' l' ob h; simp only [zE0, zE1, zE2, zE3, zE4, zE5, evp, evx, ev1, evLoad, evStore, evBin, isBoolK, forall_const, z38, tb, Nat.reduceAdd, Nat.reduceSub, Nat.reduceMul, Nat.reduceEqDiff, Nat.reduceLeDiff, Nat.reduceLT, Nat.reduceBEq, Nat.reduceBNe, ↓reduceIte, reduceIte, spZs, validS, allS] at h; obtain ⟨rfl, rfl, rfl, rfl⟩ := h; refine ⟨?_, ?_⟩)
            | ((with_reducible refine Ob.mk ?_); first | exact trivial | (intros; omega) | ((repeat' first | apply And.intro | (intro hg; have hg' := hg; try simp only [zH] at hg')) <;> first | assumption | omega | (simp only [zH]; omega)))
          · repeat' first
              | with_reducible first | refine awp_seq ?_ | refine awp_block ?_ | refine next_then ?_ | refine next_block ?_ | refine exit_then ?_ | refine ret_then ?_ | refine ret_block ?_ | refine exit_here ?_ | refine awp_exit ?_ | refine awp_ret ?_ | refine awp_skip ?_ | refine awp_label ?_ | refine next_noGoto ?_ | refine ret_noGoto ?_ | refine exit_noGoto ?_ | refine awp_scope ?_
              | ((with_reducible refine exit_past ?_ ?_); exact rfl)
              | ((with_reducible refine isCond ?_); refine awp_condO rfl ?_ ?_ <;> intro hb <;> (try simp only [zH] at hb))
              | ((with_reducible refine isReg ?_); (first | refine awp_textM htb hmz spZs_ok (fun _ => false) rfl rfl ?_ | refine awp_drawM hmo htb hmz spZs_ok (fun _ => false) rfl rfl (by kernel_rfl) ?_); intro m' e' l' ob h; simp only [zE0, zE1, zE2, zE3, zE4, zE5, evp, evx, ev1, evLoad, evStore, evBin, isBoolK, forall_const, z38, tb, Nat.reduceAdd, Nat.reduceSub, Nat.reduceMul, Nat.reduceEqDiff, Nat.reduceLeDiff, Nat.reduceLT, Nat.reduceBEq, Nat.reduceBNe, ↓reduceIte, reduceIte, spZs, validS, allS] at h; obtain ⟨rfl, rfl, rfl, rfl⟩ := h; refine ⟨?_, ?_⟩)
              | ((with_reducible refine Ob.mk ?_); first | exact trivial | (intros; omega) | ((repeat' first | apply And.intro | (intro hg; have hg' := hg; try simp only [zH] at hg')) <;> first | assumption | omega | (simp only [zH]; omega)))
            refine fin_ret rfl rfl (gq_of ⟨0, resV [.int .i64 0, .int .i64 3], []⟩ [] ⟨0, 3, .inr ⟨hb0, .inr ⟨hb1.1, hb1.2, .inr ⟨rfl, rfl, h16, h2⟩⟩⟩, rfl⟩ rfl (imp_eq rfl) trivial)
          cases hb
      · exact fun h => absurd rfl h
    · refine ⟨_, rfl, rfl, ?_⟩
      refine awpL_text htb hmz spZs_ok (fun _ => false) rfl rfl rfl ?_; intro m' e' l' ob h; simp only [zE0, zE1, zE2, zE3, zE4, zE5, evp, evx, ev1, evLoad, evStore, evBin, isBoolK, forall_const, z38, tb, Nat.reduceAdd, Nat.reduceSub, Nat.reduceMul, Nat.reduceEqDiff, Nat.reduceLeDiff, Nat.reduceLT, Nat.reduceBEq, Nat.reduceBNe, ↓reduceIte, reduceIte, spZs, validS, allS] at h; obtain ⟨rfl, rfl, rfl, rfl⟩ := h; refine ⟨?_, next_then ?_⟩
      · first | ((with_reducible refine Ob.mk ?_); first | exact trivial | (intros; omega) | ((repeat' first | apply And.intro | (intro hg; have hg' := hg; try simp only [zH] at hg')) <;> first | (with_reducible exact True.intro) | assumption | omega | (simp only [zH]; omega))) | skip
      refine awpS_branch [5] (by kernel_rfl) fun i hi => ?_
      obtain rfl := List.mem_singleton.1 hi
      refine ⟨_, rfl, rfl, ?_⟩
      refine awpL_callG ([]) (solved_fg hb0 hs) rfl rfl rfl rfl rfl rfl rfl rfl rfl (by simp only [rinR, rhoC, zE0, zE1, zE2, zE3, zE4, zE5, evp, evx, ev1, evLoad, evStore, evBin, isBoolK, forall_const, z38, tb, Nat.reduceAdd, Nat.reduceSub, Nat.reduceMul, Nat.reduceEqDiff, Nat.reduceLeDiff, Nat.reduceLT, Nat.reduceBEq, Nat.reduceBNe, ↓reduceIte, reduceIte, spZs, validS, allS]) ?_; intro gm gv gr hq m' e' l' h; obtain ⟨W', C', e, hZ, hq⟩ := hq; simp only [GR.mk.injEq] at hq; obtain ⟨rfl, rfl, rfl⟩ := hq; simp only [rhoC, outR, renR, dels, zE0, zE1, zE2, zE3, zE4, zE5, evp, evx, ev1, evLoad, evStore, evBin, isBoolK, forall_const, z38, tb, Nat.reduceAdd, Nat.reduceSub, Nat.reduceMul, Nat.reduceEqDiff, Nat.reduceLeDiff, Nat.reduceLT, Nat.reduceBEq, Nat.reduceBNe, ↓reduceIte, reduceIte, spZs, validS, allS] at h; obtain ⟨rfl, rfl, rfl⟩ := h; refine next_then ?_
      refine awpS_seg (m := 15) htb hmz spZs_ok (fun _ => false) 6 [6, 7, 8, 10, 11] [] (os := [_, _, _, _, _]) (wos := []) rfl rfl (Nat.le_of_ble_eq_true rfl) rfl rfl rfl (by kernel_rfl) ?_; intro m' e' l' ob h; simp only [zE0, zE1, zE2, zE3, zE4, zE5, evp, evx, ev1, evLoad, evStore, evBin, isBoolK, forall_const, z38, tb, Nat.reduceAdd, Nat.reduceSub, Nat.reduceMul, Nat.reduceEqDiff, Nat.reduceLeDiff, Nat.reduceLT, Nat.reduceBEq, Nat.reduceBNe, ↓reduceIte, reduceIte, spZs, validS, allS] at h; obtain ⟨rfl, rfl, rfl, rfl⟩ := h; refine ⟨?_, ?_, ?_⟩
      · first | ((with_reducible refine Ob.mk ?_); first | exact trivial | (intros; omega) | ((repeat' first | apply And.intro | (intro hg; have hg' := hg; try simp only [zH] at hg')) <;> first | (with_reducible exact True.intro) | assumption | omega | (simp only [zH]; omega))) | skip
      · refine awpS_end (by kernel_rfl) ?_
        refine next_then (awp_seq ?_)
        rcases zs_ans hV hZ with ⟨rfl, _, hW⟩ | ⟨rfl, rfl, rfl, h16, h2⟩
        · have l1 : W'.length = o.length := by rw [hW]; exact winL_len
          repeat' first
            | with_reducible first | refine awp_seq ?_ | refine awp_block ?_ | refine next_then ?_ | refine next_block ?_ | refine exit_then ?_ | refine ret_then ?_ | refine ret_block ?_ | refine exit_here ?_ | refine awp_exit ?_ | refine awp_ret ?_ | refine awp_skip ?_ | refine awp_label ?_ | refine next_noGoto ?_ | refine ret_noGoto ?_ | refine exit_noGoto ?_ | refine awp_scope ?_
            | ((with_reducible refine exit_past ?_ ?_); exact rfl)
            | ((with_reducible refine isCond ?_); refine awp_condO rfl ?_ ?_ <;> intro hb <;> (try simp only [zH] at hb))
            | ((with_reducible refine isRegS 7 ?_ ?_); (· exact rfl); (with_reducible refine isRegS 8 ?_ ?_); (· exact rfl); (first | refine awp_textM htb hmz spZs_ok (fun _ => false) rfl rfl ?_ | refine awp_drawM hmo htb hmz spZs_ok (fun _ => false) rfl rfl (by kernel_rfl) ?_); intro m' e' l' ob h; simp only [zE0, zE1, zE2, zE3, zE4, zE5, evp, evx, ev1, evLoad, evStore, evBin, isBoolK, forall_const, z38, tb, Nat.reduceAdd, Nat.reduceSub, Nat.reduceMul, Nat.reduceEqDiff, Nat.reduceLeDiff, Nat.reduceLT, Nat.reduceBEq, Nat.reduceBNe, ↓reduceIte, reduceIte, spZs, validS, allS] at h; obtain ⟨rfl, rfl, rfl, rfl⟩ := h; refine ⟨?_, ?_⟩)
            | ((with_reducible refine Ob.mk ?_); first | exact trivial | (intros; omega) | ((repeat' first | apply And.intro | (intro hg; have hg' := hg; try simp only [zH] at hg')) <;> first | assumption | omega | (simp only [zH]; omega)))
          · cases hb
          repeat' first
            | with_reducible first | refine awp_seq ?_ | refine awp_block ?_ | refine next_then ?_ | refine next_block ?_ | refine exit_then ?_ | refine ret_then ?_ | refine ret_block ?_ | refine exit_here ?_ | refine awp_exit ?_ | refine awp_ret ?_ | refine awp_skip ?_ | refine awp_label ?_ | refine next_noGoto ?_ | refine ret_noGoto ?_ | refine exit_noGoto ?_ | refine awp_scope ?_
            | ((with_reducible refine exit_past ?_ ?_); exact rfl)
            | ((with_reducible refine isCond ?_); refine awp_condO rfl ?_ ?_ <;> intro hb <;> (try simp only [zH] at hb))
            | ((with_reducible refine isReg ?_); (first | refine awp_textM htb hmz spZs_ok (fun _ => false) rfl rfl ?_ | refine awp_drawM hmo htb hmz spZs_ok (fun _ => false) rfl rfl (by kernel_rfl) ?_); intro m' e' l' ob h; simp only [zE0, zE1, zE2, zE3, zE4, zE5, evp, evx, ev1, evLoad, evStore, evBin, isBoolK, forall_const, z38, tb, Nat.reduceAdd, Nat.reduceSub, Nat.reduceMul, Nat.reduceEqDiff, Nat.reduceLeDiff, Nat.reduceLT, Nat.reduceBEq, Nat.reduceBNe, ↓reduceIte, reduceIte, spZs, validS, allS] at h; obtain ⟨rfl, rfl, rfl, rfl⟩ := h; refine ⟨?_, ?_⟩)
            | ((with_reducible refine Ob.mk ?_); first | exact trivial | (intros; omega) | ((repeat' first | apply And.intro | (intro hg; have hg' := hg; try simp only [zH] at hg')) <;> first | assumption | omega | (simp only [zH]; omega)))
          refine fin_ret rfl rfl (gq_of ⟨0, resV [.int .i64 (W'.getD v.toNat 0), .int .i64 0], []⟩ [] ⟨_, 0, .inr ⟨hb0, .inr ⟨hb1.1, hb1.2, .inl ⟨rfl, by rw [hW]⟩⟩⟩, rfl⟩ rfl (imp_eq rfl) trivial)
        · repeat' first
            | with_reducible first | refine awp_seq ?_ | refine awp_block ?_ | refine next_then ?_ | refine next_block ?_ | refine exit_then ?_ | refine ret_then ?_ | refine ret_block ?_ | refine exit_here ?_ | refine awp_exit ?_ | refine awp_ret ?_ | refine awp_skip ?_ | refine awp_label ?_ | refine next_noGoto ?_ | refine ret_noGoto ?_ | refine exit_noGoto ?_ | refine awp_scope ?_
            | ((with_reducible refine exit_past ?_ ?_); exact rfl)
            | ((with_reducible refine isCond ?_); refine awp_condO rfl ?_ ?_ <;> intro hb <;> (try simp only [zH] at hb))
            | ((with_reducible refine isRegS 7 ?_ ?_); (· exact rfl); (with_reducible refine isRegS 8 ?_ ?_); (· exact rfl); (first | refine awp_textM htb hmz spZs_ok (fun _ => false) rfl rfl ?_ | refine awp_drawM hmo htb hmz spZs_ok (fun _ => false) rfl rfl (by kernel_rfl) ?_); intro m' e' l' ob h; simp only [zE0, zE1, zE2, zE3, zE4, zE5, evp, evx, ev1, evLoad, evStore, evBin, isBoolK, forall_const, z38, tb, Nat.reduceAdd, Nat.reduceSub, Nat.reduceMul, Nat.reduceEqDiff, Nat.reduceLeDiff, Nat.reduceLT, Nat.reduceBEq, Nat.reduceBNe, ↓reduceIte, reduceIte, spZs, validS, allS] at h; obtain ⟨rfl, rfl, rfl, rfl⟩ := h; refine ⟨?_, ?_⟩)
            | ((with_reducible refine Ob.mk ?_); first | exact trivial | (intros; omega) | ((repeat' first | apply And.intro | (intro hg; have hg' := hg; try simp only [zH] at hg')) <;> first | assumption | omega | (simp only [zH]; omega)))
          · repeat' first
              | with_reducible first | refine awp_seq ?_ | refine awp_block ?_ | refine next_then ?_ | refine next_block ?_ | refine exit_then ?_ | refine ret_then ?_ | refine ret_block ?_ | refine exit_here ?_ | refine awp_exit ?_ | refine awp_ret ?_ | refine awp_skip ?_ | refine awp_label ?_ | refine next_noGoto ?_ | refine ret_noGoto ?_ | refine exit_noGoto ?_ | refine awp_scope ?_
              | ((with_reducible refine exit_past ?_ ?_); exact rfl)
              | ((with_reducible refine isCond ?_); refine awp_condO rfl ?_ ?_ <;> intro hb <;> (try simp only [zH] at hb))
              | ((with_reducible refine isReg ?_); (first | refine awp_textM htb hmz spZs_ok (fun _ => false) rfl rfl ?_ | refine awp_drawM hmo htb hmz spZs_ok (fun _ => false) rfl rfl (by kernel_rfl) ?_); intro m' e' l' ob h; simp only [zE0, zE1, zE2, zE3, zE4, zE5, evp, evx, ev1, evLoad, evStore, evBin, isBoolK, forall_const, z38, tb, Nat.reduceAdd, Nat.reduceSub, Nat.reduceMul, Nat.reduceEqDiff, Nat.reduceLeDiff, Nat.reduceLT, Nat.reduceBEq, Nat.reduceBNe, ↓reduceIte, reduceIte, spZs, validS, allS] at h; obtain ⟨rfl, rfl, rfl, rfl⟩ := h; refine ⟨?_, ?_⟩)
              | ((with_reducible refine Ob.mk ?_); first | exact trivial | (intros; omega) | ((repeat' first | apply And.intro | (intro hg; have hg' := hg; try simp only [zH] at hg')) <;> first | assumption | omega | (simp only [zH]; omega)))
            refine fin_ret rfl rfl (gq_of ⟨0, resV [.int .i64 0, .int .i64 3], []⟩ [] ⟨0, 3, .inr ⟨hb0, .inr ⟨hb1.1, hb1.2, .inr ⟨rfl, rfl, h16, h2⟩⟩⟩, rfl⟩ rfl (imp_eq rfl) trivial)
          cases hb
      · exact fun h => absurd rfl h
  · intro _ m2 e2 l2 ob2 h; simp only [zE0, zE1, zE2, zE3, zE4, zE5, evp, evx, ev1, evLoad, evStore, evBin, isBoolK, forall_const, z38, tb, Nat.reduceAdd, Nat.reduceSub, Nat.reduceMul, Nat.reduceEqDiff, Nat.reduceLeDiff, Nat.reduceLT, Nat.reduceBEq, Nat.reduceBNe, ↓reduceIte, reduceIte, spZs, validS, allS] at h; obtain ⟨rfl, rfl, rfl, rfl⟩ := h; refine ⟨?_, ?_⟩
    · first | ((with_reducible refine Ob.mk ?_); first | exact trivial | (intros; omega) | ((repeat' first | apply And.intro | (intro hg; have hg' := hg; try simp only [zH] at hg')) <;> first | (with_reducible exact True.intro) | assumption | omega | (simp only [zH]; omega))) | skip
    refine awpS_branch [5] (by kernel_rfl) fun i hi => ?_
    obtain rfl := List.mem_singleton.1 hi
    refine ⟨_, rfl, rfl, ?_⟩
    refine awpL_callG ([]) (solved_fg hb0 hs) rfl rfl rfl rfl rfl rfl rfl rfl rfl (by simp only [rinR, rhoC, zE0, zE1, zE2, zE3, zE4, zE5, evp, evx, ev1, evLoad, evStore, evBin, isBoolK, forall_const, z38, tb, Nat.reduceAdd, Nat.reduceSub, Nat.reduceMul, Nat.reduceEqDiff, Nat.reduceLeDiff, Nat.reduceLT, Nat.reduceBEq, Nat.reduceBNe, ↓reduceIte, reduceIte, spZs, validS, allS]) ?_; intro gm gv gr hq m' e' l' h; obtain ⟨W', C', e, hZ, hq⟩ := hq; simp only [GR.mk.injEq] at hq; obtain ⟨rfl, rfl, rfl⟩ := hq; simp only [rhoC, outR, renR, dels, zE0, zE1, zE2, zE3, zE4, zE5, evp, evx, ev1, evLoad, evStore, evBin, isBoolK, forall_const, z38, tb, Nat.reduceAdd, Nat.reduceSub, Nat.reduceMul, Nat.reduceEqDiff, Nat.reduceLeDiff, Nat.reduceLT, Nat.reduceBEq, Nat.reduceBNe, ↓reduceIte, reduceIte, spZs, validS, allS] at h; obtain ⟨rfl, rfl, rfl⟩ := h; refine next_then ?_
    refine awpS_seg (m := 15) htb hmz spZs_ok (fun _ => false) 6 [6, 7, 8, 10, 11] [] (os := [_, _, _, _, _]) (wos := []) rfl rfl (Nat.le_of_ble_eq_true rfl) rfl rfl rfl (by kernel_rfl) ?_; intro m' e' l' ob h; simp only [zE0, zE1, zE2, zE3, zE4, zE5, evp, evx, ev1, evLoad, evStore, evBin, isBoolK, forall_const, z38, tb, Nat.reduceAdd, Nat.reduceSub, Nat.reduceMul, Nat.reduceEqDiff, Nat.reduceLeDiff, Nat.reduceLT, Nat.reduceBEq, Nat.reduceBNe, ↓reduceIte, reduceIte, spZs, validS, allS] at h; obtain ⟨rfl, rfl, rfl, rfl⟩ := h; refine ⟨?_, ?_, ?_⟩
    · first | ((with_reducible refine Ob.mk ?_); first | exact trivial | (intros; omega) | ((repeat' first | apply And.intro | (intro hg; have hg' := hg; try simp only [zH] at hg')) <;> first | (with_reducible exact True.intro) | assumption | omega | (simp only [zH]; omega))) | skip
    · refine awpS_end (by kernel_rfl) ?_
      refine next_then (awp_seq ?_)
      rcases zs_ans hV hZ with ⟨rfl, _, hW⟩ | ⟨rfl, rfl, rfl, h16, h2⟩
      · have l1 : W'.length = o.length := by rw [hW]; exact winL_len
        repeat' first
          | with_reducible first | refine awp_seq ?_ | refine awp_block ?_ | refine next_then ?_ | refine next_block ?_ | refine exit_then ?_ | refine ret_then ?_ | refine ret_block ?_ | refine exit_here ?_ | refine awp_exit ?_ | refine awp_ret ?_ | refine awp_skip ?_ | refine awp_label ?_ | refine next_noGoto ?_ | refine ret_noGoto ?_ | refine exit_noGoto ?_ | refine awp_scope ?_
          | ((with_reducible refine exit_past ?_ ?_); exact rfl)
          | ((with_reducible refine isCond ?_); refine awp_condO rfl ?_ ?_ <;> intro hb <;> (try simp only [zH] at hb))
          | ((with_reducible refine isRegS 7 ?_ ?_); (· exact rfl); (with_reducible refine isRegS 8 ?_ ?_); (· exact rfl); (first | refine awp_textM htb hmz spZs_ok (fun _ => false) rfl rfl ?_ | refine awp_drawM hmo htb hmz spZs_ok (fun _ => false) rfl rfl (by kernel_rfl) ?_); intro m' e' l' ob h; simp only [zE0, zE1, zE2, zE3, zE4, zE5, evp, evx, ev1, evLoad, evStore, evBin, isBoolK, forall_const, z38, tb, Nat.reduceAdd, Nat.reduceSub, Nat.reduceMul, Nat.reduceEqDiff, Nat.reduceLeDiff, Nat.reduceLT, Nat.reduceBEq, Nat.reduceBNe, ↓reduceIte, reduceIte, spZs, validS, allS] at h; obtain ⟨rfl, rfl, rfl, rfl⟩ := h; refine ⟨?_, ?_⟩)
          | ((with_reducible refine Ob.mk ?_); first | exact trivial | (intros; omega) | ((repeat' first | apply And.intro | (intro hg; have hg' := hg; try simp only [zH] at hg')) <;> first | assumption | omega | (simp only [zH]; omega)))
        · cases hb
        repeat' first
          | with_reducible first | refine awp_seq ?_ | refine awp_block ?_ | refine next_then ?_ | refine next_block ?_ | refine exit_then ?_ | refine ret_then ?_ | refine ret_block ?_ | refine exit_here ?_ | refine awp_exit ?_ | refine awp_ret ?_ | refine awp_skip ?_ | refine awp_label ?_ | refine next_noGoto ?_ | refine ret_noGoto ?_ | refine exit_noGoto ?_ | refine awp_scope ?_
          | ((with_reducible refine exit_past ?_ ?_); exact rfl)
          | ((with_reducible refine isCond ?_); refine awp_condO rfl ?_ ?_ <;> intro hb <;> (try simp only [zH] at hb))
          | ((with_reducible refine isReg ?_); (first | refine awp_textM htb hmz spZs_ok (fun _ => false) rfl rfl ?_ | refine awp_drawM hmo htb hmz spZs_ok (fun _ => false) rfl rfl (by kernel_rfl) ?_); intro m' e' l' ob h; simp only [zE0, zE1, zE2, zE3, zE4, zE5, evp, evx, ev1, evLoad, evStore, evBin, isBoolK, forall_const, z38, tb, Nat.reduceAdd, Nat.reduceSub, Nat.reduceMul, Nat.reduceEqDiff, Nat.reduceLeDiff, Nat.reduceLT, Nat.reduceBEq, Nat.reduceBNe, ↓reduceIte, reduceIte, spZs, validS, allS] at h; obtain ⟨rfl, rfl, rfl, rfl⟩ := h; refine ⟨?_, ?_⟩)
          | ((with_reducible refine Ob.mk ?_); first | exact trivial | (intros; omega) | ((repeat' first | apply And.intro | (intro hg; have hg' := hg; try simp only [zH] at hg')) <;> first | assumption | omega | (simp only [zH]; omega)))
        refine fin_ret rfl rfl (gq_of ⟨0, resV [.int .i64 (W'.getD v.toNat 0), .int .i64 0], []⟩ [] ⟨_, 0, .inr ⟨hb0, .inr ⟨hb1.1, hb1.2, .inl ⟨rfl, by rw [hW]⟩⟩⟩, rfl⟩ rfl (imp_eq rfl) trivial)
      · repeat' first
          | with_reducible first | refine awp_seq ?_ | refine awp_block ?_ | refine next_then ?_ | refine next_block ?_ | refine exit_then ?_ | refine ret_then ?_ | refine ret_block ?_ | refine exit_here ?_ | refine awp_exit ?_ | refine awp_ret ?_ | refine awp_skip ?_ | refine awp_label ?_ | refine next_noGoto ?_ | refine ret_noGoto ?_ | refine exit_noGoto ?_ | refine awp_scope ?_
          | ((with_reducible refine exit_past ?_ ?_); exact rfl)
          | ((with_reducible refine isCond ?_); refine awp_condO rfl ?_ ?_ <;> intro hb <;> (try simp only [zH] at hb))
          | ((with_reducible refine isRegS 7 ?_ ?_); (· exact rfl); (with_reducible refine isRegS 8 ?_ ?_); (· exact rfl); (first | refine awp_textM htb hmz spZs_ok (fun _ => false) rfl rfl ?_ | refine awp_drawM hmo htb hmz spZs_ok (fun _ => false) rfl rfl (by kernel_rfl) ?_); intro m' e' l' ob h; simp only [zE0, zE1, zE2, zE3, zE4, zE5, evp, evx, ev1, evLoad, evStore, evBin, isBoolK, forall_const, z38, tb, Nat.reduceAdd, Nat.reduceSub, Nat.reduceMul, Nat.reduceEqDiff, Nat.reduceLeDiff, Nat.reduceLT, Nat.reduceBEq, Nat.reduceBNe, ↓reduceIte, reduceIte, spZs, validS, allS] at h; obtain ⟨rfl, rfl, rfl, rfl⟩ := h; refine ⟨?_, ?_⟩)
          | ((with_reducible refine Ob.mk ?_); first | exact trivial | (intros; omega) | ((repeat' first | apply And.intro | (intro hg; have hg' := hg; try simp only [zH] at hg')) <;> first | assumption | omega | (simp only [zH]; omega)))
        · repeat' first
            | with_reducible first | refine awp_seq ?_ | refine awp_block ?_ | refine next_then ?_ | refine next_block ?_ | refine exit_then ?_ | refine ret_then ?_ | refine ret_block ?_ | refine exit_here ?_ | refine awp_exit ?_ | refine awp_ret ?_ | refine awp_skip ?_ | refine awp_label ?_ | refine next_noGoto ?_ | refine ret_noGoto ?_ | refine exit_noGoto ?_ | refine awp_scope ?_
            | ((with_reducible refine exit_past ?_ ?_); exact rfl)
            | ((with_reducible refine isCond ?_); refine awp_condO rfl ?_ ?_ <;> intro hb <;> (try simp only [zH] at hb))
            | ((with_reducible refine isReg ?_); (first | refine awp_textM htb hmz spZs_ok (fun _ => false) rfl rfl ?_ | refine awp_drawM hmo htb hmz spZs_ok (fun _ => false) rfl rfl (by kernel_rfl) ?_); intro m' e' l' ob h; simp only [zE0, zE1, zE2, zE3, zE4, zE5, evp, evx, ev1, evLoad, evStore, evBin, isBoolK, forall_const, z38, tb, Nat.reduceAdd, Nat.reduceSub, Nat.reduceMul, Nat.reduceEqDiff, Nat.reduceLeDiff, Nat.reduceLT, Nat.reduceBEq, Nat.reduceBNe, ↓reduceIte, reduceIte, spZs, validS, allS] at h; obtain ⟨rfl, rfl, rfl, rfl⟩ := h; refine ⟨?_, ?_⟩)
            | ((with_reducible refine Ob.mk ?_); first | exact trivial | (intros; omega) | ((repeat' first | apply And.intro | (intro hg; have hg' := hg; try simp only [zH] at hg')) <;> first | assumption | omega | (simp only [zH]; omega)))
          refine fin_ret rfl rfl (gq_of ⟨0, resV [.int .i64 0, .int .i64 3], []⟩ [] ⟨0, 3, .inr ⟨hb0, .inr ⟨hb1.1, hb1.2, .inr ⟨rfl, rfl, h16, h2⟩⟩⟩, rfl⟩ rfl (imp_eq rfl) trivial)
        cases hb
    · exact fun h => absurd rfl h
end Go.Proofs.Ytlckljphakkomaa.Cal
namespace Go.Proofs.Ytlckljphakkomaa.Cal
open Go Pl
def exG1 : Gm := ⟨[0, 1], [1, 2], [[0, 1], [0, 1]]⟩
def exG2 : Gm := ⟨[1], [3], [[0]]⟩
theorem ex1_valid : Valid exG1 := by
  refine ⟨by decide, rfl, rfl, fun v hv => ?_⟩
  have hv : v < 2 := hv
  have : v = 0 ∨ v = 1 := by omega
  rcases this with rfl | rfl
  · refine ⟨by decide, fun i hi => ?_⟩
    have hi : i < 2 := hi
    have : i = 0 ∨ i = 1 := by omega
    rcases this with rfl | rfl <;> exact ⟨by decide, by decide, by decide⟩
  · refine ⟨by decide, fun i hi => ?_⟩
    have hi : i < 2 := hi
    have : i = 0 ∨ i = 1 := by omega
    rcases this with rfl | rfl <;> exact ⟨by decide, by decide, by decide⟩
theorem ex2_valid : Valid exG2 := by
  refine ⟨by decide, rfl, rfl, fun v hv => ?_⟩
  have hv : v < 1 := hv
  obtain rfl : v = 0 := by omega
  refine ⟨by decide, fun i hi => ?_⟩
  have hi : i < 1 := hi
  obtain rfl : i = 0 := by omega
  exact ⟨by decide, by decide, by decide⟩
theorem ex1_sol {W C : List Int} (h : solB exG1 W C = true) : W = [0, 0] ∧ C = [1, -1] := by
  obtain ⟨hc, hs⟩ := (solB_iff ex1_valid).1 h
  obtain ⟨hW, hC, hc⟩ := of_decide_eq_true hc
  have hW : W.length = 2 := hW
  have hC : C.length = 2 := hC
  match W, C, hW, hC with
  | [a, b], [c, d], _, _ =>
    obtain ⟨w0', m0', n0'⟩ := hc 0 (by decide)
    obtain ⟨w1', m1', n1'⟩ := hc 1 (by decide)
    have w0 : a = 0 ∨ a = 1 := w0'
    have w1 : b = 0 ∨ b = 1 := w1'
    have m0 : (0 : Int) = a → c ∈ [(0 : Int), 1] := m0'
    have m1 : (1 : Int) = b → d ∈ [(0 : Int), 1] := m1'
    have n0 : (0 : Int) ≠ a → c = -1 := n0'
    have n1 : (1 : Int) ≠ b → d = -1 := n1'
    have S0 := hs 0 (.inl rfl)
    have S1 := hs 1 (.inr rfl)
    rcases w0 with rfl | rfl
    · rcases w1 with rfl | rfl
      · have hd := n1 (by decide)
        have hcm := m0 rfl
        have hcm : c = 0 ∨ c = 1 := by exact (List.mem_cons.1 hcm).imp id List.mem_singleton.1
        rcases hcm with rfl | rfl
        · exfalso
          refine S0.cyc 0 (by decide) rfl (by decide) ⟨0, ⟨⟨⟨by decide, rfl⟩, by decide, fun _ => rfl, fun h => absurd rfl h⟩, by decide⟩, .refl _⟩
        · exact ⟨rfl, by rw [hd]⟩
      · exfalso
        have hdm := m1 rfl
        have hdm : d = 0 ∨ d = 1 := by exact (List.mem_cons.1 hdm).imp id List.mem_singleton.1
        rcases hdm with rfl | rfl
        · have := (S1.mine 1 (by decide) rfl rfl).2.2
          exact absurd (show (0 : Int) = 1 from this) (by decide)
        · refine S1.cyc 1 (by decide) rfl (by decide) ⟨1, ⟨⟨⟨by decide, rfl⟩, by decide, fun _ => rfl, fun h => absurd rfl h⟩, by decide⟩, .refl _⟩
    · exfalso
      have hb := S1.his 0 (by decide) rfl (by decide) 1 (by decide) (by decide)
      have hb : b = 1 := hb
      subst hb
      have hdm := m1 rfl
      have hdm : d = 0 ∨ d = 1 := by exact (List.mem_cons.1 hdm).imp id List.mem_singleton.1
      rcases hdm with rfl | rfl
      · refine S1.cyc 1 (by decide) rfl (by decide) ⟨0, ⟨⟨⟨by decide, rfl⟩, by decide, fun _ => rfl, fun h => absurd rfl h⟩, by decide⟩, .step (.refl _) ⟨⟨⟨by decide, rfl⟩, by decide, fun h => absurd h (by decide), fun _ => by decide⟩, by decide⟩⟩
      · refine S1.cyc 1 (by decide) rfl (by decide) ⟨1, ⟨⟨⟨by decide, rfl⟩, by decide, fun _ => rfl, fun h => absurd rfl h⟩, by decide⟩, .refl _⟩
theorem ex2_sol {W C : List Int} (h : solB exG2 W C = true) : W = [1] ∧ C = [0] := by
  obtain ⟨hc, hs⟩ := (solB_iff ex2_valid).1 h
  obtain ⟨hW, hC, hc⟩ := of_decide_eq_true hc
  have hW : W.length = 1 := hW
  have hC : C.length = 1 := hC
  match W, C, hW, hC with
  | [a], [c], _, _ =>
    obtain ⟨w0', m0', n0'⟩ := hc 0 (by decide)
    have w0 : a = 0 ∨ a = 1 := w0'
    have m0 : (1 : Int) = a → c ∈ [(0 : Int)] := m0'
    have S0 := hs 0 (.inl rfl)
    rcases w0 with rfl | rfl
    · exfalso
      refine S0.cyc 0 (by decide) rfl (by decide) ⟨0, ⟨⟨⟨by decide, rfl⟩, by decide, fun h => absurd h (by decide), fun _ => by decide⟩, by decide⟩, .refl _⟩
    · have hcm := m0 rfl
      rw [List.mem_singleton.1 hcm]
      exact ⟨rfl, rfl⟩
end Go.Proofs.Ytlckljphakkomaa.Cal
namespace Go.Proofs.Ytlckljphakkomaa.Cal
open Go
section
variable {P : Program} {ro : Option Nat} {N κ : Nat}
/-- A variable that is nil, seen as a slice of the call's own. -/
theorem awp_nilslot {c : Code} {m : Nat} {env : List (Nat × AV)} {rs : List (Nat × Option Blk)} {ms : List Nat} {Q : Exit → St → Prop} (s : Nat) (hs : lke env s = .cst (.slice none 0 0)) (hκ : Nat.ble κ m = true)
    (h : awp P ro N κ c (CS.st ⟨m + 1, (s, .own m) :: env, (m, some (.ints [])) :: rs, ms⟩) Q) : awp P ro N κ c (CS.st ⟨m, env, rs, ms⟩) Q := by
  intro n K Z ν w a hg
  have hk : (CS.st ⟨m, env, rs, ms⟩).mu m = false := by show Nat.blt m m = false; rw [nblt]; simp
  have hgr := grs_new (w' := w) (x := .slice none 0 0) (B := .ints []) (F := fun _ => False) hg.rs hg.zk hg.kl hk (Nat.le_refl _) (fun _ _ => rfl) (.inl ⟨rfl, rfl, fun _ h => h⟩) trivial (fun y hy => hy.elim)
  have hν := upN_ext (ν := ν) (x := .slice none 0 0) hk
  have hmu : ∀ j, addK (CS.st ⟨m, env, rs, ms⟩).mu (some m) j = true → ltK (m + 1) j = true := by
    intro j hj
    simp only [addK, CS.st, ltK, nblt, nbeq, Bool.or_eq_true, decide_eq_true_eq] at hj ⊢
    omega
  have e : updL (CS.st ⟨m, env, rs, ms⟩).rs [(m, some (.ints []))] = lkr ((m, some (.ints [])) :: rs) := by
    funext j
    rw [lkr_cons]
    simp only [updL, lko]
    by_cases hj : j = m
    · subst hj; simp [Nat.beq_refl]
    · simp only [beqN hj, if_neg hj]; rfl
  have hgr2 := hgr.nu (μ' := ltK (m + 1)) hmu (fun _ _ => rfl)
  rw [e] at hgr2
  have hgood : Good K Z N w (upN ν m (.slice none 0 0)) (CS.st ⟨m + 1, (s, .own m) :: env, (m, some (.ints [])) :: rs, ms⟩) a := by
    refine ⟨hg.size, upN_one hg.one rfl, fun t => ?_, hgr2, hg.zk, hg.kl, ?_, fun j hj => hmu j (addK_le j (hg.ml j hj))⟩
    · have := hg.env t
      show men (ltK (m + 1)) (lke ((s, .own m) :: env) t) = true ∧ R Z w (lke ((s, .own m) :: env) t) _ true _
      rw [lke_cons]
      by_cases ht : t = s
      · subst ht
        rw [if_pos rfl]
        refine ⟨by show Nat.blt m (m + 1) = true; rw [Nat.blt_eq]; omega, ?_⟩
        have h2 := this.2
        rw [show (CS.st ⟨m, env, rs, ms⟩).env t = lke env t from rfl, hs] at h2
        show [a.tmps.getD t undef] = [upN ν m (.slice none 0 0) m]
        rw [upN_same]; exact h2
      · rw [if_neg ht]
        exact ⟨men_le (fun j hj => hmu j (addK_le j hj)) this.1, R_nu hν this.1 this.2⟩
    · rw [hg.ds]
      exact fmC fun j hj => by rw [hν j (hg.ml j hj)]
  refine wpIn_mono (h n K Z _ w a hgood) ?_
  rintro e a' w' ⟨Z', ν', s', h1, h2, h3, h4⟩
  exact ⟨Z', ν', s', h1, fun j hj => (h2 j hj).trans (upN_other (by rintro rfl; have := Nat.le_of_ble_eq_true hκ; omega)), h3, h4⟩
end
end Go.Proofs.Ytlckljphakkomaa.Cal
namespace Go.Proofs.Ytlckljphakkomaa.Cal
open Go Pl
/-- The different numbers of a list. -/
def dsF (l : List Int) (q : Int) : List Int := if q ∈ l then l else l ++ [q]
def dsL (p : List Int) (i : Nat) : List Int := (p.take i).foldl dsF []
theorem dsL_next {p : List Int} {i : Nat} (h : i < p.length) : dsL p (i + 1) = dsF (dsL p i) (p.getD i 0) := by
  unfold dsL
  rw [take1 (d := 0) h, List.foldl_append]; rfl
theorem dsF_len {l : List Int} {q : Int} : l.length ≤ (dsF l q).length ∧ (dsF l q).length ≤ l.length + 1 := by
  unfold dsF
  split
  · omega
  · simp
theorem dsL_len {p : List Int} : ∀ {i : Nat}, (dsL p i).length ≤ i
  | 0 => Nat.le_refl _
  | i + 1 => by
    rcases Nat.lt_or_ge i p.length with h | h
    · rw [dsL_next h]
      have := dsL_len (p := p) (i := i)
      have := (dsF_len (l := dsL p i) (q := p.getD i 0)).2
      omega
    · have e : dsL p (i + 1) = dsL p i := by unfold dsL; rw [List.take_of_length_le (by omega), List.take_of_length_le h]
      rw [e]
      exact Nat.le_succ_of_le dsL_len
theorem dsL_mem {p : List Int} : ∀ {i v : Nat}, i ≤ p.length → v < i → p.getD v 0 ∈ dsL p i
  | 0, v, _, h => absurd h (by omega)
  | i + 1, v, hi, h => by
    rw [dsL_next hi]
    have hm : ∀ y, y ∈ dsL p i → y ∈ dsF (dsL p i) (p.getD i 0) := fun y hy => by
      unfold dsF
      split
      · exact hy
      · exact List.mem_append_left _ hy
    rcases Nat.lt_succ_iff_lt_or_eq.1 h with h | rfl
    · exact hm _ (dsL_mem (Nat.le_of_succ_le hi) h)
    · unfold dsF
      split
      · assumption
      · exact List.mem_append_right _ (List.mem_singleton.2 rfl)
theorem ds_two {p : List Int} (h : (dsL p p.length).length ≤ 2) : ∃ a b, ∀ v, v < p.length → p.getD v 0 = a ∨ p.getD v 0 = b := by
  have hm : ∀ v, v < p.length → p.getD v 0 ∈ dsL p p.length := fun v hv => dsL_mem (Nat.le_refl _) hv
  match hd : dsL p p.length, h with
  | [], _ => exact ⟨0, 0, fun v hv => absurd (hd ▸ hm v hv) List.not_mem_nil⟩
  | [a], _ => exact ⟨a, a, fun v hv => .inl (List.mem_singleton.1 (hd ▸ hm v hv))⟩
  | [a, b], _ =>
    refine ⟨a, b, fun v hv => ?_⟩
    have := hm v hv
    rw [hd] at this
    exact (List.mem_cons.1 this).imp id List.mem_singleton.1
  | a :: b :: c :: t, h => exact absurd h (by simp)
def easyB (g : Gm) : Bool := decide (g.own.length ≤ 16) || decide ((dsL g.pri g.pri.length).length ≤ 2)
def easyS : Spec
  | [.agg (.cons (.roI o) (.cons (.roI p) (.cons (.roII x) .nil)))] => some ⟨p.length ≤ 20000, .bool (easyB ⟨o, p, x⟩), none⟩
  | _ => none
def spEa : Nat → Option Spec
  | 26 => some hasS
  | _ => none
theorem spEa_ok : SpOK Try.prog spEa := by
  intro f S h
  unfold spEa at h
  split at h
  · cases h; exact has13_ok
  · cases h
set_option maxRecDepth 4000 in
set_option maxHeartbeats 4000000 in
theorem easy_ok : FSpec Try.prog 12 easyS := by
  refine fspec_of htb (fn := Try.f12) (by kernel_rfl) (by kernel_rfl) rfl (fun args r hS => ?_) (fun args r hS hob hl => ?_)
  · unfold easyS at hS; split at hS <;> first | (cases hS; done) | (cases hS; exact Nat.le_of_ble_eq_true rfl)
  unfold easyS at hS
  split at hS
  case h_2 => cases hS
  rename_i o p x
  simp only [Option.some.injEq] at hS
  subst hS
  simp only [lenP, mkL, lim] at hl
  dsimp only at hob
  repeat' first
    | with_reducible first | refine awp_seq ?_ | refine awp_block ?_ | refine next_then ?_ | refine next_block ?_ | refine exit_then ?_ | refine ret_then ?_ | refine ret_block ?_ | refine exit_here ?_ | refine awp_exit ?_ | refine awp_ret ?_ | refine awp_skip ?_ | refine awp_label ?_ | refine next_noGoto ?_ | refine ret_noGoto ?_ | refine exit_noGoto ?_ | refine awp_scope ?_
    | ((with_reducible refine exit_past ?_ ?_); exact rfl)
    | ((with_reducible refine isCond ?_); refine awp_condO rfl ?_ ?_ <;> intro hb <;> (try simp only [zH] at hb))
    | ((with_reducible refine isRegS 3 ?_ ?_); (· exact rfl); (first | refine awp_textM htb hmz spEa_ok (fun _ => false) rfl rfl ?_ | refine awp_drawM hmo htb hmz spEa_ok (fun _ => false) rfl rfl (by kernel_rfl) ?_); intro m' e' l' ob h; simp only [zE0, zE1, zE2, zE3, zE4, zE5, evp, evx, ev1, evLoad, evStore, evBin, isBoolK, forall_const, z38, tb, Nat.reduceAdd, Nat.reduceSub, Nat.reduceMul, Nat.reduceEqDiff, Nat.reduceLeDiff, Nat.reduceLT, Nat.reduceBEq, Nat.reduceBNe, ↓reduceIte, reduceIte, spEa, hasS] at h; obtain ⟨rfl, rfl, rfl, rfl⟩ := h; refine ⟨?_, ?_⟩)
    | ((with_reducible refine Ob.mk ?_); first | exact trivial | (intros; omega) | ((repeat' first | apply And.intro | (intro hg; have hg' := hg; try simp only [zH] at hg')) <;> first | (with_reducible exact True.intro) | assumption | omega | (simp only [zH]; omega)))
  refine awp_nilslot 3 rfl rfl ?_
  refine awp_loopC (τ := Nat) (fun i => i ≤ p.length) (fun i => ⟨9, [(9, .int .i64 i), (8, .int .i64 p.length), (7, .roI p), (3, .own 7), (1, .rop (.agg (.cons (.roI o) (.cons (.roI p) (.cons (.roII x) .nil)))))], [(7, some (.ints (dsL p i)))], []⟩) (fun i => p.length - i) 0 [] ?_ (Nat.zero_le _) ?_
  · (refine ⟨rfl, ?_, ?_⟩ <;> simp only [zE0, zE1, zE2, zE3, zE4, zE5, evp, evx, ev1, evLoad, evStore, evBin, isBoolK, forall_const, z38, tb, Nat.reduceAdd, Nat.reduceSub, Nat.reduceMul, Nat.reduceEqDiff, Nat.reduceLeDiff, Nat.reduceLT, Nat.reduceBEq, Nat.reduceBNe, ↓reduceIte, reduceIte, spEa, hasS, zI])
    rfl
  intro i hi
  have hdl := dsL_len (p := p) (i := i)
  repeat' first
    | with_reducible first | refine awp_seq ?_ | refine awp_block ?_ | refine next_then ?_ | refine next_block ?_ | refine exit_then ?_ | refine ret_then ?_ | refine ret_block ?_ | refine exit_here ?_ | refine awp_exit ?_ | refine awp_ret ?_ | refine awp_skip ?_ | refine awp_label ?_ | refine next_noGoto ?_ | refine ret_noGoto ?_ | refine exit_noGoto ?_ | refine awp_scope ?_
    | ((with_reducible refine exit_past ?_ ?_); exact rfl)
    | ((with_reducible refine isCond ?_); refine awp_condO rfl ?_ ?_ <;> intro hb <;> (try simp only [zH] at hb))
    | ((with_reducible refine isReg ?_); (first | refine awp_textM htb hmz spEa_ok (fun _ => false) rfl rfl ?_ | refine awp_drawM hmo htb hmz spEa_ok (fun _ => false) rfl rfl (by kernel_rfl) ?_); intro m' e' l' ob h; simp only [zE0, zE1, zE2, zE3, zE4, zE5, evp, evx, ev1, evLoad, evStore, evBin, isBoolK, forall_const, z38, tb, Nat.reduceAdd, Nat.reduceSub, Nat.reduceMul, Nat.reduceEqDiff, Nat.reduceLeDiff, Nat.reduceLT, Nat.reduceBEq, Nat.reduceBNe, ↓reduceIte, reduceIte, spEa, hasS] at h; obtain ⟨rfl, rfl, rfl, rfl⟩ := h; refine ⟨?_, ?_⟩)
    | ((with_reducible refine Ob.mk ?_); first | exact trivial | (intros; omega) | ((repeat' first | apply And.intro | (intro hg; have hg' := hg; try simp only [zH] at hg')) <;> first | assumption | omega | (simp only [zH]; omega)))
  · refine back (i + 1) [(7, 20)] ?_ (by omega) (by omega)
    (refine ⟨rfl, ?_, ?_⟩ <;> simp only [zE0, zE1, zE2, zE3, zE4, zE5, evp, evx, ev1, evLoad, evStore, evBin, isBoolK, forall_const, z38, tb, Nat.reduceAdd, Nat.reduceSub, Nat.reduceMul, Nat.reduceEqDiff, Nat.reduceLeDiff, Nat.reduceLT, Nat.reduceBEq, Nat.reduceBNe, ↓reduceIte, reduceIte, spEa, hasS, zI])
    rw [dsL_next (by omega)]
    unfold dsF
    rw [if_neg hb]
  · refine back (i + 1) [] ?_ (by omega) (by omega)
    (refine ⟨rfl, ?_, ?_⟩ <;> simp only [zE0, zE1, zE2, zE3, zE4, zE5, evp, evx, ev1, evLoad, evStore, evBin, isBoolK, forall_const, z38, tb, Nat.reduceAdd, Nat.reduceSub, Nat.reduceMul, Nat.reduceEqDiff, Nat.reduceLeDiff, Nat.reduceLT, Nat.reduceBEq, Nat.reduceBNe, ↓reduceIte, reduceIte, spEa, hasS, zI])
    rw [dsL_next (by omega)]
    unfold dsF
    rw [if_pos hb]
  have hie : i = p.length := by omega
  subst hie
  repeat' first
    | with_reducible first | refine awp_seq ?_ | refine awp_block ?_ | refine next_then ?_ | refine next_block ?_ | refine exit_then ?_ | refine ret_then ?_ | refine ret_block ?_ | refine exit_here ?_ | refine awp_exit ?_ | refine awp_ret ?_ | refine awp_skip ?_ | refine awp_label ?_ | refine next_noGoto ?_ | refine ret_noGoto ?_ | refine exit_noGoto ?_ | refine awp_scope ?_
    | ((with_reducible refine exit_past ?_ ?_); exact rfl)
    | ((with_reducible refine isCond ?_); refine awp_condO rfl ?_ ?_ <;> intro hb <;> (try simp only [zH] at hb))
    | ((with_reducible refine isReg ?_); (first | refine awp_textM htb hmz spEa_ok (fun _ => false) rfl rfl ?_ | refine awp_drawM hmo htb hmz spEa_ok (fun _ => false) rfl rfl (by kernel_rfl) ?_); intro m' e' l' ob h; simp only [zE0, zE1, zE2, zE3, zE4, zE5, evp, evx, ev1, evLoad, evStore, evBin, isBoolK, forall_const, z38, tb, Nat.reduceAdd, Nat.reduceSub, Nat.reduceMul, Nat.reduceEqDiff, Nat.reduceLeDiff, Nat.reduceLT, Nat.reduceBEq, Nat.reduceBNe, ↓reduceIte, reduceIte, spEa, hasS] at h; obtain ⟨rfl, rfl, rfl, rfl⟩ := h; refine ⟨?_, ?_⟩)
    | ((with_reducible refine Ob.mk ?_); first | exact trivial | (intros; omega) | ((repeat' first | apply And.intro | (intro hg; have hg' := hg; try simp only [zH] at hg')) <;> first | assumption | omega | (simp only [zH]; omega)))
  refine fin_ret rfl rfl (spec_flat rfl ?_ rfl)
  show AV.bool (decide ((o.length : Int) ≤ 16) || decide (((dsL p p.length).length : Int) ≤ 2)) = AV.bool (easyB ⟨o, p, x⟩)
  unfold easyB
  rw [decide_eq_decide.2 (show (o.length : Int) ≤ 16 ↔ o.length ≤ 16 by omega), decide_eq_decide.2 (show ((dsL p p.length).length : Int) ≤ 2 ↔ (dsL p p.length).length ≤ 2 by omega)]
end Go.Proofs.Ytlckljphakkomaa.Cal
namespace Go.Proofs.Ytlckljphakkomaa.Cal
open Go Pl
theorem zs_ex1 {W C : List Int} {e : Int} (h : zsP ⟨[0, 1], [1, 2], [[0, 1], [0, 1]]⟩ W C e) : W = [0, 0] ∧ C = [1, -1] ∧ e = 0 := by
  have hv : validB ⟨[0, 1], [1, 2], [[0, 1], [0, 1]]⟩ = true := validB_true ex1_valid
  rcases h with ⟨h1, _⟩ | ⟨_, ⟨h1, h2, h3⟩ | ⟨_, _, _, h4, _⟩⟩
  · rw [hv] at h1; cases h1
  · obtain ⟨a, b⟩ := ex1_sol h2
    exact ⟨a, b, h1⟩
  · have h4 : 16 < 2 := h4
    omega
theorem zs_ex2 {W C : List Int} {e : Int} (h : zsP ⟨[1], [3], [[0]]⟩ W C e) : W = [1] ∧ C = [0] ∧ e = 0 := by
  have hv : validB ⟨[1], [3], [[0]]⟩ = true := validB_true ex2_valid
  rcases h with ⟨h1, _⟩ | ⟨_, ⟨h1, h2, h3⟩ | ⟨_, _, _, h4, _⟩⟩
  · rw [hv] at h1; cases h1
  · obtain ⟨a, b⟩ := ex2_sol h2
    exact ⟨a, b, h1⟩
  · have h4 : 16 < 1 := h4
    omega
def exS : Spec
  | [] => some ⟨True, .agg (.cons (.roI [0, 1]) (.cons (.roI [1, 2]) (.cons (.roII [[0, 1], [0, 1]]) .nil))), none⟩
  | _ => none
set_option maxRecDepth 4000 in
set_option maxHeartbeats 4000000 in
theorem ex_ok : FSpec Try.prog 22 exS := by
  refine fspec_of htb (fn := Try.f22) (by kernel_rfl) (by kernel_rfl) rfl (fun args r hS => ?_) (fun args r hS hob hl => ?_)
  · unfold exS at hS; split at hS <;> first | (cases hS; done) | (cases hS; exact Nat.le_of_ble_eq_true rfl)
  unfold exS at hS
  split at hS
  case h_2 => cases hS
  simp only [Option.some.injEq] at hS
  subst hS
  repeat' first
    | with_reducible first | refine awp_seq ?_ | refine awp_block ?_ | refine next_then ?_ | refine next_block ?_ | refine exit_then ?_ | refine ret_then ?_ | refine ret_block ?_ | refine exit_here ?_ | refine awp_exit ?_ | refine awp_ret ?_ | refine awp_skip ?_ | refine awp_label ?_ | refine next_noGoto ?_ | refine ret_noGoto ?_ | refine exit_noGoto ?_ | refine awp_scope ?_
    | ((with_reducible refine exit_past ?_ ?_); exact rfl)
    | ((with_reducible refine isCond ?_); refine awp_condO rfl ?_ ?_ <;> intro hb <;> (try simp only [zH] at hb))
    | ((with_reducible refine isReg ?_); (first | refine awp_textM htb hmz noSp (fun _ => false) rfl rfl ?_ | refine awp_drawM hmo htb hmz noSp (fun _ => false) rfl rfl (by kernel_rfl) ?_); intro m' e' l' ob h; simp only [zE0, zE1, zE2, zE3, zE4, zE5, evp, evx, ev1, evLoad, evStore, evBin, isBoolK, forall_const, z38, tb, Nat.reduceAdd, Nat.reduceSub, Nat.reduceMul, Nat.reduceEqDiff, Nat.reduceLeDiff, Nat.reduceLT, Nat.reduceBEq, Nat.reduceBNe, ↓reduceIte, reduceIte] at h; obtain ⟨rfl, rfl, rfl, rfl⟩ := h; refine ⟨?_, ?_⟩)
    | ((with_reducible refine Ob.mk ?_); first | exact trivial | (intros; omega) | ((repeat' first | apply And.intro | (intro hg; have hg' := hg; try simp only [zH] at hg')) <;> first | assumption | omega | (simp only [zH]; omega)))
  refine fin_ret rfl rfl (spec_flat rfl ?_ rfl)
  rfl
def awk13S : Spec
  | [] => some ⟨True, .bool true, none⟩
  | _ => none
noncomputable def spAz : Nat → Option Spec
  | 22 => some exS
  | 14 => some listS
  | _ => none
theorem spAz_ok : SpOK Try.prog spAz := by
  intro f S h
  unfold spAz at h
  split at h
  · cases h; exact ex_ok
  · cases h; exact list_ok
  · cases h
set_option maxRecDepth 4000 in
set_option maxHeartbeats 4000000 in
theorem awk13_ok : FSpec Try.prog 9 awk13S := by
  refine fspec_of htb (fn := Try.f9) (by kernel_rfl) (by kernel_rfl) rfl (fun args r hS => ?_) (fun args r hS hob hl => ?_)
  · unfold awk13S at hS; split at hS <;> first | (cases hS; done) | (cases hS; exact Nat.le_of_ble_eq_true rfl)
  unfold awk13S at hS
  split at hS
  case h_2 => cases hS
  simp only [Option.some.injEq] at hS
  subst hS
  repeat' first
    | with_reducible first | refine awp_seq ?_ | refine awp_block ?_ | refine next_then ?_ | refine next_block ?_ | refine exit_then ?_ | refine ret_then ?_ | refine ret_block ?_ | refine exit_here ?_ | refine awp_exit ?_ | refine awp_ret ?_ | refine awp_skip ?_ | refine awp_label ?_ | refine next_noGoto ?_ | refine ret_noGoto ?_ | refine exit_noGoto ?_ | refine awp_scope ?_
    | ((with_reducible refine exit_past ?_ ?_); exact rfl)
    | ((with_reducible refine isCond ?_); refine awp_condO rfl ?_ ?_ <;> intro hb <;> (try simp only [zH] at hb))
    | ((with_reducible refine isRegS 1 ?_ ?_); (· exact rfl); (first | refine awp_textM htb hmz spAz_ok (fun _ => false) rfl rfl ?_ | refine awp_drawM hmo htb hmz spAz_ok (fun _ => false) rfl rfl (by kernel_rfl) ?_); intro m' e' l' ob h; simp only [zE0, zE1, zE2, zE3, zE4, zE5, evp, evx, ev1, evLoad, evStore, evBin, isBoolK, forall_const, z38, tb, Nat.reduceAdd, Nat.reduceSub, Nat.reduceMul, Nat.reduceEqDiff, Nat.reduceLeDiff, Nat.reduceLT, Nat.reduceBEq, Nat.reduceBNe, ↓reduceIte, reduceIte, spAz, exS, listS] at h; obtain ⟨rfl, rfl, rfl, rfl⟩ := h; refine ⟨?_, ?_⟩)
    | ((with_reducible refine Ob.mk ?_); first | exact trivial | (intros; omega) | ((repeat' first | apply And.intro | (intro hg; have hg' := hg; try simp only [zH] at hg')) <;> first | assumption | omega | (simp only [zH]; omega)))
  refine awp_cut ([_]) ([_, _, _, _, _, _]) rfl rfl ?_
  refine awpL_text htb hmz spAz_ok (fun _ => false) rfl rfl rfl ?_; intro m' e' l' ob h; simp only [zE0, zE1, zE2, zE3, zE4, zE5, evp, evx, ev1, evLoad, evStore, evBin, isBoolK, forall_const, z38, tb, Nat.reduceAdd, Nat.reduceSub, Nat.reduceMul, Nat.reduceEqDiff, Nat.reduceLeDiff, Nat.reduceLT, Nat.reduceBEq, Nat.reduceBNe, ↓reduceIte, reduceIte, spAz, exS, listS] at h; obtain ⟨rfl, rfl, rfl, rfl⟩ := h; refine ⟨?_, next_then ?_⟩
  · first | ((with_reducible refine Ob.mk ?_); first | exact trivial | (intros; omega) | ((repeat' first | apply And.intro | (intro hg; have hg' := hg; try simp only [zH] at hg')) <;> first | (with_reducible exact True.intro) | assumption | omega | (simp only [zH]; omega))) | skip
  refine awpL_callG ([]) (zsolve_fg) rfl rfl rfl rfl rfl rfl rfl rfl rfl (by simp only [rinR, rhoC, zE0, zE1, zE2, zE3, zE4, zE5, evp, evx, ev1, evLoad, evStore, evBin, isBoolK, forall_const, z38, tb, Nat.reduceAdd, Nat.reduceSub, Nat.reduceMul, Nat.reduceEqDiff, Nat.reduceLeDiff, Nat.reduceLT, Nat.reduceBEq, Nat.reduceBNe, ↓reduceIte, reduceIte, spAz, exS, listS]) ?_; intro gm gv gr hq m' e' l' h; obtain ⟨W1, C1, e1, hZ1, hq⟩ := hq; simp only [GR.mk.injEq] at hq; obtain ⟨rfl, rfl, rfl⟩ := hq; simp only [rhoC, outR, renR, dels, zE0, zE1, zE2, zE3, zE4, zE5, evp, evx, ev1, evLoad, evStore, evBin, isBoolK, forall_const, z38, tb, Nat.reduceAdd, Nat.reduceSub, Nat.reduceMul, Nat.reduceEqDiff, Nat.reduceLeDiff, Nat.reduceLT, Nat.reduceBEq, Nat.reduceBNe, ↓reduceIte, reduceIte, spAz, exS, listS] at h; obtain ⟨rfl, rfl, rfl⟩ := h; refine next_then ?_
  obtain ⟨rfl, rfl, rfl⟩ := zs_ex1 hZ1
  refine awpL_text htb hmz spAz_ok (fun _ => false) rfl rfl rfl ?_; intro m' e' l' ob h; simp only [zE0, zE1, zE2, zE3, zE4, zE5, evp, evx, ev1, evLoad, evStore, evBin, isBoolK, forall_const, z38, tb, Nat.reduceAdd, Nat.reduceSub, Nat.reduceMul, Nat.reduceEqDiff, Nat.reduceLeDiff, Nat.reduceLT, Nat.reduceBEq, Nat.reduceBNe, ↓reduceIte, reduceIte, spAz, exS, listS] at h; obtain ⟨rfl, rfl, rfl, rfl⟩ := h; refine ⟨?_, ?_⟩
  · first | ((with_reducible refine Ob.mk ?_); first | exact trivial | (intros; omega) | ((repeat' first | apply And.intro | (intro hg; have hg' := hg; try simp only [zH] at hg')) <;> first | (with_reducible exact True.intro) | assumption | omega | (simp only [zH]; omega))) | skip
  refine next_then (awp_seq ?_)
  refine awp_cut ([_, _, _, _, _]) ([_, _, _, _, _, _]) rfl rfl ?_
  refine awpL_text htb hmz spAz_ok (fun _ => false) rfl rfl rfl ?_; intro m' e' l' ob h; simp only [zE0, zE1, zE2, zE3, zE4, zE5, evp, evx, ev1, evLoad, evStore, evBin, isBoolK, forall_const, z38, tb, Nat.reduceAdd, Nat.reduceSub, Nat.reduceMul, Nat.reduceEqDiff, Nat.reduceLeDiff, Nat.reduceLT, Nat.reduceBEq, Nat.reduceBNe, ↓reduceIte, reduceIte, spAz, exS, listS] at h; obtain ⟨rfl, rfl, rfl, rfl⟩ := h; refine ⟨?_, next_then ?_⟩
  · first | ((with_reducible refine Ob.mk ?_); first | exact trivial | (intros; omega) | ((repeat' first | apply And.intro | (intro hg; have hg' := hg; try simp only [zH] at hg')) <;> first | (with_reducible exact True.intro) | assumption | omega | (simp only [zH]; omega))) | skip
  refine awpL_callG ([]) (zsolve_fg) rfl rfl rfl rfl rfl rfl rfl rfl rfl (by simp only [rinR, rhoC, zE0, zE1, zE2, zE3, zE4, zE5, evp, evx, ev1, evLoad, evStore, evBin, isBoolK, forall_const, z38, tb, Nat.reduceAdd, Nat.reduceSub, Nat.reduceMul, Nat.reduceEqDiff, Nat.reduceLeDiff, Nat.reduceLT, Nat.reduceBEq, Nat.reduceBNe, ↓reduceIte, reduceIte, spAz, exS, listS]) ?_; intro gm gv gr hq m' e' l' h; obtain ⟨W2, C2, e2, hZ2, hq⟩ := hq; simp only [GR.mk.injEq] at hq; obtain ⟨rfl, rfl, rfl⟩ := hq; simp only [rhoC, outR, renR, dels, zE0, zE1, zE2, zE3, zE4, zE5, evp, evx, ev1, evLoad, evStore, evBin, isBoolK, forall_const, z38, tb, Nat.reduceAdd, Nat.reduceSub, Nat.reduceMul, Nat.reduceEqDiff, Nat.reduceLeDiff, Nat.reduceLT, Nat.reduceBEq, Nat.reduceBNe, ↓reduceIte, reduceIte, spAz, exS, listS] at h; obtain ⟨rfl, rfl, rfl⟩ := h; refine next_then ?_
  obtain ⟨rfl, rfl, rfl⟩ := zs_ex2 hZ2
  refine awpL_text htb hmz spAz_ok (fun _ => false) rfl rfl rfl ?_; intro m' e' l' ob h; simp only [zE0, zE1, zE2, zE3, zE4, zE5, evp, evx, ev1, evLoad, evStore, evBin, isBoolK, forall_const, z38, tb, Nat.reduceAdd, Nat.reduceSub, Nat.reduceMul, Nat.reduceEqDiff, Nat.reduceLeDiff, Nat.reduceLT, Nat.reduceBEq, Nat.reduceBNe, ↓reduceIte, reduceIte, spAz, exS, listS] at h; obtain ⟨rfl, rfl, rfl, rfl⟩ := h; refine ⟨?_, ?_⟩
  · first | ((with_reducible refine Ob.mk ?_); first | exact trivial | (intros; omega) | ((repeat' first | apply And.intro | (intro hg; have hg' := hg; try simp only [zH] at hg')) <;> first | (with_reducible exact True.intro) | assumption | omega | (simp only [zH]; omega))) | skip
  repeat' first
    | with_reducible first | refine awp_seq ?_ | refine awp_block ?_ | refine next_then ?_ | refine next_block ?_ | refine exit_then ?_ | refine ret_then ?_ | refine ret_block ?_ | refine exit_here ?_ | refine awp_exit ?_ | refine awp_ret ?_ | refine awp_skip ?_ | refine awp_label ?_ | refine next_noGoto ?_ | refine ret_noGoto ?_ | refine exit_noGoto ?_ | refine awp_scope ?_
    | ((with_reducible refine exit_past ?_ ?_); exact rfl)
    | ((with_reducible refine isCond ?_); refine awp_condO rfl ?_ ?_ <;> intro hb <;> (try simp only [zH] at hb))
    | ((with_reducible refine isReg ?_); (first | refine awp_textM htb hmz spAz_ok (fun _ => false) rfl rfl ?_ | refine awp_drawM hmo htb hmz spAz_ok (fun _ => false) rfl rfl (by kernel_rfl) ?_); intro m' e' l' ob h; simp only [zE0, zE1, zE2, zE3, zE4, zE5, evp, evx, ev1, evLoad, evStore, evBin, isBoolK, forall_const, z38, tb, Nat.reduceAdd, Nat.reduceSub, Nat.reduceMul, Nat.reduceEqDiff, Nat.reduceLeDiff, Nat.reduceLT, Nat.reduceBEq, Nat.reduceBNe, ↓reduceIte, reduceIte, spAz, exS, listS] at h; obtain ⟨rfl, rfl, rfl, rfl⟩ := h; refine ⟨?_, ?_⟩)
    | ((with_reducible refine Ob.mk ?_); first | exact trivial | (intros; omega) | ((repeat' first | apply And.intro | (intro hg; have hg' := hg; try simp only [zH] at hg')) <;> first | assumption | omega | (simp only [zH]; omega)))
  refine fin_ret rfl rfl (spec_flat rfl ?_ rfl)
  rfl
end Go.Proofs.Ytlckljphakkomaa.Cal
