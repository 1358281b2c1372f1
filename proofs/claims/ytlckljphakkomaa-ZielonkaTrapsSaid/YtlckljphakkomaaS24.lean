/- Own texts of the proof, merged, in order. -/
import Derived.Test.YtlckljphakkomaaS23
set_option linter.unusedVariables false
set_option linter.unusedSimpArgs false
namespace Go.Proofs.Ytlckljphakkomaa.Cal
open Go Pl
/-- The first position of a set from i on, or its length. -/
def nxv (F : List Bool) (i : Nat) : Nat := i + (F.drop i).findIdx id
theorem nxv_true {F : List Bool} {i : Nat} (h : F.getD i false = true) : nxv F i = i := by
  have hi : i < F.length := by
    rcases Nat.lt_or_ge i F.length with h2 | h2
    · exact h2
    · rw [List.getD_eq_getElem?_getD, List.getElem?_eq_none h2] at h; cases h
  unfold nxv
  rw [List.drop_eq_getElem_cons hi, List.findIdx_cons]
  rw [List.getD_eq_getElem?_getD, List.getElem?_eq_getElem hi, Option.getD_some] at h
  rw [h]; rfl
theorem nxv_false {F : List Bool} {i : Nat} (h : F.getD i false = false) (hi : i < F.length) : nxv F i = nxv F (i + 1) := by
  unfold nxv
  rw [List.drop_eq_getElem_cons hi, List.findIdx_cons]
  rw [List.getD_eq_getElem?_getD, List.getElem?_eq_getElem hi, Option.getD_some] at h
  rw [h]
  simp; omega
theorem nxv_end {F : List Bool} : nxv F F.length = F.length := by simp [nxv]
set_option maxRecDepth 4000 in
set_option maxHeartbeats 4000000 in
theorem membersO_fg {l : List Bool} : FG Try.prog 32 [.own 0] [(0, some (.bools l))] 1 fun g => g = ⟨2, .fn 41 (.cons (.own 1) .nil), [(0, some (.bools l)), (1, some (.box (.own 0)))]⟩ := by
  refine fg_of htb (fn := Try.f32) (by kernel_rfl) (by kernel_rfl) rfl (Nat.le_of_ble_eq_true rfl) fun hl => ?_
  simp only [lenP, mkL, lim] at hl
  repeat' first
    | with_reducible first | refine awp_seq ?_ | refine awp_block ?_ | refine next_then ?_ | refine next_block ?_ | refine exit_then ?_ | refine ret_then ?_ | refine ret_block ?_ | refine exit_here ?_ | refine awp_exit ?_ | refine awp_ret ?_ | refine awp_skip ?_ | refine awp_label ?_ | refine next_noGoto ?_ | refine ret_noGoto ?_ | refine exit_noGoto ?_ | refine awp_scope ?_
    | ((with_reducible refine exit_past ?_ ?_); exact rfl)
    | ((with_reducible refine isCond ?_); refine awp_condO rfl ?_ ?_ <;> intro hb <;> (try simp only [zH] at hb))
    | ((with_reducible refine isReg ?_); (first | refine awp_textM htb hmz noSp (fun _ => false) rfl rfl ?_ | refine awp_drawM hmo htb hmz noSp (fun _ => false) rfl rfl (by kernel_rfl) ?_); intro m' e' l' ob h; simp only [zE0, zE1, zE2, zE3, zE4, zE5, evp, evx, ev1, evLoad, evStore, evBin, isBoolK, forall_const, z38, tb, Nat.reduceAdd, Nat.reduceSub, Nat.reduceMul, Nat.reduceEqDiff, Nat.reduceLeDiff, Nat.reduceLT, Nat.reduceBEq, Nat.reduceBNe, ↓reduceIte, reduceIte] at h; obtain ⟨rfl, rfl, rfl, rfl⟩ := h; refine ⟨?_, ?_⟩)
    | ((with_reducible refine Ob.mk ?_); first | exact trivial | (intros; omega) | ((repeat' first | apply And.intro | (intro hg; have hg' := hg; try simp only [zH] at hg')) <;> first | assumption | omega | (simp only [zH]; omega)))
  refine fin_ret rfl rfl (gq_of (⟨2, .fn 41 (.cons (.own 1) .nil), [(0, some (.bools l)), (1, some (.box (.own 0)))]⟩) ([]) rfl rfl (imp_eq rfl) ?_)
  simp only [grR, zE0, zE1, zE2, zE3, zE4, zE5, evp, evx, ev1, evLoad, evStore, evBin, isBoolK, forall_const, z38, tb, Nat.reduceAdd, Nat.reduceSub, Nat.reduceMul, Nat.reduceEqDiff, Nat.reduceLeDiff, Nat.reduceLT, Nat.reduceBEq, Nat.reduceBNe, ↓reduceIte, reduceIte]
set_option maxRecDepth 4000 in
set_option maxHeartbeats 4000000 in
theorem members1_iterB {n : Nat} {τ : Type} (I : τ → Prop) (F : τ → List Bool) (v : τ → Nat) (hI : ∀ t, I t → (F t).length = n) (hn : n ≤ 20000) :
    IterB Try.prog 41 I F (fun t => ((nxv (F t) (v t) : Nat) : Int)) (fun t => nxv (F t) (v t) < n) (fun t t' => v t' = nxv (F t) (v t) + 1) (fun t => v t = 0) (fun t => nxv (F t) (v t) = n) := by
  intro A hY t0 h0 hi0
  refine fg_of htb (fn := Try.f41) (by kernel_rfl) (by kernel_rfl) rfl (Nat.le_of_ble_eq_true rfl) fun hl => ?_
  simp only [lenP, mkL, lim] at hl
  have hl0 := hI t0 h0
  repeat' first
    | with_reducible first | refine awp_seq ?_ | refine awp_block ?_ | refine next_then ?_ | refine next_block ?_ | refine exit_then ?_ | refine ret_then ?_ | refine ret_block ?_ | refine exit_here ?_ | refine awp_exit ?_ | refine awp_ret ?_ | refine awp_skip ?_ | refine awp_label ?_ | refine next_noGoto ?_ | refine ret_noGoto ?_ | refine exit_noGoto ?_ | refine awp_scope ?_
    | ((with_reducible refine exit_past ?_ ?_); exact rfl)
    | ((with_reducible refine isCond ?_); refine awp_condO rfl ?_ ?_ <;> intro hb <;> (try simp only [zH] at hb))
    | ((with_reducible refine isReg ?_); (first | refine awp_textM htb hmz noSp (fun _ => false) rfl rfl ?_ | refine awp_drawM hmo htb hmz noSp (fun _ => false) rfl rfl (by kernel_rfl) ?_); intro m' e' l' ob h; simp only [zE0, zE1, zE2, zE3, zE4, zE5, evp, evx, ev1, evLoad, evStore, evBin, isBoolK, forall_const, z38, tb, Nat.reduceAdd, Nat.reduceSub, Nat.reduceMul, Nat.reduceEqDiff, Nat.reduceLeDiff, Nat.reduceLT, Nat.reduceBEq, Nat.reduceBNe, ↓reduceIte, reduceIte] at h; obtain ⟨rfl, rfl, rfl, rfl⟩ := h; refine ⟨?_, ?_⟩)
    | ((with_reducible refine Ob.mk ?_); first | exact trivial | (intros; omega) | ((repeat' first | apply And.intro | (intro hg; have hg' := hg; try simp only [zH] at hg')) <;> first | assumption | omega | (simp only [zH]; omega)))
  refine awp_loopC (τ := MbS τ) (fun s => s.i ≤ n ∧ I s.t ∧ nxv (F s.t) (v s.t) = nxv (F s.t) s.i) (fun s => ⟨7, [(7, .int .i64 s.i), (6, .int .i64 n), (5, .own 2), (0, .yld 0)], [(1, some (.box (.own 2))), (2, some (.bools (F s.t))), (3, some (.sem [0, 2] (A s.t)))], []⟩) (fun s => n - s.i) ⟨0, t0⟩ [] ?_ ⟨Nat.zero_le _, h0, by dsimp only; rw [hi0]⟩ ?_
  · refine ⟨rfl, ?_, ?_⟩ <;> simp only [zE0, zE1, zE2, zE3, zE4, zE5, evp, evx, ev1, evLoad, evStore, evBin, isBoolK, forall_const, z38, tb, Nat.reduceAdd, Nat.reduceSub, Nat.reduceMul, Nat.reduceEqDiff, Nat.reduceLeDiff, Nat.reduceLT, Nat.reduceBEq, Nat.reduceBNe, ↓reduceIte, reduceIte, zI]
    · omega
    · intro k hk
      simp only [List.mem_cons, List.not_mem_nil, or_false] at hk
      rcases hk with rfl | rfl <;> rfl
  rintro ⟨i, t⟩ ⟨hi, ht, hit⟩
  dsimp only at hi ht hit ⊢
  have hln := hI t ht
  have hmemk : ∀ k, k ∈ [0, 2] → ltK 7 k = true := fun k hk => by
    simp only [List.mem_cons, List.not_mem_nil, or_false] at hk
    rcases hk with rfl | rfl <;> rfl
  repeat' first
    | with_reducible first | refine awp_seq ?_ | refine awp_block ?_ | refine next_then ?_ | refine next_block ?_ | refine exit_then ?_ | refine ret_then ?_ | refine ret_block ?_ | refine exit_here ?_ | refine awp_exit ?_ | refine awp_ret ?_ | refine awp_skip ?_ | refine awp_label ?_ | refine next_noGoto ?_ | refine ret_noGoto ?_ | refine exit_noGoto ?_ | refine awp_scope ?_
    | ((with_reducible refine exit_past ?_ ?_); exact rfl)
    | ((with_reducible refine isCond ?_); refine awp_condO rfl ?_ ?_ <;> intro hb <;> (try simp only [zH] at hb))
    | ((with_reducible refine isRegS 3 ?_ ?_); (· exact rfl); (first | refine awp_textM htb hmz noSp (fun _ => false) rfl rfl ?_ | refine awp_drawM hmo htb hmz noSp (fun _ => false) rfl rfl (by kernel_rfl) ?_); intro m' e' l' ob h; simp only [zE0, zE1, zE2, zE3, zE4, zE5, evp, evx, ev1, evLoad, evStore, evBin, isBoolK, forall_const, z38, tb, Nat.reduceAdd, Nat.reduceSub, Nat.reduceMul, Nat.reduceEqDiff, Nat.reduceLeDiff, Nat.reduceLT, Nat.reduceBEq, Nat.reduceBNe, ↓reduceIte, reduceIte] at h; obtain ⟨rfl, rfl, rfl, rfl⟩ := h; refine ⟨?_, ?_⟩)
    | ((with_reducible refine Ob.mk ?_); first | exact trivial | (intros; omega) | ((repeat' first | apply And.intro | (intro hg; have hg' := hg; try simp only [zH] at hg')) <;> first | assumption | omega | (simp only [zH]; omega)))
  · have hil : i < n := by omega
    cases hbb : (F t).getD i false with
    | true =>
      rw [nxv_true hbb] at hit
      refine awp_listG ?_
      refine awpG_free rfl ?_
      dsimp only [noGd]
      refine awpL_text htb hmz noSp (fun _ => false) rfl rfl rfl ?_; intro m' e' l' ob h; simp only [zE0, zE1, zE2, zE3, zE4, zE5, evp, evx, ev1, evLoad, evStore, evBin, isBoolK, forall_const, z38, tb, Nat.reduceAdd, Nat.reduceSub, Nat.reduceMul, Nat.reduceEqDiff, Nat.reduceLeDiff, Nat.reduceLT, Nat.reduceBEq, Nat.reduceBNe, ↓reduceIte, reduceIte] at h; obtain ⟨rfl, rfl, rfl, rfl⟩ := h; refine ⟨?_, next_then ?_⟩
      · first | ((with_reducible refine Ob.mk ?_); first | exact trivial | (intros; omega) | ((repeat' first | apply And.intro | (intro hg; have hg' := hg; try simp only [zH] at hg')) <;> first | assumption | omega | (simp only [zH]; omega))) | skip
      refine awpG_free rfl ?_
      dsimp only [noGd]
      refine awpL_text htb hmz noSp (fun _ => false) rfl rfl rfl ?_; intro m' e' l' ob h; simp only [zE0, zE1, zE2, zE3, zE4, zE5, evp, evx, ev1, evLoad, evStore, evBin, isBoolK, forall_const, z38, tb, Nat.reduceAdd, Nat.reduceSub, Nat.reduceMul, Nat.reduceEqDiff, Nat.reduceLeDiff, Nat.reduceLT, Nat.reduceBEq, Nat.reduceBNe, ↓reduceIte, reduceIte] at h; obtain ⟨rfl, rfl, rfl, rfl⟩ := h; refine ⟨?_, next_then ?_⟩
      · first | ((with_reducible refine Ob.mk ?_); first | exact trivial | (intros; omega) | ((repeat' first | apply And.intro | (intro hg; have hg' := hg; try simp only [zH] at hg')) <;> first | assumption | omega | (simp only [zH]; omega))) | skip
      refine awpG_yes rfl rfl rfl rfl ?_
      dsimp only [noGd]
      refine awpL_text htb hmz noSp (fun _ => false) rfl rfl rfl ?_; intro m' e' l' ob h; simp only [zE0, zE1, zE2, zE3, zE4, zE5, evp, evx, ev1, evLoad, evStore, evBin, isBoolK, forall_const, z38, tb, Nat.reduceAdd, Nat.reduceSub, Nat.reduceMul, Nat.reduceEqDiff, Nat.reduceLeDiff, Nat.reduceLT, Nat.reduceBEq, Nat.reduceBNe, ↓reduceIte, reduceIte] at h; obtain ⟨rfl, rfl, rfl, rfl⟩ := h; refine ⟨?_, next_then ?_⟩
      · first | ((with_reducible refine Ob.mk ?_); first | exact trivial | (intros; omega) | ((repeat' first | apply And.intro | (intro hg; have hg' := hg; try simp only [zH] at hg')) <;> first | assumption | omega | (simp only [zH]; omega))) | skip
      refine awpG_yes rfl rfl rfl rfl ?_
      dsimp only [noGd]
      refine awpL_text htb hmz noSp (fun _ => false) rfl rfl rfl ?_; intro m' e' l' ob h; simp only [zE0, zE1, zE2, zE3, zE4, zE5, evp, evx, ev1, evLoad, evStore, evBin, isBoolK, forall_const, z38, tb, Nat.reduceAdd, Nat.reduceSub, Nat.reduceMul, Nat.reduceEqDiff, Nat.reduceLeDiff, Nat.reduceLT, Nat.reduceBEq, Nat.reduceBNe, ↓reduceIte, reduceIte] at h; obtain ⟨rfl, rfl, rfl, rfl⟩ := h; refine ⟨?_, next_then ?_⟩
      · first | ((with_reducible refine Ob.mk ?_); first | exact trivial | (intros; omega) | ((repeat' first | apply And.intro | (intro hg; have hg' := hg; try simp only [zH] at hg')) <;> first | assumption | omega | (simp only [zH]; omega))) | skip
      refine awpG_yes rfl rfl rfl rfl ?_
      dsimp only [noGd]
      have hYt := hY t ht (by show nxv (F t) (v t) < n; omega)
      dsimp only at hYt
      rw [hit] at hYt
      refine awpL_yield [0, 2, 3] hYt rfl rfl rfl rfl rfl rfl rfl rfl ?_ ?_
      · simp only [rinR, rhoC, zE0, zE1, zE2, zE3, zE4, zE5, evp, evx, ev1, evLoad, evStore, evBin, isBoolK, forall_const, z38, tb, Nat.reduceAdd, Nat.reduceSub, Nat.reduceMul, Nat.reduceEqDiff, Nat.reduceLeDiff, Nat.reduceLT, Nat.reduceBEq, Nat.reduceBNe, ↓reduceIte, reduceIte]
        intro k hk
        simp only [List.mem_cons, List.not_mem_nil, or_false] at hk
        rcases hk with rfl | rfl <;> rfl
      intro gm gv gr hq' m' e' l' h
      obtain ⟨t', hI2, hix, hge⟩ := hq'
      simp only [GR.mk.injEq] at hge
      obtain ⟨rfl, rfl, rfl⟩ := hge
      simp only [rhoC, outR, renR, dels, zE0, zE1, zE2, zE3, zE4, zE5, evp, evx, ev1, evLoad, evStore, evBin, isBoolK, forall_const, z38, tb, Nat.reduceAdd, Nat.reduceSub, Nat.reduceMul, Nat.reduceEqDiff, Nat.reduceLeDiff, Nat.reduceLT, Nat.reduceBEq, Nat.reduceBNe, ↓reduceIte, reduceIte] at h
      obtain ⟨rfl, rfl, rfl⟩ := h
      refine next_then ?_
      refine awpG_yes rfl rfl rfl rfl ?_
      dsimp only [noGd]
      refine awpL_text htb hmz noSp (fun _ => false) rfl rfl rfl ?_; intro m' e' l' ob h; simp only [zE0, zE1, zE2, zE3, zE4, zE5, evp, evx, ev1, evLoad, evStore, evBin, isBoolK, forall_const, z38, tb, Nat.reduceAdd, Nat.reduceSub, Nat.reduceMul, Nat.reduceEqDiff, Nat.reduceLeDiff, Nat.reduceLT, Nat.reduceBEq, Nat.reduceBNe, ↓reduceIte, reduceIte] at h; obtain ⟨rfl, rfl, rfl, rfl⟩ := h; refine ⟨?_, next_then ?_⟩
      · first | ((with_reducible refine Ob.mk ?_); first | exact trivial | (intros; omega) | ((repeat' first | apply And.intro | (intro hg; have hg' := hg; try simp only [zH] at hg')) <;> first | assumption | omega | (simp only [zH]; omega))) | skip
      refine awpG_free rfl ?_
      dsimp only [noGd]
      refine awpL_text htb hmz noSp (fun _ => false) rfl rfl rfl ?_; intro m' e' l' ob h; simp only [zE0, zE1, zE2, zE3, zE4, zE5, evp, evx, ev1, evLoad, evStore, evBin, isBoolK, forall_const, z38, tb, Nat.reduceAdd, Nat.reduceSub, Nat.reduceMul, Nat.reduceEqDiff, Nat.reduceLeDiff, Nat.reduceLT, Nat.reduceBEq, Nat.reduceBNe, ↓reduceIte, reduceIte] at h; obtain ⟨rfl, rfl, rfl, rfl⟩ := h; refine ⟨?_, next_then ?_⟩
      · first | ((with_reducible refine Ob.mk ?_); first | exact trivial | (intros; omega) | ((repeat' first | apply And.intro | (intro hg; have hg' := hg; try simp only [zH] at hg')) <;> first | assumption | omega | (simp only [zH]; omega))) | skip
      refine awpG_nil ?_
      repeat' first
        | with_reducible first | refine awp_seq ?_ | refine awp_block ?_ | refine next_then ?_ | refine next_block ?_ | refine exit_then ?_ | refine ret_then ?_ | refine ret_block ?_ | refine exit_here ?_ | refine awp_exit ?_ | refine awp_ret ?_ | refine awp_skip ?_ | refine awp_label ?_ | refine next_noGoto ?_ | refine ret_noGoto ?_ | refine exit_noGoto ?_ | refine awp_scope ?_
        | ((with_reducible refine exit_past ?_ ?_); exact rfl)
        | ((with_reducible refine isCond ?_); refine awp_condO rfl ?_ ?_ <;> intro hb <;> (try simp only [zH] at hb))
        | ((with_reducible refine isReg ?_); (first | refine awp_textM htb hmz noSp (fun _ => false) rfl rfl ?_ | refine awp_drawM hmo htb hmz noSp (fun _ => false) rfl rfl (by kernel_rfl) ?_); intro m' e' l' ob h; simp only [zE0, zE1, zE2, zE3, zE4, zE5, evp, evx, ev1, evLoad, evStore, evBin, isBoolK, forall_const, z38, tb, Nat.reduceAdd, Nat.reduceSub, Nat.reduceMul, Nat.reduceEqDiff, Nat.reduceLeDiff, Nat.reduceLT, Nat.reduceBEq, Nat.reduceBNe, ↓reduceIte, reduceIte] at h; obtain ⟨rfl, rfl, rfl, rfl⟩ := h; refine ⟨?_, ?_⟩)
        | ((with_reducible refine Ob.mk ?_); first | exact trivial | (intros; omega) | ((repeat' first | apply And.intro | (intro hg; have hg' := hg; try simp only [zH] at hg')) <;> first | assumption | omega | (simp only [zH]; omega)))
      · cases hb
      trace_state
      refine back ⟨i + 1, t'⟩ [] ?_ ⟨by dsimp only; omega, hI2, ?_⟩ (by dsimp only; omega)
      · refine ⟨rfl, ?_, ?_⟩ <;> simp only [zE0, zE1, zE2, zE3, zE4, zE5, evp, evx, ev1, evLoad, evStore, evBin, isBoolK, forall_const, z38, tb, Nat.reduceAdd, Nat.reduceSub, Nat.reduceMul, Nat.reduceEqDiff, Nat.reduceLeDiff, Nat.reduceLT, Nat.reduceBEq, Nat.reduceBNe, ↓reduceIte, reduceIte, zI]
        intro k hk
        simp only [List.mem_cons, List.not_mem_nil, or_false] at hk
        rcases hk with rfl | rfl <;> rfl
      · dsimp only
        rw [hix]
    | false =>
      rw [nxv_false hbb (by omega)] at hit
      refine awp_listG ?_
      refine awpG_free rfl ?_
      dsimp only [noGd]
      refine awpL_text htb hmz noSp (fun _ => false) rfl rfl rfl ?_; intro m' e' l' ob h; simp only [zE0, zE1, zE2, zE3, zE4, zE5, evp, evx, ev1, evLoad, evStore, evBin, isBoolK, forall_const, z38, tb, Nat.reduceAdd, Nat.reduceSub, Nat.reduceMul, Nat.reduceEqDiff, Nat.reduceLeDiff, Nat.reduceLT, Nat.reduceBEq, Nat.reduceBNe, ↓reduceIte, reduceIte] at h; obtain ⟨rfl, rfl, rfl, rfl⟩ := h; refine ⟨?_, next_then ?_⟩
      · first | ((with_reducible refine Ob.mk ?_); first | exact trivial | (intros; omega) | ((repeat' first | apply And.intro | (intro hg; have hg' := hg; try simp only [zH] at hg')) <;> first | assumption | omega | (simp only [zH]; omega))) | skip
      refine awpG_free rfl ?_
      dsimp only [noGd]
      refine awpL_text htb hmz noSp (fun _ => false) rfl rfl rfl ?_; intro m' e' l' ob h; simp only [zE0, zE1, zE2, zE3, zE4, zE5, evp, evx, ev1, evLoad, evStore, evBin, isBoolK, forall_const, z38, tb, Nat.reduceAdd, Nat.reduceSub, Nat.reduceMul, Nat.reduceEqDiff, Nat.reduceLeDiff, Nat.reduceLT, Nat.reduceBEq, Nat.reduceBNe, ↓reduceIte, reduceIte] at h; obtain ⟨rfl, rfl, rfl, rfl⟩ := h; refine ⟨?_, next_then ?_⟩
      · first | ((with_reducible refine Ob.mk ?_); first | exact trivial | (intros; omega) | ((repeat' first | apply And.intro | (intro hg; have hg' := hg; try simp only [zH] at hg')) <;> first | assumption | omega | (simp only [zH]; omega))) | skip
      refine awpG_no rfl rfl rfl rfl rfl ?_
      refine awpG_no rfl rfl rfl rfl rfl ?_
      refine awpG_no rfl rfl rfl rfl rfl ?_
      refine awpG_no rfl rfl rfl rfl rfl ?_
      refine awpG_free rfl ?_
      dsimp only [noGd, putE]
      refine awpL_text htb hmz noSp (fun _ => false) rfl rfl rfl ?_; intro m' e' l' ob h; simp only [zE0, zE1, zE2, zE3, zE4, zE5, evp, evx, ev1, evLoad, evStore, evBin, isBoolK, forall_const, z38, tb, Nat.reduceAdd, Nat.reduceSub, Nat.reduceMul, Nat.reduceEqDiff, Nat.reduceLeDiff, Nat.reduceLT, Nat.reduceBEq, Nat.reduceBNe, ↓reduceIte, reduceIte] at h; obtain ⟨rfl, rfl, rfl, rfl⟩ := h; refine ⟨?_, next_then ?_⟩
      · first | ((with_reducible refine Ob.mk ?_); first | exact trivial | (intros; omega) | ((repeat' first | apply And.intro | (intro hg; have hg' := hg; try simp only [zH] at hg')) <;> first | assumption | omega | (simp only [zH]; omega))) | skip
      refine awpG_nil ?_
      repeat' first
        | with_reducible first | refine awp_seq ?_ | refine awp_block ?_ | refine next_then ?_ | refine next_block ?_ | refine exit_then ?_ | refine ret_then ?_ | refine ret_block ?_ | refine exit_here ?_ | refine awp_exit ?_ | refine awp_ret ?_ | refine awp_skip ?_ | refine awp_label ?_ | refine next_noGoto ?_ | refine ret_noGoto ?_ | refine exit_noGoto ?_ | refine awp_scope ?_
        | ((with_reducible refine exit_past ?_ ?_); exact rfl)
        | ((with_reducible refine isCond ?_); refine awp_condO rfl ?_ ?_ <;> intro hb <;> (try simp only [zH] at hb))
        | ((with_reducible refine isReg ?_); (first | refine awp_textM htb hmz noSp (fun _ => false) rfl rfl ?_ | refine awp_drawM hmo htb hmz noSp (fun _ => false) rfl rfl (by kernel_rfl) ?_); intro m' e' l' ob h; simp only [zE0, zE1, zE2, zE3, zE4, zE5, evp, evx, ev1, evLoad, evStore, evBin, isBoolK, forall_const, z38, tb, Nat.reduceAdd, Nat.reduceSub, Nat.reduceMul, Nat.reduceEqDiff, Nat.reduceLeDiff, Nat.reduceLT, Nat.reduceBEq, Nat.reduceBNe, ↓reduceIte, reduceIte] at h; obtain ⟨rfl, rfl, rfl, rfl⟩ := h; refine ⟨?_, ?_⟩)
        | ((with_reducible refine Ob.mk ?_); first | exact trivial | (intros; omega) | ((repeat' first | apply And.intro | (intro hg; have hg' := hg; try simp only [zH] at hg')) <;> first | assumption | omega | (simp only [zH]; omega)))
      · cases hb
      refine back ⟨i + 1, t⟩ [] ?_ ⟨by dsimp only; omega, ht, hit⟩ (by dsimp only; omega)
      refine ⟨rfl, ?_, ?_⟩ <;> simp only [zE0, zE1, zE2, zE3, zE4, zE5, evp, evx, ev1, evLoad, evStore, evBin, isBoolK, forall_const, z38, tb, Nat.reduceAdd, Nat.reduceSub, Nat.reduceMul, Nat.reduceEqDiff, Nat.reduceLeDiff, Nat.reduceLT, Nat.reduceBEq, Nat.reduceBNe, ↓reduceIte, reduceIte, zI]
      intro k hk
      simp only [List.mem_cons, List.not_mem_nil, or_false] at hk
      rcases hk with rfl | rfl <;> rfl
  · have hil : i = n := by omega
    subst hil
    rw [← hln, nxv_end, hln] at hit
    refine fin_normal rfl rfl (gq_of ⟨4, resV [], [(1, some (.box (.own 2))), (2, some (.bools (F t))), (3, some (.sem [0, 2] (A t)))]⟩ [] ⟨t, ht, hit, rfl⟩ rfl (imp_eq rfl) ?_)
    simp only [grR, zE0, zE1, zE2, zE3, zE4, zE5, evp, evx, ev1, evLoad, evStore, evBin, isBoolK, forall_const, z38, tb, Nat.reduceAdd, Nat.reduceSub, Nat.reduceMul, Nat.reduceEqDiff, Nat.reduceLeDiff, Nat.reduceLT, Nat.reduceBEq, Nat.reduceBNe, ↓reduceIte, reduceIte]
    intro k hk
    simp only [List.mem_cons, List.not_mem_nil, or_false] at hk
    rcases hk with rfl | rfl <;> rfl
set_option maxRecDepth 4000 in
set_option maxHeartbeats 4000000 in
theorem insdO_fg {o p : List Int} {x B : List (List Int)} {left : Int} {W C : List Int} {l : List Bool} {v : Nat} (hv : v < x.length) (hr : ∀ j, j < (x.getD v []).length → 0 ≤ (x.getD v []).getD j 0 ∧ (x.getD v []).getD j 0 < (l.length : Int)) (h64 : (x.getD v []).length ≤ 64) :
    FG Try.prog 35 [.own 0, .int .i64 v, .own 3] [(0, some (.box (svA o p x B left 1 2))), (1, some (.ints W)), (2, some (.ints C)), (3, some (.bools l))] 4 fun g => g = ⟨4, .int .i64 (inN l (x.getD v [])), [(0, some (.box (svA o p x B left 1 2))), (1, some (.ints W)), (2, some (.ints C)), (3, some (.bools l))]⟩ := by
  refine fg_of htb (fn := Try.f35) (by kernel_rfl) (by kernel_rfl) rfl (Nat.le_of_ble_eq_true rfl) fun hl => ?_
  simp only [lenP, mkL, lim] at hl
  repeat' first
    | with_reducible first | refine awp_seq ?_ | refine awp_block ?_ | refine next_then ?_ | refine next_block ?_ | refine exit_then ?_ | refine ret_then ?_ | refine ret_block ?_ | refine exit_here ?_ | refine awp_exit ?_ | refine awp_ret ?_ | refine awp_skip ?_ | refine awp_label ?_ | refine next_noGoto ?_ | refine ret_noGoto ?_ | refine exit_noGoto ?_ | refine awp_scope ?_
    | ((with_reducible refine exit_past ?_ ?_); exact rfl)
    | ((with_reducible refine isCond ?_); refine awp_condO rfl ?_ ?_ <;> intro hb <;> (try simp only [zH] at hb))
    | ((with_reducible refine isReg ?_); (first | refine awp_textM htb hmz noSp (fun _ => false) rfl rfl ?_ | refine awp_drawM hmo htb hmz noSp (fun _ => false) rfl rfl (by kernel_rfl) ?_); intro m' e' l' ob h; simp only [zE0, zE1, zE2, zE3, zE4, zE5, evp, evx, ev1, evLoad, evStore, evBin, isBoolK, forall_const, z38, tb, Nat.reduceAdd, Nat.reduceSub, Nat.reduceMul, Nat.reduceEqDiff, Nat.reduceLeDiff, Nat.reduceLT, Nat.reduceBEq, Nat.reduceBNe, ↓reduceIte, reduceIte, svA] at h; obtain ⟨rfl, rfl, rfl, rfl⟩ := h; refine ⟨?_, ?_⟩)
    | ((with_reducible refine Ob.mk ?_); first | exact trivial | (intros; omega) | ((repeat' first | apply And.intro | (intro hg; have hg' := hg; try simp only [zH] at hg')) <;> first | assumption | omega | (simp only [zH]; omega)))
  generalize x.getD v [] = rw at *
  refine awp_loopC (τ := Nat) (fun j => j ≤ rw.length) (fun j => ⟨16, [(19, .int .i64 j), (18, .int .i64 rw.length), (17, .roI rw), (7, .int .i64 (inN l (rw.take j))), (6, .int .i64 0), (2, .own 3)], [(0, some (.box (svA o p x B left 1 2))), (1, some (.ints W)), (2, some (.ints C)), (3, some (.bools l))], []⟩) (fun j => rw.length - j) 0 [] ?_ (Nat.zero_le _) ?_
  · (refine ⟨rfl, ?_, ?_⟩ <;> simp only [zE0, zE1, zE2, zE3, zE4, zE5, evp, evx, ev1, evLoad, evStore, evBin, isBoolK, forall_const, z38, tb, Nat.reduceAdd, Nat.reduceSub, Nat.reduceMul, Nat.reduceEqDiff, Nat.reduceLeDiff, Nat.reduceLT, Nat.reduceBEq, Nat.reduceBNe, ↓reduceIte, reduceIte, svA, zI])
    rfl
  intro j hj
  have hr1 := hr j
  have hin : inN l (rw.take j) ≤ 64 := Nat.le_trans List.countP_le_length (by rw [List.length_take]; omega)
  have hnx : j < rw.length → inN l (rw.take (j + 1)) = inN l (rw.take j) + if l.getD (rw.getD j 0).toNat false = true then 1 else 0 := fun h => by
    unfold inN
    rw [take1 (d := 0) h, List.countP_append, List.countP_cons, List.countP_nil]
    simp
  repeat' first
    | with_reducible first | refine awp_seq ?_ | refine awp_block ?_ | refine next_then ?_ | refine next_block ?_ | refine exit_then ?_ | refine ret_then ?_ | refine ret_block ?_ | refine exit_here ?_ | refine awp_exit ?_ | refine awp_ret ?_ | refine awp_skip ?_ | refine awp_label ?_ | refine next_noGoto ?_ | refine ret_noGoto ?_ | refine exit_noGoto ?_ | refine awp_scope ?_
    | ((with_reducible refine exit_past ?_ ?_); exact rfl)
    | ((with_reducible refine isCond ?_); refine awp_condO rfl ?_ ?_ <;> intro hb <;> (try simp only [zH] at hb))
    | ((with_reducible refine isReg ?_); (first | refine awp_textM htb hmz noSp (fun _ => false) rfl rfl ?_ | refine awp_drawM hmo htb hmz noSp (fun _ => false) rfl rfl (by kernel_rfl) ?_); intro m' e' l' ob h; simp only [zE0, zE1, zE2, zE3, zE4, zE5, evp, evx, ev1, evLoad, evStore, evBin, isBoolK, forall_const, z38, tb, Nat.reduceAdd, Nat.reduceSub, Nat.reduceMul, Nat.reduceEqDiff, Nat.reduceLeDiff, Nat.reduceLT, Nat.reduceBEq, Nat.reduceBNe, ↓reduceIte, reduceIte, svA] at h; obtain ⟨rfl, rfl, rfl, rfl⟩ := h; refine ⟨?_, ?_⟩)
    | ((with_reducible refine Ob.mk ?_); first | exact trivial | (intros; omega) | ((repeat' first | apply And.intro | (intro hg; have hg' := hg; try simp only [zH] at hg')) <;> first | assumption | omega | (simp only [zH]; omega)))
  · refine back (j + 1) [] ?_ (by omega) (by omega)
    (refine ⟨rfl, ?_, ?_⟩ <;> simp only [zE0, zE1, zE2, zE3, zE4, zE5, evp, evx, ev1, evLoad, evStore, evBin, isBoolK, forall_const, z38, tb, Nat.reduceAdd, Nat.reduceSub, Nat.reduceMul, Nat.reduceEqDiff, Nat.reduceLeDiff, Nat.reduceLT, Nat.reduceBEq, Nat.reduceBNe, ↓reduceIte, reduceIte, svA, zI])
    rw [hnx (by omega), if_pos hb]
    rfl
  · refine back (j + 1) [] ?_ (by omega) (by omega)
    (refine ⟨rfl, ?_, ?_⟩ <;> simp only [zE0, zE1, zE2, zE3, zE4, zE5, evp, evx, ev1, evLoad, evStore, evBin, isBoolK, forall_const, z38, tb, Nat.reduceAdd, Nat.reduceSub, Nat.reduceMul, Nat.reduceEqDiff, Nat.reduceLeDiff, Nat.reduceLT, Nat.reduceBEq, Nat.reduceBNe, ↓reduceIte, reduceIte, svA, zI])
    rw [hnx (by omega), if_neg (by rw [hb]; decide)]
    rfl
  · have hje : j = rw.length := by omega
    subst hje
    rw [List.take_length]
    refine fin_ret rfl rfl (gq_of (⟨4, .int .i64 (inN l rw), [(0, some (.box (svA o p x B left 1 2))), (1, some (.ints W)), (2, some (.ints C)), (3, some (.bools l))]⟩) ([]) rfl rfl (imp_eq rfl) ?_)
    simp only [grR, zE0, zE1, zE2, zE3, zE4, zE5, evp, evx, ev1, evLoad, evStore, evBin, isBoolK, forall_const, z38, tb, Nat.reduceAdd, Nat.reduceSub, Nat.reduceMul, Nat.reduceEqDiff, Nat.reduceLeDiff, Nat.reduceLT, Nat.reduceBEq, Nat.reduceBNe, ↓reduceIte, reduceIte, svA]
end Go.Proofs.Ytlckljphakkomaa.Cal
namespace Go.Proofs.Ytlckljphakkomaa.Cal
open Go Pl
/-- Whether a position keeps a play in the set. -/
def tyB (g : Gm) (pl : Int) (F : List Bool) (v : Nat) : Bool := (decide (g.own.getD v 0 = pl) && decide (0 < inN F (g.nxt.getD v []))) || (!decide (g.own.getD v 0 = pl) && decide (inN F (g.nxt.getD v []) = (g.nxt.getD v []).length))
def swv (g : Gm) (pl : Int) (F : List Bool) (v : Nat) : List Bool := if F.getD v false = true ∧ tyB g pl F v = false then F.set v false else F
def sw (g : Gm) (pl : Int) (F : List Bool) (i : Nat) : List Bool := (List.range i).foldl (swv g pl) F
def ctB (F : List Bool) : Nat := F.countP id
section
variable {g : Gm} {pl : Int} {F : List Bool} {v i : Nat}
theorem sw_zero : sw g pl F 0 = F := rfl
theorem sw_next : sw g pl F (i + 1) = swv g pl (sw g pl F i) i := by
  unfold sw
  rw [List.range_succ, List.foldl_append]; rfl
theorem swv_len : (swv g pl F v).length = F.length := by
  unfold swv
  split
  · exact List.length_set
  · rfl
theorem sw_len : ∀ {i : Nat}, (sw g pl F i).length = F.length
  | 0 => rfl
  | i + 1 => by rw [sw_next, swv_len, sw_len]
theorem getD_setB {F : List Bool} {v u : Nat} {b : Bool} : (F.set v b).getD u false = if u = v ∧ v < F.length then b else F.getD u false := by
  simp only [List.getD_eq_getElem?_getD, List.getElem?_set]
  by_cases h : v = u
  · subst h
    by_cases h2 : v < F.length
    · simp [h2]
    · simp [h2]
  · rw [if_neg h, if_neg (fun h2 => h h2.1.symm)]
theorem swv_le (u : Nat) (h : (swv g pl F v).getD u false = true) : F.getD u false = true := by
  unfold swv at h
  split at h
  · rw [getD_setB] at h
    split at h
    · cases h
    · exact h
  · exact h
theorem sw_le {u : Nat} : ∀ {i : Nat}, (sw g pl F i).getD u false = true → F.getD u false = true
  | 0, h => h
  | i + 1, h => by rw [sw_next] at h; exact sw_le (i := i) (swv_le u h)
theorem ct_set : ∀ {F : List Bool} {v : Nat}, F.getD v false = true → ctB (F.set v false) + 1 = ctB F
  | [], v, h => by cases v <;> cases h
  | b :: F, 0, h => by
    have h : b = true := h
    subst h
    simp [ctB]
  | b :: F, v + 1, h => by
    have h : F.getD v false = true := h
    have := ct_set h
    simp only [ctB, List.set_cons_succ, List.countP_cons] at this ⊢
    omega
theorem swv_ct : swv g pl F v = F ∨ ctB (swv g pl F v) + 1 = ctB F := by
  unfold swv
  split
  · rename_i h
    exact .inr (ct_set h.1)
  · exact .inl rfl
theorem sw_ct : ∀ {i : Nat}, sw g pl F i = F ∨ ctB (sw g pl F i) < ctB F
  | 0 => .inl rfl
  | i + 1 => by
    rw [sw_next]
    rcases sw_ct (i := i) with h | h
    · rw [h]
      rcases swv_ct (g := g) (pl := pl) (F := F) (v := i) with h2 | h2
      · exact .inl h2
      · exact .inr (by omega)
    · rcases swv_ct (g := g) (pl := pl) (F := sw g pl F i) (v := i) with h2 | h2
      · rw [h2]; exact .inr h
      · exact .inr (by omega)
/-- A position taken off. -/
theorem sw_off (h1 : (sw g pl F i).getD i false = true) (h2 : tyB g pl (sw g pl F i) i = false) : sw g pl F (i + 1) = (sw g pl F i).set i false ∧ sw g pl F (i + 1) ≠ F := by
  have e : sw g pl F (i + 1) = (sw g pl F i).set i false := by
    rw [sw_next]; unfold swv; rw [if_pos ⟨h1, h2⟩]
  refine ⟨e, fun h => ?_⟩
  have h3 := ct_set h1
  rw [← e, h] at h3
  rcases sw_ct (g := g) (pl := pl) (F := F) (i := i) with h4 | h4
  · rw [h4] at h3; omega
  · omega
theorem sw_on (h : (sw g pl F i).getD i false = false ∨ tyB g pl (sw g pl F i) i = true) : sw g pl F (i + 1) = sw g pl F i := by
  rw [sw_next]; unfold swv
  rw [if_neg]
  rintro ⟨h1, h2⟩
  rcases h with h | h
  · rw [h] at h1; cases h1
  · rw [h] at h2; cases h2
theorem sw_skip {j : Nat} (hij : i ≤ j) (h : ∀ u, i ≤ u → u < j → (sw g pl F i).getD u false = false) : sw g pl F j = sw g pl F i := by
  induction j with
  | zero => rw [show i = 0 by omega]
  | succ j ih =>
    rcases Nat.lt_or_ge j i with h2 | h2
    · rw [show i = j + 1 by omega]
    · have := ih h2 (fun u h3 h4 => h u h3 (by omega))
      rw [sw_on (.inl (by rw [this]; exact h j h2 (by omega))), this]
def trF (g : Gm) (pl : Int) : Nat → List Bool → List Bool
  | 0, F => F
  | k + 1, F => if sw g pl F F.length = F then F else trF g pl k (sw g pl F F.length)
/-- What is left at last. -/
def trT (g : Gm) (pl : Int) (F : List Bool) : List Bool := trF g pl (ctB F + 1) F
theorem trF_stable : ∀ {k k' : Nat} {F : List Bool}, ctB F < k → ctB F < k' → trF g pl k F = trF g pl k' F
  | 0, _, _, h, _ => absurd h (by omega)
  | _, 0, _, _, h => absurd h (by omega)
  | k + 1, k' + 1, F, h, h' => by
    unfold trF
    by_cases e : sw g pl F F.length = F
    · rw [if_pos e, if_pos e]
    · rw [if_neg e, if_neg e]
      have := (sw_ct (g := g) (pl := pl) (F := F) (i := F.length)).resolve_left e
      exact trF_stable (by omega) (by omega)
theorem trT_end (h : sw g pl F F.length = F) : trT g pl F = F := by
  unfold trT trF
  rw [if_pos h]
theorem trT_next (h : sw g pl F F.length ≠ F) : trT g pl F = trT g pl (sw g pl F F.length) := by
  have := (sw_ct (g := g) (pl := pl) (F := F) (i := F.length)).resolve_left h
  have e : trT g pl F = trF g pl (ctB F) (sw g pl F F.length) := by
    unfold trT
    rw [trF, if_neg h]
  rw [e]
  exact trF_stable this (Nat.lt_succ_self _)
theorem trF_all : ∀ {k : Nat} {F : List Bool}, ctB F < k → (trF g pl k F).length = F.length ∧ sw g pl (trF g pl k F) F.length = trF g pl k F ∧ ∀ u, (trF g pl k F).getD u false = true → F.getD u false = true
  | 0, _, h => absurd h (by omega)
  | k + 1, F, h => by
    unfold trF
    by_cases e : sw g pl F F.length = F
    · rw [if_pos e]
      exact ⟨rfl, e, fun u h => h⟩
    · rw [if_neg e]
      have h2 := (sw_ct (g := g) (pl := pl) (F := F) (i := F.length)).resolve_left e
      obtain ⟨a, b, c⟩ := trF_all (k := k) (F := sw g pl F F.length) (by omega)
      rw [sw_len] at a b
      exact ⟨a, b, fun u h => sw_le (c u h)⟩
theorem trT_len : (trT g pl F).length = F.length := (trF_all (Nat.lt_succ_self _)).1
theorem trT_fix (hv : v < F.length) (h : (trT g pl F).getD v false = true) : tyB g pl (trT g pl F) v = true := by
  obtain ⟨h1, h2, _⟩ := trF_all (g := g) (pl := pl) (F := F) (Nat.lt_succ_self _)
  have h1 : (trT g pl F).length = F.length := h1
  have h2 : sw g pl (trT g pl F) F.length = trT g pl F := h2
  generalize trT g pl F = T at *
  -- nothing is taken off
  have key : ∀ i, i ≤ F.length → sw g pl T i = T := fun i hi => by
    rcases sw_ct (g := g) (pl := pl) (F := T) (i := i) with h3 | h3
    · exact h3
    · exfalso
      have hle : ∀ j, i ≤ j → ctB (sw g pl T j) ≤ ctB (sw g pl T i) := by
        intro j
        induction j with
        | zero => intro hj; rw [show i = 0 by omega]; exact Nat.le_refl _
        | succ j ih =>
          intro hj
          rcases Nat.lt_or_ge j i with h4 | h4
          · rw [show i = j + 1 by omega]; exact Nat.le_refl _
          · have := ih h4
            rw [sw_next]
            rcases swv_ct (g := g) (pl := pl) (F := sw g pl T j) (v := j) with h5 | h5
            · rw [h5]; exact this
            · omega
      have := hle F.length hi
      rw [h2] at this
      omega
  cases ht : tyB g pl T v with
  | true => rfl
  | false =>
    exfalso
    have e1 := key v (Nat.le_of_lt hv)
    have e2 := key (v + 1) hv
    have := (sw_off (g := g) (pl := pl) (F := T) (i := v) (by rw [e1]; exact h) (by rw [e1]; exact ht)).2
    exact this e2
end
/-- The set after its first positions. -/
def iniF (n : Nat) (l : List Int) (i : Nat) : List Bool := (l.take i).foldl (fun F v => F.set v.toNat true) (List.replicate n false)
theorem iniF_zero {n : Nat} {l : List Int} : iniF n l 0 = List.replicate n false := rfl
theorem iniF_next {n : Nat} {l : List Int} {i : Nat} (h : i < l.length) : (iniF n l i).set (l.getD i 0).toNat true = iniF n l (i + 1) := by
  unfold iniF
  rw [take1 (d := 0) h, List.foldl_append]; rfl
theorem fold_len {F : List Bool} : ∀ {l : List Int}, (l.foldl (fun F v => F.set v.toNat true) F).length = F.length
  | [] => rfl
  | a :: l => by rw [List.foldl_cons, fold_len]; exact List.length_set
theorem iniF_len {n : Nat} {l : List Int} {i : Nat} : (iniF n l i).length = n := by
  unfold iniF
  rw [fold_len, List.length_replicate]
open Classical in
noncomputable def trapR (g : Gm) (pl : Int) (l : List Int) : List Int × Int :=
  if validB g = true then (if pl ≠ 0 ∧ pl ≠ 1 then ([], 6) else if ∃ i, i < l.length ∧ (l.getD i 0 < 0 ∨ (g.own.length : Int) ≤ l.getD i 0) then ([], 6) else ((kp (trT g pl (iniF g.own.length l l.length)) g.own.length).map fun v : Nat => (v : Int), 0)) else ([], 1)
theorem trap_e1 {g : Gm} {pl : Int} {l : List Int} (h : validB g = false) : trapR g pl l = ([], 1) := by unfold trapR; rw [if_neg (by rw [h]; decide)]
theorem trap_e2 {g : Gm} {pl : Int} {l : List Int} (h : validB g = true) (h2 : pl ≠ 0 ∧ pl ≠ 1) : trapR g pl l = ([], 6) := by unfold trapR; rw [if_pos h, if_pos h2]
theorem trap_e3 {g : Gm} {pl : Int} {l : List Int} (h : validB g = true) (h2 : ¬ (pl ≠ 0 ∧ pl ≠ 1)) (h3 : ∃ i, i < l.length ∧ (l.getD i 0 < 0 ∨ (g.own.length : Int) ≤ l.getD i 0)) : trapR g pl l = ([], 6) := by unfold trapR; rw [if_pos h, if_neg h2, if_pos h3]
theorem trap_e4 {g : Gm} {pl : Int} {l : List Int} (h : validB g = true) (h2 : ¬ (pl ≠ 0 ∧ pl ≠ 1)) (h3 : ¬ ∃ i, i < l.length ∧ (l.getD i 0 < 0 ∨ (g.own.length : Int) ≤ l.getD i 0)) : trapR g pl l = ((kp (trT g pl (iniF g.own.length l l.length)) g.own.length).map fun v : Nat => (v : Int), 0) := by unfold trapR; rw [if_pos h, if_neg h2, if_neg h3]
end Go.Proofs.Ytlckljphakkomaa.Cal
namespace Go.Proofs.Ytlckljphakkomaa.Cal
open Go Pl
/-- The successors that are kept, by their numbers. -/
def ptr (x : List (List Int)) (k : List Bool) (v : Nat) : List Int := ((x.getD v []).filter fun t => k.getD t.toNat false).map fun t => nmF k t.toNat
def partG (g : Gm) (k : List Bool) : Gm := ⟨(kp k g.own.length).map fun v => g.own.getD v 0, (kp k g.own.length).map fun v => g.pri.getD v 0, (kp k g.own.length).map (ptr g.nxt k)⟩
section
variable {g : Gm} {k : List Bool}
theorem kp_num {t n : Nat} (h : k.getD t false = true) (ht : t < n) : (nmF k t).toNat < (kp k n).length ∧ (kp k n).getD (nmF k t).toNat 0 = t := by
  unfold nmF
  rw [if_pos h, Int.toNat_natCast]
  exact kp_get h ht
theorem part_full (hV : Valid g) (hk : k.length = g.own.length) (hT : ∀ u, k.getD u false = true → ∃ v, v ∈ sc g.nxt u ∧ k.getD v false = true) {W C : List Int} (h : ZP g k W C 131072) :
    16 < (partG g k).own.length ∧ ¬ ∃ a b, ∀ v, v < (partG g k).own.length → (partG g k).pri.getD v 0 = a ∨ (partG g k).pri.getD v 0 = b := by
  have hc := ZP_cost h hk hT
  have hn : g.own.length ≤ 20000 := hV.1
  have hl : (partG g k).own.length = ctK g k := by
    show ((kp k g.own.length).map _).length = _
    rw [List.length_map]
    unfold kp ctK cntZ
    rw [List.countP_eq_length_filter]
  have hle : ctK g k ≤ g.own.length := by
    unfold ctK cntZ
    exact Nat.le_trans List.countP_le_length (by rw [List.length_range]; omega)
  refine ⟨Nat.lt_of_not_le fun hle2 => ?_, fun ⟨a, b, hab⟩ => ?_⟩
  · have h1 : 2 ^ (ctK g k + 1) ≤ 2 ^ 17 := Nat.pow_le_pow_right (by decide) (by omega)
    have := hc 131071 (.inr (.inr (.inr (by omega))))
    omega
  · have := hc (3 * (ctK g k : Int) + 2) (.inr (.inr (.inl ⟨⟨a, b, fun v hv => ?_⟩, Int.le_refl _⟩)))
    · omega
    · obtain ⟨h1, h2⟩ := kp_num (n := g.own.length) hv (lt_of_in (by omega) hv)
      have h3 := hab (nmF k v).toNat (by show _ < ((kp k g.own.length).map _).length; rw [List.length_map]; exact h1)
      have e : (partG g k).pri.getD (nmF k v).toNat 0 = g.pri.getD v 0 := by
        have : (partG g k).pri.getD (nmF k v).toNat 0 = g.pri.getD ((kp k g.own.length).getD (nmF k v).toNat 0) 0 := map_getD h1
        rw [this, h2]
      rwa [e] at h3
end
end Go.Proofs.Ytlckljphakkomaa.Cal
namespace Go.Proofs.Ytlckljphakkomaa.Cal
open Go Pl
structure PartR where
  g : Gm
  of : List Int
  err : Int
def PartR.av (r : PartR) : AV := .tup (.cons (gmA r.g) (.cons (.roI r.of) (.cons (.int .i64 r.err) .nil)))
end Go.Proofs.Ytlckljphakkomaa.Cal
