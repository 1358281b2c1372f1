/- Own texts of the proof, merged, in order. -/
import Derived.Test.YtlckljphakkomaaS16
set_option linter.unusedVariables false
set_option linter.unusedSimpArgs false
namespace Go.Proofs.Ytlckljphakkomaa.Cal
open Go Pl
/-- Some entries are set, one after the other. -/
def fsL (f : Nat → Int) (ks : List Nat) (W : List Int) : List Int := ks.foldl (fun W v => W.set v (f v)) W
theorem fsL_len {f : Nat → Int} : ∀ {ks : List Nat} {W : List Int}, (fsL f ks W).length = W.length
  | [], _ => rfl
  | v :: ks, W => by
    show (fsL f ks (W.set v (f v))).length = _
    rw [fsL_len, List.length_set]
theorem fsL_snoc {f : Nat → Int} {ks : List Nat} {v : Nat} {W : List Int} : fsL f (ks ++ [v]) W = (fsL f ks W).set v (f v) := by
  unfold fsL; rw [List.foldl_append]; rfl
theorem fsL_next {f : Nat → Int} {ks : List Nat} {i : Nat} {W : List Int} (h : i < ks.length) : (fsL f (ks.take i) W).set (ks.getD i 0) (f (ks.getD i 0)) = fsL f (ks.take (i + 1)) W := by
  rw [take1 (d := 0) h, fsL_snoc]
theorem fsL_getD {f : Nat → Int} {v : Nat} : ∀ {ks : List Nat} {W : List Int}, (∀ k, k ∈ ks → k < W.length) → (fsL f ks W).getD v 0 = if v ∈ ks then f v else W.getD v 0
  | [], _, _ => by rw [if_neg List.not_mem_nil]; rfl
  | k :: ks, W, h => by
    have hk := h k List.mem_cons_self
    show (fsL f ks (W.set k (f k))).getD v 0 = _
    rw [fsL_getD (ks := ks) fun j hj => by rw [List.length_set]; exact h j (List.mem_cons_of_mem _ hj), getD_set hk]
    by_cases hv : v ∈ ks
    · rw [if_pos hv, if_pos (List.mem_cons_of_mem _ hv)]
    · rw [if_neg hv]
      by_cases e : v = k
      · rw [if_pos e, if_pos (by rw [e]; exact List.mem_cons_self), e]
      · rw [if_neg e, if_neg (by simp only [List.mem_cons, not_or]; exact ⟨e, hv⟩)]
/-- Where a settled position goes. -/
def stC (o : List Int) (x : List (List Int)) (u l : List Bool) (pl : Int) (es : List (Int × Int × Nat)) (v : Nat) : Int :=
  if o.getD v 0 = pl then (if mhas v es = false ∨ u.getD v false = true then smF l (x.getD v []) else mget v es) else -1
set_option maxRecDepth 4000 in
set_option maxHeartbeats 4000000 in
theorem settle_fg {o p : List Int} {x B : List (List Int)} {left : Int} {W C : List Int} {a u l : List Bool} {pl : Int} {es : List (Int × Int × Nat)} {c : Nat} (hn : o.length ≤ 20000) (hxl : x.length = o.length) (hal : a.length = o.length) (hul : u.length = o.length) (hll : l.length = o.length) (hW : W.length = o.length) (hC : C.length = o.length)
    (hr : ∀ v, v < o.length → ∀ j, j < (x.getD v []).length → 0 ≤ (x.getD v []).getD j 0 ∧ (x.getD v []).getD j 0 < (o.length : Int)) (h64 : ∀ v, v < o.length → (x.getD v []).length ≤ 64) :
    FG Try.prog 49 [.own 0, .roB a, .roB u, .roB l, .int .i64 pl, .own 3] [(0, some (.box (svA o p x B left 1 2))), (1, some (.ints W)), (2, some (.ints C)), (3, some (.mp es c))] 4
      fun g => g = ⟨4, resV [], [(0, some (.box (svA o p x B left 1 2))), (1, some (.ints (fsL (fun _ => pl) (kp a o.length) W))), (2, some (.ints (fsL (stC o x u l pl es) (kp a o.length) C))), (3, some (.mp es c))]⟩ := by
  have hkl := kp_len (k := a) (n := a.length)
  rw [← hal] at hn hr h64 hxl hul hll hW hC ⊢
  obtain ⟨FW, hFW⟩ : ∃ F : Nat → List Int, F = fun i => fsL (fun _ => pl) ((kp a a.length).take i) W := ⟨_, rfl⟩
  obtain ⟨FC, hFC⟩ : ∃ F : Nat → List Int, F = fun i => fsL (stC o x u l pl es) ((kp a a.length).take i) C := ⟨_, rfl⟩
  have hWl : ∀ i, (FW i).length = a.length := fun i => by rw [hFW]; exact fsL_len.trans hW
  have hCl : ∀ i, (FC i).length = a.length := fun i => by rw [hFC]; exact fsL_len.trans hC
  have hWn : ∀ i, i < (kp a a.length).length → (FW i).set ((kp a a.length).getD i 0) pl = FW (i + 1) := fun i h => by rw [hFW]; exact fsL_next (f := fun _ => pl) h
  have hCn : ∀ i, i < (kp a a.length).length → (FC i).set ((kp a a.length).getD i 0) (stC o x u l pl es ((kp a a.length).getD i 0)) = FC (i + 1) := fun i h => by rw [hFC]; exact fsL_next h
  refine fg_of htb (fn := Try.f49) (by kernel_rfl) (by kernel_rfl) rfl (Nat.le_of_ble_eq_true rfl) fun hl => ?_
  simp only [lenP, mkL, lim] at hl
  repeat' first
    | with_reducible first | refine awp_seq ?_ | refine awp_block ?_ | refine next_then ?_ | refine next_block ?_ | refine exit_then ?_ | refine ret_then ?_ | refine ret_block ?_ | refine exit_here ?_ | refine awp_exit ?_ | refine awp_ret ?_ | refine awp_skip ?_ | refine awp_label ?_ | refine next_noGoto ?_ | refine ret_noGoto ?_ | refine exit_noGoto ?_ | refine awp_scope ?_
    | ((with_reducible refine exit_past ?_ ?_); exact rfl)
    | ((with_reducible refine isCond ?_); refine awp_condO rfl ?_ ?_ <;> intro hb <;> (try simp only [zH] at hb))
    | ((with_reducible refine isReg ?_); (first | refine awp_textM htb hmz spMb_ok (fun _ => false) rfl rfl ?_ | refine awp_drawM hmo htb hmz spMb_ok (fun _ => false) rfl rfl (by kernel_rfl) ?_); intro m' e' l' ob h; simp only [zE0, zE1, zE2, zE3, zE4, zE5, evp, evx, ev1, evLoad, evStore, evBin, isBoolK, forall_const, z38, tb, Nat.reduceAdd, Nat.reduceSub, Nat.reduceMul, Nat.reduceEqDiff, Nat.reduceLeDiff, Nat.reduceLT, Nat.reduceBEq, Nat.reduceBNe, ↓reduceIte, reduceIte, svA, spMb, membersS] at h; obtain ⟨rfl, rfl, rfl, rfl⟩ := h; refine ⟨?_, ?_⟩)
    | ((with_reducible refine Ob.mk ?_); first | exact trivial | (intros; omega) | ((repeat' first | apply And.intro | (intro hg; have hg' := hg; try simp only [zH] at hg')) <;> first | (with_reducible exact True.intro) | assumption | omega | (simp only [zH]; omega)))
  refine awp_leC ⟨11, [(16, .fn 41 (.cons (.rop (.roB a)) .nil)), (11, .own 8), (10, .rop (.int .i64 pl)), (9, .rop (.roB l)), (8, .rop (.roB u)), (6, .own 4)], [(8, some (.box (.own 3))), (4, some (.box (.own 0))), (0, some (.box (svA o p x B left 1 2))), (1, some (.ints (FW 0))), (2, some (.ints (FC 0))), (3, some (.mp es c))], []⟩ [] ?_ ?_
  · (refine ⟨rfl, ?_, ?_⟩ <;> simp only [zE0, zE1, zE2, zE3, zE4, zE5, evp, evx, ev1, evLoad, evStore, evBin, isBoolK, forall_const, z38, tb, Nat.reduceAdd, Nat.reduceSub, Nat.reduceMul, Nat.reduceEqDiff, Nat.reduceLeDiff, Nat.reduceLT, Nat.reduceBEq, Nat.reduceBNe, ↓reduceIte, reduceIte, svA, spMb, membersS, zI])
    rw [hFW, hFC]
    exact ⟨rfl, rfl⟩
  refine awp_rangeV (m := 11) (M := 11) (fun i => i ≤ (kp a a.length).length) (fun _ : Nat => False) (fun i => (((kp a a.length).getD i 0 : Nat) : Int)) (fun i => i < (kp a a.length).length) (fun i i' => i' = i + 1) (fun i => i = 0) (fun i => i = (kp a a.length).length) .ret (fun i => [(8, some (.box (.own 3))), (4, some (.box (.own 0))), (0, some (.box (svA o p x B left 1 2))), (1, some (.ints (FW i))), (2, some (.ints (FC i))), (3, some (.mp es c))]) [] 0 (members1_iter a _ _ id fun t h => h) (Nat.zero_le _) rfl rfl rfl rfl rfl rfl rfl (fun k hk => by cases hk) (fun t k _ _ hk => sV_mem (M := 11) (l := [(8, some (.box (.own 3))), (4, some (.box (.own 0))), (0, some (.box (svA o p x _ left 1 2))), (1, some (.ints (FW t))), (2, some (.ints (FC t))), (3, some (.mp es c))]) ⟨⟨rfl, rfl⟩, ⟨rfl, rfl⟩, ⟨rfl, rfl⟩, ⟨rfl, trivial⟩, ⟨rfl, trivial⟩, ⟨rfl, trivial⟩, trivial⟩ k _ hk) ?_ ?_ ?_
  · intro lp i hi hg
    obtain ⟨hv1, hv2⟩ := kp_at' hg
    have hWn1 := hWn i hg
    have hCn1 := hCn i hg
    generalize hvv : (kp a a.length).getD i 0 = v at *
    have hWi := hWl i
    have hCi := hCl i
    have hrv := hr v hv1
    have h6v := h64 v hv1
    first | (refine awp_textM htb hmz spMb_ok (fun _ => false) rfl rfl ?_; intro m' e' l' ob h; simp only [zE0, zE1, zE2, zE3, zE4, zE5, evp, evx, ev1, evLoad, evStore, evBin, isBoolK, forall_const, z38, tb, Nat.reduceAdd, Nat.reduceSub, Nat.reduceMul, Nat.reduceEqDiff, Nat.reduceLeDiff, Nat.reduceLT, Nat.reduceBEq, Nat.reduceBNe, ↓reduceIte, reduceIte, svA, spMb, membersS] at h; obtain ⟨rfl, rfl, rfl, rfl⟩ := h; refine ⟨?_, ?_⟩)
          | (refine awp_drawM hmo htb hmz spMb_ok (fun _ => false) rfl rfl (by kernel_rfl) ?_; intro m' e' l' ob h; simp only [zE0, zE1, zE2, zE3, zE4, zE5, evp, evx, ev1, evLoad, evStore, evBin, isBoolK, forall_const, z38, tb, Nat.reduceAdd, Nat.reduceSub, Nat.reduceMul, Nat.reduceEqDiff, Nat.reduceLeDiff, Nat.reduceLT, Nat.reduceBEq, Nat.reduceBNe, ↓reduceIte, reduceIte, svA, spMb, membersS] at h; obtain ⟨rfl, rfl, rfl, rfl⟩ := h; refine ⟨?_, ?_⟩)
    · first | ((with_reducible refine Ob.mk ?_); first | exact trivial | (intros; omega) | ((repeat' first | apply And.intro | (intro hg; have hg' := hg; try simp only [zH] at hg')) <;> first | assumption | omega | (simp only [zH]; omega))) | skip
    refine ⟨rfl, ?_⟩
    repeat' first
      | with_reducible first | refine awp_seq ?_ | refine awp_block ?_ | refine next_then ?_ | refine next_block ?_ | refine exit_then ?_ | refine ret_then ?_ | refine ret_block ?_ | refine exit_here ?_ | refine awp_exit ?_ | refine awp_ret ?_ | refine awp_skip ?_ | refine awp_label ?_ | refine next_noGoto ?_ | refine ret_noGoto ?_ | refine exit_noGoto ?_ | refine awp_scope ?_
      | ((with_reducible refine exit_past ?_ ?_); exact rfl)
      | ((with_reducible refine isCond ?_); refine awp_condO rfl ?_ ?_ <;> intro hb <;> (try simp only [zH] at hb))
      | ((with_reducible refine isRegS 5 ?_ ?_); (· exact rfl); (with_reducible refine isRegS 6 ?_ ?_); (· exact rfl); (first | refine awp_textM htb hmz spMb_ok (fun _ => false) rfl rfl ?_ | refine awp_drawM hmo htb hmz spMb_ok (fun _ => false) rfl rfl (by kernel_rfl) ?_); intro m' e' l' ob h; simp only [zE0, zE1, zE2, zE3, zE4, zE5, evp, evx, ev1, evLoad, evStore, evBin, isBoolK, forall_const, z38, tb, Nat.reduceAdd, Nat.reduceSub, Nat.reduceMul, Nat.reduceEqDiff, Nat.reduceLeDiff, Nat.reduceLT, Nat.reduceBEq, Nat.reduceBNe, ↓reduceIte, reduceIte, svA, spMb, membersS] at h; obtain ⟨rfl, rfl, rfl, rfl⟩ := h; refine ⟨?_, ?_⟩)
      | ((with_reducible refine Ob.mk ?_); first | exact trivial | (intros; omega) | ((repeat' first | apply And.intro | (intro hg; have hg' := hg; try simp only [zH] at hg')) <;> first | (with_reducible exact True.intro) | assumption | omega | (simp only [zH]; omega)))
    · refine awp_cut ([_, _, _]) ([_]) rfl rfl ?_
      refine awpL_text htb hmz spMb_ok (fun _ => false) rfl rfl rfl ?_; intro m' e' l' ob h; simp only [zE0, zE1, zE2, zE3, zE4, zE5, evp, evx, ev1, evLoad, evStore, evBin, isBoolK, forall_const, z38, tb, Nat.reduceAdd, Nat.reduceSub, Nat.reduceMul, Nat.reduceEqDiff, Nat.reduceLeDiff, Nat.reduceLT, Nat.reduceBEq, Nat.reduceBNe, ↓reduceIte, reduceIte, svA, spMb, membersS] at h; obtain ⟨rfl, rfl, rfl, rfl⟩ := h; refine ⟨?_, next_then ?_⟩
      · first | ((with_reducible refine Ob.mk ?_); first | exact trivial | (intros; omega) | ((repeat' first | apply And.intro | (intro hg; have hg' := hg; try simp only [zH] at hg')) <;> first | (with_reducible exact True.intro) | assumption | omega | (simp only [zH]; omega))) | skip
      refine awpL_callG ([0, 1, 2]) (some_fg (o := o) (p := p) (x := x) (B := B) (left := left) (W := FW i) (C := FC i) (l := l) (v := v) (by omega) (fun j hj => ⟨(hrv j hj).1, by have := (hrv j hj).2; omega⟩) h6v) rfl rfl rfl rfl rfl rfl rfl rfl rfl (by simp only [rinR, rhoC, zE0, zE1, zE2, zE3, zE4, zE5, evp, evx, ev1, evLoad, evStore, evBin, isBoolK, forall_const, z38, tb, Nat.reduceAdd, Nat.reduceSub, Nat.reduceMul, Nat.reduceEqDiff, Nat.reduceLeDiff, Nat.reduceLT, Nat.reduceBEq, Nat.reduceBNe, ↓reduceIte, reduceIte, svA, spMb, membersS]) ?_; intro gm gv gr hq m' e' l' h; simp only [GR.mk.injEq] at hq; obtain ⟨rfl, rfl, rfl⟩ := hq; simp only [rhoC, outR, renR, dels, zE0, zE1, zE2, zE3, zE4, zE5, evp, evx, ev1, evLoad, evStore, evBin, isBoolK, forall_const, z38, tb, Nat.reduceAdd, Nat.reduceSub, Nat.reduceMul, Nat.reduceEqDiff, Nat.reduceLeDiff, Nat.reduceLT, Nat.reduceBEq, Nat.reduceBNe, ↓reduceIte, reduceIte, svA, spMb, membersS] at h; obtain ⟨rfl, rfl, rfl⟩ := h; refine next_then ?_
      refine awpL_text htb hmz spMb_ok (fun _ => false) rfl rfl rfl ?_; intro m' e' l' ob h; simp only [zE0, zE1, zE2, zE3, zE4, zE5, evp, evx, ev1, evLoad, evStore, evBin, isBoolK, forall_const, z38, tb, Nat.reduceAdd, Nat.reduceSub, Nat.reduceMul, Nat.reduceEqDiff, Nat.reduceLeDiff, Nat.reduceLT, Nat.reduceBEq, Nat.reduceBNe, ↓reduceIte, reduceIte, svA, spMb, membersS] at h; obtain ⟨rfl, rfl, rfl, rfl⟩ := h; refine ⟨?_, ?_⟩
      · first | ((with_reducible refine Ob.mk ?_); first | exact trivial | (intros; omega) | ((repeat' first | apply And.intro | (intro hg; have hg' := hg; try simp only [zH] at hg')) <;> first | (with_reducible exact True.intro) | assumption | omega | (simp only [zH]; omega))) | skip
      repeat' first
        | with_reducible first | refine awp_seq ?_ | refine awp_block ?_ | refine next_then ?_ | refine next_block ?_ | refine exit_then ?_ | refine ret_then ?_ | refine ret_block ?_ | refine exit_here ?_ | refine awp_exit ?_ | refine awp_ret ?_ | refine awp_skip ?_ | refine awp_label ?_ | refine next_noGoto ?_ | refine ret_noGoto ?_ | refine exit_noGoto ?_ | refine awp_scope ?_
        | ((with_reducible refine exit_past ?_ ?_); exact rfl)
        | ((with_reducible refine isCond ?_); refine awp_condO rfl ?_ ?_ <;> intro hb <;> (try simp only [zH] at hb))
        | ((with_reducible refine isRegS 6 ?_ ?_); (· exact rfl); (first | refine awp_textM htb hmz spMb_ok (fun _ => false) rfl rfl ?_ | refine awp_drawM hmo htb hmz spMb_ok (fun _ => false) rfl rfl (by kernel_rfl) ?_); intro m' e' l' ob h; simp only [zE0, zE1, zE2, zE3, zE4, zE5, evp, evx, ev1, evLoad, evStore, evBin, isBoolK, forall_const, z38, tb, Nat.reduceAdd, Nat.reduceSub, Nat.reduceMul, Nat.reduceEqDiff, Nat.reduceLeDiff, Nat.reduceLT, Nat.reduceBEq, Nat.reduceBNe, ↓reduceIte, reduceIte, svA, spMb, membersS] at h; obtain ⟨rfl, rfl, rfl, rfl⟩ := h; refine ⟨?_, ?_⟩)
        | ((with_reducible refine Ob.mk ?_); first | exact trivial | (intros; omega) | ((repeat' first | apply And.intro | (intro hg; have hg' := hg; try simp only [zH] at hg')) <;> first | (with_reducible exact True.intro) | assumption | omega | (simp only [zH]; omega)))
      refine awp_cut ([_, _, _, _]) ([]) rfl rfl ?_
      refine awpL_text htb hmz spMb_ok (fun _ => false) rfl rfl rfl ?_; intro m' e' l' ob h; simp only [zE0, zE1, zE2, zE3, zE4, zE5, evp, evx, ev1, evLoad, evStore, evBin, isBoolK, forall_const, z38, tb, Nat.reduceAdd, Nat.reduceSub, Nat.reduceMul, Nat.reduceEqDiff, Nat.reduceLeDiff, Nat.reduceLT, Nat.reduceBEq, Nat.reduceBNe, ↓reduceIte, reduceIte, svA, spMb, membersS] at h; obtain ⟨rfl, rfl, rfl, rfl⟩ := h; refine ⟨?_, next_then ?_⟩
      · first | ((with_reducible refine Ob.mk ?_); first | exact trivial | (intros; omega) | ((repeat' first | apply And.intro | (intro hg; have hg' := hg; try simp only [zH] at hg')) <;> first | (with_reducible exact True.intro) | assumption | omega | (simp only [zH]; omega))) | skip
      refine awpL_callG ([0, 1, 2]) (win_fg (o := o) (p := p) (x := x) (B := B) (left := left) (W := FW i) (C := FC i) (v := v) (pl := pl) (to := smF l (x.getD v [])) (by omega) (by omega) (by omega)) rfl rfl rfl rfl rfl rfl rfl rfl rfl (by simp only [rinR, rhoC, zE0, zE1, zE2, zE3, zE4, zE5, evp, evx, ev1, evLoad, evStore, evBin, isBoolK, forall_const, z38, tb, Nat.reduceAdd, Nat.reduceSub, Nat.reduceMul, Nat.reduceEqDiff, Nat.reduceLeDiff, Nat.reduceLT, Nat.reduceBEq, Nat.reduceBNe, ↓reduceIte, reduceIte, svA, spMb, membersS]) ?_; intro gm gv gr hq m' e' l' h; simp only [GR.mk.injEq] at hq; obtain ⟨rfl, rfl, rfl⟩ := hq; simp only [rhoC, outR, renR, dels, zE0, zE1, zE2, zE3, zE4, zE5, evp, evx, ev1, evLoad, evStore, evBin, isBoolK, forall_const, z38, tb, Nat.reduceAdd, Nat.reduceSub, Nat.reduceMul, Nat.reduceEqDiff, Nat.reduceLeDiff, Nat.reduceLT, Nat.reduceBEq, Nat.reduceBNe, ↓reduceIte, reduceIte, svA, spMb, membersS] at h; obtain ⟨rfl, rfl, rfl⟩ := h; refine next_then ?_
      refine awpL_text htb hmz spMb_ok (fun _ => false) rfl rfl rfl ?_; intro m' e' l' ob h; simp only [zE0, zE1, zE2, zE3, zE4, zE5, evp, evx, ev1, evLoad, evStore, evBin, isBoolK, forall_const, z38, tb, Nat.reduceAdd, Nat.reduceSub, Nat.reduceMul, Nat.reduceEqDiff, Nat.reduceLeDiff, Nat.reduceLT, Nat.reduceBEq, Nat.reduceBNe, ↓reduceIte, reduceIte, svA, spMb, membersS] at h; obtain ⟨rfl, rfl, rfl, rfl⟩ := h; refine ⟨?_, ?_⟩
      · first | ((with_reducible refine Ob.mk ?_); first | exact trivial | (intros; omega) | ((repeat' first | apply And.intro | (intro hg; have hg' := hg; try simp only [zH] at hg')) <;> first | (with_reducible exact True.intro) | assumption | omega | (simp only [zH]; omega))) | skip
      repeat' first
        | with_reducible first | refine awp_seq ?_ | refine awp_block ?_ | refine next_then ?_ | refine next_block ?_ | refine exit_then ?_ | refine ret_then ?_ | refine ret_block ?_ | refine exit_here ?_ | refine awp_exit ?_ | refine awp_ret ?_ | refine awp_skip ?_ | refine awp_label ?_ | refine next_noGoto ?_ | refine ret_noGoto ?_ | refine exit_noGoto ?_ | refine awp_scope ?_
        | ((with_reducible refine exit_past ?_ ?_); exact rfl)
        | ((with_reducible refine isCond ?_); refine awp_condO rfl ?_ ?_ <;> intro hb <;> (try simp only [zH] at hb))
        | ((with_reducible refine isReg ?_); (first | refine awp_textM htb hmz spMb_ok (fun _ => false) rfl rfl ?_ | refine awp_drawM hmo htb hmz spMb_ok (fun _ => false) rfl rfl (by kernel_rfl) ?_); intro m' e' l' ob h; simp only [zE0, zE1, zE2, zE3, zE4, zE5, evp, evx, ev1, evLoad, evStore, evBin, isBoolK, forall_const, z38, tb, Nat.reduceAdd, Nat.reduceSub, Nat.reduceMul, Nat.reduceEqDiff, Nat.reduceLeDiff, Nat.reduceLT, Nat.reduceBEq, Nat.reduceBNe, ↓reduceIte, reduceIte, svA, spMb, membersS] at h; obtain ⟨rfl, rfl, rfl, rfl⟩ := h; refine ⟨?_, ?_⟩)
        | ((with_reducible refine Ob.mk ?_); first | exact trivial | (intros; omega) | ((repeat' first | apply And.intro | (intro hg; have hg' := hg; try simp only [zH] at hg')) <;> first | assumption | omega | (simp only [zH]; omega)))
      refine ⟨_, i + 1, [], rfl, ?_, .inl ⟨rfl, hg, rfl⟩⟩
      have hst : stC o x u l pl es v = if o.getD v 0 = pl then smF l (x.getD v []) else -1 := by unfold stC; rw [if_pos hb]
      rw [hst] at hCn1
      (refine ⟨rfl, ?_, ?_⟩ <;> simp only [zE0, zE1, zE2, zE3, zE4, zE5, evp, evx, ev1, evLoad, evStore, evBin, isBoolK, forall_const, z38, tb, Nat.reduceAdd, Nat.reduceSub, Nat.reduceMul, Nat.reduceEqDiff, Nat.reduceLeDiff, Nat.reduceLT, Nat.reduceBEq, Nat.reduceBNe, ↓reduceIte, reduceIte, svA, spMb, membersS, zI])
      exact ⟨hWn1, hCn1⟩
    · refine awp_cut ([_, _, _, _]) ([]) rfl rfl ?_
      refine awpL_text htb hmz spMb_ok (fun _ => false) rfl rfl rfl ?_; intro m' e' l' ob h; simp only [zE0, zE1, zE2, zE3, zE4, zE5, evp, evx, ev1, evLoad, evStore, evBin, isBoolK, forall_const, z38, tb, Nat.reduceAdd, Nat.reduceSub, Nat.reduceMul, Nat.reduceEqDiff, Nat.reduceLeDiff, Nat.reduceLT, Nat.reduceBEq, Nat.reduceBNe, ↓reduceIte, reduceIte, svA, spMb, membersS] at h; obtain ⟨rfl, rfl, rfl, rfl⟩ := h; refine ⟨?_, next_then ?_⟩
      · first | ((with_reducible refine Ob.mk ?_); first | exact trivial | (intros; omega) | ((repeat' first | apply And.intro | (intro hg; have hg' := hg; try simp only [zH] at hg')) <;> first | (with_reducible exact True.intro) | assumption | omega | (simp only [zH]; omega))) | skip
      refine awpL_callG ([0, 1, 2]) (win_fg (o := o) (p := p) (x := x) (B := B) (left := left) (W := FW i) (C := FC i) (v := v) (pl := pl) (to := mget v es) (by omega) (by omega) (by omega)) rfl rfl rfl rfl rfl rfl rfl rfl rfl (by simp only [rinR, rhoC, zE0, zE1, zE2, zE3, zE4, zE5, evp, evx, ev1, evLoad, evStore, evBin, isBoolK, forall_const, z38, tb, Nat.reduceAdd, Nat.reduceSub, Nat.reduceMul, Nat.reduceEqDiff, Nat.reduceLeDiff, Nat.reduceLT, Nat.reduceBEq, Nat.reduceBNe, ↓reduceIte, reduceIte, svA, spMb, membersS]) ?_; intro gm gv gr hq m' e' l' h; simp only [GR.mk.injEq] at hq; obtain ⟨rfl, rfl, rfl⟩ := hq; simp only [rhoC, outR, renR, dels, zE0, zE1, zE2, zE3, zE4, zE5, evp, evx, ev1, evLoad, evStore, evBin, isBoolK, forall_const, z38, tb, Nat.reduceAdd, Nat.reduceSub, Nat.reduceMul, Nat.reduceEqDiff, Nat.reduceLeDiff, Nat.reduceLT, Nat.reduceBEq, Nat.reduceBNe, ↓reduceIte, reduceIte, svA, spMb, membersS] at h; obtain ⟨rfl, rfl, rfl⟩ := h; refine next_then ?_
      refine awpL_text htb hmz spMb_ok (fun _ => false) rfl rfl rfl ?_; intro m' e' l' ob h; simp only [zE0, zE1, zE2, zE3, zE4, zE5, evp, evx, ev1, evLoad, evStore, evBin, isBoolK, forall_const, z38, tb, Nat.reduceAdd, Nat.reduceSub, Nat.reduceMul, Nat.reduceEqDiff, Nat.reduceLeDiff, Nat.reduceLT, Nat.reduceBEq, Nat.reduceBNe, ↓reduceIte, reduceIte, svA, spMb, membersS] at h; obtain ⟨rfl, rfl, rfl, rfl⟩ := h; refine ⟨?_, ?_⟩
      · first | ((with_reducible refine Ob.mk ?_); first | exact trivial | (intros; omega) | ((repeat' first | apply And.intro | (intro hg; have hg' := hg; try simp only [zH] at hg')) <;> first | (with_reducible exact True.intro) | assumption | omega | (simp only [zH]; omega))) | skip
      repeat' first
        | with_reducible first | refine awp_seq ?_ | refine awp_block ?_ | refine next_then ?_ | refine next_block ?_ | refine exit_then ?_ | refine ret_then ?_ | refine ret_block ?_ | refine exit_here ?_ | refine awp_exit ?_ | refine awp_ret ?_ | refine awp_skip ?_ | refine awp_label ?_ | refine next_noGoto ?_ | refine ret_noGoto ?_ | refine exit_noGoto ?_ | refine awp_scope ?_
        | ((with_reducible refine exit_past ?_ ?_); exact rfl)
        | ((with_reducible refine isCond ?_); refine awp_condO rfl ?_ ?_ <;> intro hb <;> (try simp only [zH] at hb))
        | ((with_reducible refine isReg ?_); (first | refine awp_textM htb hmz spMb_ok (fun _ => false) rfl rfl ?_ | refine awp_drawM hmo htb hmz spMb_ok (fun _ => false) rfl rfl (by kernel_rfl) ?_); intro m' e' l' ob h; simp only [zE0, zE1, zE2, zE3, zE4, zE5, evp, evx, ev1, evLoad, evStore, evBin, isBoolK, forall_const, z38, tb, Nat.reduceAdd, Nat.reduceSub, Nat.reduceMul, Nat.reduceEqDiff, Nat.reduceLeDiff, Nat.reduceLT, Nat.reduceBEq, Nat.reduceBNe, ↓reduceIte, reduceIte, svA, spMb, membersS] at h; obtain ⟨rfl, rfl, rfl, rfl⟩ := h; refine ⟨?_, ?_⟩)
        | ((with_reducible refine Ob.mk ?_); first | exact trivial | (intros; omega) | ((repeat' first | apply And.intro | (intro hg; have hg' := hg; try simp only [zH] at hg')) <;> first | assumption | omega | (simp only [zH]; omega)))
      refine ⟨_, i + 1, [], rfl, ?_, .inl ⟨rfl, hg, rfl⟩⟩
      have hst : stC o x u l pl es v = if o.getD v 0 = pl then mget v es else -1 := by unfold stC; rw [if_neg (show ¬ (mhas v es = false ∨ u.getD v false = true) from by rw [hb.1, hb.2]; decide)]
      rw [hst] at hCn1
      (refine ⟨rfl, ?_, ?_⟩ <;> simp only [zE0, zE1, zE2, zE3, zE4, zE5, evp, evx, ev1, evLoad, evStore, evBin, isBoolK, forall_const, z38, tb, Nat.reduceAdd, Nat.reduceSub, Nat.reduceMul, Nat.reduceEqDiff, Nat.reduceLeDiff, Nat.reduceLT, Nat.reduceBEq, Nat.reduceBNe, ↓reduceIte, reduceIte, svA, spMb, membersS, zI])
      exact ⟨hWn1, hCn1⟩
  · intro i hi hfin
    have hfin : i = (kp a a.length).length := hfin
    have hWe : FW i = fsL (fun _ => pl) (kp a a.length) W := by rw [hFW, hfin]; show fsL _ (List.take _ _) W = _; rw [List.take_length]
    have hCe : FC i = fsL (stC o x u l pl es) (kp a a.length) C := by rw [hFC, hfin]; show fsL _ (List.take _ _) C = _; rw [List.take_length]
    refine ⟨_, _, rfl, rfl, fun k hk => by rw [List.mem_singleton.1 hk]; rfl, (by show [11].Nodup; decide), by show 4 ≤ 11 + 1; omega, gq_of ⟨4, resV [], [(0, some (.box (svA o p x B left 1 2))), (1, some (.ints (fsL (fun _ => pl) (kp a a.length) W))), (2, some (.ints (fsL (stC o x u l pl es) (kp a a.length) C))), (3, some (.mp es c))]⟩ [] rfl rfl (imp_eq rfl) ?_⟩
    rw [← hWe, ← hCe]
    simp only [grR, zE0, zE1, zE2, zE3, zE4, zE5, evp, evx, ev1, evLoad, evStore, evBin, isBoolK, forall_const, z38, tb, Nat.reduceAdd, Nat.reduceSub, Nat.reduceMul, Nat.reduceEqDiff, Nat.reduceLeDiff, Nat.reduceLT, Nat.reduceBEq, Nat.reduceBNe, ↓reduceIte, reduceIte, svA, spMb, membersS]
  · intro t h; exact h.elim
end Go.Proofs.Ytlckljphakkomaa.Cal
namespace Go.Proofs.Ytlckljphakkomaa.Cal
open Go
theorem fnd_shift {k : Int} : ∀ {es : List (Int × Int × Nat)} {i : Nat}, fnd k es (i + 1) = (fnd k es i).map fun p => (p.1 + 1, p.2)
  | [], _ => rfl
  | e :: t, i => by
    unfold fnd
    split
    · rfl
    · exact fnd_shift
theorem mget_cons {k : Int} {e : Int × Int × Nat} {t : List (Int × Int × Nat)} : mget k (e :: t) = if k = e.1 then e.2.1 else mget k t := by
  unfold mget
  rw [fnd]
  by_cases h : k = e.1
  · rw [if_pos h, if_pos h]
  · rw [if_neg h, if_neg h, fnd_shift]
    cases fnd k t 0 <;> rfl
theorem mput_cons {k v : Int} {c : Nat} {e : Int × Int × Nat} {t : List (Int × Int × Nat)} : mput k v c (e :: t) = if k = e.1 then (k, v, e.2.2) :: t else e :: mput k v c t := by
  unfold mput
  rw [fnd]
  by_cases h : k = e.1
  · rw [if_pos h, if_pos h]; rfl
  · rw [if_neg h, if_neg h, fnd_shift]
    cases fnd k t 0 <;> rfl
theorem mget_mput {k k' v : Int} {c : Nat} : ∀ {es : List (Int × Int × Nat)}, mget k (mput k' v c es) = if k = k' then v else mget k es
  | [] => by
    have : mput k' v c [] = [(k', v, c)] := rfl
    rw [this, mget_cons]
  | e :: t => by
    rw [mput_cons]
    by_cases h : k' = e.1
    · rw [if_pos h, mget_cons, mget_cons]
      dsimp only
      rw [← h]
      split <;> rfl
    · rw [if_neg h, mget_cons, mget_cons, mget_mput (es := t)]
      by_cases h2 : k = e.1
      · rw [if_pos h2, if_pos h2, if_neg (fun e2 : k = k' => h (by rw [← e2]; exact h2))]
      · rw [if_neg h2, if_neg h2]
theorem mhas_cons {k : Int} {e : Int × Int × Nat} {t : List (Int × Int × Nat)} : mhas k (e :: t) = if k = e.1 then true else mhas k t := by
  unfold mhas
  rw [fnd]
  by_cases h : k = e.1
  · rw [if_pos h, if_pos h]
  · rw [if_neg h, if_neg h, fnd_shift]
    cases fnd k t 0 <;> rfl
theorem mhas_mput {k k' v : Int} {c : Nat} : ∀ {es : List (Int × Int × Nat)}, mhas k (mput k' v c es) = if k = k' then true else mhas k es
  | [] => by
    have : mput k' v c [] = [(k', v, c)] := rfl
    rw [this, mhas_cons]
  | e :: t => by
    rw [mput_cons]
    by_cases h : k' = e.1
    · rw [if_pos h, mhas_cons, mhas_cons]
      dsimp only
      rw [← h]
      split <;> rfl
    · rw [if_neg h, mhas_cons, mhas_cons, mhas_mput (es := t)]
      by_cases h2 : k = e.1
      · rw [if_pos h2, if_pos h2]
        split <;> rfl
      · rw [if_neg h2, if_neg h2]
end Go.Proofs.Ytlckljphakkomaa.Cal
namespace Go.Proofs.Ytlckljphakkomaa.Cal
open Go Pl
/-- The queue: the set's positions, and those that were taken. -/
def qo (to : List Bool) (n : Nat) (L : List (Nat × Nat)) : List Nat := kp to n ++ L.map Prod.fst
theorem qo_snoc {to : List Bool} {n u w : Nat} {L : List (Nat × Nat)} : qo to n (L ++ [(u, w)]) = qo to n L ++ [u] := by
  simp [qo]
/-- How many successors in the part have not been looked at. -/
noncomputable def lfn (x : List (List Int)) (l : List Bool) (q : List Nat) (i : Nat) (dn : List Nat) (u : Nat) : Nat := ((sc x u).filter fun t => !(!l.getD t false || peB q i dn u t)).length
def inM (x : List (List Int)) (l : List Bool) (u : Nat) : Nat := (x.getD u []).countP fun t => l.getD t.toNat false
theorem inM_is {x : List (List Int)} {l : List Bool} {u : Nat} : inM x l u = ((sc x u).filter fun t => l.getD t false).length := by
  unfold inM sc
  rw [← List.countP_eq_length_filter, List.countP_map]
  rfl
structure AQ (g : Gm) (p : Int) (to l : List Bool) (L : List (Nat × Nat)) (es : List (Int × Int × Nat)) (i : Nat) (dn : List Nat) : Prop where
  nd : (qo to g.own.length L).Nodup
  ql : ∀ u, u ∈ qo to g.own.length L → l.getD u false = true
  iq : i ≤ (qo to g.own.length L).length
  c0p : ∀ u, l.getD u false = true → u ∉ qo to g.own.length L → g.own.getD u 0 = p → ∀ t, t ∈ sc g.nxt u → ¬ pe (qo to g.own.length L) i dn u t
  c0o : ∀ u, l.getD u false = true → u ∉ qo to g.own.length L → g.own.getD u 0 ≠ p → 0 < lfn g.nxt l (qo to g.own.length L) i dn u ∧ (mhas u es = true → mget u es = lfn g.nxt l (qo to g.own.length L) i dn u) ∧ (mhas u es = false → inM g.nxt l u = lfn g.nxt l (qo to g.own.length L) i dn u)
  tk : ∀ j v w, L[j]? = some (v, w) → (g.own.getD v 0 = p → w ∈ sc g.nxt v ∧ w ∈ (qo to g.own.length L).take ((kp to g.own.length).length + j)) ∧ (g.own.getD v 0 ≠ p → ∀ t, t ∈ sc g.nxt v → l.getD t false = true → t ∈ (qo to g.own.length L).take ((kp to g.own.length).length + j))
section
variable {g : Gm} {p : Int} {to l : List Bool} {L : List (Nat × Nat)} {es : List (Int × Int × Nat)} {i w u : Nat} {dn : List Nat} {c : Nat}
/-- Another position's count is as before. -/
theorem lfn_other {q q' : List Nat} (h1 : q'.take i = q.take i) (h2 : q'[i]? = some w) (h3 : q[i]? = some w) {u' : Nat} (hne : u' ≠ u) : lfn g.nxt l q' i (dn ++ [u]) u' = lfn g.nxt l q i dn u' := by
  unfold lfn
  congr 1
  refine List.filter_congr fun t _ => ?_
  rw [peB_congr]
  rw [pe_upd h1 h2 h3]
  exact ⟨fun h => h.resolve_right (fun h => hne h.1), .inl⟩
theorem lfn_this {q q' : List Nat} (hn : q.Nodup) (h1 : q'.take i = q.take i) (h2 : q'[i]? = some w) (h3 : q[i]? = some w) (hwu : w ∈ sc g.nxt u) (hlw : l.getD w false = true) (hnd : (sc g.nxt u).Nodup) (hdn : u ∉ dn) : (lfn g.nxt l q' i (dn ++ [u]) u : Int) = lfn g.nxt l q i dn u - 1 := by
  have hv0 : ¬ pe q i dn u w := by
    rintro (h | ⟨_, h⟩)
    · exact not_take hn h3 h
    · exact hdn h
  unfold lfn
  refine cnt_drop (fun t => ?_) (by rw [hlw, peB_false hv0]; rfl) hnd hwu
  rw [Bool.eq_iff_iff, Bool.or_eq_true, Bool.or_eq_true, Bool.or_eq_true, pe_iff, pe_iff, pe_upd h1 h2 h3, beq_iff_eq]
  constructor
  · rintro (h | h | ⟨_, h⟩)
    · exact .inl (.inl h)
    · exact .inl (.inr h)
    · exact .inr h
  · rintro ((h | h) | h)
    · exact .inl h
    · exact .inr (.inl h)
    · exact .inr (.inr ⟨rfl, h⟩)
theorem qo_keep {j : Nat} {v w' : Nat} (hj : j ≤ (qo to g.own.length L).length) : (qo to g.own.length (L ++ [(v, w')])).take j = (qo to g.own.length L).take j := by
  rw [qo_snoc, List.take_append_of_le_length hj]
theorem AQ_skip (h : AQ g p to l L es i dn) (hq : (qo to g.own.length L)[i]? = some w) (hc : l.getD u false = false ∨ u ∈ qo to g.own.length L) : AQ g p to l L es i (dn ++ [u]) := by
  have hne : ∀ u', l.getD u' false = true → u' ∉ qo to g.own.length L → u' ≠ u := by
    rintro u' h1 h2 rfl
    rcases hc with h | h
    · rw [h1] at h; cases h
    · exact h2 h
  refine ⟨h.nd, h.ql, h.iq, fun u' h1 h2 ho t ht hp => ?_, fun u' h1 h2 ho => ?_, h.tk⟩
  · rw [pe_upd rfl hq hq] at hp
    exact h.c0p u' h1 h2 ho t ht (hp.resolve_right fun hp => hne u' h1 h2 hp.1)
  · rw [lfn_other rfl hq hq (hne u' h1 h2)]
    exact h.c0o u' h1 h2 ho
/-- A position is taken. -/
theorem AQ_take (h : AQ g p to l L es i dn) (hq : (qo to g.own.length L)[i]? = some w) (hlu : l.getD u false = true) (hu : u ∉ qo to g.own.length L) (hwu : w ∈ sc g.nxt u) (hdn : u ∉ dn) {es' : List (Int × Int × Nat)}
    (hes : ∀ u' : Nat, u' ≠ u → mhas u' es' = mhas u' es ∧ mget u' es' = mget u' es) (ho : g.own.getD u 0 ≠ p → lfn g.nxt l (qo to g.own.length L) i dn u ≤ 1) (hnd : (sc g.nxt u).Nodup) : AQ g p to l (L ++ [(u, w)]) es' i (dn ++ [u]) := by
  have hi : i < (qo to g.own.length L).length := (List.getElem?_eq_some_iff.1 hq).1
  have hlw : l.getD w false = true := h.ql w (List.mem_of_getElem? hq)
  have h1 : (qo to g.own.length (L ++ [(u, w)])).take i = (qo to g.own.length L).take i := qo_keep (Nat.le_of_lt hi)
  have h2 : (qo to g.own.length (L ++ [(u, w)]))[i]? = some w := by rw [qo_snoc, List.getElem?_append_left hi]; exact hq
  have hm : ∀ u', u' ∈ qo to g.own.length (L ++ [(u, w)]) ↔ u' ∈ qo to g.own.length L ∨ u' = u := fun u' => by rw [qo_snoc, List.mem_append, List.mem_singleton]
  have hqi : ∀ t, pe (qo to g.own.length L) i (dn ++ [u]) u t → t ∈ qo to g.own.length L := by
    rintro t (ht | ⟨ht, _⟩)
    · exact List.mem_of_mem_take ht
    · exact List.mem_of_getElem? ht
  refine ⟨?_, fun u' hu' => ?_, ?_, fun u' a1 a2 a3 t ht hp => ?_, fun u' a1 a2 a3 => ?_, fun j v w' hj => ?_⟩
  · rw [qo_snoc, List.nodup_append]
    exact ⟨h.nd, by simp, fun a ha b hb e => hu (by rw [List.mem_singleton] at hb; rw [← hb, ← e]; exact ha)⟩
  · rcases (hm u').1 hu' with h3 | rfl
    · exact h.ql u' h3
    · exact hlu
  · rw [qo_snoc, List.length_append]; exact Nat.le_trans h.iq (Nat.le_add_right _ _)
  · rw [hm] at a2
    rw [pe_upd h1 h2 hq] at hp
    exact h.c0p u' a1 (fun e => a2 (.inl e)) a3 t ht (hp.resolve_right fun hp => a2 (.inr hp.1))
  · rw [hm] at a2
    have hne : u' ≠ u := fun e => a2 (.inr e)
    rw [lfn_other h1 h2 hq hne, (hes u' hne).1, (hes u' hne).2]
    exact h.c0o u' a1 (fun e => a2 (.inl e)) a3
  · have hk : ∀ {j}, j < L.length → (kp to g.own.length).length + j ≤ (qo to g.own.length L).length := fun {j} hj => by simp only [qo, List.length_append, List.length_map]; omega
    rcases Nat.lt_or_ge j L.length with hlt | hge
    · rw [List.getElem?_append_left hlt] at hj
      rw [qo_keep (hk hlt)]
      exact h.tk j v w' hj
    · rw [List.getElem?_append_right hge] at hj
      have hj0 : j = L.length := by
        have := (List.getElem?_eq_some_iff.1 hj).1
        simp at this; omega
      subst hj0
      simp only [Nat.sub_self, List.getElem?_cons_zero, Option.some.injEq, Prod.mk.injEq] at hj
      obtain ⟨rfl, rfl⟩ := hj
      have hlen : (kp to g.own.length).length + L.length = (qo to g.own.length L).length := by simp [qo]
      rw [hlen, qo_keep (Nat.le_refl _), List.take_length]
      refine ⟨fun _ => ⟨hwu, List.mem_of_getElem? hq⟩, fun a3 t ht hlt => ?_⟩
      have h3 := lfn_this (g := g) (l := l) h.nd rfl hq hq hwu hlw hnd hdn
      have h4 := ho a3
      have h5 : lfn g.nxt l (qo to g.own.length L) i (dn ++ [u]) u = 0 := by omega
      unfold lfn at h5
      have h6 := List.filter_eq_nil_iff.1 (List.eq_nil_of_length_eq_zero h5) t ht
      rw [hlt] at h6
      simp only [Bool.not_true, Bool.false_or, Bool.not_eq_true', Bool.not_eq_false] at h6
      exact hqi t (pe_iff.1 h6)
/-- A position has successors left. -/
theorem AQ_left (h : AQ g p to l L es i dn) (hq : (qo to g.own.length L)[i]? = some w) (hu : u ∉ qo to g.own.length L) (hwu : w ∈ sc g.nxt u) (hdn : u ∉ dn) {es' : List (Int × Int × Nat)}
    (hes : ∀ u' : Nat, u' ≠ u → mhas u' es' = mhas u' es ∧ mget u' es' = mget u' es) (hop : g.own.getD u 0 ≠ p) (ho : 1 < lfn g.nxt l (qo to g.own.length L) i dn u) (he : mhas u es' = true ∧ mget u es' = lfn g.nxt l (qo to g.own.length L) i dn u - 1) (hnd : (sc g.nxt u).Nodup) : AQ g p to l L es' i (dn ++ [u]) := by
  have hlw : l.getD w false = true := h.ql w (List.mem_of_getElem? hq)
  refine ⟨h.nd, h.ql, h.iq, fun u' h1 h2 h3 t ht hp => ?_, fun u' h1 h2 h3 => ?_, h.tk⟩
  · rw [pe_upd rfl hq hq] at hp
    exact h.c0p u' h1 h2 h3 t ht (hp.resolve_right fun hp => hop (hp.1 ▸ h3))
  · by_cases hne : u' = u
    · subst hne
      have h3 := lfn_this (g := g) (l := l) h.nd rfl hq hq hwu hlw hnd hdn
      refine ⟨by omega, fun _ => by rw [he.2, h3], fun e => by rw [he.1] at e; cases e⟩
    · rw [lfn_other rfl hq hq hne, (hes u' hne).1, (hes u' hne).2]
      exact h.c0o u' h1 h2 h3
/-- The row is done. -/
theorem AQ_end (h : AQ g p to l L es i dn) (hq : (qo to g.own.length L)[i]? = some w) (hall : ∀ u, w ∈ sc g.nxt u → u ∈ dn) : AQ g p to l L es (i + 1) [] := by
  have hi : i < (qo to g.own.length L).length := (List.getElem?_eq_some_iff.1 hq).1
  have hp : ∀ u t, t ∈ sc g.nxt u → (pe (qo to g.own.length L) (i + 1) [] u t ↔ pe (qo to g.own.length L) i dn u t) := fun u t ht => by
    unfold pe
    have e : (qo to g.own.length L).take (i + 1) = (qo to g.own.length L).take i ++ [w] := by
      rw [List.take_add_one, hq]; rfl
    rw [e, List.mem_append, List.mem_singleton, hq]
    constructor
    · rintro ((h | rfl) | ⟨_, h⟩)
      · exact .inl h
      · exact .inr ⟨rfl, hall u ht⟩
      · cases h
    · rintro (h | ⟨h, _⟩)
      · exact .inl (.inl h)
      · cases h; exact .inl (.inr rfl)
  have hl : ∀ u, lfn g.nxt l (qo to g.own.length L) (i + 1) [] u = lfn g.nxt l (qo to g.own.length L) i dn u := fun u => by
    unfold lfn
    congr 1
    refine List.filter_congr fun t ht => ?_
    rw [peB_congr (hp u t ht)]
  refine ⟨h.nd, h.ql, hi, fun u h1 h2 h3 t ht he => h.c0p u h1 h2 h3 t ht ((hp u t ht).1 he), fun u h1 h2 h3 => ?_, h.tk⟩
  rw [hl]
  exact h.c0o u h1 h2 h3
theorem AQ_begin (hto : ∀ u, u ∈ kp to g.own.length → l.getD u false = true) (hT : ∀ u, l.getD u false = true → ∃ t, t ∈ sc g.nxt u ∧ l.getD t false = true) : AQ g p to l [] [] 0 [] := by
  have hq : qo to g.own.length [] = kp to g.own.length := by simp [qo]
  have hnp : ∀ u t, ¬ pe (kp to g.own.length) 0 [] u t := by
    rintro u t (h | ⟨_, h⟩)
    · simp at h
    · cases h
  have hl : ∀ u, lfn g.nxt l (kp to g.own.length) 0 [] u = inM g.nxt l u := fun u => by
    rw [inM_is]
    unfold lfn
    congr 1
    refine List.filter_congr fun t _ => ?_
    rw [peB_false (hnp u t)]
    cases l.getD t false <;> rfl
  refine ⟨?_, ?_, ?_, fun u _ _ _ t _ => ?_, fun u h1 _ _ => ?_, fun j v w hj => by cases hj⟩
  · rw [hq]; exact List.Pairwise.filter _ List.nodup_range
  · rw [hq]; exact hto
  · exact Nat.zero_le _
  · rw [hq]; exact hnp u t
  · rw [hq, hl]
    obtain ⟨t, ht, hlt⟩ := hT u h1
    refine ⟨?_, (fun e => by cases e), fun _ => rfl⟩
    rw [inM_is]
    exact List.length_pos_of_mem (List.mem_filter.2 ⟨ht, hlt⟩)
/-- Where the positions that were taken go. -/
def chL (L : List (Nat × Nat)) (v : Nat) : Nat := ((L.find? fun e => e.1 == v).map Prod.snd).getD 0
theorem chL_at : ∀ {L : List (Nat × Nat)} {j v w : Nat}, (L.map Prod.fst).Nodup → L[j]? = some (v, w) → chL L v = w
  | [], _, _, _, _, h => by cases h
  | e :: L, 0, v, w, _, h => by
    simp only [List.getElem?_cons_zero, Option.some.injEq] at h
    subst h
    simp [chL]
  | e :: L, j + 1, v, w, hn, h => by
    simp only [List.getElem?_cons_succ] at h
    rw [List.map_cons, List.nodup_cons] at hn
    have hv : v ∈ L.map Prod.fst := List.mem_map.2 ⟨(v, w), List.mem_of_getElem? h, rfl⟩
    have hne : e.1 ≠ v := fun e2 => hn.1 (e2 ▸ hv)
    have := chL_at hn.2 h
    unfold chL at this ⊢
    rw [List.find?_cons_of_neg (by simpa using hne)]
    exact this
theorem idx_take {q : List Nat} (hn : q.Nodup) {t k : Nat} (h : t ∈ q.take k) : q.idxOf t < k := by
  obtain ⟨j, hj, e⟩ := List.getElem_of_mem h
  rw [List.length_take] at hj
  rw [List.getElem_take] at e
  subst e
  rw [List.Nodup.idxOf_getElem hn]
  omega
theorem idx_at {q : List Nat} (hn : q.Nodup) {v k : Nat} (h : q[k]? = some v) : q.idxOf v = k := by
  obtain ⟨hk, e⟩ := List.getElem?_eq_some_iff.1 h
  subst e
  exact List.Nodup.idxOf_getElem hn _ _
theorem AQ_fst (h : AQ g p to l L es i dn) : (L.map Prod.fst).Nodup := (List.nodup_append.1 h.nd).2.1
theorem AQ_atr (h : AQ g p to l L es (qo to g.own.length L).length []) : Atr (fun v => g.own.getD v 0) (sc g.nxt) (fun v => l.getD v false = true) (fun v => v ∈ qo to g.own.length L) (fun v => v ∈ kp to g.own.length) p (chL L) fun v => (qo to g.own.length L).idxOf v := by
  have hpe : ∀ u t, pe (qo to g.own.length L) (qo to g.own.length L).length [] u t ↔ t ∈ qo to g.own.length L := fun u t => by
    unfold pe
    rw [List.take_length]
    exact ⟨fun h => h.elim id (fun h => absurd h.2 List.not_mem_nil), .inl⟩
  have hat : ∀ v, v ∈ qo to g.own.length L → ¬ v ∈ kp to g.own.length → ∃ j w, L[j]? = some (v, w) ∧ (qo to g.own.length L)[(kp to g.own.length).length + j]? = some v := fun v hv hn => by
    obtain ⟨⟨v', w⟩, hm, rfl⟩ := List.mem_map.1 ((List.mem_append.1 hv).resolve_left hn)
    obtain ⟨j, hj, e⟩ := List.getElem_of_mem hm
    refine ⟨j, w, List.getElem?_eq_some_iff.2 ⟨hj, e⟩, ?_⟩
    unfold qo
    rw [List.getElem?_append_right (Nat.le_add_right _ _), Nat.add_sub_cancel_left, List.getElem?_map, List.getElem?_eq_some_iff.2 ⟨hj, e⟩]
    rfl
  refine ⟨fun v hv => h.ql v hv, fun v hv => List.mem_append_left _ hv, fun v hv hn ho => ?_, fun v hv hn ho t ht hl => ?_, fun v hv hn ho t ht _ htq => ?_, fun v hv hn ho => ?_⟩
  · obtain ⟨j, w, hj, hq⟩ := hat v hv hn
    obtain ⟨h1, h2⟩ := (h.tk j v w hj).1 ho
    rw [chL_at (AQ_fst h) hj]
    refine ⟨h1, List.mem_of_mem_take h2, ?_⟩
    show List.idxOf _ _ < List.idxOf _ _
    rw [idx_at h.nd hq]
    exact idx_take h.nd h2
  · obtain ⟨j, w, hj, hq⟩ := hat v hv hn
    have h2 := (h.tk j v w hj).2 ho t ht hl
    refine ⟨List.mem_of_mem_take h2, ?_⟩
    show List.idxOf _ _ < List.idxOf _ _
    rw [idx_at h.nd hq]
    exact idx_take h.nd h2
  · exact h.c0p v hv hn ho t ht ((hpe v t).2 htq)
  · obtain ⟨t, ht⟩ := List.exists_mem_of_length_pos (h.c0o v hv hn ho).1
    obtain ⟨h1, h2⟩ := List.mem_filter.1 ht
    simp only [Bool.not_or, Bool.not_not, Bool.and_eq_true, Bool.not_eq_true'] at h2
    exact ⟨t, h1, h2.1, fun e => by rw [pe_iff.2 ((hpe v t).2 e)] at h2; cases h2.2⟩
/-- The set that comes out. -/
def atB (to : List Bool) (n : Nat) (L : List (Nat × Nat)) : List Bool := (List.range n).map fun v => decide (v ∈ qo to n L)
theorem atB_len {n : Nat} : (atB to n L).length = n := by simp [atB]
theorem atB_iff {n : Nat} (hu : u < n) : (atB to n L).getD u false = true ↔ u ∈ qo to n L := by
  simp [atB, List.getD_eq_getElem?_getD, hu]
theorem atB_set {n : Nat} (hu : u < n) : (atB to n L).set u true = atB to n (L ++ [(u, w)]) := by
  refine List.ext_getElem (by simp [atB]) fun j h1 h2 => ?_
  rw [List.getElem_set]
  simp only [atB, List.getElem_map, List.getElem_range]
  by_cases e : u = j
  · subst e
    rw [if_pos rfl, qo_snoc]
    simp
  · rw [if_neg e, qo_snoc]
    simp [Ne.symm e]
theorem qo_at {n i : Nat} (h : (qo to n L)[i]? = some w) {u : Nat} : (qo to n (L ++ [(u, w)]))[i]? = some w := by
  rw [qo_snoc, List.getElem?_append_left (List.getElem?_eq_some_iff.1 h).1]; exact h
theorem qo_drop {n i : Nat} (h : (qo to n L)[i]? = some w) {u : Nat} : (qo to n (L ++ [(u, w)])).drop (i + 1) = (qo to n L).drop (i + 1) ++ [u] := by
  rw [qo_snoc, List.drop_append_of_le_length (List.getElem?_eq_some_iff.1 h).1]
theorem lfn_le (q : List Nat) : lfn g.nxt l q i dn u ≤ (g.nxt.getD u []).length := by
  unfold lfn
  refine Nat.le_trans (List.length_filter_le _ _) ?_
  simp [sc]
end
end Go.Proofs.Ytlckljphakkomaa.Cal
