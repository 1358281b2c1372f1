/- Own texts of the proof, merged, in order. -/
import Derived.Test.YtlckljphakkomaaS15
set_option linter.unusedVariables false
set_option linter.unusedSimpArgs false
namespace Go.Proofs.Ytlckljphakkomaa.Cal
open Go Pl
/-- A list whose first i are set to y. -/
def fiL {α : Type} (y z : α) (n i : Nat) : List α := List.replicate i y ++ List.replicate (n - i) z
theorem fiL_len {α : Type} {y z : α} {n i : Nat} (h : i ≤ n) : (fiL y z n i).length = n := by simp [fiL]; omega
theorem fiL_zero {α : Type} {y z : α} {n : Nat} : fiL y z n 0 = List.replicate n z := by simp [fiL]
theorem fiL_all {α : Type} {y z : α} {n : Nat} : fiL y z n n = List.replicate n y := by simp [fiL]
theorem fiL_next {α : Type} {y z : α} {n i : Nat} (h : i < n) : (fiL y z n i).set i y = fiL y z n (i + 1) := by
  refine List.ext_getElem (by rw [List.length_set, fiL_len (Nat.le_of_lt h), fiL_len h]) fun j h1 h2 => ?_
  rw [List.getElem_set]
  simp only [fiL, List.getElem_append, List.length_replicate, List.getElem_replicate]
  by_cases e : i = j
  · subst e
    rw [if_pos rfl, dif_pos (Nat.lt_succ_self i)]
  · rw [if_neg e]
    by_cases hj : j < i
    · rw [dif_pos hj, dif_pos (by omega)]
    · rw [dif_neg hj, dif_neg (by omega)]
def allS : Spec
  | [.int .i64 n] => some ⟨0 ≤ n ∧ n ≤ 20000, .roB (List.replicate n.toNat true), none⟩
  | _ => none
set_option maxRecDepth 4000 in
set_option maxHeartbeats 4000000 in
theorem all_ok : FSpec Try.prog 25 allS := by
  refine fspec_of htb (fn := Try.f25) (by kernel_rfl) (by kernel_rfl) rfl (fun args r hS => ?_) (fun args r hS hob hl => ?_)
  · unfold allS at hS; split at hS <;> first | (cases hS; done) | (cases hS; exact Nat.le_of_ble_eq_true rfl)
  unfold allS at hS
  split at hS
  case h_2 => cases hS
  rename_i n
  simp only [Option.some.injEq] at hS
  subst hS
  simp only [lenP, mkL, lim] at hl
  dsimp only at hob
  obtain ⟨hn0, hn⟩ := hob
  obtain ⟨k, rfl⟩ := Int.eq_ofNat_of_zero_le hn0
  rw [Int.toNat_natCast]
  obtain ⟨F, hF⟩ : ∃ F : Nat → List Bool, F = fiL true false k := ⟨_, rfl⟩
  have hFl : ∀ i, i ≤ k → (F i).length = k := fun i h => by rw [hF]; exact fiL_len h
  have hFn : ∀ i, i < k → (F i).set i true = F (i + 1) := fun i h => by rw [hF]; exact fiL_next h
  repeat' first
    | with_reducible first | refine awp_seq ?_ | refine awp_block ?_ | refine next_then ?_ | refine next_block ?_ | refine exit_then ?_ | refine ret_then ?_ | refine ret_block ?_ | refine exit_here ?_ | refine awp_exit ?_ | refine awp_ret ?_ | refine awp_skip ?_ | refine awp_label ?_ | refine next_noGoto ?_ | refine ret_noGoto ?_ | refine exit_noGoto ?_ | refine awp_scope ?_
    | ((with_reducible refine exit_past ?_ ?_); exact rfl)
    | ((with_reducible refine isCond ?_); refine awp_condO rfl ?_ ?_ <;> intro hb <;> (try simp only [zH] at hb))
    | ((with_reducible refine isReg ?_); (first | refine awp_textM htb hmz noSp (fun _ => false) rfl rfl ?_ | refine awp_drawM hmo htb hmz noSp (fun _ => false) rfl rfl (by kernel_rfl) ?_); intro m' e' l' ob h; simp only [zE0, zE1, zE2, zE3, zE4, zE5, evp, evx, ev1, evLoad, evStore, evBin, isBoolK, forall_const, z38, tb, Nat.reduceAdd, Nat.reduceSub, Nat.reduceMul, Nat.reduceEqDiff, Nat.reduceLeDiff, Nat.reduceLT, Nat.reduceBEq, Nat.reduceBNe, ↓reduceIte, reduceIte] at h; obtain ⟨rfl, rfl, rfl, rfl⟩ := h; refine ⟨?_, ?_⟩)
    | ((with_reducible refine Ob.mk ?_); first | exact trivial | (intros; omega) | ((repeat' first | apply And.intro | (intro hg; have hg' := hg; try simp only [zH] at hg')) <;> first | assumption | omega | (simp only [zH]; omega)))
  refine awp_loopC (τ := Nat) (fun i => i ≤ k) (fun i => ⟨6, [(9, .int .i64 i), (8, .int .i64 k), (3, .own 2)], [(2, some (.bools (F i)))], []⟩) (fun i => k - i) 0 [] ?_ (Nat.zero_le _) ?_
  · (refine ⟨rfl, ?_, ?_⟩ <;> simp only [zE0, zE1, zE2, zE3, zE4, zE5, evp, evx, ev1, evLoad, evStore, evBin, isBoolK, forall_const, z38, tb, Nat.reduceAdd, Nat.reduceSub, Nat.reduceMul, Nat.reduceEqDiff, Nat.reduceLeDiff, Nat.reduceLT, Nat.reduceBEq, Nat.reduceBNe, ↓reduceIte, reduceIte, zI])
    · rw [List.length_replicate]
    · rw [hF, fiL_zero]
  intro i hi
  have hFi := hFl i hi
  have hFn1 := hFn i
  repeat' first
    | with_reducible first | refine awp_seq ?_ | refine awp_block ?_ | refine next_then ?_ | refine next_block ?_ | refine exit_then ?_ | refine ret_then ?_ | refine ret_block ?_ | refine exit_here ?_ | refine awp_exit ?_ | refine awp_ret ?_ | refine awp_skip ?_ | refine awp_label ?_ | refine next_noGoto ?_ | refine ret_noGoto ?_ | refine exit_noGoto ?_ | refine awp_scope ?_
    | ((with_reducible refine exit_past ?_ ?_); exact rfl)
    | ((with_reducible refine isCond ?_); refine awp_condO rfl ?_ ?_ <;> intro hb <;> (try simp only [zH] at hb))
    | ((with_reducible refine isRegS 7 ?_ ?_); (· exact rfl); (first | refine awp_textM htb hmz noSp (fun _ => false) rfl rfl ?_ | refine awp_drawM hmo htb hmz noSp (fun _ => false) rfl rfl (by kernel_rfl) ?_); intro m' e' l' ob h; simp only [zE0, zE1, zE2, zE3, zE4, zE5, evp, evx, ev1, evLoad, evStore, evBin, isBoolK, forall_const, z38, tb, Nat.reduceAdd, Nat.reduceSub, Nat.reduceMul, Nat.reduceEqDiff, Nat.reduceLeDiff, Nat.reduceLT, Nat.reduceBEq, Nat.reduceBNe, ↓reduceIte, reduceIte] at h; obtain ⟨rfl, rfl, rfl, rfl⟩ := h; refine ⟨?_, ?_⟩)
    | ((with_reducible refine Ob.mk ?_); first | exact trivial | (intros; omega) | ((repeat' first | apply And.intro | (intro hg; have hg' := hg; try simp only [zH] at hg')) <;> first | assumption | omega | (simp only [zH]; omega)))
  · refine back (i + 1) [] ?_ (by omega) (by omega)
    (refine ⟨rfl, ?_, ?_⟩ <;> simp only [zE0, zE1, zE2, zE3, zE4, zE5, evp, evx, ev1, evLoad, evStore, evBin, isBoolK, forall_const, z38, tb, Nat.reduceAdd, Nat.reduceSub, Nat.reduceMul, Nat.reduceEqDiff, Nat.reduceLeDiff, Nat.reduceLT, Nat.reduceBEq, Nat.reduceBNe, ↓reduceIte, reduceIte, zI])
    exact hFn1 (by omega)
  have hie : i = k := by omega
  subst hie
  refine awp_fzN 2 (.roB (F i)) (by simp only [lkr_cons, lkr_nil, fzE, fzA, fzR, fzB, set1, nbeq, Nat.reduceEqDiff, decide_true, decide_false, ↓reduceIte, reduceIte, cond_true, cond_false, List.take_length, Option.some.injEq]; rfl) (by first | exact rfl | (refine ⟨?_, rfl⟩; first | rfl | (intros; rfl))) (by simp only [lkr_cons, lkr_nil, fzE, fzA, fzR, fzB, set1, nbeq, Nat.reduceEqDiff, decide_true, decide_false, ↓reduceIte, reduceIte, cond_true, cond_false, List.take_length, Option.some.injEq]; rfl) (by simp only [lkr_cons, lkr_nil, fzE, fzA, fzR, fzB, set1, nbeq, Nat.reduceEqDiff, decide_true, decide_false, ↓reduceIte, reduceIte, cond_true, cond_false, List.take_length, Option.some.injEq]; rfl) ?_
  repeat' first
    | with_reducible first | refine awp_seq ?_ | refine awp_block ?_ | refine next_then ?_ | refine next_block ?_ | refine exit_then ?_ | refine ret_then ?_ | refine ret_block ?_ | refine exit_here ?_ | refine awp_exit ?_ | refine awp_ret ?_ | refine awp_skip ?_ | refine awp_label ?_ | refine next_noGoto ?_ | refine ret_noGoto ?_ | refine exit_noGoto ?_ | refine awp_scope ?_
    | ((with_reducible refine exit_past ?_ ?_); exact rfl)
    | ((with_reducible refine isCond ?_); refine awp_condO rfl ?_ ?_ <;> intro hb <;> (try simp only [zH] at hb))
    | ((with_reducible refine isReg ?_); (first | refine awp_textM htb hmz noSp (fun _ => false) rfl rfl ?_ | refine awp_drawM hmo htb hmz noSp (fun _ => false) rfl rfl (by kernel_rfl) ?_); intro m' e' l' ob h; simp only [zE0, zE1, zE2, zE3, zE4, zE5, evp, evx, ev1, evLoad, evStore, evBin, isBoolK, forall_const, z38, tb, Nat.reduceAdd, Nat.reduceSub, Nat.reduceMul, Nat.reduceEqDiff, Nat.reduceLeDiff, Nat.reduceLT, Nat.reduceBEq, Nat.reduceBNe, ↓reduceIte, reduceIte] at h; obtain ⟨rfl, rfl, rfl, rfl⟩ := h; refine ⟨?_, ?_⟩)
    | ((with_reducible refine Ob.mk ?_); first | exact trivial | (intros; omega) | ((repeat' first | apply And.intro | (intro hg; have hg' := hg; try simp only [zH] at hg')) <;> first | assumption | omega | (simp only [zH]; omega)))
  refine fin_ret rfl rfl (spec_flat rfl ?_ rfl)
  rw [hF, fiL_all]
  rfl
set_option maxRecDepth 4000 in
set_option maxHeartbeats 4000000 in
theorem solverOf_fg {o p : List Int} {x : List (List Int)} (hob : validB ⟨o, p, x⟩ = true) :
    FG Try.prog 31 [.agg (.cons (.roI o) (.cons (.roI p) (.cons (.roII x) .nil)))] [] 0 fun g => g = ⟨3, .own 0, [(0, some (.box (svA o p x (backL x) 131072 1 2))), (1, some (.ints (List.replicate x.length (-1)))), (2, some (.ints (List.replicate x.length (-1))))]⟩ := by
  have hV := validB_iff.1 hob
  obtain ⟨hn, hpl, hxl, hpos⟩ := id hV
  simp only [Gm.n] at hn hpl hxl
  have hrl : ∀ v, v < x.length → (x.getD v []).length ≤ 64 := fun v h => by
    obtain ⟨⟨a1, a2, a3, a4, _, a6⟩, _⟩ := hpos v (by simp only [Gm.n]; omega)
    exact a6
  have hrb : ∀ v, v < x.length → ∀ j, j < (x.getD v []).length → 0 ≤ (x.getD v []).getD j 0 ∧ (x.getD v []).getD j 0 < o.length := fun v h j hj => by
    obtain ⟨_, hr⟩ := hpos v (by simp only [Gm.n]; omega)
    exact ⟨(hr j hj).1, (hr j hj).2.1⟩
  have hb4 : ∀ i t, i ≤ x.length → (bkI x t i).length ≤ 64 * i := fun i t hi => bkI_len hrl i hi
  obtain ⟨F, hF⟩ : ∃ F : Nat → List Int, F = fiL (-1) 0 x.length := ⟨_, rfl⟩
  have hFl : ∀ i, i ≤ x.length → (F i).length = x.length := fun i h => by rw [hF]; exact fiL_len h
  have hFn : ∀ i, i < x.length → (F i).set i (-1) = F (i + 1) := fun i h => by rw [hF]; exact fiL_next h
  refine fg_of htb (fn := Try.f31) (by kernel_rfl) (by kernel_rfl) rfl (Nat.le_of_ble_eq_true rfl) fun hl => ?_
  simp only [lenP, mkL, lim] at hl
  repeat' first
    | with_reducible first | refine awp_seq ?_ | refine awp_block ?_ | refine next_then ?_ | refine next_block ?_ | refine exit_then ?_ | refine ret_then ?_ | refine ret_block ?_ | refine exit_here ?_ | refine awp_exit ?_ | refine awp_ret ?_ | refine awp_skip ?_ | refine awp_label ?_ | refine next_noGoto ?_ | refine ret_noGoto ?_ | refine exit_noGoto ?_ | refine awp_scope ?_
    | ((with_reducible refine exit_past ?_ ?_); exact rfl)
    | ((with_reducible refine isCond ?_); refine awp_condO rfl ?_ ?_ <;> intro hb <;> (try simp only [zH] at hb))
    | ((with_reducible refine isReg ?_); (first | refine awp_textM htb hmz noSp (fun _ => false) rfl rfl ?_ | refine awp_drawM hmo htb hmz noSp (fun _ => false) rfl rfl (by kernel_rfl) ?_); intro m' e' l' ob h; simp only [zE0, zE1, zE2, zE3, zE4, zE5, evp, evx, ev1, evLoad, evStore, evBin, isBoolK, forall_const, z38, tb, Nat.reduceAdd, Nat.reduceSub, Nat.reduceMul, Nat.reduceEqDiff, Nat.reduceLeDiff, Nat.reduceLT, Nat.reduceBEq, Nat.reduceBNe, ↓reduceIte, reduceIte] at h; obtain ⟨rfl, rfl, rfl, rfl⟩ := h; refine ⟨?_, ?_⟩)
    | ((with_reducible refine Ob.mk ?_); first | exact trivial | (intros; omega) | ((repeat' first | apply And.intro | (intro hg; have hg' := hg; try simp only [zH] at hg')) <;> first | (with_reducible exact True.intro) | assumption | omega | (simp only [zH]; omega)))
  refine awp_loopC (τ := Nat) (fun i => i ≤ x.length) (fun i => ⟨21, [(25, .int .i64 i), (24, .int .i64 x.length), (23, .roII x), (4, .own 15), (1, .rop (.agg (.cons (.roI o) (.cons (.roI p) (.cons (.roII x) .nil)))))], [(15, some (.box (.agg (.cons (.roI o) (.cons (.roI p) (.cons (.roII x) (.cons (.own 8) (.cons (.int .i64 131072) (.cons (.own 10) (.cons (.own 12) .nil)))))))))), (8, some (.rows ((List.range x.length).map fun t => bkI x t i))), (10, some (.ints (F i))), (12, some (.ints (F i)))], []⟩) (fun i => x.length - i) 0 [] ?_ (Nat.zero_le _) ?_
  · (refine ⟨rfl, ?_, ?_⟩ <;> simp only [zE0, zE1, zE2, zE3, zE4, zE5, evp, evx, ev1, evLoad, evStore, evBin, isBoolK, forall_const, z38, tb, Nat.reduceAdd, Nat.reduceSub, Nat.reduceMul, Nat.reduceEqDiff, Nat.reduceLeDiff, Nat.reduceLT, Nat.reduceBEq, Nat.reduceBNe, ↓reduceIte, reduceIte, zI])
    refine ⟨?_, ?_⟩
    · rw [← hxl]
      refine List.ext_getElem (by simp) fun j h1 h2 => ?_
      simp [bkI]
    · rw [hF, fiL_zero, hxl]
  intro i hi
  have hFi := hFl i hi
  repeat' first
    | with_reducible first | refine awp_seq ?_ | refine awp_block ?_ | refine next_then ?_ | refine next_block ?_ | refine exit_then ?_ | refine ret_then ?_ | refine ret_block ?_ | refine exit_here ?_ | refine awp_exit ?_ | refine awp_ret ?_ | refine awp_skip ?_ | refine awp_label ?_ | refine next_noGoto ?_ | refine ret_noGoto ?_ | refine exit_noGoto ?_ | refine awp_scope ?_
    | ((with_reducible refine exit_past ?_ ?_); exact rfl)
    | ((with_reducible refine isCond ?_); refine awp_condO rfl ?_ ?_ <;> intro hb <;> (try simp only [zH] at hb))
    | ((with_reducible refine isRegS 13 ?_ ?_); (· exact rfl); (first | refine awp_textM htb hmz noSp (fun _ => false) rfl rfl ?_ | refine awp_drawM hmo htb hmz noSp (fun _ => false) rfl rfl (by kernel_rfl) ?_); intro m' e' l' ob h; simp only [zE0, zE1, zE2, zE3, zE4, zE5, evp, evx, ev1, evLoad, evStore, evBin, isBoolK, forall_const, z38, tb, Nat.reduceAdd, Nat.reduceSub, Nat.reduceMul, Nat.reduceEqDiff, Nat.reduceLeDiff, Nat.reduceLT, Nat.reduceBEq, Nat.reduceBNe, ↓reduceIte, reduceIte] at h; obtain ⟨rfl, rfl, rfl, rfl⟩ := h; refine ⟨?_, ?_⟩)
    | ((with_reducible refine Ob.mk ?_); first | exact trivial | (intros; omega) | ((repeat' first | apply And.intro | (intro hg; have hg' := hg; try simp only [zH] at hg')) <;> first | (with_reducible exact True.intro) | assumption | omega | (simp only [zH]; omega)))
  · have hil : i < x.length := by omega
    have hrb := hrb i hil
    have hrl := hrl i hil
    have hFn1 := hFn i hil
    have hj0 : ∀ t, bkJ x t i (x.getD i []).length = bkI x t (i + 1) := fun t => bkJ_all
    have hjs : ∀ t j, j < (x.getD i []).length → bkJ x t i (j + 1) = if (x.getD i []).getD j 0 = (t : Int) then bkJ x t i j ++ [(i : Int)] else bkJ x t i j := fun t j h => bkJ_succ h
    have hjl : ∀ t j, (bkJ x t i j).length ≤ 64 * i + 64 := fun t j => by
      have h1 := hb4 i t hi
      have h2 : ((x.getD i []).take j).count (t : Int) ≤ ((x.getD i []).take j).length := List.count_le_length
      have h3 : ((x.getD i []).take j).length ≤ (x.getD i []).length := by rw [List.length_take]; omega
      simp only [bkJ, List.length_append, List.length_replicate]; omega
    generalize hrw : x.getD i [] = rw at *
    refine awp_loopC (τ := Nat) (fun j => j ≤ rw.length) (fun j => ⟨21, [(46, .int .i64 j), (45, .int .i64 rw.length), (44, .roI rw), (5, .int .i64 i), (25, .int .i64 i), (24, .int .i64 x.length), (23, .roII x), (4, .own 15), (1, .rop (.agg (.cons (.roI o) (.cons (.roI p) (.cons (.roII x) .nil)))))], [(15, some (.box (.agg (.cons (.roI o) (.cons (.roI p) (.cons (.roII x) (.cons (.own 8) (.cons (.int .i64 131072) (.cons (.own 10) (.cons (.own 12) .nil)))))))))), (8, some (.rows ((List.range x.length).map fun t => bkJ x t i j))), (10, some (.ints (F (i + 1)))), (12, some (.ints (F (i + 1))))], []⟩) (fun j => rw.length - j) 0 [] ?_ (Nat.zero_le _) ?_
    · (refine ⟨rfl, ?_, ?_⟩ <;> simp only [zE0, zE1, zE2, zE3, zE4, zE5, evp, evx, ev1, evLoad, evStore, evBin, isBoolK, forall_const, z38, tb, Nat.reduceAdd, Nat.reduceSub, Nat.reduceMul, Nat.reduceEqDiff, Nat.reduceLeDiff, Nat.reduceLT, Nat.reduceBEq, Nat.reduceBNe, ↓reduceIte, reduceIte, zI])
      simp only [bkJ_zero]
      exact ⟨trivial, hFn1⟩
    intro j hj
    have hrb := hrb j
    have hget : ∀ t, t < x.length → ((List.range x.length).map fun t => bkJ x t i j).getD t [] = bkJ x t i j := fun t ht => by simp [List.getD_eq_getElem?_getD, ht]
    have hlen : ((List.range x.length).map fun t => bkJ x t i j).length = x.length := by simp
    repeat' first
      | with_reducible first | refine awp_seq ?_ | refine awp_block ?_ | refine next_then ?_ | refine next_block ?_ | refine exit_then ?_ | refine ret_then ?_ | refine ret_block ?_ | refine exit_here ?_ | refine awp_exit ?_ | refine awp_ret ?_ | refine awp_skip ?_ | refine awp_label ?_ | refine next_noGoto ?_ | refine ret_noGoto ?_ | refine exit_noGoto ?_ | refine awp_scope ?_
      | ((with_reducible refine exit_past ?_ ?_); exact rfl)
      | ((with_reducible refine isCond ?_); refine awp_condO rfl ?_ ?_ <;> intro hb <;> (try simp only [zH] at hb))
      | ((with_reducible refine isRegS 13 ?_ ?_); (· exact rfl); (first | refine awp_textM htb hmz noSp (fun _ => false) rfl rfl ?_ | refine awp_drawM hmo htb hmz noSp (fun _ => false) rfl rfl (by kernel_rfl) ?_); intro m' e' l' ob h; simp only [zE0, zE1, zE2, zE3, zE4, zE5, evp, evx, ev1, evLoad, evStore, evBin, isBoolK, forall_const, z38, tb, Nat.reduceAdd, Nat.reduceSub, Nat.reduceMul, Nat.reduceEqDiff, Nat.reduceLeDiff, Nat.reduceLT, Nat.reduceBEq, Nat.reduceBNe, ↓reduceIte, reduceIte] at h; obtain ⟨rfl, rfl, rfl, rfl⟩ := h; refine ⟨?_, ?_⟩)
      | ((with_reducible refine Ob.mk ?_); first | exact trivial | (intros; omega) | ((repeat' first | apply And.intro | (intro hg; have hg' := hg; try simp only [zH] at hg')) <;> first | (with_reducible exact True.intro) | assumption | omega | (simp only [zH]; omega)))
    · have hjr : j < rw.length := by omega
      obtain ⟨c1, c2⟩ := hrb hjr
      have h1 := hget (rw.getD j 0).toNat (by omega)
      have h2 := hjl (rw.getD j 0).toNat j
      rw [h1, hlen]
      exact Ob.mk ⟨⟨⟨⟨⟨by omega, by omega⟩, by omega⟩, by omega⟩, by omega, by omega⟩, by omega⟩
    · have hjr : j < rw.length := by omega
      obtain ⟨c1, c2⟩ := hrb hjr
      refine back (j + 1) [] ?_ (by omega) (by omega)
      (refine ⟨rfl, ?_, ?_⟩ <;> simp only [zE0, zE1, zE2, zE3, zE4, zE5, evp, evx, ev1, evLoad, evStore, evBin, isBoolK, forall_const, z38, tb, Nat.reduceAdd, Nat.reduceSub, Nat.reduceMul, Nat.reduceEqDiff, Nat.reduceLeDiff, Nat.reduceLT, Nat.reduceBEq, Nat.reduceBNe, ↓reduceIte, reduceIte, zI])
      refine map_set (fun ht => ?_) fun s hs => ?_
      · rw [hjs _ j hjr, if_pos (by omega), hget _ ht]
      · rw [hjs _ j hjr, if_neg (by omega)]
    · have hje : j = rw.length := by omega
      subst hje
      refine back (i + 1) [] ?_ (by omega) (by omega)
      (refine ⟨rfl, ?_, ?_⟩ <;> simp only [zE0, zE1, zE2, zE3, zE4, zE5, evp, evx, ev1, evLoad, evStore, evBin, isBoolK, forall_const, z38, tb, Nat.reduceAdd, Nat.reduceSub, Nat.reduceMul, Nat.reduceEqDiff, Nat.reduceLeDiff, Nat.reduceLT, Nat.reduceBEq, Nat.reduceBNe, ↓reduceIte, reduceIte, zI])
      exact List.map_congr_left fun t _ => hj0 t
  have hie : i = x.length := by omega
  subst hie
  refine awp_fzN 8 (.roII ((List.range x.length).map fun t => bkI x t x.length)) (by simp only [lkr_cons, lkr_nil, fzE, fzA, fzR, fzB, set1, nbeq, Nat.reduceEqDiff, decide_true, decide_false, ↓reduceIte, reduceIte, cond_true, cond_false, List.take_length, Option.some.injEq]; rfl) (by first | exact rfl | (refine ⟨?_, rfl⟩; first | rfl | (intros; rfl))) (by simp only [lkr_cons, lkr_nil, fzE, fzA, fzR, fzB, set1, nbeq, Nat.reduceEqDiff, decide_true, decide_false, ↓reduceIte, reduceIte, cond_true, cond_false, List.take_length, Option.some.injEq]; rfl) (by simp only [lkr_cons, lkr_nil, fzE, fzA, fzR, fzB, set1, nbeq, Nat.reduceEqDiff, decide_true, decide_false, ↓reduceIte, reduceIte, cond_true, cond_false, List.take_length, Option.some.injEq]; rfl) ?_
  repeat' first
    | with_reducible first | refine awp_seq ?_ | refine awp_block ?_ | refine next_then ?_ | refine next_block ?_ | refine exit_then ?_ | refine ret_then ?_ | refine ret_block ?_ | refine exit_here ?_ | refine awp_exit ?_ | refine awp_ret ?_ | refine awp_skip ?_ | refine awp_label ?_ | refine next_noGoto ?_ | refine ret_noGoto ?_ | refine exit_noGoto ?_ | refine awp_scope ?_
    | ((with_reducible refine exit_past ?_ ?_); exact rfl)
    | ((with_reducible refine isCond ?_); refine awp_condO rfl ?_ ?_ <;> intro hb <;> (try simp only [zH] at hb))
    | ((with_reducible refine isReg ?_); (first | refine awp_textM htb hmz noSp (fun _ => false) rfl rfl ?_ | refine awp_drawM hmo htb hmz noSp (fun _ => false) rfl rfl (by kernel_rfl) ?_); intro m' e' l' ob h; simp only [zE0, zE1, zE2, zE3, zE4, zE5, evp, evx, ev1, evLoad, evStore, evBin, isBoolK, forall_const, z38, tb, Nat.reduceAdd, Nat.reduceSub, Nat.reduceMul, Nat.reduceEqDiff, Nat.reduceLeDiff, Nat.reduceLT, Nat.reduceBEq, Nat.reduceBNe, ↓reduceIte, reduceIte] at h; obtain ⟨rfl, rfl, rfl, rfl⟩ := h; refine ⟨?_, ?_⟩)
    | ((with_reducible refine Ob.mk ?_); first | exact trivial | (intros; omega) | ((repeat' first | apply And.intro | (intro hg; have hg' := hg; try simp only [zH] at hg')) <;> first | assumption | omega | (simp only [zH]; omega)))
  have hFe : F x.length = List.replicate x.length (-1) := by rw [hF, fiL_all]
  refine fin_ret rfl rfl (gq_of (⟨3, .own 0, [(0, some (.box (svA o p x (backL x) 131072 1 2))), (1, some (.ints (List.replicate x.length (-1)))), (2, some (.ints (List.replicate x.length (-1))))]⟩) ([(0, 15), (1, 10), (2, 12)]) rfl rfl (imp_eq rfl) ?_)
  simp only [grR, zE0, zE1, zE2, zE3, zE4, zE5, evp, evx, ev1, evLoad, evStore, evBin, isBoolK, forall_const, z38, tb, Nat.reduceAdd, Nat.reduceSub, Nat.reduceMul, Nat.reduceEqDiff, Nat.reduceLeDiff, Nat.reduceLT, Nat.reduceBEq, Nat.reduceBNe, ↓reduceIte, reduceIte]
  exact ⟨⟨rfl, rfl⟩, congrArg (fun l => some (Blk.ints l)) hFe⟩
end Go.Proofs.Ytlckljphakkomaa.Cal
namespace Go.Proofs.Ytlckljphakkomaa.Cal
open Go
section
variable {P : Program} {ro : Option Nat} {N κ : Nat} {tb : Nat → Option TI}
theorem awpL_callP {o : Oper} {x : Operand} {xs : List Operand} {ts : Array TypeId} {f m : Nat} {caps : AV} {env : List (Nat × AV)} {l : List (Nat × Option Blk)} {ms : List Nat} (kk : List Nat) {args : List AV} {rin : List (Nat × Option Blk)} {E : List PanicEntry → Prop} {Q0 : GR → Prop} {Q : Exit → St → Prop}
    (hS : FP P f args rin kk.length E Q0)
    (ho : o.op = .call ⟨.value x, xs.toArray, ts⟩) (hgd : o.guard.isNone = true) (hd : dstOK N [o] = true) (hf : opv (lke env) x = .fn f caps) (hpc : properL caps = true)
    (hargs : appL (ofL (opv (lke env)) xs) caps = ren (rhoC kk m) (mkL args)) (hmen : men (ltK kk.length) (mkL args) = true) (hkk : kkOK m kk = true) (hκ : Nat.ble κ m = true)
    (hrin : rinR kk m l rin)
    (next : ∀ gm gv gr, Q0 ⟨gm, gv, gr⟩ → ∀ m' e' l', (m + (gm - kk.length) = m' ∧ putE o.dst (ren (rhoC kk m) gv) env = e' ∧ outR kk m gr l = l') → Q .normal (CS.st ⟨m', e', l', ms⟩))
    (pan : ∀ c, E c → Q (.panic c) (CS.st ⟨m, env, dels kk l, ms⟩)) : awpL P ro N κ [o] (CS.st ⟨m, env, l, ms⟩) Q := by
  refine awpL_callp (s := ⟨m, env, l, ms⟩) kk hS ho hgd hd hf hpc hargs hmen hkk hκ (fun j B hj => ?_) (fun g hg hle => next g.m g.val g.rs hg _ _ _ ⟨rfl, rfl, rfl⟩) pan
  obtain ⟨h1, h2, h3⟩ := rinR_mem hrin (mem_keysOf hj).2
  rw [Nat.blt_eq] at h1
  exact ⟨h1, h2, h3⟩
/-- A panic with a value of a struct without fields. -/
def panicV (t : Nat) : List PanicEntry := [{ v := .iface t (.agg #[]), recovered := false }]
theorem awp_panicS {id t d1 d2 m : Nat} {o1 o2 o3 : Oper} {env : List (Nat × AV)} {l : List (Nat × Option Blk)} {ms : List Nat} {Q : Exit → St → Prop}
    (hb : ∀ w, (Instr.build t #[]).run P w = .ok (.agg #[]) w) (hi : ∀ w, (Instr.makeInterface t (.agg #[])).run P w = .ok (.iface t (.agg #[])) w)
    (h1 : o1.op = .build t #[] ∧ o1.guard = none ∧ o1.dst = some d1) (h2 : o2.op = .makeInterface t (.tmp d1) ∧ o2.guard = none ∧ o2.dst = some d2) (h3 : o3.op = .panic (.tmp d2) ∧ o3.guard = none) (hd : Nat.blt d1 N = true ∧ Nat.blt d2 N = true)
    (h : Q (.panic (panicV t)) (CS.st ⟨m, (d2, .any) :: (d1, .any) :: env, l, ms⟩)) : awp P ro N κ (.region id #[o1, o2, o3] false) (CS.st ⟨m, env, l, ms⟩) Q := by
  intro n K Z ν w a hg
  simp only [Nat.blt_eq] at hd
  refine wpIn_region_lit (l := [o1, o2, o3]) ?_
  have hw : ∀ (o : Oper) (b : Act), o.guard = none → Region.wanted o (yielded #[o1, o2, o3] b.tmps) = true := fun o b ho => wanted_none (by rw [ho]; rfl) _
  have s1 : (o1.semAt (FF ro).round a.eval).run P w = .ok (.value (.agg #[])) w := by
    rw [semAt_plain (by rw [h1.1]; intro c hc; cases hc)]
    have := hb w
    simp [execOp, h1.1, Sem.run_bind, Result.andThen, this, Sem.run]
  have e1 : (a.put o1.dst (.agg #[])).eval (.tmp d1) = .agg #[] := by
    have := hg.size
    simp [h1.2.2, Act.put, Act.eval, Array.getD_eq_getD_getElem?, this, hd.1]
  have s2 : (o2.semAt (FF ro).round (a.put o1.dst (.agg #[])).eval).run P w = .ok (.value (.iface t (.agg #[]))) w := by
    rw [semAt_plain (by rw [h2.1]; intro c hc; cases hc)]
    have := hi w
    simp [execOp, h2.1, e1, Sem.run_bind, Result.andThen, this, Sem.run]
  have e2 : ((a.put o1.dst (.agg #[])).put o2.dst (.iface t (.agg #[]))).eval (.tmp d2) = .iface t (.agg #[]) := by
    have := hg.size
    simp [h1.2.2, h2.2.2, Act.put, Act.eval, Array.getD_eq_getD_getElem?, this, hd.2]
  have s3 : (o3.semAt (FF ro).round ((a.put o1.dst (.agg #[])).put o2.dst (.iface t (.agg #[]))).eval).run P w = .halt (.panic (.iface t (.agg #[]))) w := by
    rw [semAt_plain (by rw [h3.1]; intro c hc; cases hc)]
    simp [execOp, h3.1, e2, Instr.panic, goPanic, Sem.run_bind, Result.andThen, Sem.run]
  simp only [wpListIn, hw o1 _ h1.2.1, hw o2 _ h2.2.1, hw o3 _ h3.2, if_true]
  refine ⟨fun f hf => trivial, ?_⟩
  rw [s1]
  refine ⟨fun f hf => trivial, ?_⟩
  rw [s2]
  refine ⟨fun f hf => trivial, ?_⟩
  rw [s3]
  have g1 := Good.setd (o := o1.dst) (v := .any) (y := .agg #[]) hg (fun d h => by rw [h1.2.2] at h; cases h; exact hd.1) ⟨_, rfl⟩ rfl
  have g2 := Good.setd (o := o2.dst) (v := .any) (y := .iface t (.agg #[])) g1 (fun d h => by rw [h2.2.2] at h; cases h; exact hd.2) ⟨_, rfl⟩ rfl
  refine post_now ?_ h
  rw [h1.2.2, h2.2.2] at g2
  have he : (CS.st ⟨m, (d2, .any) :: (d1, .any) :: env, l, ms⟩) = { (CS.st ⟨m, env, l, ms⟩) with env := putO (putO (lke env) (some d1) .any) (some d2) .any } := by
    show St.mk _ _ _ _ = St.mk _ _ _ _
    congr 1
  rw [he, h1.2.2, h2.2.2]
  exact g2
theorem retP {fn : Func} {E : List PanicEntry → Prop} {Q : CS → AV → Prop} {s : St} (h : exitQ tb fn κ Q .ret s) : exitQP tb fn κ E Q .ret s := h
theorem normalP {fn : Func} {E : List PanicEntry → Prop} {Q : CS → AV → Prop} {s : St} (h : exitQ tb fn κ Q .normal s) : exitQP tb fn κ E Q .normal s := h
theorem panP {fn : Func} {E : List PanicEntry → Prop} {Q : CS → AV → Prop} {c : List PanicEntry} {cs : CS} (hE : E c) (h1 : ∀ k, k ∈ cs.ms → lkr cs.rs k = some .dfr) (h2 : cs.ms.Nodup) : exitQP tb fn κ E Q (.panic c) cs.st := ⟨hE, cs, rfl, h1, h2⟩
theorem pan_then {next : St → Prop} {Q : Exit → St → Prop} {c : List PanicEntry} {s : St} (h : Q (.panic c) s) : thenQ next Q (.panic c) s := h
theorem pan_block {id : Nat} {Q : Exit → St → Prop} {c : List PanicEntry} {s : St} (h : Q (.panic c) s) : blockQ id Q (.panic c) s := h
theorem pan_noGoto {Q : Exit → St → Prop} {c : List PanicEntry} {s : St} (h : Q (.panic c) s) : noGotoQ Q (.panic c) s := h
end
end Go.Proofs.Ytlckljphakkomaa.Cal
namespace Go.Proofs.Ytlckljphakkomaa.Cal
open Go Pl
/-- What a recursion panics with that asks for too many games. -/
def refusedV : List PanicEntry := panicV 66
set_option maxRecDepth 4000 in
set_option maxHeartbeats 4000000 in
theorem count_fp {o p : List Int} {x B : List (List Int)} {left : Int} {W C : List Int} (hl0 : 0 ≤ left) (hl1 : left ≤ 131072) :
    FP Try.prog 44 [.own 0] [(0, some (.box (svA o p x B left 1 2))), (1, some (.ints W)), (2, some (.ints C))] 3 (fun c => c = refusedV ∧ left = 0) fun g => 0 < left ∧ g = ⟨3, resV [], [(0, some (.box (svA o p x B (left - 1) 1 2))), (1, some (.ints W)), (2, some (.ints C))]⟩ := by
  refine fp_of htb (fn := Try.f44) (by kernel_rfl) (by kernel_rfl) rfl (Nat.le_of_ble_eq_true rfl) fun hl => ?_
  simp only [lenP, mkL, lim] at hl
  repeat' first
    | with_reducible first | refine awp_seq ?_ | refine awp_block ?_ | refine next_then ?_ | refine next_block ?_ | refine exit_then ?_ | refine ret_then ?_ | refine ret_block ?_ | refine exit_here ?_ | refine awp_exit ?_ | refine awp_ret ?_ | refine awp_skip ?_ | refine awp_label ?_ | refine next_noGoto ?_ | refine ret_noGoto ?_ | refine exit_noGoto ?_ | refine awp_scope ?_
    | ((with_reducible refine exit_past ?_ ?_); exact rfl)
    | ((with_reducible refine isCond ?_); refine awp_condO rfl ?_ ?_ <;> intro hb <;> (try simp only [zH] at hb))
    | ((with_reducible refine isRegS 2 ?_ ?_); (· exact rfl); (first | refine awp_textM htb hmz noSp (fun _ => false) rfl rfl ?_ | refine awp_drawM hmo htb hmz noSp (fun _ => false) rfl rfl (by kernel_rfl) ?_); intro m' e' l' ob h; simp only [zE0, zE1, zE2, zE3, zE4, zE5, evp, evx, ev1, evLoad, evStore, evBin, isBoolK, forall_const, z38, tb, Nat.reduceAdd, Nat.reduceSub, Nat.reduceMul, Nat.reduceEqDiff, Nat.reduceLeDiff, Nat.reduceLT, Nat.reduceBEq, Nat.reduceBNe, ↓reduceIte, reduceIte, svA] at h; obtain ⟨rfl, rfl, rfl, rfl⟩ := h; refine ⟨?_, ?_⟩)
    | ((with_reducible refine Ob.mk ?_); first | exact trivial | (intros; omega) | ((repeat' first | apply And.intro | (intro hg; have hg' := hg; try simp only [zH] at hg')) <;> first | assumption | omega | (simp only [zH]; omega)))
  · exact awp_panicS (d1 := 14) (d2 := 15) (fun w => by kernel_rfl) (fun w => by kernel_rfl) ⟨rfl, rfl, rfl⟩ ⟨rfl, rfl, rfl⟩ ⟨rfl, rfl⟩ ⟨rfl, rfl⟩ (panP ⟨rfl, by omega⟩ (fun k hk => by cases hk) List.nodup_nil)
  · refine normalP ?_
    refine fin_normal rfl rfl (gq_of ⟨3, resV [], [(0, some (.box (svA o p x B (left - 1) 1 2))), (1, some (.ints W)), (2, some (.ints C))]⟩ [] ⟨by omega, rfl⟩ rfl (imp_eq rfl) ?_)
    simp only [grR, zE0, zE1, zE2, zE3, zE4, zE5, evp, evx, ev1, evLoad, evStore, evBin, isBoolK, forall_const, z38, tb, Nat.reduceAdd, Nat.reduceSub, Nat.reduceMul, Nat.reduceEqDiff, Nat.reduceLeDiff, Nat.reduceLT, Nat.reduceBEq, Nat.reduceBNe, ↓reduceIte, reduceIte, svA]
end Go.Proofs.Ytlckljphakkomaa.Cal
namespace Go.Proofs.Ytlckljphakkomaa.Cal
open Go Pl
/-- They are written down. -/
theorem take1_fg {o p : List Int} {x B : List (List Int)} {left : Int} {W C : List Int} {es : List (Int × Int × Nat)} {c : Nat} {v w : Int} :
    FG Try.prog 47 [.int .i64 v, .int .i64 w, .own 3] [(0, some (.box (svA o p x B left 1 2))), (1, some (.ints W)), (2, some (.ints C)), (3, some (.box (.own 4))), (4, some (.mp es c))] 5 fun g => g = ⟨5, resV [], [(0, some (.box (svA o p x B left 1 2))), (1, some (.ints W)), (2, some (.ints C)), (3, some (.box (.own 4))), (4, some (.mp (mput v w c es) (mclk v c es)))]⟩ := by
  refine fg_of htb (fn := Try.f47) (by kernel_rfl) (by kernel_rfl) rfl (Nat.le_of_ble_eq_true rfl) fun hl => ?_
  simp only [lenP, mkL, lim] at hl
  repeat' first
    | with_reducible first | refine awp_seq ?_ | refine awp_block ?_ | refine next_then ?_ | refine next_block ?_ | refine exit_then ?_ | refine ret_then ?_ | refine ret_block ?_ | refine exit_here ?_ | refine awp_exit ?_ | refine awp_ret ?_ | refine awp_skip ?_ | refine awp_label ?_ | refine next_noGoto ?_ | refine ret_noGoto ?_ | refine exit_noGoto ?_ | refine awp_scope ?_
    | ((with_reducible refine exit_past ?_ ?_); exact rfl)
    | ((with_reducible refine isCond ?_); refine awp_condO rfl ?_ ?_ <;> intro hb <;> (try simp only [zH] at hb))
    | ((with_reducible refine isReg ?_); (first | refine awp_textM htb hmz noSp (fun _ => false) rfl rfl ?_ | refine awp_drawM hmo htb hmz noSp (fun _ => false) rfl rfl (by kernel_rfl) ?_); intro m' e' l' ob h; simp only [zE0, zE1, zE2, zE3, zE4, zE5, evp, evx, ev1, evLoad, evStore, evBin, isBoolK, forall_const, z38, tb, Nat.reduceAdd, Nat.reduceSub, Nat.reduceMul, Nat.reduceEqDiff, Nat.reduceLeDiff, Nat.reduceLT, Nat.reduceBEq, Nat.reduceBNe, ↓reduceIte, reduceIte, svA] at h; obtain ⟨rfl, rfl, rfl, rfl⟩ := h; refine ⟨?_, ?_⟩)
    | ((with_reducible refine Ob.mk ?_); first | exact trivial | (intros; omega) | ((repeat' first | apply And.intro | (intro hg; have hg' := hg; try simp only [zH] at hg')) <;> first | assumption | omega | (simp only [zH]; omega)))
  refine fin_normal rfl rfl (gq_of (⟨5, resV [], [(0, some (.box (svA o p x B left 1 2))), (1, some (.ints W)), (2, some (.ints C)), (3, some (.box (.own 4))), (4, some (.mp (mput v w c es) (mclk v c es)))]⟩) ([]) rfl rfl (imp_eq rfl) ?_)
  simp only [grR, zE0, zE1, zE2, zE3, zE4, zE5, evp, evx, ev1, evLoad, evStore, evBin, isBoolK, forall_const, z38, tb, Nat.reduceAdd, Nat.reduceSub, Nat.reduceMul, Nat.reduceEqDiff, Nat.reduceLeDiff, Nat.reduceLT, Nat.reduceBEq, Nat.reduceBNe, ↓reduceIte, reduceIte, svA]
/-- They are won by the other player. -/
theorem take2_fg {o p : List Int} {x B : List (List Int)} {left : Int} {W C : List Int} {pl : Int} {v : Nat} {w : Int} (hv : v < o.length) (hW : W.length = o.length) (hC : C.length = o.length) (hpl : pl = 0 ∨ pl = 1) :
    FG Try.prog 50 [.int .i64 v, .int .i64 w, .own 3, .own 4] [(0, some (.box (svA o p x B left 1 2))), (1, some (.ints W)), (2, some (.ints C)), (3, some (.box (.own 0))), (4, some (.box (.int .i64 pl)))] 5 fun g => g = ⟨5, resV [], [(0, some (.box (svA o p x B left 1 2))), (1, some (.ints (W.set v (1 - pl)))), (2, some (.ints (C.set v (if o.getD v 0 = 1 - pl then w else -1)))), (3, some (.box (.own 0))), (4, some (.box (.int .i64 pl)))]⟩ := by
  refine fg_of htb (fn := Try.f50) (by kernel_rfl) (by kernel_rfl) rfl (Nat.le_of_ble_eq_true rfl) fun hl => ?_
  simp only [lenP, mkL, lim] at hl
  refine awp_cut ([_, _, _, _, _]) ([]) rfl rfl ?_
  refine awpL_text htb hmz noSp (fun _ => false) rfl rfl rfl ?_; intro m' e' l' ob h; simp only [zE0, zE1, zE2, zE3, zE4, zE5, evp, evx, ev1, evLoad, evStore, evBin, isBoolK, forall_const, z38, tb, Nat.reduceAdd, Nat.reduceSub, Nat.reduceMul, Nat.reduceEqDiff, Nat.reduceLeDiff, Nat.reduceLT, Nat.reduceBEq, Nat.reduceBNe, ↓reduceIte, reduceIte, svA] at h; obtain ⟨rfl, rfl, rfl, rfl⟩ := h; refine ⟨?_, next_then ?_⟩
  · first | ((with_reducible refine Ob.mk ?_); first | exact trivial | (intros; omega) | ((repeat' first | apply And.intro | (intro hg; have hg' := hg; try simp only [zH] at hg')) <;> first | assumption | omega | (simp only [zH]; omega))) | skip
  refine awpL_callG ([0, 1, 2]) (win_fg (o := o) (p := p) (x := x) (B := B) (left := left) (W := W) (C := C) (v := v) (pl := 1 - pl) (to := w) hv hW hC) rfl rfl rfl rfl rfl rfl rfl rfl rfl (by simp only [rinR, rhoC, zE0, zE1, zE2, zE3, zE4, zE5, evp, evx, ev1, evLoad, evStore, evBin, isBoolK, forall_const, z38, tb, Nat.reduceAdd, Nat.reduceSub, Nat.reduceMul, Nat.reduceEqDiff, Nat.reduceLeDiff, Nat.reduceLT, Nat.reduceBEq, Nat.reduceBNe, ↓reduceIte, reduceIte, svA]) ?_; intro gm gv gr hq m' e' l' h; simp only [GR.mk.injEq] at hq; obtain ⟨rfl, rfl, rfl⟩ := hq; simp only [rhoC, outR, renR, dels, zE0, zE1, zE2, zE3, zE4, zE5, evp, evx, ev1, evLoad, evStore, evBin, isBoolK, forall_const, z38, tb, Nat.reduceAdd, Nat.reduceSub, Nat.reduceMul, Nat.reduceEqDiff, Nat.reduceLeDiff, Nat.reduceLT, Nat.reduceBEq, Nat.reduceBNe, ↓reduceIte, reduceIte, svA] at h; obtain ⟨rfl, rfl, rfl⟩ := h; refine next_then ?_
  refine awpL_text htb hmz noSp (fun _ => false) rfl rfl rfl ?_; intro m' e' l' ob h; simp only [zE0, zE1, zE2, zE3, zE4, zE5, evp, evx, ev1, evLoad, evStore, evBin, isBoolK, forall_const, z38, tb, Nat.reduceAdd, Nat.reduceSub, Nat.reduceMul, Nat.reduceEqDiff, Nat.reduceLeDiff, Nat.reduceLT, Nat.reduceBEq, Nat.reduceBNe, ↓reduceIte, reduceIte, svA] at h; obtain ⟨rfl, rfl, rfl, rfl⟩ := h; refine ⟨?_, ?_⟩
  · first | ((with_reducible refine Ob.mk ?_); first | exact trivial | (intros; omega) | ((repeat' first | apply And.intro | (intro hg; have hg' := hg; try simp only [zH] at hg')) <;> first | assumption | omega | (simp only [zH]; omega))) | skip
  repeat' first
    | with_reducible first | refine awp_seq ?_ | refine awp_block ?_ | refine next_then ?_ | refine next_block ?_ | refine exit_then ?_ | refine ret_then ?_ | refine ret_block ?_ | refine exit_here ?_ | refine awp_exit ?_ | refine awp_ret ?_ | refine awp_skip ?_ | refine awp_label ?_ | refine next_noGoto ?_ | refine ret_noGoto ?_ | refine exit_noGoto ?_ | refine awp_scope ?_
    | ((with_reducible refine exit_past ?_ ?_); exact rfl)
    | ((with_reducible refine isCond ?_); refine awp_condO rfl ?_ ?_ <;> intro hb <;> (try simp only [zH] at hb))
    | ((with_reducible refine isReg ?_); (first | refine awp_textM htb hmz noSp (fun _ => false) rfl rfl ?_ | refine awp_drawM hmo htb hmz noSp (fun _ => false) rfl rfl (by kernel_rfl) ?_); intro m' e' l' ob h; simp only [zE0, zE1, zE2, zE3, zE4, zE5, evp, evx, ev1, evLoad, evStore, evBin, isBoolK, forall_const, z38, tb, Nat.reduceAdd, Nat.reduceSub, Nat.reduceMul, Nat.reduceEqDiff, Nat.reduceLeDiff, Nat.reduceLT, Nat.reduceBEq, Nat.reduceBNe, ↓reduceIte, reduceIte, svA] at h; obtain ⟨rfl, rfl, rfl, rfl⟩ := h; refine ⟨?_, ?_⟩)
    | ((with_reducible refine Ob.mk ?_); first | exact trivial | (intros; omega) | ((repeat' first | apply And.intro | (intro hg; have hg' := hg; try simp only [zH] at hg')) <;> first | assumption | omega | (simp only [zH]; omega)))
  refine fin_normal rfl rfl (gq_of (⟨5, resV [], [(0, some (.box (svA o p x B left 1 2))), (1, some (.ints (W.set v (1 - pl)))), (2, some (.ints (C.set v (if o.getD v 0 = 1 - pl then w else -1)))), (3, some (.box (.own 0))), (4, some (.box (.int .i64 pl)))]⟩) ([]) rfl rfl (imp_eq rfl) ?_)
  simp only [grR, zE0, zE1, zE2, zE3, zE4, zE5, evp, evx, ev1, evLoad, evStore, evBin, isBoolK, forall_const, z38, tb, Nat.reduceAdd, Nat.reduceSub, Nat.reduceMul, Nat.reduceEqDiff, Nat.reduceLeDiff, Nat.reduceLT, Nat.reduceBEq, Nat.reduceBNe, ↓reduceIte, reduceIte, svA]
end Go.Proofs.Ytlckljphakkomaa.Cal
