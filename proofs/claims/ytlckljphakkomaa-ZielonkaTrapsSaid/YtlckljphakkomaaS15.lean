/- Own texts of the proof, merged, in order. -/
import Derived.Test.YtlckljphakkomaaS14
set_option linter.unusedVariables false
set_option linter.unusedSimpArgs false
namespace Go.Proofs.Ytlckljphakkomaa.Cal
open Go Pl
/-- The solver, as it lies: its region's slices under keys kW and kC. -/
def svA (o p : List Int) (x B : List (List Int)) (left : Int) (kW kC : Nat) : AV := .agg (.cons (.roI o) (.cons (.roI p) (.cons (.roII x) (.cons (.roII B) (.cons (.int .i64 left) (.cons (.own kW) (.cons (.own kC) .nil)))))))
set_option maxRecDepth 4000 in
set_option maxHeartbeats 4000000 in
theorem win_fg {o p : List Int} {x B : List (List Int)} {left : Int} {W C : List Int} {v : Nat} {pl to : Int} (hv : v < o.length) (hW : W.length = o.length) (hC : C.length = o.length) :
    FG Try.prog 51 [.own 0, .int .i64 v, .int .i64 pl, .int .i64 to] [(0, some (.box (svA o p x B left 1 2))), (1, some (.ints W)), (2, some (.ints C))] 3 fun g => g = ⟨3, resV [], [(0, some (.box (svA o p x B left 1 2))), (1, some (.ints (W.set v pl))), (2, some (.ints (C.set v (if o.getD v 0 = pl then to else -1))))]⟩ := by
  have hC2 : (C.set v (-1)).length = o.length := by rw [List.length_set, hC]
  refine fg_of htb (fn := Try.f51) (by kernel_rfl) (by kernel_rfl) rfl (Nat.le_of_ble_eq_true rfl) fun hl => ?_
  simp only [lenP, mkL, lim] at hl
  repeat' first
    | with_reducible first | refine awp_seq ?_ | refine awp_block ?_ | refine next_then ?_ | refine next_block ?_ | refine exit_then ?_ | refine ret_then ?_ | refine ret_block ?_ | refine exit_here ?_ | refine awp_exit ?_ | refine awp_ret ?_ | refine awp_skip ?_ | refine awp_label ?_ | refine next_noGoto ?_ | refine ret_noGoto ?_ | refine exit_noGoto ?_ | refine awp_scope ?_
    | ((with_reducible refine exit_past ?_ ?_); exact rfl)
    | ((with_reducible refine isCond ?_); refine awp_condO rfl ?_ ?_ <;> intro hb <;> (try simp only [zH] at hb))
    | ((with_reducible refine isReg ?_); (first | refine awp_textM htb hmz noSp (fun _ => false) rfl rfl ?_ | refine awp_drawM hmo htb hmz noSp (fun _ => false) rfl rfl (by kernel_rfl) ?_); intro m' e' l' ob h; simp only [zE0, zE1, zE2, zE3, zE4, zE5, evp, evx, ev1, evLoad, evStore, evBin, isBoolK, forall_const, z38, tb, Nat.reduceAdd, Nat.reduceSub, Nat.reduceMul, Nat.reduceEqDiff, Nat.reduceLeDiff, Nat.reduceLT, Nat.reduceBEq, Nat.reduceBNe, ↓reduceIte, reduceIte, svA] at h; obtain ⟨rfl, rfl, rfl, rfl⟩ := h; refine ⟨?_, ?_⟩)
    | ((with_reducible refine Ob.mk ?_); first | exact trivial | (intros; omega) | ((repeat' first | apply And.intro | (intro hg; have hg' := hg; try simp only [zH] at hg')) <;> first | assumption | omega | (simp only [zH]; omega)))
  · refine fin_normal rfl rfl (gq_of (⟨3, resV [], [(0, some (.box (svA o p x B left 1 2))), (1, some (.ints (W.set v pl))), (2, some (.ints (C.set v (if o.getD v 0 = pl then to else -1))))]⟩) ([]) rfl rfl (imp_eq rfl) ?_)
    simp only [grR, zE0, zE1, zE2, zE3, zE4, zE5, evp, evx, ev1, evLoad, evStore, evBin, isBoolK, forall_const, z38, tb, Nat.reduceAdd, Nat.reduceSub, Nat.reduceMul, Nat.reduceEqDiff, Nat.reduceLeDiff, Nat.reduceLT, Nat.reduceBEq, Nat.reduceBNe, ↓reduceIte, reduceIte, svA]
    rw [List.set_set, if_pos hb]
  · refine fin_normal rfl rfl (gq_of (⟨3, resV [], [(0, some (.box (svA o p x B left 1 2))), (1, some (.ints (W.set v pl))), (2, some (.ints (C.set v (if o.getD v 0 = pl then to else -1))))]⟩) ([]) rfl rfl (imp_eq rfl) ?_)
    simp only [grR, zE0, zE1, zE2, zE3, zE4, zE5, evp, evx, ev1, evLoad, evStore, evBin, isBoolK, forall_const, z38, tb, Nat.reduceAdd, Nat.reduceSub, Nat.reduceMul, Nat.reduceEqDiff, Nat.reduceLeDiff, Nat.reduceLT, Nat.reduceBEq, Nat.reduceBNe, ↓reduceIte, reduceIte, svA]
    rw [if_neg hb]
/-- A successor in a set, or -1. -/
def smF (l : List Bool) : List Int → Int
  | [] => -1
  | t :: r => if l.getD t.toNat false = true then t else smF l r
theorem smF_at {l : List Bool} : ∀ {row : List Int} {j : Nat}, j < row.length → (∀ i, i < j → l.getD (row.getD i 0).toNat false = false) → l.getD (row.getD j 0).toNat false = true → smF l row = row.getD j 0
  | t :: r, 0, _, _, h => if_pos h
  | t :: r, j + 1, hj, hn, h => by
    have h0 : l.getD t.toNat false = false := hn 0 (Nat.succ_pos j)
    unfold smF
    rw [if_neg (by rw [h0]; decide)]
    exact smF_at (row := r) (by simpa using hj) (fun i hi => hn (i + 1) (by omega)) h
theorem smF_none {l : List Bool} : ∀ {row : List Int}, (∀ i, i < row.length → l.getD (row.getD i 0).toNat false = false) → smF l row = -1
  | [], _ => rfl
  | t :: r, hn => by
    have h0 : l.getD t.toNat false = false := hn 0 (Nat.succ_pos _)
    unfold smF
    rw [if_neg (by rw [h0]; decide)]
    exact smF_none fun i hi => hn (i + 1) (by simpa using hi)
/-- How many successors are in a set. -/
def inN (l : List Bool) (row : List Int) : Nat := row.countP fun t => l.getD t.toNat false
set_option maxRecDepth 4000 in
set_option maxHeartbeats 4000000 in
theorem some_fg {o p : List Int} {x B : List (List Int)} {left : Int} {W C : List Int} {l : List Bool} {v : Nat} (hv : v < x.length) (hr : ∀ j, j < (x.getD v []).length → 0 ≤ (x.getD v []).getD j 0 ∧ (x.getD v []).getD j 0 < (l.length : Int)) (h64 : (x.getD v []).length ≤ 64) :
    FG Try.prog 33 [.own 0, .int .i64 v, .roB l] [(0, some (.box (svA o p x B left 1 2))), (1, some (.ints W)), (2, some (.ints C))] 3 fun g => g = ⟨3, .int .i64 (smF l (x.getD v [])), [(0, some (.box (svA o p x B left 1 2))), (1, some (.ints W)), (2, some (.ints C))]⟩ := by
  refine fg_of htb (fn := Try.f33) (by kernel_rfl) (by kernel_rfl) rfl (Nat.le_of_ble_eq_true rfl) fun hl => ?_
  simp only [lenP, mkL, lim] at hl
  repeat' first
    | with_reducible first | refine awp_seq ?_ | refine awp_block ?_ | refine next_then ?_ | refine next_block ?_ | refine exit_then ?_ | refine ret_then ?_ | refine ret_block ?_ | refine exit_here ?_ | refine awp_exit ?_ | refine awp_ret ?_ | refine awp_skip ?_ | refine awp_label ?_ | refine next_noGoto ?_ | refine ret_noGoto ?_ | refine exit_noGoto ?_ | refine awp_scope ?_
    | ((with_reducible refine exit_past ?_ ?_); exact rfl)
    | ((with_reducible refine isCond ?_); refine awp_condO rfl ?_ ?_ <;> intro hb <;> (try simp only [zH] at hb))
    | ((with_reducible refine isReg ?_); (first | refine awp_textM htb hmz noSp (fun _ => false) rfl rfl ?_ | refine awp_drawM hmo htb hmz noSp (fun _ => false) rfl rfl (by kernel_rfl) ?_); intro m' e' l' ob h; simp only [zE0, zE1, zE2, zE3, zE4, zE5, evp, evx, ev1, evLoad, evStore, evBin, isBoolK, forall_const, z38, tb, Nat.reduceAdd, Nat.reduceSub, Nat.reduceMul, Nat.reduceEqDiff, Nat.reduceLeDiff, Nat.reduceLT, Nat.reduceBEq, Nat.reduceBNe, ↓reduceIte, reduceIte, svA] at h; obtain ⟨rfl, rfl, rfl, rfl⟩ := h; refine ⟨?_, ?_⟩)
    | ((with_reducible refine Ob.mk ?_); first | exact trivial | (intros; omega) | ((repeat' first | apply And.intro | (intro hg; have hg' := hg; try simp only [zH] at hg')) <;> first | assumption | omega | (simp only [zH]; omega)))
  generalize x.getD v [] = rw at *
  refine awp_loopC (τ := Nat) (fun j => j ≤ rw.length ∧ ∀ i, i < j → l.getD (rw.getD i 0).toNat false = false) (fun j => ⟨14, [(18, .int .i64 j), (17, .int .i64 rw.length), (16, .roI rw), (6, .int .i64 0), (2, .roB l)], [(0, some (.box (svA o p x B left 1 2))), (1, some (.ints W)), (2, some (.ints C))], []⟩) (fun j => rw.length - j) 0 [] ?_ ⟨Nat.zero_le _, fun i hi => absurd hi (Nat.not_lt_zero i)⟩ ?_
  · (refine ⟨rfl, ?_, ?_⟩ <;> simp only [zE0, zE1, zE2, zE3, zE4, zE5, evp, evx, ev1, evLoad, evStore, evBin, isBoolK, forall_const, z38, tb, Nat.reduceAdd, Nat.reduceSub, Nat.reduceMul, Nat.reduceEqDiff, Nat.reduceLeDiff, Nat.reduceLT, Nat.reduceBEq, Nat.reduceBNe, ↓reduceIte, reduceIte, svA, zI])
  rintro j ⟨hj, hn⟩
  have hr1 := hr j
  repeat' first
    | with_reducible first | refine awp_seq ?_ | refine awp_block ?_ | refine next_then ?_ | refine next_block ?_ | refine exit_then ?_ | refine ret_then ?_ | refine ret_block ?_ | refine exit_here ?_ | refine awp_exit ?_ | refine awp_ret ?_ | refine awp_skip ?_ | refine awp_label ?_ | refine next_noGoto ?_ | refine ret_noGoto ?_ | refine exit_noGoto ?_ | refine awp_scope ?_
    | ((with_reducible refine exit_past ?_ ?_); exact rfl)
    | ((with_reducible refine isCond ?_); refine awp_condO rfl ?_ ?_ <;> intro hb <;> (try simp only [zH] at hb))
    | ((with_reducible refine isReg ?_); (first | refine awp_textM htb hmz noSp (fun _ => false) rfl rfl ?_ | refine awp_drawM hmo htb hmz noSp (fun _ => false) rfl rfl (by kernel_rfl) ?_); intro m' e' l' ob h; simp only [zE0, zE1, zE2, zE3, zE4, zE5, evp, evx, ev1, evLoad, evStore, evBin, isBoolK, forall_const, z38, tb, Nat.reduceAdd, Nat.reduceSub, Nat.reduceMul, Nat.reduceEqDiff, Nat.reduceLeDiff, Nat.reduceLT, Nat.reduceBEq, Nat.reduceBNe, ↓reduceIte, reduceIte, svA] at h; obtain ⟨rfl, rfl, rfl, rfl⟩ := h; refine ⟨?_, ?_⟩)
    | ((with_reducible refine Ob.mk ?_); first | exact trivial | (intros; omega) | ((repeat' first | apply And.intro | (intro hg; have hg' := hg; try simp only [zH] at hg')) <;> first | assumption | omega | (simp only [zH]; omega)))
  · rw [smF_at (by omega) hn hb]
    refine fin_ret rfl rfl (gq_of (⟨3, .int .i64 (rw.getD j 0), [(0, some (.box (svA o p x B left 1 2))), (1, some (.ints W)), (2, some (.ints C))]⟩) ([]) rfl rfl (imp_eq rfl) ?_)
    simp only [grR, zE0, zE1, zE2, zE3, zE4, zE5, evp, evx, ev1, evLoad, evStore, evBin, isBoolK, forall_const, z38, tb, Nat.reduceAdd, Nat.reduceSub, Nat.reduceMul, Nat.reduceEqDiff, Nat.reduceLeDiff, Nat.reduceLT, Nat.reduceBEq, Nat.reduceBNe, ↓reduceIte, reduceIte, svA]
  · refine back (j + 1) [] ?_ ⟨by omega, fun i hi => ?_⟩ (by omega)
    · (refine ⟨rfl, ?_, ?_⟩ <;> simp only [zE0, zE1, zE2, zE3, zE4, zE5, evp, evx, ev1, evLoad, evStore, evBin, isBoolK, forall_const, z38, tb, Nat.reduceAdd, Nat.reduceSub, Nat.reduceMul, Nat.reduceEqDiff, Nat.reduceLeDiff, Nat.reduceLT, Nat.reduceBEq, Nat.reduceBNe, ↓reduceIte, reduceIte, svA, zI])
    · rcases Nat.lt_succ_iff_lt_or_eq.1 hi with h | rfl
      · exact hn i h
      · exact hb
  · have hje : j = rw.length := by omega
    subst hje
    rw [smF_none hn]
    refine fin_ret rfl rfl (gq_of (⟨3, .int .i64 (-1), [(0, some (.box (svA o p x B left 1 2))), (1, some (.ints W)), (2, some (.ints C))]⟩) ([]) rfl rfl (imp_eq rfl) ?_)
    simp only [grR, zE0, zE1, zE2, zE3, zE4, zE5, evp, evx, ev1, evLoad, evStore, evBin, isBoolK, forall_const, z38, tb, Nat.reduceAdd, Nat.reduceSub, Nat.reduceMul, Nat.reduceEqDiff, Nat.reduceLeDiff, Nat.reduceLT, Nat.reduceBEq, Nat.reduceBNe, ↓reduceIte, reduceIte, svA]
set_option maxRecDepth 4000 in
set_option maxHeartbeats 4000000 in
theorem insd_fg {o p : List Int} {x B : List (List Int)} {left : Int} {W C : List Int} {l : List Bool} {v : Nat} (hv : v < x.length) (hr : ∀ j, j < (x.getD v []).length → 0 ≤ (x.getD v []).getD j 0 ∧ (x.getD v []).getD j 0 < (l.length : Int)) (h64 : (x.getD v []).length ≤ 64) :
    FG Try.prog 35 [.own 0, .int .i64 v, .roB l] [(0, some (.box (svA o p x B left 1 2))), (1, some (.ints W)), (2, some (.ints C))] 3 fun g => g = ⟨3, .int .i64 (inN l (x.getD v [])), [(0, some (.box (svA o p x B left 1 2))), (1, some (.ints W)), (2, some (.ints C))]⟩ := by
  refine fg_of htb (fn := Try.f35) (by kernel_rfl) (by kernel_rfl) rfl (Nat.le_of_ble_eq_true rfl) fun hl => ?_
  simp only [lenP, mkL, lim] at hl
  repeat' first
    | with_reducible first | refine awp_seq ?_ | refine awp_block ?_ | refine next_then ?_ | refine next_block ?_ | refine exit_then ?_ | refine ret_then ?_ | refine ret_block ?_ | refine exit_here ?_ | refine awp_exit ?_ | refine awp_ret ?_ | refine awp_skip ?_ | refine awp_label ?_ | refine next_noGoto ?_ | refine ret_noGoto ?_ | refine exit_noGoto ?_ | refine awp_scope ?_
    | ((with_reducible refine exit_past ?_ ?_); exact rfl)
    | ((with_reducible refine isCond ?_); refine awp_condO rfl ?_ ?_ <;> intro hb <;> (try simp only [zH] at hb))
    | ((with_reducible refine isReg ?_); (first | refine awp_textM htb hmz noSp (fun _ => false) rfl rfl ?_ | refine awp_drawM hmo htb hmz noSp (fun _ => false) rfl rfl (by kernel_rfl) ?_); intro m' e' l' ob h; simp only [zE0, zE1, zE2, zE3, zE4, zE5, evp, evx, ev1, evLoad, evStore, evBin, isBoolK, forall_const, z38, tb, Nat.reduceAdd, Nat.reduceSub, Nat.reduceMul, Nat.reduceEqDiff, Nat.reduceLeDiff, Nat.reduceLT, Nat.reduceBEq, Nat.reduceBNe, ↓reduceIte, reduceIte, svA] at h; obtain ⟨rfl, rfl, rfl, rfl⟩ := h; refine ⟨?_, ?_⟩)
    | ((with_reducible refine Ob.mk ?_); first | exact trivial | (intros; omega) | ((repeat' first | apply And.intro | (intro hg; have hg' := hg; try simp only [zH] at hg')) <;> first | assumption | omega | (simp only [zH]; omega)))
  generalize x.getD v [] = rw at *
  refine awp_loopC (τ := Nat) (fun j => j ≤ rw.length) (fun j => ⟨15, [(19, .int .i64 j), (18, .int .i64 rw.length), (17, .roI rw), (7, .int .i64 (inN l (rw.take j))), (6, .int .i64 0), (2, .roB l)], [(0, some (.box (svA o p x B left 1 2))), (1, some (.ints W)), (2, some (.ints C))], []⟩) (fun j => rw.length - j) 0 [] ?_ (Nat.zero_le _) ?_
  · (refine ⟨rfl, ?_, ?_⟩ <;> simp only [zE0, zE1, zE2, zE3, zE4, zE5, evp, evx, ev1, evLoad, evStore, evBin, isBoolK, forall_const, z38, tb, Nat.reduceAdd, Nat.reduceSub, Nat.reduceMul, Nat.reduceEqDiff, Nat.reduceLeDiff, Nat.reduceLT, Nat.reduceBEq, Nat.reduceBNe, ↓reduceIte, reduceIte, svA, zI])
    rfl
  intro j hj
  have hr1 := hr j
  have hin : inN l (rw.take j) ≤ 64 := Nat.le_trans List.countP_le_length (by rw [List.length_take]; omega)
  have hnx : j < rw.length → inN l (rw.take (j + 1)) = inN l (rw.take j) + if l.getD (rw.getD j 0).toNat false = true then 1 else 0 := fun h => by
    unfold inN
    rw [take1 (d := 0) h, List.countP_append, List.countP_cons, List.countP_nil]
    simp
  repeat' first
    | with_reducible first | refine awp_seq ?_ | refine awp_block ?_ | refine next_then ?_ | refine next_block ?_ | refine exit_then ?_ | refine ret_then ?_ | refine ret_block ?_ | refine exit_here ?_ | refine awp_exit ?_ | refine awp_ret ?_ | refine awp_skip ?_ | refine awp_label ?_ | refine next_noGoto ?_ | refine ret_noGoto ?_ | refine exit_noGoto ?_ | refine awp_scope ?_
    | ((with_reducible refine exit_past ?_ ?_); exact rfl)
    | ((with_reducible refine isCond ?_); refine awp_condO rfl ?_ ?_ <;> intro hb <;> (try simp only [zH] at hb))
    | ((with_reducible refine isReg ?_); (first | refine awp_textM htb hmz noSp (fun _ => false) rfl rfl ?_ | refine awp_drawM hmo htb hmz noSp (fun _ => false) rfl rfl (by kernel_rfl) ?_); intro m' e' l' ob h; simp only [zE0, zE1, zE2, zE3, zE4, zE5, evp, evx, ev1, evLoad, evStore, evBin, isBoolK, forall_const, z38, tb, Nat.reduceAdd, Nat.reduceSub, Nat.reduceMul, Nat.reduceEqDiff, Nat.reduceLeDiff, Nat.reduceLT, Nat.reduceBEq, Nat.reduceBNe, ↓reduceIte, reduceIte, svA] at h; obtain ⟨rfl, rfl, rfl, rfl⟩ := h; refine ⟨?_, ?_⟩)
    | ((with_reducible refine Ob.mk ?_); first | exact trivial | (intros; omega) | ((repeat' first | apply And.intro | (intro hg; have hg' := hg; try simp only [zH] at hg')) <;> first | assumption | omega | (simp only [zH]; omega)))
  · refine back (j + 1) [] ?_ (by omega) (by omega)
    (refine ⟨rfl, ?_, ?_⟩ <;> simp only [zE0, zE1, zE2, zE3, zE4, zE5, evp, evx, ev1, evLoad, evStore, evBin, isBoolK, forall_const, z38, tb, Nat.reduceAdd, Nat.reduceSub, Nat.reduceMul, Nat.reduceEqDiff, Nat.reduceLeDiff, Nat.reduceLT, Nat.reduceBEq, Nat.reduceBNe, ↓reduceIte, reduceIte, svA, zI])
    rw [hnx (by omega), if_pos hb]
    rfl
  · refine back (j + 1) [] ?_ (by omega) (by omega)
    (refine ⟨rfl, ?_, ?_⟩ <;> simp only [zE0, zE1, zE2, zE3, zE4, zE5, evp, evx, ev1, evLoad, evStore, evBin, isBoolK, forall_const, z38, tb, Nat.reduceAdd, Nat.reduceSub, Nat.reduceMul, Nat.reduceEqDiff, Nat.reduceLeDiff, Nat.reduceLT, Nat.reduceBEq, Nat.reduceBNe, ↓reduceIte, reduceIte, svA, zI])
    rw [hnx (by omega), if_neg (by rw [hb]; decide)]
    rfl
  · have hje : j = rw.length := by omega
    subst hje
    rw [List.take_length]
    refine fin_ret rfl rfl (gq_of (⟨3, .int .i64 (inN l rw), [(0, some (.box (svA o p x B left 1 2))), (1, some (.ints W)), (2, some (.ints C))]⟩) ([]) rfl rfl (imp_eq rfl) ?_)
    simp only [grR, zE0, zE1, zE2, zE3, zE4, zE5, evp, evx, ev1, evLoad, evStore, evBin, isBoolK, forall_const, z38, tb, Nat.reduceAdd, Nat.reduceSub, Nat.reduceMul, Nat.reduceEqDiff, Nat.reduceLeDiff, Nat.reduceLT, Nat.reduceBEq, Nat.reduceBNe, ↓reduceIte, reduceIte, svA]
end Go.Proofs.Ytlckljphakkomaa.Cal
namespace Go.Proofs.Ytlckljphakkomaa.Cal
open Go Pl
def spMb : Nat → Option Spec
  | 32 => some membersS
  | _ => none
theorem spMb_ok : SpOK Try.prog spMb := by
  intro f S h
  unfold spMb at h
  split at h
  · cases h; exact members_ok
  · cases h
theorem kp_at' {k : List Bool} {n i : Nat} (h : i < (kp k n).length) : (kp k n).getD i 0 < n ∧ k.getD ((kp k n).getD i 0) false = true := by
  have hm : (kp k n).getD i 0 ∈ kp k n := by
    rw [List.getD_eq_getElem?_getD, List.getElem?_eq_getElem h]; exact List.getElem_mem h
  have := List.mem_filter.1 hm
  exact ⟨List.mem_range.1 this.1, this.2⟩
/-- What f says of the first i positions of a set. -/
def stB (l : List Bool) (f : Nat → Bool) (i : Nat) : List Bool := (List.range l.length).map fun v => decide (v ∈ (kp l l.length).take i) && f v
theorem stB_len {l : List Bool} {f : Nat → Bool} {i : Nat} : (stB l f i).length = l.length := by simp [stB]
theorem stB_zero {l : List Bool} {f : Nat → Bool} : List.replicate l.length false = stB l f 0 := List.ext_getElem (by simp [stB]) fun j h1 h2 => by simp [stB]
theorem stB_next {l : List Bool} {f : Nat → Bool} {i : Nat} (h : i < (kp l l.length).length) : (stB l f i).set ((kp l l.length).getD i 0) (f ((kp l l.length).getD i 0)) = stB l f (i + 1) := by
  have hn : (kp l l.length).getD i 0 < l.length := (kp_at' h).1
  refine List.ext_getElem (by simp [stB]) fun j h1 h2 => ?_
  rw [List.getElem_set]
  have ht : (kp l l.length).take (i + 1) = (kp l l.length).take i ++ [(kp l l.length).getD i 0] := take1 (d := 0) h
  by_cases e : (kp l l.length).getD i 0 = j
  · subst e
    rw [if_pos rfl]
    simp only [stB, List.getElem_map, List.getElem_range]
    rw [ht, decide_eq_true (List.mem_append_right _ List.mem_cons_self)]; rfl
  · rw [if_neg e]
    simp only [stB, List.getElem_map, List.getElem_range]
    congr 1
    rw [ht]
    refine decide_eq_decide.2 ⟨fun h => List.mem_append_left _ h, fun h => ?_⟩
    rcases List.mem_append.1 h with h | h
    · exact h
    · exact absurd (List.mem_singleton.1 h).symm e
theorem stB_all {l : List Bool} {f : Nat → Bool} : stB l f (kp l l.length).length = (List.range l.length).map fun v => l.getD v false && f v := by
  refine List.map_congr_left fun v hv => ?_
  rw [List.take_length]
  congr 1
  have : v ∈ kp l l.length ↔ l.getD v false = true := ⟨fun h => (List.mem_filter.1 h).2, fun h => List.mem_filter.2 ⟨hv, h⟩⟩
  by_cases h : l.getD v false = true
  · rw [h, decide_eq_true (this.2 h)]
  · rw [Bool.eq_false_iff.2 h, decide_eq_false fun h2 => h (this.1 h2)]
/-- The positions of a set that are not in another one. -/
def woL (l b : List Bool) : List Bool := (List.range l.length).map fun v => l.getD v false && !b.getD v false
def withoutS : Spec
  | [.roB l, .roB b] => some ⟨l.length ≤ 20000 ∧ b.length = l.length, .roB (woL l b), none⟩
  | _ => none
set_option maxRecDepth 4000 in
set_option maxHeartbeats 4000000 in
theorem without_ok : FSpec Try.prog 48 withoutS := by
  refine fspec_of htb (fn := Try.f48) (by kernel_rfl) (by kernel_rfl) rfl (fun args r hS => ?_) (fun args r hS hob hl => ?_)
  · unfold withoutS at hS; split at hS <;> first | (cases hS; done) | (cases hS; exact Nat.le_of_ble_eq_true rfl)
  unfold withoutS at hS
  split at hS
  case h_2 => cases hS
  rename_i l b
  simp only [Option.some.injEq] at hS
  subst hS
  simp only [lenP, mkL, lim] at hl
  dsimp only at hob
  obtain ⟨hn, hbl⟩ := hob
  have hkl := kp_len (k := l) (n := l.length)
  obtain ⟨F, hF⟩ : ∃ F : Nat → List Bool, F = stB l fun v => !b.getD v false := ⟨_, rfl⟩
  have hFl : ∀ i, (F i).length = l.length := fun i => by rw [hF]; exact stB_len
  have hFn : ∀ i, i < (kp l l.length).length → (F i).set ((kp l l.length).getD i 0) (!b.getD ((kp l l.length).getD i 0) false) = F (i + 1) := fun i h => by rw [hF]; exact stB_next h
  repeat' first
    | with_reducible first | refine awp_seq ?_ | refine awp_block ?_ | refine next_then ?_ | refine next_block ?_ | refine exit_then ?_ | refine ret_then ?_ | refine ret_block ?_ | refine exit_here ?_ | refine awp_exit ?_ | refine awp_ret ?_ | refine awp_skip ?_ | refine awp_label ?_ | refine next_noGoto ?_ | refine ret_noGoto ?_ | refine exit_noGoto ?_ | refine awp_scope ?_
    | ((with_reducible refine exit_past ?_ ?_); exact rfl)
    | ((with_reducible refine isCond ?_); refine awp_condO rfl ?_ ?_ <;> intro hb <;> (try simp only [zH] at hb))
    | ((with_reducible refine isReg ?_); (first | refine awp_textM htb hmz spMb_ok (fun _ => false) rfl rfl ?_ | refine awp_drawM hmo htb hmz spMb_ok (fun _ => false) rfl rfl (by kernel_rfl) ?_); intro m' e' l' ob h; simp only [zE0, zE1, zE2, zE3, zE4, zE5, evp, evx, ev1, evLoad, evStore, evBin, isBoolK, forall_const, z38, tb, Nat.reduceAdd, Nat.reduceSub, Nat.reduceMul, Nat.reduceEqDiff, Nat.reduceLeDiff, Nat.reduceLT, Nat.reduceBEq, Nat.reduceBNe, ↓reduceIte, reduceIte, spMb, membersS] at h; obtain ⟨rfl, rfl, rfl, rfl⟩ := h; refine ⟨?_, ?_⟩)
    | ((with_reducible refine Ob.mk ?_); first | exact trivial | (intros; omega) | ((repeat' first | apply And.intro | (intro hg; have hg' := hg; try simp only [zH] at hg')) <;> first | assumption | omega | (simp only [zH]; omega)))
  refine awp_leC ⟨6, [(11, .fn 41 (.cons (.rop (.roB l)) .nil)), (5, .own 5), (3, .rop (.roB b))], [(4, some (.bools (F 0))), (5, some (.box (.own 4)))], []⟩ [] ?_ ?_
  · (refine ⟨rfl, ?_, ?_⟩ <;> simp only [zE0, zE1, zE2, zE3, zE4, zE5, evp, evx, ev1, evLoad, evStore, evBin, isBoolK, forall_const, z38, tb, Nat.reduceAdd, Nat.reduceSub, Nat.reduceMul, Nat.reduceEqDiff, Nat.reduceLeDiff, Nat.reduceLT, Nat.reduceBEq, Nat.reduceBNe, ↓reduceIte, reduceIte, spMb, membersS, zI])
    rw [hF]
    exact stB_zero
  refine awp_rangeV (m := 6) (M := 6) (fun i => i ≤ (kp l l.length).length) (fun _ : Nat => False) (fun i => (((kp l l.length).getD i 0 : Nat) : Int)) (fun i => i < (kp l l.length).length) (fun i i' => i' = i + 1) (fun i => i = 0) (fun i => i = (kp l l.length).length) .ret (fun i => [(4, some (.bools (F i))), (5, some (.box (.own 4)))]) [] 0 (members1_iter l _ _ id fun t h => h) (Nat.zero_le _) rfl rfl rfl rfl rfl rfl rfl (fun k hk => by cases hk) (fun t k B _ hk => sV_mem (M := 6) (l := [(4, some (.bools (F t))), (5, some (.box (.own 4)))]) ⟨⟨rfl, trivial⟩, ⟨rfl, rfl⟩, trivial⟩ k B hk) ?_ ?_ ?_
  · intro lp i hi hg
    obtain ⟨hv1, hv2⟩ := kp_at' hg
    have hFn1 := hFn i hg
    generalize hvv : (kp l l.length).getD i 0 = v at *
    have hFi := hFl i
    first | (refine awp_textM htb hmz spMb_ok (fun _ => false) rfl rfl ?_; intro m' e' l' ob h; simp only [zE0, zE1, zE2, zE3, zE4, zE5, evp, evx, ev1, evLoad, evStore, evBin, isBoolK, forall_const, z38, tb, Nat.reduceAdd, Nat.reduceSub, Nat.reduceMul, Nat.reduceEqDiff, Nat.reduceLeDiff, Nat.reduceLT, Nat.reduceBEq, Nat.reduceBNe, ↓reduceIte, reduceIte, spMb, membersS] at h; obtain ⟨rfl, rfl, rfl, rfl⟩ := h; refine ⟨?_, ?_⟩)
          | (refine awp_drawM hmo htb hmz spMb_ok (fun _ => false) rfl rfl (by kernel_rfl) ?_; intro m' e' l' ob h; simp only [zE0, zE1, zE2, zE3, zE4, zE5, evp, evx, ev1, evLoad, evStore, evBin, isBoolK, forall_const, z38, tb, Nat.reduceAdd, Nat.reduceSub, Nat.reduceMul, Nat.reduceEqDiff, Nat.reduceLeDiff, Nat.reduceLT, Nat.reduceBEq, Nat.reduceBNe, ↓reduceIte, reduceIte, spMb, membersS] at h; obtain ⟨rfl, rfl, rfl, rfl⟩ := h; refine ⟨?_, ?_⟩)
    · first | ((with_reducible refine Ob.mk ?_); first | exact trivial | (intros; omega) | ((repeat' first | apply And.intro | (intro hg; have hg' := hg; try simp only [zH] at hg')) <;> first | assumption | omega | (simp only [zH]; omega))) | skip
    refine ⟨rfl, ?_⟩
    repeat' first
      | with_reducible first | refine awp_seq ?_ | refine awp_block ?_ | refine next_then ?_ | refine next_block ?_ | refine exit_then ?_ | refine ret_then ?_ | refine ret_block ?_ | refine exit_here ?_ | refine awp_exit ?_ | refine awp_ret ?_ | refine awp_skip ?_ | refine awp_label ?_ | refine next_noGoto ?_ | refine ret_noGoto ?_ | refine exit_noGoto ?_ | refine awp_scope ?_
      | ((with_reducible refine exit_past ?_ ?_); exact rfl)
      | ((with_reducible refine isCond ?_); refine awp_condO rfl ?_ ?_ <;> intro hb <;> (try simp only [zH] at hb))
      | ((with_reducible refine isReg ?_); (first | refine awp_textM htb hmz spMb_ok (fun _ => false) rfl rfl ?_ | refine awp_drawM hmo htb hmz spMb_ok (fun _ => false) rfl rfl (by kernel_rfl) ?_); intro m' e' l' ob h; simp only [zE0, zE1, zE2, zE3, zE4, zE5, evp, evx, ev1, evLoad, evStore, evBin, isBoolK, forall_const, z38, tb, Nat.reduceAdd, Nat.reduceSub, Nat.reduceMul, Nat.reduceEqDiff, Nat.reduceLeDiff, Nat.reduceLT, Nat.reduceBEq, Nat.reduceBNe, ↓reduceIte, reduceIte, spMb, membersS] at h; obtain ⟨rfl, rfl, rfl, rfl⟩ := h; refine ⟨?_, ?_⟩)
      | ((with_reducible refine Ob.mk ?_); first | exact trivial | (intros; omega) | ((repeat' first | apply And.intro | (intro hg; have hg' := hg; try simp only [zH] at hg')) <;> first | assumption | omega | (simp only [zH]; omega)))
    refine ⟨_, i + 1, [], rfl, ?_, .inl ⟨rfl, hg, rfl⟩⟩
    (refine ⟨rfl, ?_, ?_⟩ <;> simp only [zE0, zE1, zE2, zE3, zE4, zE5, evp, evx, ev1, evLoad, evStore, evBin, isBoolK, forall_const, z38, tb, Nat.reduceAdd, Nat.reduceSub, Nat.reduceMul, Nat.reduceEqDiff, Nat.reduceLeDiff, Nat.reduceLT, Nat.reduceBEq, Nat.reduceBNe, ↓reduceIte, reduceIte, spMb, membersS, zI])
    exact hFn1
  · intro i hi hfin
    have hfin : i = (kp l l.length).length := hfin
    repeat' first
      | with_reducible first | refine awp_seq ?_ | refine awp_block ?_ | refine next_then ?_ | refine next_block ?_ | refine exit_then ?_ | refine ret_then ?_ | refine ret_block ?_ | refine exit_here ?_ | refine awp_exit ?_ | refine awp_ret ?_ | refine awp_skip ?_ | refine awp_label ?_ | refine next_noGoto ?_ | refine ret_noGoto ?_ | refine exit_noGoto ?_ | refine awp_scope ?_
      | ((with_reducible refine exit_past ?_ ?_); exact rfl)
      | ((with_reducible refine isCond ?_); refine awp_condO rfl ?_ ?_ <;> intro hb <;> (try simp only [zH] at hb))
      | ((with_reducible refine isRegS 5 ?_ ?_); (· exact rfl); (first | refine awp_textM htb hmz spMb_ok (fun _ => false) rfl rfl ?_ | refine awp_drawM hmo htb hmz spMb_ok (fun _ => false) rfl rfl (by kernel_rfl) ?_); intro m' e' l' ob h; simp only [zE0, zE1, zE2, zE3, zE4, zE5, evp, evx, ev1, evLoad, evStore, evBin, isBoolK, forall_const, z38, tb, Nat.reduceAdd, Nat.reduceSub, Nat.reduceMul, Nat.reduceEqDiff, Nat.reduceLeDiff, Nat.reduceLT, Nat.reduceBEq, Nat.reduceBNe, ↓reduceIte, reduceIte, spMb, membersS] at h; obtain ⟨rfl, rfl, rfl, rfl⟩ := h; refine ⟨?_, ?_⟩)
      | ((with_reducible refine Ob.mk ?_); first | exact trivial | (intros; omega) | ((repeat' first | apply And.intro | (intro hg; have hg' := hg; try simp only [zH] at hg')) <;> first | assumption | omega | (simp only [zH]; omega)))
    refine awp_fzN 4 (.roB (F i)) (by simp only [lkr_cons, lkr_nil, fzE, fzA, fzR, fzB, set1, nbeq, Nat.reduceEqDiff, decide_true, decide_false, ↓reduceIte, reduceIte, cond_true, cond_false, List.take_length, Option.some.injEq]; rfl) (by first | exact rfl | (refine ⟨?_, rfl⟩; first | rfl | (intros; rfl))) (by simp only [lkr_cons, lkr_nil, fzE, fzA, fzR, fzB, set1, nbeq, Nat.reduceEqDiff, decide_true, decide_false, ↓reduceIte, reduceIte, cond_true, cond_false, List.take_length, Option.some.injEq]; rfl) (by simp only [lkr_cons, lkr_nil, fzE, fzA, fzR, fzB, set1, nbeq, Nat.reduceEqDiff, decide_true, decide_false, ↓reduceIte, reduceIte, cond_true, cond_false, List.take_length, Option.some.injEq]; rfl) ?_
    repeat' first
      | with_reducible first | refine awp_seq ?_ | refine awp_block ?_ | refine next_then ?_ | refine next_block ?_ | refine exit_then ?_ | refine ret_then ?_ | refine ret_block ?_ | refine exit_here ?_ | refine awp_exit ?_ | refine awp_ret ?_ | refine awp_skip ?_ | refine awp_label ?_ | refine next_noGoto ?_ | refine ret_noGoto ?_ | refine exit_noGoto ?_ | refine awp_scope ?_
      | ((with_reducible refine exit_past ?_ ?_); exact rfl)
      | ((with_reducible refine isCond ?_); refine awp_condO rfl ?_ ?_ <;> intro hb <;> (try simp only [zH] at hb))
      | ((with_reducible refine isReg ?_); (first | refine awp_textM htb hmz spMb_ok (fun _ => false) rfl rfl ?_ | refine awp_drawM hmo htb hmz spMb_ok (fun _ => false) rfl rfl (by kernel_rfl) ?_); intro m' e' l' ob h; simp only [zE0, zE1, zE2, zE3, zE4, zE5, evp, evx, ev1, evLoad, evStore, evBin, isBoolK, forall_const, z38, tb, Nat.reduceAdd, Nat.reduceSub, Nat.reduceMul, Nat.reduceEqDiff, Nat.reduceLeDiff, Nat.reduceLT, Nat.reduceBEq, Nat.reduceBNe, ↓reduceIte, reduceIte, spMb, membersS] at h; obtain ⟨rfl, rfl, rfl, rfl⟩ := h; refine ⟨?_, ?_⟩)
      | ((with_reducible refine Ob.mk ?_); first | exact trivial | (intros; omega) | ((repeat' first | apply And.intro | (intro hg; have hg' := hg; try simp only [zH] at hg')) <;> first | assumption | omega | (simp only [zH]; omega)))
    refine ⟨_, _, rfl, rfl, fun k hk => by rw [List.mem_singleton.1 hk]; rfl, (by show [6].Nodup; decide), Nat.zero_le _, spec_flat rfl ?_ rfl⟩
    subst hfin
    show AV.roB (F _) = AV.roB (woL l b)
    rw [hF, stB_all]
    rfl
  · intro t h; exact h.elim
end Go.Proofs.Ytlckljphakkomaa.Cal
namespace Go.Proofs.Ytlckljphakkomaa.Cal
open Go Pl
/-- The greatest of -1 and some priorities. -/
def tpL (p : List Int) (ks : List Nat) : Int := ks.foldl (fun m v => max m (p.getD v 0)) (-1)
theorem tpL_next {p : List Int} {ks : List Nat} {i : Nat} (h : i < ks.length) : max (tpL p (ks.take i)) (p.getD (ks.getD i 0) 0) = tpL p (ks.take (i + 1)) := by
  rw [take1 (d := 0) h]
  unfold tpL
  rw [List.foldl_append]; rfl
/-- The greatest priority in a set, and the positions that have it. -/
def tpP (p : List Int) (l : List Bool) : Int := tpL p (kp l l.length)
def tpU (p : List Int) (l : List Bool) : List Bool := (List.range l.length).map fun v => l.getD v false && decide (p.getD v 0 = tpP p l)
set_option maxRecDepth 4000 in
set_option maxHeartbeats 4000000 in
theorem top_fg {o p : List Int} {x B : List (List Int)} {left : Int} {W C : List Int} {l : List Bool} (hn : l.length ≤ 20000) (hp : p.length = l.length) :
    FG Try.prog 45 [.own 0, .roB l] [(0, some (.box (svA o p x B left 1 2))), (1, some (.ints W)), (2, some (.ints C))] 3 fun g => g = ⟨3, resV [.roB (tpU p l), .int .i64 (tpP p l), .bool (decide (0 ≤ tpP p l))], [(0, some (.box (svA o p x B left 1 2))), (1, some (.ints W)), (2, some (.ints C))]⟩ := by
  have hkl := kp_len (k := l) (n := l.length)
  obtain ⟨T, hT⟩ : ∃ T : Nat → Int, T = fun i => tpL p ((kp l l.length).take i) := ⟨_, rfl⟩
  obtain ⟨F, hF⟩ : ∃ F : Nat → List Bool, F = stB l fun v => decide (p.getD v 0 = tpP p l) := ⟨_, rfl⟩
  have hFl : ∀ i, (F i).length = l.length := fun i => by rw [hF]; exact stB_len
  have hFn : ∀ i, i < (kp l l.length).length → (F i).set ((kp l l.length).getD i 0) (decide (p.getD ((kp l l.length).getD i 0) 0 = tpP p l)) = F (i + 1) := fun i h => by rw [hF]; exact stB_next h
  have hTn : ∀ i, i < (kp l l.length).length → max (T i) (p.getD ((kp l l.length).getD i 0) 0) = T (i + 1) := fun i h => by rw [hT]; exact tpL_next h
  refine fg_of htb (fn := Try.f45) (by kernel_rfl) (by kernel_rfl) rfl (Nat.le_of_ble_eq_true rfl) fun hl => ?_
  simp only [lenP, mkL, lim] at hl
  repeat' first
    | with_reducible first | refine awp_seq ?_ | refine awp_block ?_ | refine next_then ?_ | refine next_block ?_ | refine exit_then ?_ | refine ret_then ?_ | refine ret_block ?_ | refine exit_here ?_ | refine awp_exit ?_ | refine awp_ret ?_ | refine awp_skip ?_ | refine awp_label ?_ | refine next_noGoto ?_ | refine ret_noGoto ?_ | refine exit_noGoto ?_ | refine awp_scope ?_
    | ((with_reducible refine exit_past ?_ ?_); exact rfl)
    | ((with_reducible refine isCond ?_); refine awp_condO rfl ?_ ?_ <;> intro hb <;> (try simp only [zH] at hb))
    | ((with_reducible refine isReg ?_); (first | refine awp_textM htb hmz spMb_ok (fun _ => false) rfl rfl ?_ | refine awp_drawM hmo htb hmz spMb_ok (fun _ => false) rfl rfl (by kernel_rfl) ?_); intro m' e' l' ob h; simp only [zE0, zE1, zE2, zE3, zE4, zE5, evp, evx, ev1, evLoad, evStore, evBin, isBoolK, forall_const, z38, tb, Nat.reduceAdd, Nat.reduceSub, Nat.reduceMul, Nat.reduceEqDiff, Nat.reduceLeDiff, Nat.reduceLT, Nat.reduceBEq, Nat.reduceBNe, ↓reduceIte, reduceIte, svA, spMb, membersS] at h; obtain ⟨rfl, rfl, rfl, rfl⟩ := h; refine ⟨?_, ?_⟩)
    | ((with_reducible refine Ob.mk ?_); first | exact trivial | (intros; omega) | ((repeat' first | apply And.intro | (intro hg; have hg' := hg; try simp only [zH] at hg')) <;> first | assumption | omega | (simp only [zH]; omega)))
  · exact ⟨⟨⟨trivial, trivial⟩, trivial⟩, trivial⟩
  refine awp_leC ⟨11, [(12, .fn 41 (.cons (.rop (.roB l)) .nil)), (7, .own 7), (2, .own 3), (1, .roB l)], [(7, some (.box (.int .i64 (T 0)))), (3, some (.box (.own 0))), (0, some (.box (svA o p x B left 1 2))), (1, some (.ints W)), (2, some (.ints C))], []⟩ [] ?_ ?_
  · (refine ⟨rfl, ?_, ?_⟩ <;> simp only [zE0, zE1, zE2, zE3, zE4, zE5, evp, evx, ev1, evLoad, evStore, evBin, isBoolK, forall_const, z38, tb, Nat.reduceAdd, Nat.reduceSub, Nat.reduceMul, Nat.reduceEqDiff, Nat.reduceLeDiff, Nat.reduceLT, Nat.reduceBEq, Nat.reduceBNe, ↓reduceIte, reduceIte, svA, spMb, membersS, zI])
    rw [hT]
    rfl
  refine awp_rangeV (m := 11) (M := 11) (fun i => i ≤ (kp l l.length).length) (fun _ : Nat => False) (fun i => (((kp l l.length).getD i 0 : Nat) : Int)) (fun i => i < (kp l l.length).length) (fun i i' => i' = i + 1) (fun i => i = 0) (fun i => i = (kp l l.length).length) .ret (fun i => [(7, some (.box (.int .i64 (T i)))), (3, some (.box (.own 0))), (0, some (.box (svA o p x B left 1 2))), (1, some (.ints W)), (2, some (.ints C))]) [] 0 (members1_iter l _ _ id fun t h => h) (Nat.zero_le _) rfl rfl rfl rfl rfl rfl rfl (fun k hk => by cases hk) (fun t k B _ hk => sV_mem (M := 11) (l := [(7, some (.box (.int .i64 (T t)))), (3, some (.box (.own 0))), (0, some (.box (svA o p x _ left 1 2))), (1, some (.ints W)), (2, some (.ints C))]) ⟨⟨rfl, rfl⟩, ⟨rfl, rfl⟩, ⟨rfl, rfl⟩, ⟨rfl, trivial⟩, ⟨rfl, trivial⟩, trivial⟩ k B hk) ?_ ?_ ?_
  · intro lp i hi hg
    obtain ⟨hv1, hv2⟩ := kp_at' hg
    have hTn1 := hTn i hg
    generalize hvv : (kp l l.length).getD i 0 = v at *
    first | (refine awp_textM htb hmz spMb_ok (fun _ => false) rfl rfl ?_; intro m' e' l' ob h; simp only [zE0, zE1, zE2, zE3, zE4, zE5, evp, evx, ev1, evLoad, evStore, evBin, isBoolK, forall_const, z38, tb, Nat.reduceAdd, Nat.reduceSub, Nat.reduceMul, Nat.reduceEqDiff, Nat.reduceLeDiff, Nat.reduceLT, Nat.reduceBEq, Nat.reduceBNe, ↓reduceIte, reduceIte, svA, spMb, membersS] at h; obtain ⟨rfl, rfl, rfl, rfl⟩ := h; refine ⟨?_, ?_⟩)
          | (refine awp_drawM hmo htb hmz spMb_ok (fun _ => false) rfl rfl (by kernel_rfl) ?_; intro m' e' l' ob h; simp only [zE0, zE1, zE2, zE3, zE4, zE5, evp, evx, ev1, evLoad, evStore, evBin, isBoolK, forall_const, z38, tb, Nat.reduceAdd, Nat.reduceSub, Nat.reduceMul, Nat.reduceEqDiff, Nat.reduceLeDiff, Nat.reduceLT, Nat.reduceBEq, Nat.reduceBNe, ↓reduceIte, reduceIte, svA, spMb, membersS] at h; obtain ⟨rfl, rfl, rfl, rfl⟩ := h; refine ⟨?_, ?_⟩)
    · first | ((with_reducible refine Ob.mk ?_); first | exact trivial | (intros; omega) | ((repeat' first | apply And.intro | (intro hg; have hg' := hg; try simp only [zH] at hg')) <;> first | assumption | omega | (simp only [zH]; omega))) | skip
    refine ⟨rfl, ?_⟩
    repeat' first
      | with_reducible first | refine awp_seq ?_ | refine awp_block ?_ | refine next_then ?_ | refine next_block ?_ | refine exit_then ?_ | refine ret_then ?_ | refine ret_block ?_ | refine exit_here ?_ | refine awp_exit ?_ | refine awp_ret ?_ | refine awp_skip ?_ | refine awp_label ?_ | refine next_noGoto ?_ | refine ret_noGoto ?_ | refine exit_noGoto ?_ | refine awp_scope ?_
      | ((with_reducible refine exit_past ?_ ?_); exact rfl)
      | ((with_reducible refine isCond ?_); refine awp_condO rfl ?_ ?_ <;> intro hb <;> (try simp only [zH] at hb))
      | ((with_reducible refine isReg ?_); (first | refine awp_textM htb hmz spMb_ok (fun _ => false) rfl rfl ?_ | refine awp_drawM hmo htb hmz spMb_ok (fun _ => false) rfl rfl (by kernel_rfl) ?_); intro m' e' l' ob h; simp only [zE0, zE1, zE2, zE3, zE4, zE5, evp, evx, ev1, evLoad, evStore, evBin, isBoolK, forall_const, z38, tb, Nat.reduceAdd, Nat.reduceSub, Nat.reduceMul, Nat.reduceEqDiff, Nat.reduceLeDiff, Nat.reduceLT, Nat.reduceBEq, Nat.reduceBNe, ↓reduceIte, reduceIte, svA, spMb, membersS] at h; obtain ⟨rfl, rfl, rfl, rfl⟩ := h; refine ⟨?_, ?_⟩)
      | ((with_reducible refine Ob.mk ?_); first | exact trivial | (intros; omega) | ((repeat' first | apply And.intro | (intro hg; have hg' := hg; try simp only [zH] at hg')) <;> first | assumption | omega | (simp only [zH]; omega)))
    refine ⟨_, i + 1, [], rfl, ?_, .inl ⟨rfl, hg, rfl⟩⟩
    (refine ⟨rfl, ?_, ?_⟩ <;> simp only [zE0, zE1, zE2, zE3, zE4, zE5, evp, evx, ev1, evLoad, evStore, evBin, isBoolK, forall_const, z38, tb, Nat.reduceAdd, Nat.reduceSub, Nat.reduceMul, Nat.reduceEqDiff, Nat.reduceLeDiff, Nat.reduceLT, Nat.reduceBEq, Nat.reduceBNe, ↓reduceIte, reduceIte, svA, spMb, membersS, zI])
    exact hTn1
  · intro i hi hfin
    have hfin : i = (kp l l.length).length := hfin
    have hTi : T i = tpP p l := by rw [hT, hfin]; show tpL p (List.take _ _) = _; rw [List.take_length]; rfl
    rw [hTi]
    generalize htt : tpP p l = tt at *
    repeat' first
      | with_reducible first | refine awp_seq ?_ | refine awp_block ?_ | refine next_then ?_ | refine next_block ?_ | refine exit_then ?_ | refine ret_then ?_ | refine ret_block ?_ | refine exit_here ?_ | refine awp_exit ?_ | refine awp_ret ?_ | refine awp_skip ?_ | refine awp_label ?_ | refine next_noGoto ?_ | refine ret_noGoto ?_ | refine exit_noGoto ?_ | refine awp_scope ?_
      | ((with_reducible refine exit_past ?_ ?_); exact rfl)
      | ((with_reducible refine isCond ?_); refine awp_condO rfl ?_ ?_ <;> intro hb <;> (try simp only [zH] at hb))
      | ((with_reducible refine isReg ?_); (first | refine awp_textM htb hmz spMb_ok (fun _ => false) rfl rfl ?_ | refine awp_drawM hmo htb hmz spMb_ok (fun _ => false) rfl rfl (by kernel_rfl) ?_); intro m' e' l' ob h; simp only [zE0, zE1, zE2, zE3, zE4, zE5, evp, evx, ev1, evLoad, evStore, evBin, isBoolK, forall_const, z38, tb, Nat.reduceAdd, Nat.reduceSub, Nat.reduceMul, Nat.reduceEqDiff, Nat.reduceLeDiff, Nat.reduceLT, Nat.reduceBEq, Nat.reduceBNe, ↓reduceIte, reduceIte, svA, spMb, membersS] at h; obtain ⟨rfl, rfl, rfl, rfl⟩ := h; refine ⟨?_, ?_⟩)
      | ((with_reducible refine Ob.mk ?_); first | exact trivial | (intros; omega) | ((repeat' first | apply And.intro | (intro hg; have hg' := hg; try simp only [zH] at hg')) <;> first | assumption | omega | (simp only [zH]; omega)))
    refine awp_leC ⟨19, [(28, .fn 41 (.cons (.rop (.roB l)) .nil)), (9, .own 15), (7, .own 7), (2, .own 3)], [(15, some (.box (.own 14))), (14, some (.bools (F 0))), (11, some .dfr), (7, some (.box (.int .i64 tt))), (3, some (.box (.own 0))), (0, some (.box (svA o p x B left 1 2))), (1, some (.ints W)), (2, some (.ints C))], [11]⟩ [] ?_ ?_
    · (refine ⟨rfl, ?_, ?_⟩ <;> simp only [zE0, zE1, zE2, zE3, zE4, zE5, evp, evx, ev1, evLoad, evStore, evBin, isBoolK, forall_const, z38, tb, Nat.reduceAdd, Nat.reduceSub, Nat.reduceMul, Nat.reduceEqDiff, Nat.reduceLeDiff, Nat.reduceLT, Nat.reduceBEq, Nat.reduceBNe, ↓reduceIte, reduceIte, svA, spMb, membersS, zI])
      rw [hF]
      exact stB_zero
    refine awp_rangeV (m := 19) (M := 19) (fun i => i ≤ (kp l l.length).length) (fun _ : Nat => False) (fun i => (((kp l l.length).getD i 0 : Nat) : Int)) (fun i => i < (kp l l.length).length) (fun i i' => i' = i + 1) (fun i => i = 0) (fun i => i = (kp l l.length).length) .ret (fun i => [(15, some (.box (.own 14))), (14, some (.bools (F i))), (11, some .dfr), (7, some (.box (.int .i64 tt))), (3, some (.box (.own 0))), (0, some (.box (svA o p x B left 1 2))), (1, some (.ints W)), (2, some (.ints C))]) [11] 0 (members1_iter l _ _ id fun t h => h) (Nat.zero_le _) rfl rfl rfl rfl rfl rfl rfl (fun k hk => by rw [List.mem_singleton.1 hk]; rfl) (fun t k B _ hk => sV_mem (M := 19) (l := [(15, some (.box (.own 14))), (14, some (.bools (F t))), (11, some .dfr), (7, some (.box (.int .i64 tt))), (3, some (.box (.own 0))), (0, some (.box (svA o p x _ left 1 2))), (1, some (.ints W)), (2, some (.ints C))]) ⟨⟨rfl, rfl⟩, ⟨rfl, trivial⟩, ⟨rfl, trivial⟩, ⟨rfl, rfl⟩, ⟨rfl, rfl⟩, ⟨rfl, rfl⟩, ⟨rfl, trivial⟩, ⟨rfl, trivial⟩, trivial⟩ k B hk) ?_ ?_ ?_
    · intro lp i hi hg
      obtain ⟨hv1, hv2⟩ := kp_at' hg
      have hFn1 := hFn i hg
      generalize hvv : (kp l l.length).getD i 0 = v at *
      have hFi := hFl i
      first | (refine awp_textM htb hmz spMb_ok (fun _ => false) rfl rfl ?_; intro m' e' l' ob h; simp only [zE0, zE1, zE2, zE3, zE4, zE5, evp, evx, ev1, evLoad, evStore, evBin, isBoolK, forall_const, z38, tb, Nat.reduceAdd, Nat.reduceSub, Nat.reduceMul, Nat.reduceEqDiff, Nat.reduceLeDiff, Nat.reduceLT, Nat.reduceBEq, Nat.reduceBNe, ↓reduceIte, reduceIte, svA, spMb, membersS] at h; obtain ⟨rfl, rfl, rfl, rfl⟩ := h; refine ⟨?_, ?_⟩)
            | (refine awp_drawM hmo htb hmz spMb_ok (fun _ => false) rfl rfl (by kernel_rfl) ?_; intro m' e' l' ob h; simp only [zE0, zE1, zE2, zE3, zE4, zE5, evp, evx, ev1, evLoad, evStore, evBin, isBoolK, forall_const, z38, tb, Nat.reduceAdd, Nat.reduceSub, Nat.reduceMul, Nat.reduceEqDiff, Nat.reduceLeDiff, Nat.reduceLT, Nat.reduceBEq, Nat.reduceBNe, ↓reduceIte, reduceIte, svA, spMb, membersS] at h; obtain ⟨rfl, rfl, rfl, rfl⟩ := h; refine ⟨?_, ?_⟩)
      · first | ((with_reducible refine Ob.mk ?_); first | exact trivial | (intros; omega) | ((repeat' first | apply And.intro | (intro hg; have hg' := hg; try simp only [zH] at hg')) <;> first | assumption | omega | (simp only [zH]; omega))) | skip
      refine ⟨rfl, ?_⟩
      repeat' first
        | with_reducible first | refine awp_seq ?_ | refine awp_block ?_ | refine next_then ?_ | refine next_block ?_ | refine exit_then ?_ | refine ret_then ?_ | refine ret_block ?_ | refine exit_here ?_ | refine awp_exit ?_ | refine awp_ret ?_ | refine awp_skip ?_ | refine awp_label ?_ | refine next_noGoto ?_ | refine ret_noGoto ?_ | refine exit_noGoto ?_ | refine awp_scope ?_
        | ((with_reducible refine exit_past ?_ ?_); exact rfl)
        | ((with_reducible refine isCond ?_); refine awp_condO rfl ?_ ?_ <;> intro hb <;> (try simp only [zH] at hb))
        | ((with_reducible refine isReg ?_); (first | refine awp_textM htb hmz spMb_ok (fun _ => false) rfl rfl ?_ | refine awp_drawM hmo htb hmz spMb_ok (fun _ => false) rfl rfl (by kernel_rfl) ?_); intro m' e' l' ob h; simp only [zE0, zE1, zE2, zE3, zE4, zE5, evp, evx, ev1, evLoad, evStore, evBin, isBoolK, forall_const, z38, tb, Nat.reduceAdd, Nat.reduceSub, Nat.reduceMul, Nat.reduceEqDiff, Nat.reduceLeDiff, Nat.reduceLT, Nat.reduceBEq, Nat.reduceBNe, ↓reduceIte, reduceIte, svA, spMb, membersS] at h; obtain ⟨rfl, rfl, rfl, rfl⟩ := h; refine ⟨?_, ?_⟩)
        | ((with_reducible refine Ob.mk ?_); first | exact trivial | (intros; omega) | ((repeat' first | apply And.intro | (intro hg; have hg' := hg; try simp only [zH] at hg')) <;> first | assumption | omega | (simp only [zH]; omega)))
      refine ⟨_, i + 1, [], rfl, ?_, .inl ⟨rfl, hg, rfl⟩⟩
      (refine ⟨rfl, ?_, ?_⟩ <;> simp only [zE0, zE1, zE2, zE3, zE4, zE5, evp, evx, ev1, evLoad, evStore, evBin, isBoolK, forall_const, z38, tb, Nat.reduceAdd, Nat.reduceSub, Nat.reduceMul, Nat.reduceEqDiff, Nat.reduceLeDiff, Nat.reduceLT, Nat.reduceBEq, Nat.reduceBNe, ↓reduceIte, reduceIte, svA, spMb, membersS, zI])
      exact hFn1
    · intro i hi hfin
      have hfin : i = (kp l l.length).length := hfin
      repeat' first
        | with_reducible first | refine awp_seq ?_ | refine awp_block ?_ | refine next_then ?_ | refine next_block ?_ | refine exit_then ?_ | refine ret_then ?_ | refine ret_block ?_ | refine exit_here ?_ | refine awp_exit ?_ | refine awp_ret ?_ | refine awp_skip ?_ | refine awp_label ?_ | refine next_noGoto ?_ | refine ret_noGoto ?_ | refine exit_noGoto ?_ | refine awp_scope ?_
        | ((with_reducible refine exit_past ?_ ?_); exact rfl)
        | ((with_reducible refine isCond ?_); refine awp_condO rfl ?_ ?_ <;> intro hb <;> (try simp only [zH] at hb))
        | ((with_reducible refine isRegS 9 ?_ ?_); (· exact rfl); (first | refine awp_textM htb hmz spMb_ok (fun _ => false) rfl rfl ?_ | refine awp_drawM hmo htb hmz spMb_ok (fun _ => false) rfl rfl (by kernel_rfl) ?_); intro m' e' l' ob h; simp only [zE0, zE1, zE2, zE3, zE4, zE5, evp, evx, ev1, evLoad, evStore, evBin, isBoolK, forall_const, z38, tb, Nat.reduceAdd, Nat.reduceSub, Nat.reduceMul, Nat.reduceEqDiff, Nat.reduceLeDiff, Nat.reduceLT, Nat.reduceBEq, Nat.reduceBNe, ↓reduceIte, reduceIte, svA, spMb, membersS] at h; obtain ⟨rfl, rfl, rfl, rfl⟩ := h; refine ⟨?_, ?_⟩)
        | ((with_reducible refine Ob.mk ?_); first | exact trivial | (intros; omega) | ((repeat' first | apply And.intro | (intro hg; have hg' := hg; try simp only [zH] at hg')) <;> first | assumption | omega | (simp only [zH]; omega)))
      refine awp_fzN 14 (.roB (F i)) (by simp only [lkr_cons, lkr_nil, fzE, fzA, fzR, fzB, set1, nbeq, Nat.reduceEqDiff, decide_true, decide_false, ↓reduceIte, reduceIte, cond_true, cond_false, List.take_length, Option.some.injEq]; rfl) (by first | exact rfl | (refine ⟨?_, rfl⟩; first | rfl | (intros; rfl))) (by simp only [lkr_cons, lkr_nil, fzE, fzA, fzR, fzB, set1, nbeq, Nat.reduceEqDiff, decide_true, decide_false, ↓reduceIte, reduceIte, cond_true, cond_false, List.take_length, Option.some.injEq]; rfl) (by simp only [lkr_cons, lkr_nil, fzE, fzA, fzR, fzB, set1, nbeq, Nat.reduceEqDiff, decide_true, decide_false, ↓reduceIte, reduceIte, cond_true, cond_false, List.take_length, Option.some.injEq]; rfl) ?_
      repeat' first
        | with_reducible first | refine awp_seq ?_ | refine awp_block ?_ | refine next_then ?_ | refine next_block ?_ | refine exit_then ?_ | refine ret_then ?_ | refine ret_block ?_ | refine exit_here ?_ | refine awp_exit ?_ | refine awp_ret ?_ | refine awp_skip ?_ | refine awp_label ?_ | refine next_noGoto ?_ | refine ret_noGoto ?_ | refine exit_noGoto ?_ | refine awp_scope ?_
        | ((with_reducible refine exit_past ?_ ?_); exact rfl)
        | ((with_reducible refine isCond ?_); refine awp_condO rfl ?_ ?_ <;> intro hb <;> (try simp only [zH] at hb))
        | ((with_reducible refine isReg ?_); (first | refine awp_textM htb hmz spMb_ok (fun _ => false) rfl rfl ?_ | refine awp_drawM hmo htb hmz spMb_ok (fun _ => false) rfl rfl (by kernel_rfl) ?_); intro m' e' l' ob h; simp only [zE0, zE1, zE2, zE3, zE4, zE5, evp, evx, ev1, evLoad, evStore, evBin, isBoolK, forall_const, z38, tb, Nat.reduceAdd, Nat.reduceSub, Nat.reduceMul, Nat.reduceEqDiff, Nat.reduceLeDiff, Nat.reduceLT, Nat.reduceBEq, Nat.reduceBNe, ↓reduceIte, reduceIte, svA, spMb, membersS] at h; obtain ⟨rfl, rfl, rfl, rfl⟩ := h; refine ⟨?_, ?_⟩)
        | ((with_reducible refine Ob.mk ?_); first | exact trivial | (intros; omega) | ((repeat' first | apply And.intro | (intro hg; have hg' := hg; try simp only [zH] at hg')) <;> first | assumption | omega | (simp only [zH]; omega)))
      have hFe : F i = tpU p l := by rw [hF, hfin, stB_all, tpU, htt]
      refine ⟨_, _, rfl, rfl, fun k hk => ?_, (by show [19, 11].Nodup; decide), by show 3 ≤ 20 + 7; omega, gq_of ⟨3, resV [.roB (tpU p l), .int .i64 tt, .bool (decide (0 ≤ tt))], [(0, some (.box (svA o p x B left 1 2))), (1, some (.ints W)), (2, some (.ints C))]⟩ [] rfl rfl (imp_eq ?_) ?_⟩
      · rcases List.mem_cons.1 hk with rfl | hk
        · rfl
        · rw [List.mem_singleton.1 hk]; rfl
      · rw [← hFe]; rfl
      · simp only [grR, zE0, zE1, zE2, zE3, zE4, zE5, evp, evx, ev1, evLoad, evStore, evBin, isBoolK, forall_const, z38, tb, Nat.reduceAdd, Nat.reduceSub, Nat.reduceMul, Nat.reduceEqDiff, Nat.reduceLeDiff, Nat.reduceLT, Nat.reduceBEq, Nat.reduceBNe, ↓reduceIte, reduceIte, svA, spMb, membersS]
    · intro t h; exact h.elim
  · intro t h; exact h.elim
end Go.Proofs.Ytlckljphakkomaa.Cal
