/- Own texts of the proof, merged, in order. -/
import Derived.Test.YtlckljphakkomaaS26
set_option linter.unusedVariables false
set_option linter.unusedSimpArgs false
namespace Go.Proofs.Ytlckljphakkomaa.Cal
open Go Pl
theorem inN_any {F : List Bool} : ∀ {row : List Int}, decide (0 < inN F row) = row.any fun t => F.getD t.toNat false
  | [] => rfl
  | t :: r => by
    rw [List.any_cons, ← inN_any (row := r)]
    unfold inN
    rw [List.countP_cons]
    cases h : F.getD t.toNat false with
    | true => simp
    | false => simp
theorem inN_all {F : List Bool} {row : List Int} : decide (inN F row = row.length) = row.all fun t => F.getD t.toNat false := by
  unfold inN
  rw [Bool.eq_iff_iff, decide_eq_true_iff, List.countP_eq_length, List.all_eq_true]
/-- What 'stays' answers. -/
def styS : Spec
  | [.agg (.cons (.roI o) (.cons (.roI p) (.cons (.roII x) .nil))), .int .i64 pl, .int .i64 v, .roB F] => some ⟨validB ⟨o, p, x⟩ = true ∧ F.length = o.length ∧ 0 ≤ v ∧ v < o.length, .bool (tyB ⟨o, p, x⟩ pl F v.toNat), none⟩
  | _ => none
set_option maxRecDepth 4000 in
set_option maxHeartbeats 4000000 in
theorem sty_ok : FSpec Try.prog 36 styS := by
  refine fspec_of htb (fn := Try.f36) (by kernel_rfl) (by kernel_rfl) rfl (fun args r hS => ?_) (fun args r hS hob hl => ?_)
  · unfold styS at hS; split at hS <;> first | (cases hS; done) | (cases hS; exact Nat.le_of_ble_eq_true rfl)
  unfold styS at hS
  split at hS
  case h_2 => cases hS
  rename_i o p x pl v F
  simp only [Option.some.injEq] at hS
  subst hS
  simp only [lenP, mkL, lim] at hl
  dsimp only at hob
  obtain ⟨hv, hFl, hv0, hv1⟩ := hob
  obtain ⟨u, rfl⟩ := Int.eq_ofNat_of_zero_le hv0
  rw [Int.toNat_natCast]
  have hV := validB_iff.1 hv
  obtain ⟨hn, hpl, hxl, hpos⟩ := id hV
  simp only [Gm.n] at hn hpl hxl
  have huo : u < o.length := by omega
  obtain ⟨⟨_, _, _, _, _, h64⟩, hr⟩ := hpos u huo
  have h64 : (x.getD u []).length ≤ 64 := h64
  have hrb : ∀ j, j < (x.getD u []).length → 0 ≤ (x.getD u []).getD j 0 ∧ (x.getD u []).getD j 0 < (o.length : Int) := fun j hj => by have := hr j hj; simp only [Gm.x, Gm.n] at this; exact ⟨this.1, this.2.1⟩
  have hty : tyB ⟨o, p, x⟩ pl F u = ((decide (o.getD u 0 = pl) && (x.getD u []).any fun t => F.getD t.toNat false) || (!decide (o.getD u 0 = pl) && (x.getD u []).all fun t => F.getD t.toNat false)) := by
    rw [← inN_any, ← inN_all]; rfl
  clear hr hpos hV
  repeat' first
    | with_reducible first | refine awp_seq ?_ | refine awp_block ?_ | refine next_then ?_ | refine next_block ?_ | refine exit_then ?_ | refine ret_then ?_ | refine ret_block ?_ | refine exit_here ?_ | refine awp_exit ?_ | refine awp_ret ?_ | refine awp_skip ?_ | refine awp_label ?_ | refine next_noGoto ?_ | refine ret_noGoto ?_ | refine exit_noGoto ?_ | refine awp_scope ?_
    | ((with_reducible refine exit_past ?_ ?_); exact rfl)
    | ((with_reducible refine isCond ?_); refine awp_condO rfl ?_ ?_ <;> intro hb <;> (try simp only [zH] at hb))
    | ((with_reducible refine isReg ?_); (first | refine awp_textM htb hmz noSp (fun _ => false) rfl rfl ?_ | refine awp_drawM hmo htb hmz noSp (fun _ => false) rfl rfl (by kernel_rfl) ?_); intro m' e' l' ob h; simp only [zE0, zE1, zE2, zE3, zE4, zE5, evp, evx, ev1, evLoad, evStore, evBin, isBoolK, forall_const, z38, tb, Nat.reduceAdd, Nat.reduceSub, Nat.reduceMul, Nat.reduceEqDiff, Nat.reduceLeDiff, Nat.reduceLT, Nat.reduceBEq, Nat.reduceBNe, ↓reduceIte, reduceIte] at h; obtain ⟨rfl, rfl, rfl, rfl⟩ := h; refine ⟨?_, ?_⟩)
    | ((with_reducible refine Ob.mk ?_); first | exact trivial | (intros; omega) | ((repeat' first | apply And.intro | (intro hg; have hg' := hg; try simp only [zH] at hg')) <;> first | assumption | omega | (simp only [zH]; omega)))
  generalize x.getD u [] = rw at *
  refine awp_loopC (τ := Nat) (fun j => j ≤ rw.length) (fun j => ⟨13, [(19, .int .i64 j), (18, .int .i64 rw.length), (17, .roI rw), (10, .bool ((rw.take j).all fun t => F.getD t.toNat false)), (9, .bool ((rw.take j).any fun t => F.getD t.toNat false)), (4, .rop (.agg (.cons (.roI o) (.cons (.roI p) (.cons (.roII x) .nil))))), (1, .int .i64 pl), (2, .int .i64 u), (3, .roB F)], [], []⟩) (fun j => rw.length - j) 0 [] ?_ (Nat.zero_le _) ?_
  · (refine ⟨rfl, ?_, ?_⟩ <;> simp only [zE0, zE1, zE2, zE3, zE4, zE5, evp, evx, ev1, evLoad, evStore, evBin, isBoolK, forall_const, z38, tb, Nat.reduceAdd, Nat.reduceSub, Nat.reduceMul, Nat.reduceEqDiff, Nat.reduceLeDiff, Nat.reduceLT, Nat.reduceBEq, Nat.reduceBNe, ↓reduceIte, reduceIte, zI])
    exact ⟨rfl, rfl⟩
  intro j hj
  have hr1 := hrb j
  have hnx : j < rw.length → rw.take (j + 1) = rw.take j ++ [rw.getD j 0] := fun h => take1 (d := 0) h
  repeat' first
    | with_reducible first | refine awp_seq ?_ | refine awp_block ?_ | refine next_then ?_ | refine next_block ?_ | refine exit_then ?_ | refine ret_then ?_ | refine ret_block ?_ | refine exit_here ?_ | refine awp_exit ?_ | refine awp_ret ?_ | refine awp_skip ?_ | refine awp_label ?_ | refine next_noGoto ?_ | refine ret_noGoto ?_ | refine exit_noGoto ?_ | refine awp_scope ?_
    | ((with_reducible refine exit_past ?_ ?_); exact rfl)
    | ((with_reducible refine isCond ?_); refine awp_condO rfl ?_ ?_ <;> intro hb <;> (try simp only [zH] at hb))
    | ((with_reducible refine isRegS 5 ?_ ?_); (· exact rfl); (with_reducible refine isRegS 8 ?_ ?_); (· exact rfl); (first | refine awp_textM htb hmz noSp (fun _ => false) rfl rfl ?_ | refine awp_drawM hmo htb hmz noSp (fun _ => false) rfl rfl (by kernel_rfl) ?_); intro m' e' l' ob h; simp only [zE0, zE1, zE2, zE3, zE4, zE5, evp, evx, ev1, evLoad, evStore, evBin, isBoolK, forall_const, z38, tb, Nat.reduceAdd, Nat.reduceSub, Nat.reduceMul, Nat.reduceEqDiff, Nat.reduceLeDiff, Nat.reduceLT, Nat.reduceBEq, Nat.reduceBNe, ↓reduceIte, reduceIte] at h; obtain ⟨rfl, rfl, rfl, rfl⟩ := h; refine ⟨?_, ?_⟩)
    | ((with_reducible refine Ob.mk ?_); first | exact trivial | (intros; omega) | ((repeat' first | apply And.intro | (intro hg; have hg' := hg; try simp only [zH] at hg')) <;> first | assumption | omega | (simp only [zH]; omega)))
  · have hjl : j < rw.length := by omega
    obtain ⟨q1, q2⟩ := hr1 hjl
    repeat' first
      | with_reducible first | refine awp_seq ?_ | refine awp_block ?_ | refine next_then ?_ | refine next_block ?_ | refine exit_then ?_ | refine ret_then ?_ | refine ret_block ?_ | refine exit_here ?_ | refine awp_exit ?_ | refine awp_ret ?_ | refine awp_skip ?_ | refine awp_label ?_ | refine next_noGoto ?_ | refine ret_noGoto ?_ | refine exit_noGoto ?_ | refine awp_scope ?_
      | ((with_reducible refine exit_past ?_ ?_); exact rfl)
      | ((with_reducible refine isCond ?_); refine awp_condO rfl ?_ ?_ <;> intro hb <;> (try simp only [zH] at hb))
      | ((with_reducible refine isReg ?_); (first | refine awp_textM htb hmz noSp (fun _ => false) rfl rfl ?_ | refine awp_drawM hmo htb hmz noSp (fun _ => false) rfl rfl (by kernel_rfl) ?_); intro m' e' l' ob h; simp only [zE0, zE1, zE2, zE3, zE4, zE5, evp, evx, ev1, evLoad, evStore, evBin, isBoolK, forall_const, z38, tb, Nat.reduceAdd, Nat.reduceSub, Nat.reduceMul, Nat.reduceEqDiff, Nat.reduceLeDiff, Nat.reduceLT, Nat.reduceBEq, Nat.reduceBNe, ↓reduceIte, reduceIte] at h; obtain ⟨rfl, rfl, rfl, rfl⟩ := h; refine ⟨?_, ?_⟩)
      | ((with_reducible refine Ob.mk ?_); first | exact trivial | (intros; omega) | ((repeat' first | apply And.intro | (intro hg; have hg' := hg; try simp only [zH] at hg')) <;> first | assumption | omega | (simp only [zH]; omega)))
    refine back (j + 1) [] ?_ (by omega) (by omega)
    (refine ⟨rfl, ?_, ?_⟩ <;> simp only [zE0, zE1, zE2, zE3, zE4, zE5, evp, evx, ev1, evLoad, evStore, evBin, isBoolK, forall_const, z38, tb, Nat.reduceAdd, Nat.reduceSub, Nat.reduceMul, Nat.reduceEqDiff, Nat.reduceLeDiff, Nat.reduceLT, Nat.reduceBEq, Nat.reduceBNe, ↓reduceIte, reduceIte, zI])
    rw [hnx hjl, List.any_append, List.all_append]
    simp
  have hje : j = rw.length := by omega
  subst hje
  rw [List.take_length]
  repeat' first
    | with_reducible first | refine awp_seq ?_ | refine awp_block ?_ | refine next_then ?_ | refine next_block ?_ | refine exit_then ?_ | refine ret_then ?_ | refine ret_block ?_ | refine exit_here ?_ | refine awp_exit ?_ | refine awp_ret ?_ | refine awp_skip ?_ | refine awp_label ?_ | refine next_noGoto ?_ | refine ret_noGoto ?_ | refine exit_noGoto ?_ | refine awp_scope ?_
    | ((with_reducible refine exit_past ?_ ?_); exact rfl)
    | ((with_reducible refine isCond ?_); refine awp_condO rfl ?_ ?_ <;> intro hb <;> (try simp only [zH] at hb))
    | ((with_reducible refine isReg ?_); (first | refine awp_textM htb hmz noSp (fun _ => false) rfl rfl ?_ | refine awp_drawM hmo htb hmz noSp (fun _ => false) rfl rfl (by kernel_rfl) ?_); intro m' e' l' ob h; simp only [zE0, zE1, zE2, zE3, zE4, zE5, evp, evx, ev1, evLoad, evStore, evBin, isBoolK, forall_const, z38, tb, Nat.reduceAdd, Nat.reduceSub, Nat.reduceMul, Nat.reduceEqDiff, Nat.reduceLeDiff, Nat.reduceLT, Nat.reduceBEq, Nat.reduceBNe, ↓reduceIte, reduceIte] at h; obtain ⟨rfl, rfl, rfl, rfl⟩ := h; refine ⟨?_, ?_⟩)
    | ((with_reducible refine Ob.mk ?_); first | exact trivial | (intros; omega) | ((repeat' first | apply And.intro | (intro hg; have hg' := hg; try simp only [zH] at hg')) <;> first | assumption | omega | (simp only [zH]; omega)))
  · refine fin_ret rfl rfl (spec_flat rfl ?_ rfl)
    show AV.bool (rw.any fun t => F.getD t.toNat false) = AV.bool (tyB ⟨o, p, x⟩ pl F u)
    rw [hty, decide_eq_true hb]
    simp
  · refine fin_ret rfl rfl (spec_flat rfl ?_ rfl)
    show AV.bool (rw.all fun t => F.getD t.toNat false) = AV.bool (tyB ⟨o, p, x⟩ pl F u)
    rw [hty, decide_eq_false hb]
    simp
noncomputable def spTr : Nat → Option Spec
  | 11 => some validS
  | 36 => some styS
  | _ => none
theorem spTr_ok : SpOK Try.prog spTr := by
  intro f S h
  unfold spTr at h
  split at h
  · cases h; exact valid12_ok
  · cases h; exact sty_ok
  · cases h
set_option maxRecDepth 4000 in
set_option maxHeartbeats 4000000 in
theorem trap13_ok : FSpec Try.prog 21 trapS := by
  refine fspec_of htb (fn := Try.f21) (by kernel_rfl) (by kernel_rfl) rfl (fun args r hS => ?_) (fun args r hS hob hl => ?_)
  · unfold trapS at hS; split at hS <;> first | (cases hS; done) | (cases hS; exact Nat.le_of_ble_eq_true rfl)
  unfold trapS at hS
  split at hS
  case h_2 => cases hS
  rename_i o p x pl l
  simp only [Option.some.injEq] at hS
  subst hS
  simp only [lenP, mkL, lim] at hl
  dsimp only at hob
  repeat' first
    | with_reducible first | refine awp_seq ?_ | refine awp_block ?_ | refine next_then ?_ | refine next_block ?_ | refine exit_then ?_ | refine ret_then ?_ | refine ret_block ?_ | refine exit_here ?_ | refine awp_exit ?_ | refine awp_ret ?_ | refine awp_skip ?_ | refine awp_label ?_ | refine next_noGoto ?_ | refine ret_noGoto ?_ | refine exit_noGoto ?_ | refine awp_scope ?_
    | ((with_reducible refine exit_past ?_ ?_); exact rfl)
    | ((with_reducible refine isCond ?_); refine awp_condO rfl ?_ ?_ <;> intro hb <;> (try simp only [zH] at hb))
    | ((with_reducible refine isRegS 3 ?_ ?_); (· exact rfl); (first | refine awp_textM htb hmz spTr_ok (fun _ => false) rfl rfl ?_ | refine awp_drawM hmo htb hmz spTr_ok (fun _ => false) rfl rfl (by kernel_rfl) ?_); intro m' e' l' ob h; simp only [zE0, zE1, zE2, zE3, zE4, zE5, evp, evx, ev1, evLoad, evStore, evBin, isBoolK, forall_const, z38, tb, Nat.reduceAdd, Nat.reduceSub, Nat.reduceMul, Nat.reduceEqDiff, Nat.reduceLeDiff, Nat.reduceLT, Nat.reduceBEq, Nat.reduceBNe, ↓reduceIte, reduceIte, spTr, validS, styS] at h; obtain ⟨rfl, rfl, rfl, rfl⟩ := h; refine ⟨?_, ?_⟩)
    | ((with_reducible refine Ob.mk ?_); first | exact trivial | (intros; omega) | ((repeat' first | apply And.intro | (intro hg; have hg' := hg; try simp only [zH] at hg')) <;> first | assumption | omega | (simp only [zH]; omega)))
  · refine fin_ret rfl rfl (spec_imp rfl ?_ rfl)
    have hv : validB ⟨o, p, x⟩ = false := by cases h : validB ⟨o, p, x⟩ with | false => rfl | true => rw [h] at hb; cases hb
    exact trap_imp (trap_e1 hv)
  have hv : validB ⟨o, p, x⟩ = true := hb
  have hV := validB_iff.1 hv
  obtain ⟨hn, hpl, hxl, hpos⟩ := id hV
  simp only [Gm.n] at hn hpl hxl
  clear hb
  repeat' first
    | with_reducible first | refine awp_seq ?_ | refine awp_block ?_ | refine next_then ?_ | refine next_block ?_ | refine exit_then ?_ | refine ret_then ?_ | refine ret_block ?_ | refine exit_here ?_ | refine awp_exit ?_ | refine awp_ret ?_ | refine awp_skip ?_ | refine awp_label ?_ | refine next_noGoto ?_ | refine ret_noGoto ?_ | refine exit_noGoto ?_ | refine awp_scope ?_
    | ((with_reducible refine exit_past ?_ ?_); exact rfl)
    | ((with_reducible refine isCond ?_); refine awp_condO rfl ?_ ?_ <;> intro hb <;> (try simp only [zH] at hb))
    | ((with_reducible refine isRegS 5 ?_ ?_); (· exact rfl); (first | refine awp_textM htb hmz spTr_ok (fun _ => false) rfl rfl ?_ | refine awp_drawM hmo htb hmz spTr_ok (fun _ => false) rfl rfl (by kernel_rfl) ?_); intro m' e' l' ob h; simp only [zE0, zE1, zE2, zE3, zE4, zE5, evp, evx, ev1, evLoad, evStore, evBin, isBoolK, forall_const, z38, tb, Nat.reduceAdd, Nat.reduceSub, Nat.reduceMul, Nat.reduceEqDiff, Nat.reduceLeDiff, Nat.reduceLT, Nat.reduceBEq, Nat.reduceBNe, ↓reduceIte, reduceIte, spTr, validS, styS] at h; obtain ⟨rfl, rfl, rfl, rfl⟩ := h; refine ⟨?_, ?_⟩)
    | ((with_reducible refine Ob.mk ?_); first | exact trivial | (intros; omega) | ((repeat' first | apply And.intro | (intro hg; have hg' := hg; try simp only [zH] at hg')) <;> first | assumption | omega | (simp only [zH]; omega)))
  · refine fin_ret rfl rfl (spec_imp rfl ?_ rfl)
    exact trap_imp (trap_e2 hv hb)
  have hp01 : ¬ (pl ≠ 0 ∧ pl ≠ 1) := fun h => by omega
  clear hb
  repeat' first
    | with_reducible first | refine awp_seq ?_ | refine awp_block ?_ | refine next_then ?_ | refine next_block ?_ | refine exit_then ?_ | refine ret_then ?_ | refine ret_block ?_ | refine exit_here ?_ | refine awp_exit ?_ | refine awp_ret ?_ | refine awp_skip ?_ | refine awp_label ?_ | refine next_noGoto ?_ | refine ret_noGoto ?_ | refine exit_noGoto ?_ | refine awp_scope ?_
    | ((with_reducible refine exit_past ?_ ?_); exact rfl)
    | ((with_reducible refine isCond ?_); refine awp_condO rfl ?_ ?_ <;> intro hb <;> (try simp only [zH] at hb))
    | ((with_reducible refine isReg ?_); (first | refine awp_textM htb hmz spTr_ok (fun _ => false) rfl rfl ?_ | refine awp_drawM hmo htb hmz spTr_ok (fun _ => false) rfl rfl (by kernel_rfl) ?_); intro m' e' l' ob h; simp only [zE0, zE1, zE2, zE3, zE4, zE5, evp, evx, ev1, evLoad, evStore, evBin, isBoolK, forall_const, z38, tb, Nat.reduceAdd, Nat.reduceSub, Nat.reduceMul, Nat.reduceEqDiff, Nat.reduceLeDiff, Nat.reduceLT, Nat.reduceBEq, Nat.reduceBNe, ↓reduceIte, reduceIte, spTr, validS, styS] at h; obtain ⟨rfl, rfl, rfl, rfl⟩ := h; refine ⟨?_, ?_⟩)
    | ((with_reducible refine Ob.mk ?_); first | exact trivial | (intros; omega) | ((repeat' first | apply And.intro | (intro hg; have hg' := hg; try simp only [zH] at hg')) <;> first | assumption | omega | (simp only [zH]; omega)))
  refine awp_loopC (τ := Nat) (fun i => i ≤ l.length ∧ ∀ j, j < i → 0 ≤ l.getD j 0 ∧ l.getD j 0 < (o.length : Int)) (fun i => ⟨20, [(32, .int .i64 i), (31, .int .i64 l.length), (30, .roI l), (8, .own 15), (7, .int .i64 0), (6, .cst (.slice none 0 0)), (1, .int .i64 pl), (3, .rop (.agg (.cons (.roI o) (.cons (.roI p) (.cons (.roII x) .nil)))))],
    [(15, some (.bools (iniF o.length l i)))], []⟩) (fun i => l.length - i) 0 [] ?_ ⟨Nat.zero_le _, fun j hj => absurd hj (Nat.not_lt_zero j)⟩ ?_
  · (refine ⟨rfl, ?_, ?_⟩ <;> simp only [zE0, zE1, zE2, zE3, zE4, zE5, evp, evx, ev1, evLoad, evStore, evBin, isBoolK, forall_const, z38, tb, Nat.reduceAdd, Nat.reduceSub, Nat.reduceMul, Nat.reduceEqDiff, Nat.reduceLeDiff, Nat.reduceLT, Nat.reduceBEq, Nat.reduceBNe, ↓reduceIte, reduceIte, spTr, validS, styS, zI])
    exact iniF_zero.symm
  rintro i ⟨hi, hok⟩
  have hil := iniF_len (n := o.length) (l := l) (i := i)
  repeat' first
    | with_reducible first | refine awp_seq ?_ | refine awp_block ?_ | refine next_then ?_ | refine next_block ?_ | refine exit_then ?_ | refine ret_then ?_ | refine ret_block ?_ | refine exit_here ?_ | refine awp_exit ?_ | refine awp_ret ?_ | refine awp_skip ?_ | refine awp_label ?_ | refine next_noGoto ?_ | refine ret_noGoto ?_ | refine exit_noGoto ?_ | refine awp_scope ?_
    | ((with_reducible refine exit_past ?_ ?_); exact rfl)
    | ((with_reducible refine isCond ?_); refine awp_condO rfl ?_ ?_ <;> intro hb <;> (try simp only [zH] at hb))
    | ((with_reducible refine isRegS 10 ?_ ?_); (· exact rfl); (with_reducible refine isRegS 11 ?_ ?_); (· exact rfl); (with_reducible refine isRegS 13 ?_ ?_); (· exact rfl); (first | refine awp_textM htb hmz spTr_ok (fun _ => false) rfl rfl ?_ | refine awp_drawM hmo htb hmz spTr_ok (fun _ => false) rfl rfl (by kernel_rfl) ?_); intro m' e' l' ob h; simp only [zE0, zE1, zE2, zE3, zE4, zE5, evp, evx, ev1, evLoad, evStore, evBin, isBoolK, forall_const, z38, tb, Nat.reduceAdd, Nat.reduceSub, Nat.reduceMul, Nat.reduceEqDiff, Nat.reduceLeDiff, Nat.reduceLT, Nat.reduceBEq, Nat.reduceBNe, ↓reduceIte, reduceIte, spTr, validS, styS] at h; obtain ⟨rfl, rfl, rfl, rfl⟩ := h; refine ⟨?_, ?_⟩)
    | ((with_reducible refine Ob.mk ?_); first | exact trivial | (intros; omega) | ((repeat' first | apply And.intro | (intro hg; have hg' := hg; try simp only [zH] at hg')) <;> first | (with_reducible exact True.intro) | assumption | omega | (simp only [zH]; omega)))
  · repeat' first
      | with_reducible first | refine awp_seq ?_ | refine awp_block ?_ | refine next_then ?_ | refine next_block ?_ | refine exit_then ?_ | refine ret_then ?_ | refine ret_block ?_ | refine exit_here ?_ | refine awp_exit ?_ | refine awp_ret ?_ | refine awp_skip ?_ | refine awp_label ?_ | refine next_noGoto ?_ | refine ret_noGoto ?_ | refine exit_noGoto ?_ | refine awp_scope ?_
      | ((with_reducible refine exit_past ?_ ?_); exact rfl)
      | ((with_reducible refine isCond ?_); refine awp_condO rfl ?_ ?_ <;> intro hb <;> (try simp only [zH] at hb))
      | ((with_reducible refine isReg ?_); (first | refine awp_textM htb hmz spTr_ok (fun _ => false) rfl rfl ?_ | refine awp_drawM hmo htb hmz spTr_ok (fun _ => false) rfl rfl (by kernel_rfl) ?_); intro m' e' l' ob h; simp only [zE0, zE1, zE2, zE3, zE4, zE5, evp, evx, ev1, evLoad, evStore, evBin, isBoolK, forall_const, z38, tb, Nat.reduceAdd, Nat.reduceSub, Nat.reduceMul, Nat.reduceEqDiff, Nat.reduceLeDiff, Nat.reduceLT, Nat.reduceBEq, Nat.reduceBNe, ↓reduceIte, reduceIte, spTr, validS, styS] at h; obtain ⟨rfl, rfl, rfl, rfl⟩ := h; refine ⟨?_, ?_⟩)
      | ((with_reducible refine Ob.mk ?_); first | exact trivial | (intros; omega) | ((repeat' first | apply And.intro | (intro hg; have hg' := hg; try simp only [zH] at hg')) <;> first | assumption | omega | (simp only [zH]; omega)))
    refine fin_ret rfl rfl (spec_imp rfl ?_ rfl)
    refine trap_imp (trap_e3 hv hp01 ⟨i, by omega, ?_⟩)
    show l.getD i 0 < 0 ∨ (o.length : Int) ≤ l.getD i 0
    omega
  · repeat' first
      | with_reducible first | refine awp_seq ?_ | refine awp_block ?_ | refine next_then ?_ | refine next_block ?_ | refine exit_then ?_ | refine ret_then ?_ | refine ret_block ?_ | refine exit_here ?_ | refine awp_exit ?_ | refine awp_ret ?_ | refine awp_skip ?_ | refine awp_label ?_ | refine next_noGoto ?_ | refine ret_noGoto ?_ | refine exit_noGoto ?_ | refine awp_scope ?_
      | ((with_reducible refine exit_past ?_ ?_); exact rfl)
      | ((with_reducible refine isCond ?_); refine awp_condO rfl ?_ ?_ <;> intro hb <;> (try simp only [zH] at hb))
      | ((with_reducible refine isReg ?_); (first | refine awp_textM htb hmz spTr_ok (fun _ => false) rfl rfl ?_ | refine awp_drawM hmo htb hmz spTr_ok (fun _ => false) rfl rfl (by kernel_rfl) ?_); intro m' e' l' ob h; simp only [zE0, zE1, zE2, zE3, zE4, zE5, evp, evx, ev1, evLoad, evStore, evBin, isBoolK, forall_const, z38, tb, Nat.reduceAdd, Nat.reduceSub, Nat.reduceMul, Nat.reduceEqDiff, Nat.reduceLeDiff, Nat.reduceLT, Nat.reduceBEq, Nat.reduceBNe, ↓reduceIte, reduceIte, spTr, validS, styS] at h; obtain ⟨rfl, rfl, rfl, rfl⟩ := h; refine ⟨?_, ?_⟩)
      | ((with_reducible refine Ob.mk ?_); first | exact trivial | (intros; omega) | ((repeat' first | apply And.intro | (intro hg; have hg' := hg; try simp only [zH] at hg')) <;> first | assumption | omega | (simp only [zH]; omega)))
    refine back (i + 1) [] ?_ ⟨by omega, fun j hj => ?_⟩ (by omega)
    · (refine ⟨rfl, ?_, ?_⟩ <;> simp only [zE0, zE1, zE2, zE3, zE4, zE5, evp, evx, ev1, evLoad, evStore, evBin, isBoolK, forall_const, z38, tb, Nat.reduceAdd, Nat.reduceSub, Nat.reduceMul, Nat.reduceEqDiff, Nat.reduceLeDiff, Nat.reduceLT, Nat.reduceBEq, Nat.reduceBNe, ↓reduceIte, reduceIte, spTr, validS, styS, zI])
      exact iniF_next (by omega)
    · rcases Nat.lt_succ_iff_lt_or_eq.1 hj with h | rfl
      · exact hok j h
      · omega
  have hie : i = l.length := by omega
  subst hie
  have hok4 : ¬ ∃ i, i < l.length ∧ (l.getD i 0 < 0 ∨ (o.length : Int) ≤ l.getD i 0) := fun ⟨i, h1, h2⟩ => by have := hok i h1; omega
  have et : trapR ⟨o, p, x⟩ pl l = ((kp (trT ⟨o, p, x⟩ pl (iniF o.length l l.length)) o.length).map fun v : Nat => (v : Int), 0) := trap_e4 hv hp01 hok4
  clear hok hok4
  generalize iniF o.length l l.length = F0 at *
  have hTl : (trT ⟨o, p, x⟩ pl F0).length = o.length := trT_len.trans hil
  generalize hTT : trT ⟨o, p, x⟩ pl F0 = T at *
  repeat' first
    | with_reducible first | refine awp_seq ?_ | refine awp_block ?_ | refine next_then ?_ | refine next_block ?_ | refine exit_then ?_ | refine ret_then ?_ | refine ret_block ?_ | refine exit_here ?_ | refine awp_exit ?_ | refine awp_ret ?_ | refine awp_skip ?_ | refine awp_label ?_ | refine next_noGoto ?_ | refine ret_noGoto ?_ | refine exit_noGoto ?_ | refine awp_scope ?_
    | ((with_reducible refine exit_past ?_ ?_); exact rfl)
    | ((with_reducible refine isCond ?_); refine awp_condO rfl ?_ ?_ <;> intro hb <;> (try simp only [zH] at hb))
    | ((with_reducible refine isRegS 14 ?_ ?_); (· exact rfl); (first | refine awp_textM htb hmz spTr_ok (fun _ => false) rfl rfl ?_ | refine awp_drawM hmo htb hmz spTr_ok (fun _ => false) rfl rfl (by kernel_rfl) ?_); intro m' e' l' ob h; simp only [zE0, zE1, zE2, zE3, zE4, zE5, evp, evx, ev1, evLoad, evStore, evBin, isBoolK, forall_const, z38, tb, Nat.reduceAdd, Nat.reduceSub, Nat.reduceMul, Nat.reduceEqDiff, Nat.reduceLeDiff, Nat.reduceLT, Nat.reduceBEq, Nat.reduceBNe, ↓reduceIte, reduceIte, spTr, validS, styS] at h; obtain ⟨rfl, rfl, rfl, rfl⟩ := h; refine ⟨?_, ?_⟩)
    | ((with_reducible refine Ob.mk ?_); first | exact trivial | (intros; omega) | ((repeat' first | apply And.intro | (intro hg; have hg' := hg; try simp only [zH] at hg')) <;> first | (with_reducible exact True.intro) | assumption | omega | (simp only [zH]; omega)))
  refine awp_loopC (τ := TpS) (fun t => t.F.length = o.length ∧ trT ⟨o, p, x⟩ pl t.F = T ∧ (t.c = false → sw ⟨o, p, x⟩ pl t.F o.length = t.F)) (fun t => ⟨22, [(11, .bool t.c), (8, .own 15), (7, .int .i64 0), (6, .cst (.slice none 0 0)), (1, .int .i64 pl), (3, .rop (.agg (.cons (.roI o) (.cons (.roI p) (.cons (.roII x) .nil)))))],
    [(15, some (.bools t.F))], []⟩) (fun t => ctB t.F + (bif t.c then 1 else 0)) ⟨F0, true⟩ [] ?_ ⟨hil, hTT, fun h => by cases h⟩ ?_
  · (refine ⟨rfl, ?_, ?_⟩ <;> simp only [zE0, zE1, zE2, zE3, zE4, zE5, evp, evx, ev1, evLoad, evStore, evBin, isBoolK, forall_const, z38, tb, Nat.reduceAdd, Nat.reduceSub, Nat.reduceMul, Nat.reduceEqDiff, Nat.reduceLeDiff, Nat.reduceLT, Nat.reduceBEq, Nat.reduceBNe, ↓reduceIte, reduceIte, spTr, validS, styS, zI])
  rintro ⟨F, c⟩ ⟨hFl, hFT, hFc⟩
  dsimp only at hFl hFT hFc ⊢
  repeat' first
    | with_reducible first | refine awp_seq ?_ | refine awp_block ?_ | refine next_then ?_ | refine next_block ?_ | refine exit_then ?_ | refine ret_then ?_ | refine ret_block ?_ | refine exit_here ?_ | refine awp_exit ?_ | refine awp_ret ?_ | refine awp_skip ?_ | refine awp_label ?_ | refine next_noGoto ?_ | refine ret_noGoto ?_ | refine exit_noGoto ?_ | refine awp_scope ?_
    | ((with_reducible refine exit_past ?_ ?_); exact rfl)
    | ((with_reducible refine isCond ?_); refine awp_condO rfl ?_ ?_ <;> intro hb <;> (try simp only [zH] at hb))
    | ((with_reducible refine isRegS 17 ?_ ?_); (· exact rfl); (with_reducible refine isRegS 22 ?_ ?_); (· exact rfl); (first | refine awp_textM htb hmz spTr_ok (fun _ => false) rfl rfl ?_ | refine awp_drawM hmo htb hmz spTr_ok (fun _ => false) rfl rfl (by kernel_rfl) ?_); intro m' e' l' ob h; simp only [zE0, zE1, zE2, zE3, zE4, zE5, evp, evx, ev1, evLoad, evStore, evBin, isBoolK, forall_const, z38, tb, Nat.reduceAdd, Nat.reduceSub, Nat.reduceMul, Nat.reduceEqDiff, Nat.reduceLeDiff, Nat.reduceLT, Nat.reduceBEq, Nat.reduceBNe, ↓reduceIte, reduceIte, spTr, validS, styS] at h; obtain ⟨rfl, rfl, rfl, rfl⟩ := h; refine ⟨?_, ?_⟩)
    | ((with_reducible refine Ob.mk ?_); first | exact trivial | (intros; omega) | ((repeat' first | apply And.intro | (intro hg; have hg' := hg; try simp only [zH] at hg')) <;> first | (with_reducible exact True.intro) | assumption | omega | (simp only [zH]; omega)))
  · have hc : c = true := hb
    subst hc
    clear hb
    have hsl : ∀ i, (sw ⟨o, p, x⟩ pl F i).length = o.length := fun i => sw_len.trans hFl
    have hoff := @sw_off ⟨o, p, x⟩ pl F
    have hon := @sw_on ⟨o, p, x⟩ pl F
    have hct := @sw_ct ⟨o, p, x⟩ pl F
    refine awp_loopC (τ := TqS) (fun t : TqS => t.F.length = o.length ∧ t.v ≤ o.length ∧ t.F = sw ⟨o, p, x⟩ pl F t.v ∧ (t.c = true → t.F ≠ F) ∧ (t.c = false → t.F = F)) (fun t => ⟨27, [(51, .int .i64 t.v), (50, .int .i64 o.length), (49, .own 15), (11, .bool t.c), (8, .own 15), (7, .int .i64 0), (6, .cst (.slice none 0 0)), (1, .int .i64 pl), (3, .rop (.agg (.cons (.roI o) (.cons (.roI p) (.cons (.roII x) .nil)))))],
      [(15, some (.bools t.F))], []⟩) (fun t => o.length - t.v) ⟨0, F, false⟩ [] ?_ ⟨hFl, Nat.zero_le _, sw_zero.symm, (fun h => by cases h), fun _ => rfl⟩ ?_
    · (refine ⟨rfl, ?_, ?_⟩ <;> simp only [zE0, zE1, zE2, zE3, zE4, zE5, evp, evx, ev1, evLoad, evStore, evBin, isBoolK, forall_const, z38, tb, Nat.reduceAdd, Nat.reduceSub, Nat.reduceMul, Nat.reduceEqDiff, Nat.reduceLeDiff, Nat.reduceLT, Nat.reduceBEq, Nat.reduceBNe, ↓reduceIte, reduceIte, spTr, validS, styS, zI])
      rw [hFl]
    rintro ⟨u, G, c⟩ ⟨hGl, hun, hG, hc1, hc2⟩
    dsimp only at hGl hun hG hc1 hc2 ⊢
    have hoff := @hoff u
    have hon := @hon u
    rw [← hG] at hoff hon
    repeat' first
      | with_reducible first | refine awp_seq ?_ | refine awp_block ?_ | refine next_then ?_ | refine next_block ?_ | refine exit_then ?_ | refine ret_then ?_ | refine ret_block ?_ | refine exit_here ?_ | refine awp_exit ?_ | refine awp_ret ?_ | refine awp_skip ?_ | refine awp_label ?_ | refine next_noGoto ?_ | refine ret_noGoto ?_ | refine exit_noGoto ?_ | refine awp_scope ?_
      | ((with_reducible refine exit_past ?_ ?_); exact rfl)
      | ((with_reducible refine isCond ?_); refine awp_condO rfl ?_ ?_ <;> intro hb <;> (try simp only [zH] at hb))
      | ((with_reducible refine isRegS 20 ?_ ?_); (· exact rfl); (with_reducible refine isRegS 22 ?_ ?_); (· exact rfl); (first | refine awp_textM htb hmz spTr_ok (fun _ => false) rfl rfl ?_ | refine awp_drawM hmo htb hmz spTr_ok (fun _ => false) rfl rfl (by kernel_rfl) ?_); intro m' e' l' ob h; simp only [zE0, zE1, zE2, zE3, zE4, zE5, evp, evx, ev1, evLoad, evStore, evBin, isBoolK, forall_const, z38, tb, Nat.reduceAdd, Nat.reduceSub, Nat.reduceMul, Nat.reduceEqDiff, Nat.reduceLeDiff, Nat.reduceLT, Nat.reduceBEq, Nat.reduceBNe, ↓reduceIte, reduceIte, spTr, validS, styS] at h; obtain ⟨rfl, rfl, rfl, rfl⟩ := h; refine ⟨?_, ?_⟩)
      | ((with_reducible refine Ob.mk ?_); first | exact trivial | (intros; omega) | ((repeat' first | apply And.intro | (intro hg; have hg' := hg; try simp only [zH] at hg')) <;> first | assumption | omega | (simp only [zH]; omega)))
    · obtain ⟨he, hne⟩ := hoff hb.1 hb.2
      repeat' first
        | with_reducible first | refine awp_seq ?_ | refine awp_block ?_ | refine next_then ?_ | refine next_block ?_ | refine exit_then ?_ | refine ret_then ?_ | refine ret_block ?_ | refine exit_here ?_ | refine awp_exit ?_ | refine awp_ret ?_ | refine awp_skip ?_ | refine awp_label ?_ | refine next_noGoto ?_ | refine ret_noGoto ?_ | refine exit_noGoto ?_ | refine awp_scope ?_
        | ((with_reducible refine exit_past ?_ ?_); exact rfl)
        | ((with_reducible refine isCond ?_); refine awp_condO rfl ?_ ?_ <;> intro hb <;> (try simp only [zH] at hb))
        | ((with_reducible refine isReg ?_); (first | refine awp_textM htb hmz spTr_ok (fun _ => false) rfl rfl ?_ | refine awp_drawM hmo htb hmz spTr_ok (fun _ => false) rfl rfl (by kernel_rfl) ?_); intro m' e' l' ob h; simp only [zE0, zE1, zE2, zE3, zE4, zE5, evp, evx, ev1, evLoad, evStore, evBin, isBoolK, forall_const, z38, tb, Nat.reduceAdd, Nat.reduceSub, Nat.reduceMul, Nat.reduceEqDiff, Nat.reduceLeDiff, Nat.reduceLT, Nat.reduceBEq, Nat.reduceBNe, ↓reduceIte, reduceIte, spTr, validS, styS] at h; obtain ⟨rfl, rfl, rfl, rfl⟩ := h; refine ⟨?_, ?_⟩)
        | ((with_reducible refine Ob.mk ?_); first | exact trivial | (intros; omega) | ((repeat' first | apply And.intro | (intro hg; have hg' := hg; try simp only [zH] at hg')) <;> first | assumption | omega | (simp only [zH]; omega)))
      refine back ⟨u + 1, G.set u false, true⟩ [] ?_ ⟨by dsimp only; rw [List.length_set, hGl], by dsimp only; omega, he.symm, fun _ => by dsimp only; rw [← he]; exact hne, fun h => by cases h⟩ (by dsimp only; omega)
      (refine ⟨rfl, ?_, ?_⟩ <;> simp only [zE0, zE1, zE2, zE3, zE4, zE5, evp, evx, ev1, evLoad, evStore, evBin, isBoolK, forall_const, z38, tb, Nat.reduceAdd, Nat.reduceSub, Nat.reduceMul, Nat.reduceEqDiff, Nat.reduceLeDiff, Nat.reduceLT, Nat.reduceBEq, Nat.reduceBNe, ↓reduceIte, reduceIte, spTr, validS, styS, zI])
    · have he := hon hb
      refine back ⟨u + 1, G, c⟩ [] ?_ ⟨hGl, by dsimp only; omega, he.symm, hc1, hc2⟩ (by dsimp only; omega)
      (refine ⟨rfl, ?_, ?_⟩ <;> simp only [zE0, zE1, zE2, zE3, zE4, zE5, evp, evx, ev1, evLoad, evStore, evBin, isBoolK, forall_const, z38, tb, Nat.reduceAdd, Nat.reduceSub, Nat.reduceMul, Nat.reduceEqDiff, Nat.reduceLeDiff, Nat.reduceLT, Nat.reduceBEq, Nat.reduceBNe, ↓reduceIte, reduceIte, spTr, validS, styS, zI])
    have hue : u = o.length := by omega
    subst hue
    have hGn : sw ⟨o, p, x⟩ pl F o.length = G := hG.symm
    have hGn2 : sw ⟨o, p, x⟩ pl F F.length = G := by rw [hFl]; exact hGn
    refine back ⟨G, c⟩ [] ?_ ⟨hGl, ?_, fun h => ?_⟩ ?_
    · (refine ⟨rfl, ?_, ?_⟩ <;> simp only [zE0, zE1, zE2, zE3, zE4, zE5, evp, evx, ev1, evLoad, evStore, evBin, isBoolK, forall_const, z38, tb, Nat.reduceAdd, Nat.reduceSub, Nat.reduceMul, Nat.reduceEqDiff, Nat.reduceLeDiff, Nat.reduceLT, Nat.reduceBEq, Nat.reduceBNe, ↓reduceIte, reduceIte, spTr, validS, styS, zI])
    · dsimp only
      cases c with
      | true =>
        rw [← hGn2, ← trT_next (by rw [hGn2]; exact hc1 rfl)]
        exact hFT
      | false => rw [hc2 rfl]; exact hFT
    · dsimp only at h ⊢
      rw [hc2 h] at hGn ⊢
      exact hGn
    · dsimp only
      cases c with
      | true =>
        have := (hct (i := o.length)).resolve_left (by rw [hGn]; exact hc1 rfl)
        rw [hGn] at this
        show ctB G + 1 < ctB F + 1
        omega
      | false =>
        rw [hc2 rfl]
        show ctB F + 0 < ctB F + 1
        omega
  have hFe : F = T := by
    have h1 := hFc hb
    rw [← hFl] at h1
    rw [← hFT, trT_end h1]
  subst hFe
  clear hFc hFT hb
  refine awp_fzN 15 (.roB F) (by simp only [lkr_cons, lkr_nil, fzE, fzA, fzR, fzB, set1, nbeq, Nat.reduceEqDiff, decide_true, decide_false, ↓reduceIte, reduceIte, cond_true, cond_false, List.take_length, Option.some.injEq]; rfl) (by first | exact rfl | (refine ⟨?_, rfl⟩; first | rfl | (intros; rfl))) (by simp only [lkr_cons, lkr_nil, fzE, fzA, fzR, fzB, set1, nbeq, Nat.reduceEqDiff, decide_true, decide_false, ↓reduceIte, reduceIte, cond_true, cond_false, List.take_length, Option.some.injEq]; rfl) (by simp only [lkr_cons, lkr_nil, fzE, fzA, fzR, fzB, set1, nbeq, Nat.reduceEqDiff, decide_true, decide_false, ↓reduceIte, reduceIte, cond_true, cond_false, List.take_length, Option.some.injEq]; rfl) ?_
  repeat' first
    | with_reducible first | refine awp_seq ?_ | refine awp_block ?_ | refine next_then ?_ | refine next_block ?_ | refine exit_then ?_ | refine ret_then ?_ | refine ret_block ?_ | refine exit_here ?_ | refine awp_exit ?_ | refine awp_ret ?_ | refine awp_skip ?_ | refine awp_label ?_ | refine next_noGoto ?_ | refine ret_noGoto ?_ | refine exit_noGoto ?_ | refine awp_scope ?_
    | ((with_reducible refine exit_past ?_ ?_); exact rfl)
    | ((with_reducible refine isCond ?_); refine awp_condO rfl ?_ ?_ <;> intro hb <;> (try simp only [zH] at hb))
    | ((with_reducible refine isReg ?_); (first | refine awp_textM htb hmz spTr_ok (fun _ => false) rfl rfl ?_ | refine awp_drawM hmo htb hmz spTr_ok (fun _ => false) rfl rfl (by kernel_rfl) ?_); intro m' e' l' ob h; simp only [zE0, zE1, zE2, zE3, zE4, zE5, evp, evx, ev1, evLoad, evStore, evBin, isBoolK, forall_const, z38, tb, Nat.reduceAdd, Nat.reduceSub, Nat.reduceMul, Nat.reduceEqDiff, Nat.reduceLeDiff, Nat.reduceLT, Nat.reduceBEq, Nat.reduceBNe, ↓reduceIte, reduceIte, spTr, validS, styS] at h; obtain ⟨rfl, rfl, rfl, rfl⟩ := h; refine ⟨?_, ?_⟩)
    | ((with_reducible refine Ob.mk ?_); first | exact trivial | (intros; omega) | ((repeat' first | apply And.intro | (intro hg; have hg' := hg; try simp only [zH] at hg')) <;> first | assumption | omega | (simp only [zH]; omega)))
  refine awp_nilslot 14 rfl rfl ?_
  refine awp_loopC (τ := Nat) (fun i => i ≤ F.length) (fun i => ⟨28, [(71, .int .i64 i), (70, .int .i64 F.length), (69, .roB F), (14, .own 27)], [(27, some (.ints ((kp F i).map fun v : Nat => (v : Int))))], []⟩) (fun i => F.length - i) 0 [] ?_ (Nat.zero_le _) ?_
  · (refine ⟨rfl, ?_, ?_⟩ <;> simp only [zE0, zE1, zE2, zE3, zE4, zE5, evp, evx, ev1, evLoad, evStore, evBin, isBoolK, forall_const, z38, tb, Nat.reduceAdd, Nat.reduceSub, Nat.reduceMul, Nat.reduceEqDiff, Nat.reduceLeDiff, Nat.reduceLT, Nat.reduceBEq, Nat.reduceBNe, ↓reduceIte, reduceIte, spTr, validS, styS, zI])
    rfl
  intro i hi
  have hkq : ((kp F i).map (fun v : Nat => (v : Int))).length ≤ i := by rw [List.length_map]; exact kp_len
  repeat' first
    | with_reducible first | refine awp_seq ?_ | refine awp_block ?_ | refine next_then ?_ | refine next_block ?_ | refine exit_then ?_ | refine ret_then ?_ | refine ret_block ?_ | refine exit_here ?_ | refine awp_exit ?_ | refine awp_ret ?_ | refine awp_skip ?_ | refine awp_label ?_ | refine next_noGoto ?_ | refine ret_noGoto ?_ | refine exit_noGoto ?_ | refine awp_scope ?_
    | ((with_reducible refine exit_past ?_ ?_); exact rfl)
    | ((with_reducible refine isCond ?_); refine awp_condO rfl ?_ ?_ <;> intro hb <;> (try simp only [zH] at hb))
    | ((with_reducible refine isRegS 26 ?_ ?_); (· exact rfl); (with_reducible refine isRegS 29 ?_ ?_); (· exact rfl); (first | refine awp_textM htb hmz spTr_ok (fun _ => false) rfl rfl ?_ | refine awp_drawM hmo htb hmz spTr_ok (fun _ => false) rfl rfl (by kernel_rfl) ?_); intro m' e' l' ob h; simp only [zE0, zE1, zE2, zE3, zE4, zE5, evp, evx, ev1, evLoad, evStore, evBin, isBoolK, forall_const, z38, tb, Nat.reduceAdd, Nat.reduceSub, Nat.reduceMul, Nat.reduceEqDiff, Nat.reduceLeDiff, Nat.reduceLT, Nat.reduceBEq, Nat.reduceBNe, ↓reduceIte, reduceIte, spTr, validS, styS] at h; obtain ⟨rfl, rfl, rfl, rfl⟩ := h; refine ⟨?_, ?_⟩)
    | ((with_reducible refine Ob.mk ?_); first | exact trivial | (intros; omega) | ((repeat' first | apply And.intro | (intro hg; have hg' := hg; try simp only [zH] at hg')) <;> first | assumption | omega | (simp only [zH]; omega)))
  · have hil : i < F.length := by omega
    have e1 := @kpm_next F (fun v : Nat => (v : Int)) i
    have e2 := @kpm_keep F (fun v : Nat => (v : Int)) i
    repeat' first
      | with_reducible first | refine awp_seq ?_ | refine awp_block ?_ | refine next_then ?_ | refine next_block ?_ | refine exit_then ?_ | refine ret_then ?_ | refine ret_block ?_ | refine exit_here ?_ | refine awp_exit ?_ | refine awp_ret ?_ | refine awp_skip ?_ | refine awp_label ?_ | refine next_noGoto ?_ | refine ret_noGoto ?_ | refine exit_noGoto ?_ | refine awp_scope ?_
      | ((with_reducible refine exit_past ?_ ?_); exact rfl)
      | ((with_reducible refine isCond ?_); refine awp_condO rfl ?_ ?_ <;> intro hb <;> (try simp only [zH] at hb))
      | ((with_reducible refine isRegS 28 ?_ ?_); (· exact rfl); (first | refine awp_textM htb hmz spTr_ok (fun _ => false) rfl rfl ?_ | refine awp_drawM hmo htb hmz spTr_ok (fun _ => false) rfl rfl (by kernel_rfl) ?_); intro m' e' l' ob h; simp only [zE0, zE1, zE2, zE3, zE4, zE5, evp, evx, ev1, evLoad, evStore, evBin, isBoolK, forall_const, z38, tb, Nat.reduceAdd, Nat.reduceSub, Nat.reduceMul, Nat.reduceEqDiff, Nat.reduceLeDiff, Nat.reduceLT, Nat.reduceBEq, Nat.reduceBNe, ↓reduceIte, reduceIte, spTr, validS, styS] at h; obtain ⟨rfl, rfl, rfl, rfl⟩ := h; refine ⟨?_, ?_⟩)
      | ((with_reducible refine Ob.mk ?_); first | exact trivial | (intros; omega) | ((repeat' first | apply And.intro | (intro hg; have hg' := hg; try simp only [zH] at hg')) <;> first | assumption | omega | (simp only [zH]; omega)))
    · have e1 := e1 hb
      repeat' first
        | with_reducible first | refine awp_seq ?_ | refine awp_block ?_ | refine next_then ?_ | refine next_block ?_ | refine exit_then ?_ | refine ret_then ?_ | refine ret_block ?_ | refine exit_here ?_ | refine awp_exit ?_ | refine awp_ret ?_ | refine awp_skip ?_ | refine awp_label ?_ | refine next_noGoto ?_ | refine ret_noGoto ?_ | refine exit_noGoto ?_ | refine awp_scope ?_
        | ((with_reducible refine exit_past ?_ ?_); exact rfl)
        | ((with_reducible refine isCond ?_); refine awp_condO rfl ?_ ?_ <;> intro hb <;> (try simp only [zH] at hb))
        | ((with_reducible refine isReg ?_); (first | refine awp_textM htb hmz spTr_ok (fun _ => false) rfl rfl ?_ | refine awp_drawM hmo htb hmz spTr_ok (fun _ => false) rfl rfl (by kernel_rfl) ?_); intro m' e' l' ob h; simp only [zE0, zE1, zE2, zE3, zE4, zE5, evp, evx, ev1, evLoad, evStore, evBin, isBoolK, forall_const, z38, tb, Nat.reduceAdd, Nat.reduceSub, Nat.reduceMul, Nat.reduceEqDiff, Nat.reduceLeDiff, Nat.reduceLT, Nat.reduceBEq, Nat.reduceBNe, ↓reduceIte, reduceIte, spTr, validS, styS] at h; obtain ⟨rfl, rfl, rfl, rfl⟩ := h; refine ⟨?_, ?_⟩)
        | ((with_reducible refine Ob.mk ?_); first | exact trivial | (intros; omega) | ((repeat' first | apply And.intro | (intro hg; have hg' := hg; try simp only [zH] at hg')) <;> first | assumption | omega | (simp only [zH]; omega)))
      refine back (i + 1) [(27, 38)] ?_ (by omega) (by omega)
      (refine ⟨rfl, ?_, ?_⟩ <;> simp only [zE0, zE1, zE2, zE3, zE4, zE5, evp, evx, ev1, evLoad, evStore, evBin, isBoolK, forall_const, z38, tb, Nat.reduceAdd, Nat.reduceSub, Nat.reduceMul, Nat.reduceEqDiff, Nat.reduceLeDiff, Nat.reduceLT, Nat.reduceBEq, Nat.reduceBNe, ↓reduceIte, reduceIte, spTr, validS, styS, zI])
      exact e1.symm
    · have e2 := e2 (by cases h : F.getD i false with | false => rfl | true => exact absurd h (by simpa using hb))
      repeat' first
        | with_reducible first | refine awp_seq ?_ | refine awp_block ?_ | refine next_then ?_ | refine next_block ?_ | refine exit_then ?_ | refine ret_then ?_ | refine ret_block ?_ | refine exit_here ?_ | refine awp_exit ?_ | refine awp_ret ?_ | refine awp_skip ?_ | refine awp_label ?_ | refine next_noGoto ?_ | refine ret_noGoto ?_ | refine exit_noGoto ?_ | refine awp_scope ?_
        | ((with_reducible refine exit_past ?_ ?_); exact rfl)
        | ((with_reducible refine isCond ?_); refine awp_condO rfl ?_ ?_ <;> intro hb <;> (try simp only [zH] at hb))
        | ((with_reducible refine isReg ?_); (first | refine awp_textM htb hmz spTr_ok (fun _ => false) rfl rfl ?_ | refine awp_drawM hmo htb hmz spTr_ok (fun _ => false) rfl rfl (by kernel_rfl) ?_); intro m' e' l' ob h; simp only [zE0, zE1, zE2, zE3, zE4, zE5, evp, evx, ev1, evLoad, evStore, evBin, isBoolK, forall_const, z38, tb, Nat.reduceAdd, Nat.reduceSub, Nat.reduceMul, Nat.reduceEqDiff, Nat.reduceLeDiff, Nat.reduceLT, Nat.reduceBEq, Nat.reduceBNe, ↓reduceIte, reduceIte, spTr, validS, styS] at h; obtain ⟨rfl, rfl, rfl, rfl⟩ := h; refine ⟨?_, ?_⟩)
        | ((with_reducible refine Ob.mk ?_); first | exact trivial | (intros; omega) | ((repeat' first | apply And.intro | (intro hg; have hg' := hg; try simp only [zH] at hg')) <;> first | assumption | omega | (simp only [zH]; omega)))
      refine back (i + 1) [] ?_ (by omega) (by omega)
      (refine ⟨rfl, ?_, ?_⟩ <;> simp only [zE0, zE1, zE2, zE3, zE4, zE5, evp, evx, ev1, evLoad, evStore, evBin, isBoolK, forall_const, z38, tb, Nat.reduceAdd, Nat.reduceSub, Nat.reduceMul, Nat.reduceEqDiff, Nat.reduceLeDiff, Nat.reduceLT, Nat.reduceBEq, Nat.reduceBNe, ↓reduceIte, reduceIte, spTr, validS, styS, zI])
      exact e2.symm
  have hie : i = F.length := by omega
  subst hie
  refine awp_fzN 27 (.roI ((kp F F.length).map fun v : Nat => (v : Int))) (by simp only [lkr_cons, lkr_nil, fzE, fzA, fzR, fzB, set1, nbeq, Nat.reduceEqDiff, decide_true, decide_false, ↓reduceIte, reduceIte, cond_true, cond_false, List.take_length, Option.some.injEq]; rfl) (by first | exact rfl | (refine ⟨?_, rfl⟩; first | rfl | (intros; rfl))) (by simp only [lkr_cons, lkr_nil, fzE, fzA, fzR, fzB, set1, nbeq, Nat.reduceEqDiff, decide_true, decide_false, ↓reduceIte, reduceIte, cond_true, cond_false, List.take_length, Option.some.injEq]; rfl) (by simp only [lkr_cons, lkr_nil, fzE, fzA, fzR, fzB, set1, nbeq, Nat.reduceEqDiff, decide_true, decide_false, ↓reduceIte, reduceIte, cond_true, cond_false, List.take_length, Option.some.injEq]; rfl) ?_
  repeat' first
    | with_reducible first | refine awp_seq ?_ | refine awp_block ?_ | refine next_then ?_ | refine next_block ?_ | refine exit_then ?_ | refine ret_then ?_ | refine ret_block ?_ | refine exit_here ?_ | refine awp_exit ?_ | refine awp_ret ?_ | refine awp_skip ?_ | refine awp_label ?_ | refine next_noGoto ?_ | refine ret_noGoto ?_ | refine exit_noGoto ?_ | refine awp_scope ?_
    | ((with_reducible refine exit_past ?_ ?_); exact rfl)
    | ((with_reducible refine isCond ?_); refine awp_condO rfl ?_ ?_ <;> intro hb <;> (try simp only [zH] at hb))
    | ((with_reducible refine isReg ?_); (first | refine awp_textM htb hmz spTr_ok (fun _ => false) rfl rfl ?_ | refine awp_drawM hmo htb hmz spTr_ok (fun _ => false) rfl rfl (by kernel_rfl) ?_); intro m' e' l' ob h; simp only [zE0, zE1, zE2, zE3, zE4, zE5, evp, evx, ev1, evLoad, evStore, evBin, isBoolK, forall_const, z38, tb, Nat.reduceAdd, Nat.reduceSub, Nat.reduceMul, Nat.reduceEqDiff, Nat.reduceLeDiff, Nat.reduceLT, Nat.reduceBEq, Nat.reduceBNe, ↓reduceIte, reduceIte, spTr, validS, styS] at h; obtain ⟨rfl, rfl, rfl, rfl⟩ := h; refine ⟨?_, ?_⟩)
    | ((with_reducible refine Ob.mk ?_); first | exact trivial | (intros; omega) | ((repeat' first | apply And.intro | (intro hg; have hg' := hg; try simp only [zH] at hg')) <;> first | assumption | omega | (simp only [zH]; omega)))
  refine fin_ret rfl rfl (spec_flat rfl ?_ rfl)
  rw [et, hFl]
  rfl
end Go.Proofs.Ytlckljphakkomaa.Cal
namespace Go.Proofs.Ytlckljphakkomaa.Cal
open Go Pl
theorem fold_get {F : List Bool} {u : Nat} : ∀ {l : List Int}, u < F.length → ((l.foldl (fun F v => F.set v.toNat true) F).getD u false = true ↔ F.getD u false = true ∨ ∃ v, v ∈ l ∧ v.toNat = u)
  | [], h => by simp
  | a :: l, h => by
    rw [List.foldl_cons, fold_get (l := l) (F := F.set a.toNat true) (by rw [List.length_set]; exact h), getD_setB]
    by_cases e : u = a.toNat ∧ a.toNat < F.length
    · rw [if_pos e]
      exact ⟨fun _ => .inr ⟨a, List.mem_cons_self, e.1.symm⟩, fun _ => .inl rfl⟩
    · rw [if_neg e]
      constructor
      · rintro (h1 | ⟨v, h1, h2⟩)
        · exact .inl h1
        · exact .inr ⟨v, List.mem_cons_of_mem _ h1, h2⟩
      · rintro (h1 | ⟨v, h1, h2⟩)
        · exact .inl h1
        · rcases List.mem_cons.1 h1 with rfl | h1
          · exact absurd ⟨h2.symm, by omega⟩ e
          · exact .inr ⟨v, h1, h2⟩
theorem iniF_kp {T : List Bool} {n : Nat} (h : T.length = n) : iniF n ((kp T n).map fun v : Nat => (v : Int)) (kp T n).length = T := by
  refine List.ext_getElem (iniF_len.trans h.symm) fun j h1 h2 => ?_
  rw [iniF_len] at h1
  have e1 := fold_get (F := List.replicate n false) (u := j) (l := (kp T n).map fun v : Nat => (v : Int)) (by rw [List.length_replicate]; exact h1)
  have e0 : (List.replicate n false).getD j false = false := by
    rw [List.getD_eq_getElem?_getD, List.getElem?_replicate, if_pos h1]; rfl
  have ei : iniF n ((kp T n).map fun v : Nat => (v : Int)) (kp T n).length = ((kp T n).map fun v : Nat => (v : Int)).foldl (fun F v => F.set v.toNat true) (List.replicate n false) := by
    unfold iniF
    rw [show (kp T n).length = ((kp T n).map fun v : Nat => (v : Int)).length by rw [List.length_map], List.take_length]
  rw [← ei, e0] at e1
  have g1 : ∀ {F : List Bool} (hj : j < F.length), F[j] = F.getD j false := fun hj => by rw [List.getD_eq_getElem?_getD, List.getElem?_eq_getElem hj]; rfl
  rw [g1, g1 h2, Bool.eq_iff_iff, e1]
  constructor
  · rintro (h3 | ⟨v, h3, h4⟩)
    · cases h3
    · obtain ⟨w, h5, rfl⟩ := List.mem_map.1 h3
      rw [Int.toNat_natCast] at h4
      subst h4
      exact (List.mem_filter.1 h5).2
  · intro h3
    exact .inr ⟨j, List.mem_map.2 ⟨j, List.mem_filter.2 ⟨List.mem_range.2 h1, h3⟩, rfl⟩, Int.toNat_natCast _⟩
section
variable {g : Gm} {K : List Bool} {pl : Int}
theorem ty_some (hr : ∀ v, v < g.own.length → 1 ≤ (g.nxt.getD v []).length) {v : Nat} (hv : v < g.own.length) (h : tyB g pl K v = true) : ptr g.nxt K v ≠ [] := by
  have h1 : 0 < inN K (g.nxt.getD v []) := by
    unfold tyB at h
    rw [Bool.or_eq_true, Bool.and_eq_true, Bool.and_eq_true] at h
    rcases h with ⟨_, h⟩ | ⟨_, h⟩
    · exact of_decide_eq_true h
    · have := of_decide_eq_true h
      have := hr v hv
      omega
  unfold inN at h1
  obtain ⟨t, h2, h3⟩ := List.countP_pos_iff.1 h1
  intro h4
  have : nmF K t.toNat ∈ ptr g.nxt K v := List.mem_map.2 ⟨t, List.mem_filter.2 ⟨h2, h3⟩, rfl⟩
  rw [h4] at this
  exact List.not_mem_nil this
theorem ty_all {v : Nat} (ho : g.own.getD v 0 ≠ pl) (h : tyB g pl K v = true) {t : Nat} (ht : t ∈ sc g.nxt v) : K.getD t false = true := by
  unfold tyB at h
  rw [decide_eq_false ho, Bool.false_and, Bool.false_or, Bool.not_false, Bool.true_and] at h
  have h := of_decide_eq_true h
  obtain ⟨s, h1, rfl⟩ := List.mem_map.1 ht
  unfold inN at h
  exact List.countP_eq_length.1 h s h1
theorem trap_win (hV : Valid g) (hK : K.length = g.own.length) (hp : pl = 0 ∨ pl = 1) (hty : ∀ v, v < g.own.length → K.getD v false = true → tyB g pl K v = true) {W C W0 C0 : List Int} (S : ZS2 g K W0 C0 W C) {v : Nat} (hv : K.getD v false = true) (hw : W.getD v 0 = pl) : (winA g).getD v 0 = pl := by
  obtain ⟨hw01, c, h0, h1⟩ := win_sol hV
  have hlt : ∀ {v}, K.getD v false = true → v < g.own.length := fun h => lt_of_in (by omega) h
  have hown : ∀ v, v < g.own.length → g.own.getD v 0 = 0 ∨ g.own.getD v 0 = 1 := fun v hv => by
    obtain ⟨⟨a1, a2, _⟩, _⟩ := hV.2.2.2 v hv
    simp only [Gm.o] at a1 a2
    omega
  have hs := S.sol pl hp
  -- the choices, for all positions
  let V : Nat → Int := fun v => if K.getD v false = true ∧ W.getD v 0 = pl then pl else 1 - pl
  have hV1 : ∀ {v}, V v = pl → K.getD v false = true ∧ W.getD v 0 = pl := fun {v} h => by
    by_cases e : K.getD v false = true ∧ W.getD v 0 = pl
    · exact e
    · have : V v = 1 - pl := if_neg e
      omega
  have hV2 : ∀ {v}, K.getD v false = true → W.getD v 0 = pl → V v = pl := fun h1 h2 => if_pos ⟨h1, h2⟩
  have sol : Sol (fun v => g.own.getD v 0) (fun v => g.pri.getD v 0) (sc g.nxt) (fun v => v < g.own.length) V (fun v => (C.getD v 0).toNat) pl := by
    refine ⟨fun v hv hw ho => ?_, fun v hv hw ho t ht hKt => ?_, fun w hw hww hpr hcy => ?_⟩
    · obtain ⟨a1, a2⟩ := hV1 hw
      obtain ⟨b1, b2, b3⟩ := hs.mine v a1 a2 ho
      exact ⟨b1, hlt b2, hV2 b2 b3⟩
    · obtain ⟨a1, a2⟩ := hV1 hw
      have hKt2 := ty_all (g := g) ho (hty v hv a1) ht
      exact hV2 hKt2 (hs.his v a1 a2 ho t ht hKt2)
    · obtain ⟨a1, a2⟩ := hV1 hww
      refine hs.cyc w a1 a2 hpr ?_
      have hE : ∀ a b, True → Low (Stp (fun v => g.own.getD v 0) (sc g.nxt) (fun v => v < g.own.length) V (fun v => (C.getD v 0).toNat) pl) (fun v => g.pri.getD v 0) w a b →
          Low (Stp (fun v => g.own.getD v 0) (sc g.nxt) (fun v => K.getD v false = true) (fun v => W.getD v 0) (fun v => (C.getD v 0).toNat) pl) (fun v => g.pri.getD v 0) w a b ∧ True := by
        rintro a b _ ⟨⟨⟨ha, hwa⟩, hb, hm, hh⟩, hl⟩
        obtain ⟨c1, c2⟩ := hV1 hwa
        refine ⟨⟨⟨⟨c1, c2⟩, ?_, hm, hh⟩, hl⟩, trivial⟩
        by_cases ho : g.own.getD a 0 = pl
        · have : b = (C.getD a 0).toNat := hm ho
          rw [this]
          exact (hs.mine a c1 c2 ho).2.1
        · exact ty_all ho (hty a ha c1) (hh ho)
      obtain ⟨t, q1, q2⟩ := hcy
      exact ⟨t, (hE w t trivial q1).1, (Rch.mapD (f := id) (D := fun _ => True) hE q2 trivial).1⟩
  have hvn := hlt hv
  have hx := hw01 v hvn
  rcases hp with rfl | rfl
  · have := sol_apart (fun v hv => hv) sol h1 hown hvn (hV2 hv hw)
    have : (winA g).getD v 0 ≠ 1 := this
    omega
  · rcases hx with e3 | e3
    · exact absurd (hV2 hv hw) (sol_apart (fun v hv => hv) h0 sol hown hvn e3)
    · exact e3
end
end Go.Proofs.Ytlckljphakkomaa.Cal
