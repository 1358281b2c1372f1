/- Own texts of the proof, merged, in order. -/
import Derived.Test.YtgminhedbeblpaaS20
set_option linter.unusedVariables false
set_option linter.unusedSimpArgs false
namespace Go.Proofs.Ytgminhedbeblpaa.Cal
open Go Pl
theorem fnd_shift {k : Int} : ∀ {es : List (Int × Int × Nat)} {i : Nat}, fnd k es (i + 1) = (fnd k es i).map fun p => (p.1 + 1, p.2)
  | [], _ => rfl
  | e :: t, i => by
    unfold fnd
    split
    · rfl
    · exact fnd_shift
theorem mget_cons {k : Int} {e : Int × Int × Nat} {t : List (Int × Int × Nat)} : mget k (e :: t) = if k = e.1 then e.2.1 else mget k t := by
  unfold mget
  rw [fnd]
  by_cases h : k = e.1
  · rw [if_pos h, if_pos h]
  · rw [if_neg h, if_neg h, fnd_shift]
    cases fnd k t 0 <;> rfl
theorem mput_cons {k v : Int} {c : Nat} {e : Int × Int × Nat} {t : List (Int × Int × Nat)} : mput k v c (e :: t) = if k = e.1 then (k, v, e.2.2) :: t else e :: mput k v c t := by
  unfold mput
  rw [fnd]
  by_cases h : k = e.1
  · rw [if_pos h, if_pos h]; rfl
  · rw [if_neg h, if_neg h, fnd_shift]
    cases fnd k t 0 <;> rfl
theorem mget_mput {k k' v : Int} {c : Nat} : ∀ {es : List (Int × Int × Nat)}, mget k (mput k' v c es) = if k = k' then v else mget k es
  | [] => by
    have : mput k' v c [] = [(k', v, c)] := rfl
    rw [this, mget_cons]
  | e :: t => by
    rw [mput_cons]
    by_cases h : k' = e.1
    · rw [if_pos h, mget_cons, mget_cons]
      dsimp only
      rw [← h]
      split <;> rfl
    · rw [if_neg h, mget_cons, mget_cons, mget_mput (es := t)]
      by_cases h2 : k = e.1
      · rw [if_pos h2, if_pos h2, if_neg (fun e2 : k = k' => h (by rw [← e2]; exact h2))]
      · rw [if_neg h2, if_neg h2]
/-- The map of how often each priority is there, after i positions. -/
def mpN (p : List Int) : Nat → List (Int × Int × Nat) × Nat
  | 0 => ([], 0)
  | i + 1 => (mput (p.getD i 0) (mget (p.getD i 0) (mpN p i).1 + 1) (mpN p i).2 (mpN p i).1, mclk (p.getD i 0) (mpN p i).2 (mpN p i).1)
theorem mpN_get {p : List Int} {k : Int} : ∀ {i : Nat}, i ≤ p.length → mget k (mpN p i).1 = (((p.take i).count k : Nat) : Int)
  | 0, _ => by simp [mpN, mget, fnd]
  | i + 1, h => by
    rw [mpN, mget_mput, take1 (d := 0) (by omega), List.count_append, mpN_get (i := i) (by omega), mpN_get (i := i) (by omega)]
    by_cases e : k = p.getD i 0
    · rw [if_pos e, e, List.count_singleton_self]; rfl
    · rw [if_neg e, List.count_singleton, if_neg (by simp only [beq_iff_eq]; exact fun h => e h.symm)]; rfl
/-- The odd priorities from 60 down, k steps, and how many positions have them. -/
def odN (p : List Int) : Nat → List Int
  | 0 => []
  | k + 1 => if (60 - (k : Int)) % 2 = 1 ∧ 0 < p.count (60 - (k : Int)) then odN p k ++ [60 - (k : Int)] else odN p k
def mnN (p : List Int) (k : Nat) : List Int := (odN p k).map fun q => ((p.count q : Nat) : Int)
theorem odN_yes {p : List Int} {k : Nat} (h : (60 - (k : Int)) % 2 = 1 ∧ 0 < p.count (60 - (k : Int))) : odN p (k + 1) = odN p k ++ [60 - (k : Int)] ∧ mnN p (k + 1) = mnN p k ++ [((p.count (60 - (k : Int)) : Nat) : Int)] := by
  have : odN p (k + 1) = odN p k ++ [60 - (k : Int)] := by rw [odN, if_pos h]
  exact ⟨this, by unfold mnN; rw [this, List.map_append]; rfl⟩
theorem odN_no {p : List Int} {k : Nat} (h : ¬ ((60 - (k : Int)) % 2 = 1 ∧ 0 < p.count (60 - (k : Int)))) : odN p (k + 1) = odN p k ∧ mnN p (k + 1) = mnN p k := by
  have : odN p (k + 1) = odN p k := by rw [odN, if_neg h]
  exact ⟨this, by unfold mnN; rw [this]⟩
theorem odN_len {p : List Int} : ∀ k, (odN p k).length ≤ k
  | 0 => Nat.le_refl _
  | k + 1 => by
    have := odN_len (p := p) k
    unfold odN
    split
    · rw [List.length_append, List.length_singleton]; omega
    · omega
theorem mnN_len {p : List Int} {k : Nat} : (mnN p k).length = (odN p k).length := List.length_map ..
def scaleS : Spec
  | [.agg (.cons (.roI o) (.cons (.roI p) (.cons (.roII x) .nil)))] => some ⟨p.length ≤ 100000, .agg (.cons (.roI (odN p 61)) (.cons (.roI (mnN p 61)) .nil)), none⟩
  | _ => none
set_option maxRecDepth 4000 in
set_option maxHeartbeats 4000000 in
theorem scale_ok : FSpec Try.prog 30 scaleS := by
  refine fspec_of htb (fn := Try.f30) (by kernel_rfl) (by kernel_rfl) rfl (fun args r hS => ?_) (fun args r hS hob hl => ?_)
  · unfold scaleS at hS; split at hS <;> first | (cases hS; done) | (cases hS; exact Nat.le_of_ble_eq_true rfl)
  unfold scaleS at hS
  split at hS
  case h_2 => cases hS
  rename_i o p x
  simp only [Option.some.injEq] at hS
  subst hS
  simp only [lenP, mkL, lim] at hl
  dsimp only at hob
  repeat' first
    | with_reducible first | refine awp_seq ?_ | refine awp_block ?_ | refine next_then ?_ | refine next_block ?_ | refine exit_then ?_ | refine ret_then ?_ | refine ret_block ?_ | refine exit_here ?_ | refine awp_exit ?_ | refine awp_ret ?_ | refine awp_skip ?_ | refine awp_label ?_ | refine next_noGoto ?_ | refine ret_noGoto ?_ | refine exit_noGoto ?_ | refine awp_scope ?_
    | ((with_reducible refine exit_past ?_ ?_); exact rfl)
    | ((with_reducible refine isCond ?_); refine awp_condO rfl ?_ ?_ <;> intro hb <;> (try simp only [zH] at hb))
    | ((with_reducible refine isReg ?_); (first | refine awp_textM htb hmz noSp (fun _ => false) rfl rfl ?_ | refine awp_drawM hmo htb hmz noSp (fun _ => false) rfl rfl (by kernel_rfl) ?_); intro m' e' l' ob h; simp only [zE0, zE1, zE2, zE3, zE4, zE5, evp, evx, ev1, evLoad, evStore, evBin, isBoolK, forall_const, z38, tb, Nat.reduceAdd, Nat.reduceSub, Nat.reduceMul, Nat.reduceEqDiff, Nat.reduceLeDiff, Nat.reduceLT, Nat.reduceBEq, Nat.reduceBNe, ↓reduceIte, reduceIte] at h; obtain ⟨rfl, rfl, rfl, rfl⟩ := h; refine ⟨?_, ?_⟩)
    | ((with_reducible refine Ob.mk ?_); first | exact trivial | (intros; omega) | ((repeat' first | apply And.intro | (intro hg; have hg' := hg; try simp only [zH] at hg')) <;> first | assumption | omega | (simp only [zH]; omega)))
  refine awp_loopC (τ := Nat) (fun i => i ≤ p.length) (fun i => ⟨8, [(12, .int .i64 i), (11, .int .i64 p.length), (10, .roI p), (3, .own 2), (2, .own 1), (1, .rop (.agg (.cons (.roI o) (.cons (.roI p) (.cons (.roII x) .nil)))))],
    [(1, some (.box (.agg (.cons (.cst (Value.slice none 0 0)) (.cons (.cst (Value.slice none 0 0)) .nil))))), (2, some (.mp (mpN p i).1 (mpN p i).2))], []⟩) (fun i => p.length - i) 0 [] ?_ (Nat.zero_le _) ?_
  · (refine ⟨rfl, ?_, ?_⟩ <;> simp only [zE0, zE1, zE2, zE3, zE4, zE5, evp, evx, ev1, evLoad, evStore, evBin, isBoolK, forall_const, z38, tb, Nat.reduceAdd, Nat.reduceSub, Nat.reduceMul, Nat.reduceEqDiff, Nat.reduceLeDiff, Nat.reduceLT, Nat.reduceBEq, Nat.reduceBNe, ↓reduceIte, reduceIte, zI])
    rfl
  intro i hi
  have hg := @mpN_get p (p.getD i 0) i hi
  have hcl : (p.take i).count (p.getD i 0) ≤ p.length := Nat.le_trans List.count_le_length (by rw [List.length_take]; omega)
  repeat' first
    | with_reducible first | refine awp_seq ?_ | refine awp_block ?_ | refine next_then ?_ | refine next_block ?_ | refine exit_then ?_ | refine ret_then ?_ | refine ret_block ?_ | refine exit_here ?_ | refine awp_exit ?_ | refine awp_ret ?_ | refine awp_skip ?_ | refine awp_label ?_ | refine next_noGoto ?_ | refine ret_noGoto ?_ | refine exit_noGoto ?_ | refine awp_scope ?_
    | ((with_reducible refine exit_past ?_ ?_); exact rfl)
    | ((with_reducible refine isCond ?_); refine awp_condO rfl ?_ ?_ <;> intro hb <;> (try simp only [zH] at hb))
    | ((with_reducible refine isRegS 7 ?_ ?_); (· exact rfl); (first | refine awp_textM htb hmz noSp (fun _ => false) rfl rfl ?_ | refine awp_drawM hmo htb hmz noSp (fun _ => false) rfl rfl (by kernel_rfl) ?_); intro m' e' l' ob h; simp only [zE0, zE1, zE2, zE3, zE4, zE5, evp, evx, ev1, evLoad, evStore, evBin, isBoolK, forall_const, z38, tb, Nat.reduceAdd, Nat.reduceSub, Nat.reduceMul, Nat.reduceEqDiff, Nat.reduceLeDiff, Nat.reduceLT, Nat.reduceBEq, Nat.reduceBNe, ↓reduceIte, reduceIte] at h; obtain ⟨rfl, rfl, rfl, rfl⟩ := h; refine ⟨?_, ?_⟩)
    | ((with_reducible refine Ob.mk ?_); first | exact trivial | (intros; omega) | ((repeat' first | apply And.intro | (intro hg; have hg' := hg; try simp only [zH] at hg')) <;> first | assumption | omega | (simp only [zH]; omega)))
  · refine back (i + 1) [] ?_ (by omega) (by omega)
    (refine ⟨rfl, ?_, ?_⟩ <;> simp only [zE0, zE1, zE2, zE3, zE4, zE5, evp, evx, ev1, evLoad, evStore, evBin, isBoolK, forall_const, z38, tb, Nat.reduceAdd, Nat.reduceSub, Nat.reduceMul, Nat.reduceEqDiff, Nat.reduceLeDiff, Nat.reduceLT, Nat.reduceBEq, Nat.reduceBNe, ↓reduceIte, reduceIte, zI])
    rfl
  have hie : i = p.length := by omega
  subst hie
  clear hg hcl
  have hM : ∀ k, mget k (mpN p p.length).1 = ((p.count k : Nat) : Int) := fun k => by rw [mpN_get (Nat.le_refl _), List.take_length]
  generalize mpN p p.length = M at *
  obtain ⟨E, C⟩ := M
  dsimp only at hM ⊢
  repeat' first
    | with_reducible first | refine awp_seq ?_ | refine awp_block ?_ | refine next_then ?_ | refine next_block ?_ | refine exit_then ?_ | refine ret_then ?_ | refine ret_block ?_ | refine exit_here ?_ | refine awp_exit ?_ | refine awp_ret ?_ | refine awp_skip ?_ | refine awp_label ?_ | refine next_noGoto ?_ | refine ret_noGoto ?_ | refine exit_noGoto ?_ | refine awp_scope ?_
    | ((with_reducible refine exit_past ?_ ?_); exact rfl)
    | ((with_reducible refine isCond ?_); refine awp_condO rfl ?_ ?_ <;> intro hb <;> (try simp only [zH] at hb))
    | ((with_reducible refine isReg ?_); (first | refine awp_textM htb hmz noSp (fun _ => false) rfl rfl ?_ | refine awp_drawM hmo htb hmz noSp (fun _ => false) rfl rfl (by kernel_rfl) ?_); intro m' e' l' ob h; simp only [zE0, zE1, zE2, zE3, zE4, zE5, evp, evx, ev1, evLoad, evStore, evBin, isBoolK, forall_const, z38, tb, Nat.reduceAdd, Nat.reduceSub, Nat.reduceMul, Nat.reduceEqDiff, Nat.reduceLeDiff, Nat.reduceLT, Nat.reduceBEq, Nat.reduceBNe, ↓reduceIte, reduceIte] at h; obtain ⟨rfl, rfl, rfl, rfl⟩ := h; refine ⟨?_, ?_⟩)
    | ((with_reducible refine Ob.mk ?_); first | exact trivial | (intros; omega) | ((repeat' first | apply And.intro | (intro hg; have hg' := hg; try simp only [zH] at hg')) <;> first | assumption | omega | (simp only [zH]; omega)))
  refine awp_nilbox 9 (.ints []) (.agg (.cons (.own 11) (.cons (.cst (Value.slice none 0 0)) .nil))) rfl rfl rfl (by first | exact .inl rfl | exact .inr (.inl rfl) | exact .inr (.inr (.inl rfl)) | exact .inr (.inr (.inr rfl))) (by simp only [lkr_cons, lkr_nil, fzE, fzA, fzR, fzB, set1, nbeq, Nat.reduceEqDiff, decide_true, decide_false, ↓reduceIte, reduceIte, cond_true, cond_false, List.take_length, Option.some.injEq] <;> rfl) rfl ?_
  refine awp_nilbox 9 (.ints []) (.agg (.cons (.own 11) (.cons (.own 12) .nil))) rfl rfl rfl (by first | exact .inl rfl | exact .inr (.inl rfl) | exact .inr (.inr (.inl rfl)) | exact .inr (.inr (.inr rfl))) (by simp only [lkr_cons, lkr_nil, fzE, fzA, fzR, fzB, set1, nbeq, Nat.reduceEqDiff, decide_true, decide_false, ↓reduceIte, reduceIte, cond_true, cond_false, List.take_length, Option.some.injEq] <;> rfl) rfl ?_
  refine awp_loopC (τ := Nat) (fun k => k ≤ 61) (fun k => ⟨13, [(7, .int .i64 (60 - (k : Int))), (6, .own 9), (3, .own 2), (2, .own 1)],
    [(9, some (.box (.agg (.cons (.own 11) (.cons (.own 12) .nil))))), (11, some (.ints (odN p k))), (12, some (.ints (mnN p k))), (2, some (.mp E C)), (1, some (.box (.agg (.cons (.cst (Value.slice none 0 0)) (.cons (.cst (Value.slice none 0 0)) .nil)))))], []⟩) (fun k => 61 - k) 0 [] ?_ (Nat.zero_le _) ?_
  · (refine ⟨rfl, ?_, ?_⟩ <;> simp only [zE0, zE1, zE2, zE3, zE4, zE5, evp, evx, ev1, evLoad, evStore, evBin, isBoolK, forall_const, z38, tb, Nat.reduceAdd, Nat.reduceSub, Nat.reduceMul, Nat.reduceEqDiff, Nat.reduceLeDiff, Nat.reduceLT, Nat.reduceBEq, Nat.reduceBNe, ↓reduceIte, reduceIte, zI])
    · rfl
    · exact ⟨rfl, rfl⟩
  intro k hk
  have hM1 := hM (60 - (k : Int))
  have hol := odN_len (p := p) k
  have hml := mnN_len (p := p) (k := k)
  have hy := @odN_yes p k
  have hn := @odN_no p k
  repeat' first
    | with_reducible first | refine awp_seq ?_ | refine awp_block ?_ | refine next_then ?_ | refine next_block ?_ | refine exit_then ?_ | refine ret_then ?_ | refine ret_block ?_ | refine exit_here ?_ | refine awp_exit ?_ | refine awp_ret ?_ | refine awp_skip ?_ | refine awp_label ?_ | refine next_noGoto ?_ | refine ret_noGoto ?_ | refine exit_noGoto ?_ | refine awp_scope ?_
    | ((with_reducible refine exit_past ?_ ?_); exact rfl)
    | ((with_reducible refine isCond ?_); refine awp_condO rfl ?_ ?_ <;> intro hb <;> (try simp only [zH] at hb))
    | ((with_reducible refine isRegS 10 ?_ ?_); (· exact rfl); (with_reducible refine isRegS 13 ?_ ?_); (· exact rfl); (first | refine awp_textM htb hmz noSp (fun _ => false) rfl rfl ?_ | refine awp_drawM hmo htb hmz noSp (fun _ => false) rfl rfl (by kernel_rfl) ?_); intro m' e' l' ob h; simp only [zE0, zE1, zE2, zE3, zE4, zE5, evp, evx, ev1, evLoad, evStore, evBin, isBoolK, forall_const, z38, tb, Nat.reduceAdd, Nat.reduceSub, Nat.reduceMul, Nat.reduceEqDiff, Nat.reduceLeDiff, Nat.reduceLT, Nat.reduceBEq, Nat.reduceBNe, ↓reduceIte, reduceIte] at h; obtain ⟨rfl, rfl, rfl, rfl⟩ := h; refine ⟨?_, ?_⟩)
    | ((with_reducible refine Ob.mk ?_); first | exact trivial | (intros; omega) | ((repeat' first | apply And.intro | (intro hg; have hg' := hg; try simp only [zH] at hg')) <;> first | assumption | omega | (simp only [zH]; omega)))
  · rw [hM1] at hb
    obtain ⟨y1, y2⟩ := hy ⟨hb.1, by omega⟩
    repeat' first
      | with_reducible first | refine awp_seq ?_ | refine awp_block ?_ | refine next_then ?_ | refine next_block ?_ | refine exit_then ?_ | refine ret_then ?_ | refine ret_block ?_ | refine exit_here ?_ | refine awp_exit ?_ | refine awp_ret ?_ | refine awp_skip ?_ | refine awp_label ?_ | refine next_noGoto ?_ | refine ret_noGoto ?_ | refine exit_noGoto ?_ | refine awp_scope ?_
      | ((with_reducible refine exit_past ?_ ?_); exact rfl)
      | ((with_reducible refine isCond ?_); refine awp_condO rfl ?_ ?_ <;> intro hb <;> (try simp only [zH] at hb))
      | ((with_reducible refine isReg ?_); (first | refine awp_textM htb hmz noSp (fun _ => false) rfl rfl ?_ | refine awp_drawM hmo htb hmz noSp (fun _ => false) rfl rfl (by kernel_rfl) ?_); intro m' e' l' ob h; simp only [zE0, zE1, zE2, zE3, zE4, zE5, evp, evx, ev1, evLoad, evStore, evBin, isBoolK, forall_const, z38, tb, Nat.reduceAdd, Nat.reduceSub, Nat.reduceMul, Nat.reduceEqDiff, Nat.reduceLeDiff, Nat.reduceLT, Nat.reduceBEq, Nat.reduceBNe, ↓reduceIte, reduceIte] at h; obtain ⟨rfl, rfl, rfl, rfl⟩ := h; refine ⟨?_, ?_⟩)
      | ((with_reducible refine Ob.mk ?_); first | exact trivial | (intros; omega) | ((repeat' first | apply And.intro | (intro hg; have hg' := hg; try simp only [zH] at hg')) <;> first | assumption | omega | (simp only [zH]; omega)))
    refine back (k + 1) [(11, 28), (12, 35)] ?_ (by omega) (by omega)
    (refine ⟨rfl, ?_, ?_⟩ <;> simp only [zE0, zE1, zE2, zE3, zE4, zE5, evp, evx, ev1, evLoad, evStore, evBin, isBoolK, forall_const, z38, tb, Nat.reduceAdd, Nat.reduceSub, Nat.reduceMul, Nat.reduceEqDiff, Nat.reduceLeDiff, Nat.reduceLT, Nat.reduceBEq, Nat.reduceBNe, ↓reduceIte, reduceIte, zI])
    · omega
    · rw [hM1, y1, y2]; exact ⟨rfl, rfl⟩
  · rw [hM1] at hb
    obtain ⟨y1, y2⟩ := hn (by omega)
    repeat' first
      | with_reducible first | refine awp_seq ?_ | refine awp_block ?_ | refine next_then ?_ | refine next_block ?_ | refine exit_then ?_ | refine ret_then ?_ | refine ret_block ?_ | refine exit_here ?_ | refine awp_exit ?_ | refine awp_ret ?_ | refine awp_skip ?_ | refine awp_label ?_ | refine next_noGoto ?_ | refine ret_noGoto ?_ | refine exit_noGoto ?_ | refine awp_scope ?_
      | ((with_reducible refine exit_past ?_ ?_); exact rfl)
      | ((with_reducible refine isCond ?_); refine awp_condO rfl ?_ ?_ <;> intro hb <;> (try simp only [zH] at hb))
      | ((with_reducible refine isReg ?_); (first | refine awp_textM htb hmz noSp (fun _ => false) rfl rfl ?_ | refine awp_drawM hmo htb hmz noSp (fun _ => false) rfl rfl (by kernel_rfl) ?_); intro m' e' l' ob h; simp only [zE0, zE1, zE2, zE3, zE4, zE5, evp, evx, ev1, evLoad, evStore, evBin, isBoolK, forall_const, z38, tb, Nat.reduceAdd, Nat.reduceSub, Nat.reduceMul, Nat.reduceEqDiff, Nat.reduceLeDiff, Nat.reduceLT, Nat.reduceBEq, Nat.reduceBNe, ↓reduceIte, reduceIte] at h; obtain ⟨rfl, rfl, rfl, rfl⟩ := h; refine ⟨?_, ?_⟩)
      | ((with_reducible refine Ob.mk ?_); first | exact trivial | (intros; omega) | ((repeat' first | apply And.intro | (intro hg; have hg' := hg; try simp only [zH] at hg')) <;> first | assumption | omega | (simp only [zH]; omega)))
    refine back (k + 1) [] ?_ (by omega) (by omega)
    (refine ⟨rfl, ?_, ?_⟩ <;> simp only [zE0, zE1, zE2, zE3, zE4, zE5, evp, evx, ev1, evLoad, evStore, evBin, isBoolK, forall_const, z38, tb, Nat.reduceAdd, Nat.reduceSub, Nat.reduceMul, Nat.reduceEqDiff, Nat.reduceLeDiff, Nat.reduceLT, Nat.reduceBEq, Nat.reduceBNe, ↓reduceIte, reduceIte, zI])
    · omega
    · rw [y1, y2]; exact ⟨rfl, rfl⟩
  have hk61 : k = 61 := by omega
  subst hk61
  refine awp_fzN 11 (.roI (odN p 61)) (by simp only [lkr_cons, lkr_nil, fzE, fzA, fzR, fzB, set1, nbeq, Nat.reduceEqDiff, decide_true, decide_false, ↓reduceIte, reduceIte, cond_true, cond_false, List.take_length, Option.some.injEq]; rfl) (by first | exact rfl | (refine ⟨?_, rfl⟩; first | rfl | (intros; rfl))) (by simp only [lkr_cons, lkr_nil, fzE, fzA, fzR, fzB, set1, nbeq, Nat.reduceEqDiff, decide_true, decide_false, ↓reduceIte, reduceIte, cond_true, cond_false, List.take_length, Option.some.injEq]; rfl) (by simp only [lkr_cons, lkr_nil, fzE, fzA, fzR, fzB, set1, nbeq, Nat.reduceEqDiff, decide_true, decide_false, ↓reduceIte, reduceIte, cond_true, cond_false, List.take_length, Option.some.injEq]; rfl) ?_
  refine awp_fzN 12 (.roI (mnN p 61)) (by simp only [lkr_cons, lkr_nil, fzE, fzA, fzR, fzB, set1, nbeq, Nat.reduceEqDiff, decide_true, decide_false, ↓reduceIte, reduceIte, cond_true, cond_false, List.take_length, Option.some.injEq]; rfl) (by first | exact rfl | (refine ⟨?_, rfl⟩; first | rfl | (intros; rfl))) (by simp only [lkr_cons, lkr_nil, fzE, fzA, fzR, fzB, set1, nbeq, Nat.reduceEqDiff, decide_true, decide_false, ↓reduceIte, reduceIte, cond_true, cond_false, List.take_length, Option.some.injEq]; rfl) (by simp only [lkr_cons, lkr_nil, fzE, fzA, fzR, fzB, set1, nbeq, Nat.reduceEqDiff, decide_true, decide_false, ↓reduceIte, reduceIte, cond_true, cond_false, List.take_length, Option.some.injEq]; rfl) ?_
  repeat' first
    | with_reducible first | refine awp_seq ?_ | refine awp_block ?_ | refine next_then ?_ | refine next_block ?_ | refine exit_then ?_ | refine ret_then ?_ | refine ret_block ?_ | refine exit_here ?_ | refine awp_exit ?_ | refine awp_ret ?_ | refine awp_skip ?_ | refine awp_label ?_ | refine next_noGoto ?_ | refine ret_noGoto ?_ | refine exit_noGoto ?_ | refine awp_scope ?_
    | ((with_reducible refine exit_past ?_ ?_); exact rfl)
    | ((with_reducible refine isCond ?_); refine awp_condO rfl ?_ ?_ <;> intro hb <;> (try simp only [zH] at hb))
    | ((with_reducible refine isReg ?_); (first | refine awp_textM htb hmz noSp (fun _ => false) rfl rfl ?_ | refine awp_drawM hmo htb hmz noSp (fun _ => false) rfl rfl (by kernel_rfl) ?_); intro m' e' l' ob h; simp only [zE0, zE1, zE2, zE3, zE4, zE5, evp, evx, ev1, evLoad, evStore, evBin, isBoolK, forall_const, z38, tb, Nat.reduceAdd, Nat.reduceSub, Nat.reduceMul, Nat.reduceEqDiff, Nat.reduceLeDiff, Nat.reduceLT, Nat.reduceBEq, Nat.reduceBNe, ↓reduceIte, reduceIte] at h; obtain ⟨rfl, rfl, rfl, rfl⟩ := h; refine ⟨?_, ?_⟩)
    | ((with_reducible refine Ob.mk ?_); first | exact trivial | (intros; omega) | ((repeat' first | apply And.intro | (intro hg; have hg' := hg; try simp only [zH] at hg')) <;> first | assumption | omega | (simp only [zH]; omega)))
  refine fin_ret rfl rfl (spec_flat rfl ?_ rfl)
  rfl
end Go.Proofs.Ytgminhedbeblpaa.Cal
namespace Go.Proofs.Ytgminhedbeblpaa.Cal
open Go Pl
section
variable (g : Gm) (odd many : List Int)
/-- What the r-th move of v asks for. -/
def askV (l : List Int) (v r : Nat) : Int := progV odd many (l.getD ((g.nxt.getD v []).getD r 0).toNat 0) (g.pri.getD v 0)
/-- The best of the first r moves. -/
def bB (l : List Int) (v : Nat) : Nat → Int
  | 0 => 0
  | r + 1 => if r = 0 ∨ (g.own.getD v 0 = 0 ∧ askV g odd many l v r < bB l v r) ∨ (g.own.getD v 0 ≠ 0 ∧ bB l v r < askV g odd many l v r) then askV g odd many l v r else bB l v r
def bestV (l : List Int) (v : Nat) : Int := bB g odd many l v (g.nxt.getD v []).length
structure LR (l : List Int) : Prop where
  len : l.length = g.own.length
  rng : ∀ v, v < g.own.length → 0 ≤ l.getD v 0 ∧ l.getD v 0 ≤ rpr many
structure Pre (l : List Int) : Prop extends LR g many l where
  ok : ∀ v, v < g.own.length → bestV g odd many l v ≤ l.getD v 0
structure Least (l : List Int) : Prop extends Pre g odd many l where
  low : ∀ l', Pre g odd many l' → ∀ v, v < g.own.length → l.getD v 0 ≤ l'.getD v 0
open Classical in
noncomputable def leastL : List Int := if h : ∃ l, Least g odd many l then Classical.choose h else []
end
section
variable {g : Gm} {odd many : List Int}
theorem least_uniq {l l' : List Int} (h : Least g odd many l) (h' : Least g odd many l') : l = l' := by
  refine List.ext_getElem (by rw [h.len, h'.len]) fun j h1 h2 => ?_
  have hj : j < g.own.length := by rw [← h.len]; exact h1
  have a1 := h.low l' h'.toPre j hj
  have a2 := h'.low l h.toPre j hj
  rw [List.getD_eq_getElem?_getD, List.getD_eq_getElem?_getD, List.getElem?_eq_getElem h1, List.getElem?_eq_getElem h2] at a1 a2
  simp only [Option.getD_some] at a1 a2
  omega
theorem leastL_eq {l : List Int} (h : Least g odd many l) : leastL g odd many = l := by
  have hex : ∃ l, Least g odd many l := ⟨l, h⟩
  unfold leastL
  rw [dif_pos hex]
  exact least_uniq (Classical.choose_spec hex) h
theorem bB_min {l : List Int} {v : Nat} (h : g.own.getD v 0 = 0) : ∀ {r}, 0 < r → (∀ i, i < r → bB g odd many l v r ≤ askV g odd many l v i) ∧ ∃ i, i < r ∧ bB g odd many l v r = askV g odd many l v i
  | 0, h => absurd h (Nat.lt_irrefl _)
  | r + 1, _ => by
    unfold bB
    by_cases e : r = 0
    · subst e
      rw [if_pos (.inl rfl)]
      exact ⟨fun i hi => by obtain rfl : i = 0 := by omega
                            exact Int.le_refl _, 0, Nat.lt_succ_self _, rfl⟩
    · obtain ⟨h1, i, h2, h3⟩ := bB_min (l := l) h (r := r) (by omega)
      by_cases e2 : askV g odd many l v r < bB g odd many l v r
      · rw [if_pos (.inr (.inl ⟨h, e2⟩))]
        exact ⟨fun i hi => by
          by_cases e3 : i = r
          · rw [e3]; exact Int.le_refl _
          · have := h1 i (by omega); omega, r, Nat.lt_succ_self _, rfl⟩
      · rw [if_neg (fun h' => h'.elim e fun h' => h'.elim (fun x => e2 x.2) fun x => x.1 h)]
        exact ⟨fun i hi => by
          by_cases e3 : i = r
          · rw [e3]; omega
          · exact h1 i (by omega), i, by omega, h3⟩
theorem bB_max {l : List Int} {v : Nat} (h : g.own.getD v 0 ≠ 0) : ∀ {r}, 0 < r → (∀ i, i < r → askV g odd many l v i ≤ bB g odd many l v r) ∧ ∃ i, i < r ∧ bB g odd many l v r = askV g odd many l v i
  | 0, h => absurd h (Nat.lt_irrefl _)
  | r + 1, _ => by
    unfold bB
    by_cases e : r = 0
    · subst e
      rw [if_pos (.inl rfl)]
      exact ⟨fun i hi => by obtain rfl : i = 0 := by omega
                            exact Int.le_refl _, 0, Nat.lt_succ_self _, rfl⟩
    · obtain ⟨h1, i, h2, h3⟩ := bB_max (l := l) h (r := r) (by omega)
      by_cases e2 : bB g odd many l v r < askV g odd many l v r
      · rw [if_pos (.inr (.inr ⟨h, e2⟩))]
        exact ⟨fun i hi => by
          by_cases e3 : i = r
          · rw [e3]; exact Int.le_refl _
          · have := h1 i (by omega); omega, r, Nat.lt_succ_self _, rfl⟩
      · rw [if_neg (fun h' => h'.elim e fun h' => h'.elim (fun x => h x.1) fun x => e2 x.2)]
        exact ⟨fun i hi => by
          by_cases e3 : i = r
          · rw [e3]; omega
          · exact h1 i (by omega), i, by omega, h3⟩
theorem row_at {x : List (List Int)} {v i : Nat} (hi : i < (x.getD v []).length) : ((x.getD v []).getD i 0).toNat ∈ rws x v := by
  rw [List.getD_eq_getElem?_getD, List.getElem?_eq_getElem hi]
  exact List.mem_map.2 ⟨_, List.getElem_mem hi, rfl⟩
theorem best_ask {l : List Int} {v : Nat} (hr : 0 < (g.nxt.getD v []).length) : ∃ i, i < (g.nxt.getD v []).length ∧ bestV g odd many l v = askV g odd many l v i := by
  by_cases h : g.own.getD v 0 = 0
  · exact (bB_min h hr).2
  · exact (bB_max h hr).2
theorem best_bd {l : List Int} {v : Nat} (hp : posL many) (hl : LR g many l) (hr : 0 < (g.nxt.getD v []).length) (hw : ∀ t, t ∈ rws g.nxt v → t < g.own.length) : 0 ≤ bestV g odd many l v ∧ bestV g odd many l v ≤ rpr many := by
  obtain ⟨i, h1, h2⟩ := best_ask (odd := odd) (many := many) (l := l) hr
  have h3 := hl.rng _ (hw _ (row_at h1))
  rw [h2]
  exact progV_bd hp h3.1 h3.2
theorem best_mono {l l' : List Int} {v : Nat} (hp : posL many) (hl : LR g many l) (hl' : LR g many l') (hr : 0 < (g.nxt.getD v []).length) (hw : ∀ t, t ∈ rws g.nxt v → t < g.own.length) (h : ∀ t, t ∈ rws g.nxt v → l.getD t 0 ≤ l'.getD t 0) : bestV g odd many l v ≤ bestV g odd many l' v := by
  have ha : ∀ i, i < (g.nxt.getD v []).length → askV g odd many l v i ≤ askV g odd many l' v i := fun i hi => by
    have hm := row_at (x := g.nxt) hi
    exact progV_mono hp (hl.rng _ (hw _ hm)).1 (h _ hm) (hl'.rng _ (hw _ hm)).2
  by_cases h0 : g.own.getD v 0 = 0
  · obtain ⟨a1, _⟩ := bB_min (odd := odd) (many := many) (l := l) h0 hr
    obtain ⟨_, i, b1, b2⟩ := bB_min (odd := odd) (many := many) (l := l') h0 hr
    unfold bestV
    rw [b2]
    exact Int.le_trans (a1 i b1) (ha i b1)
  · obtain ⟨_, i, b1, b2⟩ := bB_max (odd := odd) (many := many) (l := l) h0 hr
    obtain ⟨a1, _⟩ := bB_max (odd := odd) (many := many) (l := l') h0 hr
    unfold bestV
    rw [b2]
    exact Int.le_trans (ha i b1) (a1 i b1)
theorem bB_same {l l' : List Int} {v : Nat} (h : ∀ t, t ∈ rws g.nxt v → l.getD t 0 = l'.getD t 0) : ∀ {r}, r ≤ (g.nxt.getD v []).length → bB g odd many l v r = bB g odd many l' v r
  | 0, _ => rfl
  | r + 1, hr => by
    have e : askV g odd many l v r = askV g odd many l' v r := by
      unfold askV; rw [h _ (row_at (by omega))]
    unfold bB
    rw [e, bB_same h (r := r) (by omega)]
/-! Sums -/
theorem sum_set : ∀ {l : List Int} {v : Nat} {x : Int}, v < l.length → (l.set v x).sum = l.sum - l.getD v 0 + x
  | [], _, _, h => absurd h (Nat.not_lt_zero _)
  | a :: l, 0, x, _ => by
    show x + l.sum = a + l.sum - a + x
    omega
  | a :: l, v + 1, x, h => by
    have := sum_set (l := l) (v := v) (x := x) (by simpa using h)
    show a + (l.set v x).sum = a + l.sum - l.getD v 0 + x
    rw [this]; omega
theorem sum_le : ∀ {l : List Int} {P : Int}, (∀ x, x ∈ l → x ≤ P) → l.sum ≤ l.length * P
  | [], P, _ => by simp
  | a :: l, P, h => by
    have h1 := h a List.mem_cons_self
    have h2 := sum_le (l := l) (P := P) fun x hx => h x (List.mem_cons_of_mem _ hx)
    show a + l.sum ≤ ((l.length + 1 : Nat) : Int) * P
    rw [Int.natCast_add, Int.add_mul]; simp; omega
theorem LR_sum {l : List Int} (h : LR g many l) : l.sum ≤ g.own.length * rpr many := by
  rw [← h.len]
  refine sum_le fun x hx => ?_
  obtain ⟨j, hj, rfl⟩ := List.getElem_of_mem hx
  have := (h.rng j (by rw [← h.len]; exact hj)).2
  rw [List.getD_eq_getElem?_getD, List.getElem?_eq_getElem hj] at this
  exact this
theorem LR_set {l : List Int} (h : LR g many l) {v : Nat} {x : Int} (hv : v < g.own.length) (h0 : 0 ≤ x) (h1 : x ≤ rpr many) : LR g many (l.set v x) := by
  refine ⟨by rw [List.length_set]; exact h.len, fun u hu => ?_⟩
  rw [getD_set (by rw [h.len]; exact hv)]
  split
  · exact ⟨h0, h1⟩
  · exact h.rng u hu
/-- What holds while positions wait: w those; ex those whose condition may be broken though they do not wait. -/
structure QJ (g : Gm) (odd many : List Int) (l : List Int) (th : List Bool) (w : List Nat) (left : Int) (ex : Nat → Prop) : Prop where
  lr : LR g many l
  blw : ∀ l', Pre g odd many l' → ∀ v, v < g.own.length → l.getD v 0 ≤ l'.getD v 0
  tl : th.length = g.own.length
  tw : ∀ v, v < g.own.length → (th.getD v false = true ↔ v ∈ w)
  wn : w.Nodup
  wb : ∀ v, v ∈ w → v < g.own.length
  st : ∀ v, v < g.own.length → v ∉ w → ¬ ex v → bestV g odd many l v ≤ l.getD v 0
  lf : 1048576 - left ≤ l.sum
  l2 : left ≤ 1048576
structure GOK (g : Gm) (many : List Int) : Prop where
  hp : posL many
  hr : ∀ v, v < g.own.length → 0 < (g.nxt.getD v []).length
  hw : ∀ v, v < g.own.length → ∀ t, t ∈ rws g.nxt v → t < g.own.length
variable {l : List Int} {th : List Bool} {w : List Nat} {left : Int} {v : Nat}
theorem QJ_pop (H : QJ g odd many l th (v :: w) left fun _ => False) : QJ g odd many l (th.set v false) w left (fun u => u = v) ∧ v < g.own.length := by
  have hv := H.wb v List.mem_cons_self
  have hnd := List.nodup_cons.1 H.wn
  refine ⟨{ H with tl := by rw [List.length_set]; exact H.tl, tw := fun u hu => ?_, wn := hnd.2, wb := fun u hu => H.wb u (List.mem_cons_of_mem _ hu), st := fun u hu h1 h2 => H.st u hu (fun h => ?_) id }, hv⟩
  · rw [getD_set (by rw [H.tl]; exact hv)]
    by_cases e : u = v
    · rw [if_pos e, e]; exact ⟨fun h => absurd h (by decide), fun h => absurd h hnd.1⟩
    · rw [if_neg e, H.tw u hu, List.mem_cons]; exact ⟨fun h => h.resolve_left e, .inr⟩
  · rcases List.mem_cons.1 h with h | h
    · exact h2 h
    · exact h1 h
theorem QJ_skip (H : QJ g odd many l th w left fun u => u = v) (h : ¬ l.getD v 0 < bestV g odd many l v) : QJ g odd many l th w left fun _ => False :=
  { H with st := fun u hu h1 _ => (Classical.em (u = v)).elim (fun e => by rw [e]; omega) fun e => H.st u hu h1 e }
theorem QJ_raise (hG : GOK g many) (H : QJ g odd many l th w left fun u => u = v) (hv : v < g.own.length) (h : l.getD v 0 < bestV g odd many l v) : QJ g odd many (l.set v (bestV g odd many l v)) th w (left - 1) fun u => v ∈ rws g.nxt u := by
  have hb := best_bd (odd := odd) hG.hp H.lr (hG.hr v hv) (hG.hw v hv)
  have hvl : v < l.length := by rw [H.lr.len]; exact hv
  refine { H with lr := LR_set H.lr hv hb.1 hb.2, blw := fun l' hl' u hu => ?_, st := fun u hu h1 h2 => ?_, lf := ?_, l2 := by have := H.l2; omega }
  · rw [getD_set hvl]
    split
    · rename_i e
      subst e
      exact Int.le_trans (best_mono hG.hp H.lr hl'.toLR (hG.hr u hu) (hG.hw u hu) fun t ht => H.blw l' hl' t (hG.hw u hu t ht)) (hl'.ok u hu)
    · exact H.blw l' hl' u hu
  · have e : bestV g odd many (l.set v (bestV g odd many l v)) u = bestV g odd many l u := bB_same (fun t ht => by
      rw [getD_set hvl, if_neg]
      intro e; subst e; exact h2 ht) (Nat.le_refl _)
    rw [e, getD_set hvl]
    by_cases e2 : u = v
    · rw [if_pos e2, e2]; exact Int.le_refl _
    · rw [if_neg e2]; exact H.st u hu h1 e2
  · rw [sum_set hvl]
    have := H.lf
    omega
theorem QJ_push {dn : List Nat} {u : Nat} (H : QJ g odd many l th w left fun t => v ∈ rws g.nxt t ∧ t ∉ dn) (hu : u < g.own.length) (ho : th.getD u false = false) : QJ g odd many l (th.set u true) (w ++ [u]) left fun t => v ∈ rws g.nxt t ∧ t ∉ dn ++ [u] := by
  have hul : u < th.length := by rw [H.tl]; exact hu
  have hnw : u ∉ w := fun h => by rw [(H.tw u hu).2 h] at ho; cases ho
  refine { H with tl := by rw [List.length_set]; exact H.tl, tw := fun t ht => ?_, wn := ?_, wb := fun t ht => ?_, st := fun t ht h1 h2 => H.st t ht (fun h => h1 (List.mem_append_left _ h)) (fun h => h2 ⟨h.1, fun h3 => ?_⟩) }
  · rw [getD_set hul, List.mem_append, List.mem_singleton]
    by_cases e : t = u
    · rw [if_pos e]; exact ⟨fun _ => .inr e, fun _ => rfl⟩
    · rw [if_neg e, H.tw t ht]; exact ⟨.inl, fun h => h.resolve_right e⟩
  · rw [List.nodup_append]
    exact ⟨H.wn, List.pairwise_singleton _ _, fun a ha b hb e => by rw [List.mem_singleton.1 hb] at e; exact hnw (e ▸ ha)⟩
  · rcases List.mem_append.1 ht with h | h
    · exact H.wb t h
    · rw [List.mem_singleton.1 h]; exact hu
  · rcases List.mem_append.1 h3 with h3 | h3
    · exact h.2 h3
    · exact h1 (List.mem_append_right _ h3)
theorem QJ_past {dn : List Nat} {u : Nat} (H : QJ g odd many l th w left fun t => v ∈ rws g.nxt t ∧ t ∉ dn) (hu : u < g.own.length) (ho : th.getD u false = true) : QJ g odd many l th w left fun t => v ∈ rws g.nxt t ∧ t ∉ dn ++ [u] :=
  { H with st := fun t ht h1 h2 => H.st t ht h1 fun h => h2 ⟨h.1, fun h3 => (List.mem_append.1 h3).elim h.2 fun h3 => h1 (by rw [List.mem_singleton.1 h3]; exact (H.tw u hu).1 ho)⟩ }
theorem QJ_weak {ex ex' : Nat → Prop} (H : QJ g odd many l th w left ex) (h : ∀ u, u < g.own.length → ex u → ex' u) : QJ g odd many l th w left ex' := { H with st := fun u hu h1 h2 => H.st u hu h1 fun h3 => h2 (h u hu h3) }
theorem QJ_done (H : QJ g odd many l th [] left fun _ => False) : Least g odd many l :=
  { H.lr with ok := fun v hv => H.st v hv List.not_mem_nil id, low := H.blw }
theorem QJ_left {ex : Nat → Prop} (H : QJ g odd many l th w left ex) (hn : g.own.length ≤ 12) (hP : rpr many ≤ 4096) (h0 : 0 < rpr many) : 999424 ≤ left := by
  have h1 := H.lf
  have h2 := LR_sum H.lr
  have h3 : (g.own.length : Int) * rpr many ≤ 12 * 4096 := Int.mul_le_mul (by omega) hP (Int.le_of_lt h0) (by omega)
  omega
/-- How much is left to do. -/
def qm (g : Gm) (many l : List Int) (w : List Nat) : Nat := ((g.own.length : Int) * rpr many - l.sum).toNat * (g.own.length + 1) + w.length
end
end Go.Proofs.Ytgminhedbeblpaa.Cal
