/- Own texts of the proof, merged, in order. -/
import Derived.Test.YtlckljphakkomaaS26
set_option linter.unusedVariables false
set_option linter.unusedSimpArgs false
namespace Go.Proofs.Ytlckljphakkomaa.Cal
open Go Pl
/-- The new number of a position, or 0. -/
def nmz (k : List Bool) (v : Nat) : Int := if k.getD v false = true then ((kp k v).length : Int) else 0
theorem ptr_nmz {x : List (List Int)} {k : List Bool} {v : Nat} : ptr x k v = ((x.getD v []).filter fun t => k.getD t.toNat false).map fun t => nmz k t.toNat := by
  unfold ptr
  refine List.map_congr_left fun t ht => ?_
  have := (List.mem_filter.1 ht).2
  unfold nmF nmz
  rw [if_pos this, if_pos this]
structure PartR where
  g : Gm
  of : List Int
  err : Int
open Classical in
noncomputable def partR (g : Gm) (k : List Bool) : PartR :=
  if k.length ≠ g.n then ⟨⟨[], [], []⟩, [], 2⟩ else if kp k g.n = [] ∨ ∃ v, v ∈ kp k g.n ∧ ptr g.nxt k v = [] then ⟨⟨[], [], []⟩, [], 4⟩ else
    ⟨⟨(kp k g.n).map fun v => g.own.getD v 0, (kp k g.n).map fun v => g.pri.getD v 0, (kp k g.n).map (ptr g.nxt k)⟩, (kp k g.n).map fun v : Nat => (v : Int), 0⟩
def PartR.av (r : PartR) : AV := .tup (.cons (gmA r.g) (.cons (.roI r.of) (.cons (.int .i64 r.err) .nil)))
noncomputable def partS : Spec
  | [.agg (.cons (.roI o) (.cons (.roI p) (.cons (.roII x) .nil))), .roB k] => some ⟨validB ⟨o, p, x⟩ = true, (partR ⟨o, p, x⟩ k).av, none⟩
  | _ => none
theorem part_e2 {g : Gm} {k : List Bool} (h2 : k.length ≠ g.n) : partR g k = ⟨⟨[], [], []⟩, [], 2⟩ := by unfold partR; rw [if_pos h2]
theorem part_e3 {g : Gm} {k : List Bool} (h2 : k.length = g.n) (h3 : kp k g.n = [] ∨ ∃ v, v ∈ kp k g.n ∧ ptr g.nxt k v = []) : partR g k = ⟨⟨[], [], []⟩, [], 4⟩ := by unfold partR; rw [if_neg (by simpa using h2), if_pos h3]
theorem part_e4 {g : Gm} {k : List Bool} (h2 : k.length = g.n) (h3 : ¬ (kp k g.n = [] ∨ ∃ v, v ∈ kp k g.n ∧ ptr g.nxt k v = [])) : partR g k =
    ⟨⟨(kp k g.n).map fun v => g.own.getD v 0, (kp k g.n).map fun v => g.pri.getD v 0, (kp k g.n).map (ptr g.nxt k)⟩, (kp k g.n).map fun v : Nat => (v : Int), 0⟩ := by unfold partR; rw [if_neg (by simpa using h2), if_neg h3]
theorem part_imp {r : PartR} {a b : AV} {e : Int} (h1 : Imp a (gmA r.g)) (h2 : Imp b (.roI r.of)) (h3 : e = r.err) : Imp (.tup (.cons a (.cons b (.cons (.int .i64 e) .nil)))) r.av := by
  subst h3; exact imp_tup (imp_cons h1 (imp_cons h2 (imp_eq rfl)))
theorem imp_nilG13 : Imp (.agg (.cons (.cst (.slice none 0 0)) (.cons (.cst (.slice none 0 0)) (.cons (.cst (.slice none 0 0)) .nil)))) (gmA ⟨[], [], []⟩) := imp_agg (imp_cons imp_nilI (imp_cons imp_nilI (imp_cons imp_nilII (imp_eq rfl))))
set_option maxRecDepth 4000 in
set_option maxHeartbeats 4000000 in
theorem part13_ok : FSpec Try.prog 18 partS := by
  refine fspec_of htb (fn := Try.f18) (by kernel_rfl) (by kernel_rfl) rfl (fun args r hS => ?_) (fun args r hS hob hl => ?_)
  · unfold partS at hS; split at hS <;> first | (cases hS; done) | (cases hS; exact Nat.le_of_ble_eq_true rfl)
  unfold partS at hS
  split at hS
  case h_2 => cases hS
  rename_i o p x k
  simp only [Option.some.injEq] at hS
  subst hS
  simp only [lenP, mkL, lim] at hl
  dsimp only at hob
  have hV := validB_iff.1 hob
  obtain ⟨hn, hpl, hxl, hpos⟩ := id hV
  simp only [Gm.n] at hn hpl hxl
  repeat' first
    | with_reducible first | refine awp_seq ?_ | refine awp_block ?_ | refine next_then ?_ | refine next_block ?_ | refine exit_then ?_ | refine ret_then ?_ | refine ret_block ?_ | refine exit_here ?_ | refine awp_exit ?_ | refine awp_ret ?_ | refine awp_skip ?_ | refine awp_label ?_ | refine next_noGoto ?_ | refine ret_noGoto ?_ | refine exit_noGoto ?_ | refine awp_scope ?_
    | ((with_reducible refine exit_past ?_ ?_); exact rfl)
    | ((with_reducible refine isCond ?_); refine awp_condO rfl ?_ ?_ <;> intro hb <;> (try simp only [zH] at hb))
    | ((with_reducible refine isRegS 3 ?_ ?_); (· exact rfl); (first | refine awp_textM htb hmz noSp (fun _ => false) rfl rfl ?_ | refine awp_drawM hmo htb hmz noSp (fun _ => false) rfl rfl (by kernel_rfl) ?_); intro m' e' l' ob h; simp only [zE0, zE1, zE2, zE3, zE4, zE5, evp, evx, ev1, evLoad, evStore, evBin, isBoolK, forall_const, z38, tb, Nat.reduceAdd, Nat.reduceSub, Nat.reduceMul, Nat.reduceEqDiff, Nat.reduceLeDiff, Nat.reduceLT, Nat.reduceBEq, Nat.reduceBNe, ↓reduceIte, reduceIte] at h; obtain ⟨rfl, rfl, rfl, rfl⟩ := h; refine ⟨?_, ?_⟩)
    | ((with_reducible refine Ob.mk ?_); first | exact trivial | (intros; omega) | ((repeat' first | apply And.intro | (intro hg; have hg' := hg; try simp only [zH] at hg')) <;> first | assumption | omega | (simp only [zH]; omega)))
  · refine fin_ret rfl rfl (spec_imp rfl ?_ rfl)
    rw [part_e2 (by simp only [Gm.n]; omega)]
    exact part_imp imp_nilG13 imp_nilI rfl
  have hkl : k.length = o.length := by omega
  have hkl2 := kp_len (k := k) (n := o.length)
  repeat' first
    | with_reducible first | refine awp_seq ?_ | refine awp_block ?_ | refine next_then ?_ | refine next_block ?_ | refine exit_then ?_ | refine ret_then ?_ | refine ret_block ?_ | refine exit_here ?_ | refine awp_exit ?_ | refine awp_ret ?_ | refine awp_skip ?_ | refine awp_label ?_ | refine next_noGoto ?_ | refine ret_noGoto ?_ | refine exit_noGoto ?_ | refine awp_scope ?_
    | ((with_reducible refine exit_past ?_ ?_); exact rfl)
    | ((with_reducible refine isCond ?_); refine awp_condO rfl ?_ ?_ <;> intro hb <;> (try simp only [zH] at hb))
    | ((with_reducible refine isReg ?_); (first | refine awp_textM htb hmz noSp (fun _ => false) rfl rfl ?_ | refine awp_drawM hmo htb hmz noSp (fun _ => false) rfl rfl (by kernel_rfl) ?_); intro m' e' l' ob h; simp only [zE0, zE1, zE2, zE3, zE4, zE5, evp, evx, ev1, evLoad, evStore, evBin, isBoolK, forall_const, z38, tb, Nat.reduceAdd, Nat.reduceSub, Nat.reduceMul, Nat.reduceEqDiff, Nat.reduceLeDiff, Nat.reduceLT, Nat.reduceBEq, Nat.reduceBNe, ↓reduceIte, reduceIte] at h; obtain ⟨rfl, rfl, rfl, rfl⟩ := h; refine ⟨?_, ?_⟩)
    | ((with_reducible refine Ob.mk ?_); first | exact trivial | (intros; omega) | ((repeat' first | apply And.intro | (intro hg; have hg' := hg; try simp only [zH] at hg')) <;> first | assumption | omega | (simp only [zH]; omega)))
  refine awp_nilown 5 (.ints []) (by simp only [zE0, zE1, zE2, zE3, zE4, zE5, evp, evx, ev1, evLoad, evStore, evBin, isBoolK, forall_const, z38, tb, Nat.reduceAdd, Nat.reduceSub, Nat.reduceMul, Nat.reduceEqDiff, Nat.reduceLeDiff, Nat.reduceLT, Nat.reduceBEq, Nat.reduceBNe, ↓reduceIte, reduceIte]) (.inl rfl) rfl ?_
  refine awp_loopC (τ := Nat) (fun i => i ≤ k.length) (fun i => ⟨18, [(27, .int .i64 i), (26, .int .i64 k.length), (25, .roB k), (7, .own 12), (6, .int .i64 0), (5, .own 17), (4, .own 1), (2, .rop (.agg (.cons (.roI o) (.cons (.roI p) (.cons (.roII x) .nil))))), (1, .roB k)],
    [(17, some (.ints ((kp k i).map fun v : Nat => (v : Int)))), (1, some (.box (.agg (.cons (.cst (.slice none 0 0)) (.cons (.cst (.slice none 0 0)) (.cons (.cst (.slice none 0 0)) .nil)))))), (12, some (.ints (mix (nmz k) (fun _ => 0) k.length i)))], []⟩) (fun i => k.length - i) 0 [] ?_ (Nat.zero_le _) ?_
  · refine ⟨rfl, ?_, ?_⟩ <;> simp only [zE0, zE1, zE2, zE3, zE4, zE5, evp, evx, ev1, evLoad, evStore, evBin, isBoolK, forall_const, z38, tb, Nat.reduceAdd, Nat.reduceSub, Nat.reduceMul, Nat.reduceEqDiff, Nat.reduceLeDiff, Nat.reduceLT, Nat.reduceBEq, Nat.reduceBNe, ↓reduceIte, reduceIte, zI]
    refine ⟨rfl, ?_⟩
    refine (List.ext_getElem (by simp [mix]) fun j h1 h2 => ?_)
    simp [mix]
  rintro i hi
  have hml : (mix (nmz k) (fun _ => 0) k.length i).length = k.length := mix_len
  have hkl3 := kp_len (k := k) (n := i)
  have hkl4 : ((kp k i).map fun v : Nat => (v : Int)).length = (kp k i).length := List.length_map ..
  repeat' first
    | with_reducible first | refine awp_seq ?_ | refine awp_block ?_ | refine next_then ?_ | refine next_block ?_ | refine exit_then ?_ | refine ret_then ?_ | refine ret_block ?_ | refine exit_here ?_ | refine awp_exit ?_ | refine awp_ret ?_ | refine awp_skip ?_ | refine awp_label ?_ | refine next_noGoto ?_ | refine ret_noGoto ?_ | refine exit_noGoto ?_ | refine awp_scope ?_
    | ((with_reducible refine exit_past ?_ ?_); exact rfl)
    | ((with_reducible refine isCond ?_); refine awp_condO rfl ?_ ?_ <;> intro hb <;> (try simp only [zH] at hb))
    | ((with_reducible refine isRegS 11 ?_ ?_); (· exact rfl); (first | refine awp_textM htb hmz noSp (fun _ => false) rfl rfl ?_ | refine awp_drawM hmo htb hmz noSp (fun _ => false) rfl rfl (by kernel_rfl) ?_); intro m' e' l' ob h; simp only [zE0, zE1, zE2, zE3, zE4, zE5, evp, evx, ev1, evLoad, evStore, evBin, isBoolK, forall_const, z38, tb, Nat.reduceAdd, Nat.reduceSub, Nat.reduceMul, Nat.reduceEqDiff, Nat.reduceLeDiff, Nat.reduceLT, Nat.reduceBEq, Nat.reduceBNe, ↓reduceIte, reduceIte] at h; obtain ⟨rfl, rfl, rfl, rfl⟩ := h; refine ⟨?_, ?_⟩)
    | ((with_reducible refine Ob.mk ?_); first | exact trivial | (intros; omega) | ((repeat' first | apply And.intro | (intro hg; have hg' := hg; try simp only [zH] at hg')) <;> first | assumption | omega | (simp only [zH]; omega)))
  · refine back (i + 1) [(17, 34)] ?_ (by omega) (by omega)
    (refine ⟨rfl, ?_, ?_⟩ <;> simp only [zE0, zE1, zE2, zE3, zE4, zE5, evp, evx, ev1, evLoad, evStore, evBin, isBoolK, forall_const, z38, tb, Nat.reduceAdd, Nat.reduceSub, Nat.reduceMul, Nat.reduceEqDiff, Nat.reduceLeDiff, Nat.reduceLT, Nat.reduceBEq, Nat.reduceBNe, ↓reduceIte, reduceIte, zI])
    refine ⟨?_, ?_⟩
    · rw [kp_succ, if_pos hb, List.map_append]; rfl
    · have e : ((((kp k i).map fun v : Nat => (v : Int)).length : Nat) : Int) = nmz k i := by unfold nmz; rw [if_pos hb, hkl4]
      rw [e]
      exact mix_set
  · refine back (i + 1) [] ?_ (by omega) (by omega)
    (refine ⟨rfl, ?_, ?_⟩ <;> simp only [zE0, zE1, zE2, zE3, zE4, zE5, evp, evx, ev1, evLoad, evStore, evBin, isBoolK, forall_const, z38, tb, Nat.reduceAdd, Nat.reduceSub, Nat.reduceMul, Nat.reduceEqDiff, Nat.reduceLeDiff, Nat.reduceLT, Nat.reduceBEq, Nat.reduceBNe, ↓reduceIte, reduceIte, zI])
    refine ⟨?_, ?_⟩
    · rw [kp_succ, if_neg (by rw [hb]; decide)]
    · exact mix_keep (by unfold nmz; rw [if_neg (by rw [hb]; decide)])
  have hie : i = k.length := by omega
  subst hie
  rw [mix_all]
  have hnl : ((List.range k.length).map (nmz k)).length = k.length := by simp
  have hkp : ∀ j, j < (kp k k.length).length → ((kp k k.length).map fun v : Nat => (v : Int)).getD j 0 = ((kp k k.length).getD j 0 : Nat) ∧ (kp k k.length).getD j 0 < o.length := fun j h => by
    have hm : (kp k k.length).getD j 0 ∈ kp k k.length := by
      rw [List.getD_eq_getElem?_getD, List.getElem?_eq_getElem h]; exact List.getElem_mem h
    refine ⟨?_, by have := kp_lt hm; omega⟩
    simp [List.getD_eq_getElem?_getD, List.getElem?_eq_getElem h]
  have hnm : ∀ v, v < k.length → ((List.range k.length).map (nmz k)).getD v 0 = nmz k v := fun v h => by
    simp [List.getD_eq_getElem?_getD, h]
  generalize hnn : (List.range k.length).map (nmz k) = nl at *
  generalize hee : (kp k k.length).map (fun v : Nat => (v : Int)) = ol at *
  generalize hkk : kp k k.length = kl at *
  refine awp_fzN 17 (.roI ol) (by simp only [lkr_cons, lkr_nil, fzE, fzA, fzR, fzB, set1, nbeq, Nat.reduceEqDiff, decide_true, decide_false, ↓reduceIte, reduceIte, cond_true, cond_false, List.take_length, Option.some.injEq]; rfl) (by first | exact rfl | (refine ⟨?_, rfl⟩; first | rfl | (intros; rfl))) (by simp only [lkr_cons, lkr_nil, fzE, fzA, fzR, fzB, set1, nbeq, Nat.reduceEqDiff, decide_true, decide_false, ↓reduceIte, reduceIte, cond_true, cond_false, List.take_length, Option.some.injEq]; rfl) (by simp only [lkr_cons, lkr_nil, fzE, fzA, fzR, fzB, set1, nbeq, Nat.reduceEqDiff, decide_true, decide_false, ↓reduceIte, reduceIte, cond_true, cond_false, List.take_length, Option.some.injEq]; rfl) ?_
  refine awp_fzN 12 (.roI nl) (by simp only [lkr_cons, lkr_nil, fzE, fzA, fzR, fzB, set1, nbeq, Nat.reduceEqDiff, decide_true, decide_false, ↓reduceIte, reduceIte, cond_true, cond_false, List.take_length, Option.some.injEq]; rfl) (by first | exact rfl | (refine ⟨?_, rfl⟩; first | rfl | (intros; rfl))) (by simp only [lkr_cons, lkr_nil, fzE, fzA, fzR, fzB, set1, nbeq, Nat.reduceEqDiff, decide_true, decide_false, ↓reduceIte, reduceIte, cond_true, cond_false, List.take_length, Option.some.injEq]; rfl) (by simp only [lkr_cons, lkr_nil, fzE, fzA, fzR, fzB, set1, nbeq, Nat.reduceEqDiff, decide_true, decide_false, ↓reduceIte, reduceIte, cond_true, cond_false, List.take_length, Option.some.injEq]; rfl) ?_
  have hol : ol.length = kl.length := by rw [← hee, List.length_map]
  repeat' first
    | with_reducible first | refine awp_seq ?_ | refine awp_block ?_ | refine next_then ?_ | refine next_block ?_ | refine exit_then ?_ | refine ret_then ?_ | refine ret_block ?_ | refine exit_here ?_ | refine awp_exit ?_ | refine awp_ret ?_ | refine awp_skip ?_ | refine awp_label ?_ | refine next_noGoto ?_ | refine ret_noGoto ?_ | refine exit_noGoto ?_ | refine awp_scope ?_
    | ((with_reducible refine exit_past ?_ ?_); exact rfl)
    | ((with_reducible refine isCond ?_); refine awp_condO rfl ?_ ?_ <;> intro hb <;> (try simp only [zH] at hb))
    | ((with_reducible refine isRegS 12 ?_ ?_); (· exact rfl); (with_reducible refine isRegS 14 ?_ ?_); (· exact rfl); (first | refine awp_textM htb hmz noSp (fun _ => false) rfl rfl ?_ | refine awp_drawM hmo htb hmz noSp (fun _ => false) rfl rfl (by kernel_rfl) ?_); intro m' e' l' ob h; simp only [zE0, zE1, zE2, zE3, zE4, zE5, evp, evx, ev1, evLoad, evStore, evBin, isBoolK, forall_const, z38, tb, Nat.reduceAdd, Nat.reduceSub, Nat.reduceMul, Nat.reduceEqDiff, Nat.reduceLeDiff, Nat.reduceLT, Nat.reduceBEq, Nat.reduceBNe, ↓reduceIte, reduceIte] at h; obtain ⟨rfl, rfl, rfl, rfl⟩ := h; refine ⟨?_, ?_⟩)
    | ((with_reducible refine Ob.mk ?_); first | exact trivial | (intros; omega) | ((repeat' first | apply And.intro | (intro hg; have hg' := hg; try simp only [zH] at hg')) <;> first | assumption | omega | (simp only [zH]; omega)))
  · repeat' first
      | with_reducible first | refine awp_seq ?_ | refine awp_block ?_ | refine next_then ?_ | refine next_block ?_ | refine exit_then ?_ | refine ret_then ?_ | refine ret_block ?_ | refine exit_here ?_ | refine awp_exit ?_ | refine awp_ret ?_ | refine awp_skip ?_ | refine awp_label ?_ | refine next_noGoto ?_ | refine ret_noGoto ?_ | refine exit_noGoto ?_ | refine awp_scope ?_
      | ((with_reducible refine exit_past ?_ ?_); exact rfl)
      | ((with_reducible refine isCond ?_); refine awp_condO rfl ?_ ?_ <;> intro hb <;> (try simp only [zH] at hb))
      | ((with_reducible refine isReg ?_); (first | refine awp_textM htb hmz noSp (fun _ => false) rfl rfl ?_ | refine awp_drawM hmo htb hmz noSp (fun _ => false) rfl rfl (by kernel_rfl) ?_); intro m' e' l' ob h; simp only [zE0, zE1, zE2, zE3, zE4, zE5, evp, evx, ev1, evLoad, evStore, evBin, isBoolK, forall_const, z38, tb, Nat.reduceAdd, Nat.reduceSub, Nat.reduceMul, Nat.reduceEqDiff, Nat.reduceLeDiff, Nat.reduceLT, Nat.reduceBEq, Nat.reduceBNe, ↓reduceIte, reduceIte] at h; obtain ⟨rfl, rfl, rfl, rfl⟩ := h; refine ⟨?_, ?_⟩)
      | ((with_reducible refine Ob.mk ?_); first | exact trivial | (intros; omega) | ((repeat' first | apply And.intro | (intro hg; have hg' := hg; try simp only [zH] at hg')) <;> first | assumption | omega | (simp only [zH]; omega)))
    refine fin_ret rfl rfl (spec_imp rfl ?_ rfl)
    have hk0 : kl = [] := List.length_eq_zero_iff.1 (by omega)
    rw [part_e3 (by simp only [Gm.n]; omega) (.inl (by simp only [Gm.n]; rw [← hkl, hkk]; exact hk0))]
    exact part_imp imp_nilG13 imp_nilI rfl
  have hkne : kl ≠ [] := by rintro rfl; simp only [List.length_nil] at hol; omega
  clear hb
  refine awp_nilbox 1 (.ints []) (.agg (.cons (.own 25) (.cons (.cst (.slice none 0 0)) (.cons (.cst (.slice none 0 0)) .nil)))) rfl rfl rfl (by first | exact .inl rfl | exact .inr (.inl rfl) | exact .inr (.inr (.inl rfl)) | exact .inr (.inr (.inr rfl))) (by simp only [lkr_cons, lkr_nil, fzE, fzA, fzR, fzB, set1, nbeq, Nat.reduceEqDiff, decide_true, decide_false, ↓reduceIte, reduceIte, cond_true, cond_false, List.take_length, Option.some.injEq] <;> rfl) rfl ?_
  refine awp_nilbox 1 (.ints []) (.agg (.cons (.own 25) (.cons (.own 26) (.cons (.cst (.slice none 0 0)) .nil)))) rfl rfl rfl (by first | exact .inl rfl | exact .inr (.inl rfl) | exact .inr (.inr (.inl rfl)) | exact .inr (.inr (.inr rfl))) (by simp only [lkr_cons, lkr_nil, fzE, fzA, fzR, fzB, set1, nbeq, Nat.reduceEqDiff, decide_true, decide_false, ↓reduceIte, reduceIte, cond_true, cond_false, List.take_length, Option.some.injEq] <;> rfl) rfl ?_
  refine awp_nilbox 1 (.rowsR []) (.agg (.cons (.own 25) (.cons (.own 26) (.cons (.own 27) .nil)))) rfl rfl rfl (by first | exact .inl rfl | exact .inr (.inl rfl) | exact .inr (.inr (.inl rfl)) | exact .inr (.inr (.inr rfl))) (by simp only [lkr_cons, lkr_nil, fzE, fzA, fzR, fzB, set1, nbeq, Nat.reduceEqDiff, decide_true, decide_false, ↓reduceIte, reduceIte, cond_true, cond_false, List.take_length, Option.some.injEq] <;> rfl) rfl ?_
  refine awp_loopC (τ := Nat) (fun j => j ≤ ol.length ∧ ∀ i, i < j → ptr x k (kl.getD i 0) ≠ []) (fun j => ⟨28, [(49, .int .i64 j), (48, .int .i64 ol.length), (47, .roI ol), (7, .roI nl), (6, .int .i64 0), (5, .roI ol), (4, .own 1), (2, .rop (.agg (.cons (.roI o) (.cons (.roI p) (.cons (.roII x) .nil))))), (1, .roB k)],
    [(25, some (.ints ((kl.take j).map fun v => o.getD v 0))), (26, some (.ints ((kl.take j).map fun v => p.getD v 0))), (27, some (.rowsR ((kl.take j).map (ptr x k)))), (1, some (.box (.agg (.cons (.own 25) (.cons (.own 26) (.cons (.own 27) .nil))))))], []⟩) (fun j => ol.length - j) 0 [] ?_ ⟨Nat.zero_le _, fun v hv => absurd hv (Nat.not_lt_zero v)⟩ ?_
  · refine ⟨rfl, ?_, ?_⟩ <;> simp only [zE0, zE1, zE2, zE3, zE4, zE5, evp, evx, ev1, evLoad, evStore, evBin, isBoolK, forall_const, z38, tb, Nat.reduceAdd, Nat.reduceSub, Nat.reduceMul, Nat.reduceEqDiff, Nat.reduceLeDiff, Nat.reduceLT, Nat.reduceBEq, Nat.reduceBNe, ↓reduceIte, reduceIte, zI, List.take_zero]
  rintro j ⟨hj, hne⟩
  have hkp := hkp j
  generalize hvv : kl.getD j 0 = v at *
  repeat' first
    | with_reducible first | refine awp_seq ?_ | refine awp_block ?_ | refine next_then ?_ | refine next_block ?_ | refine exit_then ?_ | refine ret_then ?_ | refine ret_block ?_ | refine exit_here ?_ | refine awp_exit ?_ | refine awp_ret ?_ | refine awp_skip ?_ | refine awp_label ?_ | refine next_noGoto ?_ | refine ret_noGoto ?_ | refine exit_noGoto ?_ | refine awp_scope ?_
    | ((with_reducible refine exit_past ?_ ?_); exact rfl)
    | ((with_reducible refine isCond ?_); refine awp_condO rfl ?_ ?_ <;> intro hb <;> (try simp only [zH] at hb))
    | ((with_reducible refine isRegS 29 ?_ ?_); (· exact rfl); (first | refine awp_textM htb hmz noSp (fun _ => false) rfl rfl ?_ | refine awp_drawM hmo htb hmz noSp (fun _ => false) rfl rfl (by kernel_rfl) ?_); intro m' e' l' ob h; simp only [zE0, zE1, zE2, zE3, zE4, zE5, evp, evx, ev1, evLoad, evStore, evBin, isBoolK, forall_const, z38, tb, Nat.reduceAdd, Nat.reduceSub, Nat.reduceMul, Nat.reduceEqDiff, Nat.reduceLeDiff, Nat.reduceLT, Nat.reduceBEq, Nat.reduceBNe, ↓reduceIte, reduceIte] at h; obtain ⟨rfl, rfl, rfl, rfl⟩ := h; refine ⟨?_, ?_⟩)
    | ((with_reducible refine Ob.mk ?_); first | exact trivial | (intros; omega) | ((repeat' first | apply And.intro | (intro hg; have hg' := hg; try simp only [zH] at hg')) <;> first | assumption | omega | (simp only [zH]; omega)))
  · rw [(hkp (by omega)).1]
    rw [Int.toNat_natCast]
    have hjl : j < kl.length := by omega
    obtain ⟨hov, hvo⟩ := hkp hjl
    obtain ⟨⟨_, _, _, _, _, hx6⟩, hrow⟩ := hpos v hvo
    simp only [Gm.x] at hx6
    have hrb : ∀ r, r < (x.getD v []).length → 0 ≤ (x.getD v []).getD r 0 ∧ (x.getD v []).getD r 0 < o.length := fun r hr => ⟨(hrow r hr).1, (hrow r hr).2.1⟩
    have hsr : ptr x k v = ((x.getD v []).filter fun t => k.getD t.toNat false).map fun t => nmz k t.toNat := ptr_nmz
    generalize hrw : x.getD v [] = rw at *
    have hlk : (kl.take j).length = j := by rw [List.length_take]; omega
    have hl1 : ((kl.take j).map fun v => o.getD v 0).length = j := by rw [List.length_map, hlk]
    have hl2 : ((kl.take j).map fun v => p.getD v 0).length = j := by rw [List.length_map, hlk]
    have hl3 : ((kl.take j).map (ptr x k)).length = j := by rw [List.length_map, hlk]
    refine awp_nilown 12 (.ints []) (by simp only [zE0, zE1, zE2, zE3, zE4, zE5, evp, evx, ev1, evLoad, evStore, evBin, isBoolK, forall_const, z38, tb, Nat.reduceAdd, Nat.reduceSub, Nat.reduceMul, Nat.reduceEqDiff, Nat.reduceLeDiff, Nat.reduceLT, Nat.reduceBEq, Nat.reduceBNe, ↓reduceIte, reduceIte]) (.inl rfl) rfl ?_
    refine awp_loopC (τ := Nat) (fun r => r ≤ rw.length) (fun r => ⟨41, [(59, .int .i64 r), (58, .int .i64 rw.length), (57, .roI rw), (12, .own 40), (11, .int .i64 v), (49, .int .i64 j), (48, .int .i64 ol.length), (47, .roI ol), (7, .roI nl), (6, .int .i64 0), (5, .roI ol), (4, .own 1), (2, .rop (.agg (.cons (.roI o) (.cons (.roI p) (.cons (.roII x) .nil))))), (1, .roB k)],
      [(40, some (.ints (((rw.take r).filter fun t => k.getD t.toNat false).map fun t => nmz k t.toNat))), (25, some (.ints ((kl.take j).map fun v => o.getD v 0))), (26, some (.ints ((kl.take j).map fun v => p.getD v 0))), (27, some (.rowsR ((kl.take j).map (ptr x k)))), (1, some (.box (.agg (.cons (.own 25) (.cons (.own 26) (.cons (.own 27) .nil))))))], []⟩) (fun r => rw.length - r) 0 [] ?_ (Nat.zero_le _) ?_
    · refine ⟨rfl, ?_, ?_⟩ <;> simp only [zE0, zE1, zE2, zE3, zE4, zE5, evp, evx, ev1, evLoad, evStore, evBin, isBoolK, forall_const, z38, tb, Nat.reduceAdd, Nat.reduceSub, Nat.reduceMul, Nat.reduceEqDiff, Nat.reduceLeDiff, Nat.reduceLT, Nat.reduceBEq, Nat.reduceBNe, ↓reduceIte, reduceIte, zI, List.take_zero, List.filter_nil]
    rintro r hr
    have hrb := hrb r
    have hfl : (((rw.take r).filter fun t => k.getD t.toNat false).map fun t => nmz k t.toNat).length ≤ 64 := by
      rw [List.length_map]
      refine Nat.le_trans (List.length_filter_le _ _) ?_
      rw [List.length_take]; omega
    have hfs : r < rw.length → ((rw.take (r + 1)).filter fun t => k.getD t.toNat false).map (fun t => nmz k t.toNat) = (((rw.take r).filter fun t => k.getD t.toNat false).map fun t => nmz k t.toNat) ++ (if k.getD (rw.getD r 0).toNat false = true then [nmz k (rw.getD r 0).toNat] else []) := fun h => by
      rw [take1 (d := 0) h, List.filter_append, List.map_append]
      congr 1
      cases hc : k.getD (rw.getD r 0).toNat false with
      | true => simp only [List.filter_cons, hc, List.filter_nil, if_true, List.map_cons, List.map_nil]
      | false => simp only [List.filter_cons, hc, List.filter_nil, if_false, Bool.false_eq_true, List.map_nil]
    repeat' first
      | with_reducible first | refine awp_seq ?_ | refine awp_block ?_ | refine next_then ?_ | refine next_block ?_ | refine exit_then ?_ | refine ret_then ?_ | refine ret_block ?_ | refine exit_here ?_ | refine awp_exit ?_ | refine awp_ret ?_ | refine awp_skip ?_ | refine awp_label ?_ | refine next_noGoto ?_ | refine ret_noGoto ?_ | refine exit_noGoto ?_ | refine awp_scope ?_
      | ((with_reducible refine exit_past ?_ ?_); exact rfl)
      | ((with_reducible refine isCond ?_); refine awp_condO rfl ?_ ?_ <;> intro hb <;> (try simp only [zH] at hb))
      | ((with_reducible refine isRegS 23 ?_ ?_); (· exact rfl); (first | refine awp_textM htb hmz noSp (fun _ => false) rfl rfl ?_ | refine awp_drawM hmo htb hmz noSp (fun _ => false) rfl rfl (by kernel_rfl) ?_); intro m' e' l' ob h; simp only [zE0, zE1, zE2, zE3, zE4, zE5, evp, evx, ev1, evLoad, evStore, evBin, isBoolK, forall_const, z38, tb, Nat.reduceAdd, Nat.reduceSub, Nat.reduceMul, Nat.reduceEqDiff, Nat.reduceLeDiff, Nat.reduceLT, Nat.reduceBEq, Nat.reduceBNe, ↓reduceIte, reduceIte] at h; obtain ⟨rfl, rfl, rfl, rfl⟩ := h; refine ⟨?_, ?_⟩)
      | ((with_reducible refine Ob.mk ?_); first | exact trivial | (intros; omega) | ((repeat' first | apply And.intro | (intro hg; have hg' := hg; try simp only [zH] at hg')) <;> first | assumption | omega | (simp only [zH]; omega)))
    · have hrl : r < rw.length := by omega
      refine back (r + 1) [(40, 55)] ?_ (by omega) (by omega)
      (refine ⟨rfl, ?_, ?_⟩ <;> simp only [zE0, zE1, zE2, zE3, zE4, zE5, evp, evx, ev1, evLoad, evStore, evBin, isBoolK, forall_const, z38, tb, Nat.reduceAdd, Nat.reduceSub, Nat.reduceMul, Nat.reduceEqDiff, Nat.reduceLeDiff, Nat.reduceLT, Nat.reduceBEq, Nat.reduceBNe, ↓reduceIte, reduceIte, zI])
      rw [hfs hrl, if_pos hb, hnm _ (by have := hrb hrl; omega)]
    · have hrl : r < rw.length := by omega
      refine back (r + 1) [] ?_ (by omega) (by omega)
      (refine ⟨rfl, ?_, ?_⟩ <;> simp only [zE0, zE1, zE2, zE3, zE4, zE5, evp, evx, ev1, evLoad, evStore, evBin, isBoolK, forall_const, z38, tb, Nat.reduceAdd, Nat.reduceSub, Nat.reduceMul, Nat.reduceEqDiff, Nat.reduceLeDiff, Nat.reduceLT, Nat.reduceBEq, Nat.reduceBNe, ↓reduceIte, reduceIte, zI])
      rw [hfs hrl, if_neg (by rw [hb]; decide), List.append_nil]
    have hre : r = rw.length := by omega
    subst hre
    rw [List.take_length] at hfl ⊢
    rw [← hsr] at hfl ⊢
    generalize hss : ptr x k v = ss at *
    refine awp_fzN 40 (.roI ss) (by simp only [lkr_cons, lkr_nil, fzE, fzA, fzR, fzB, set1, nbeq, Nat.reduceEqDiff, decide_true, decide_false, ↓reduceIte, reduceIte, cond_true, cond_false, List.take_length, Option.some.injEq]; rfl) (by first | exact rfl | (refine ⟨?_, rfl⟩; first | rfl | (intros; rfl))) (by simp only [lkr_cons, lkr_nil, fzE, fzA, fzR, fzB, set1, nbeq, Nat.reduceEqDiff, decide_true, decide_false, ↓reduceIte, reduceIte, cond_true, cond_false, List.take_length, Option.some.injEq]; rfl) (by simp only [lkr_cons, lkr_nil, fzE, fzA, fzR, fzB, set1, nbeq, Nat.reduceEqDiff, decide_true, decide_false, ↓reduceIte, reduceIte, cond_true, cond_false, List.take_length, Option.some.injEq]; rfl) ?_
    repeat' first
      | with_reducible first | refine awp_seq ?_ | refine awp_block ?_ | refine next_then ?_ | refine next_block ?_ | refine exit_then ?_ | refine ret_then ?_ | refine ret_block ?_ | refine exit_here ?_ | refine awp_exit ?_ | refine awp_ret ?_ | refine awp_skip ?_ | refine awp_label ?_ | refine next_noGoto ?_ | refine ret_noGoto ?_ | refine exit_noGoto ?_ | refine awp_scope ?_
      | ((with_reducible refine exit_past ?_ ?_); exact rfl)
      | ((with_reducible refine isCond ?_); refine awp_condO rfl ?_ ?_ <;> intro hb <;> (try simp only [zH] at hb))
      | ((with_reducible refine isReg ?_); (first | refine awp_textM htb hmz noSp (fun _ => false) rfl rfl ?_ | refine awp_drawM hmo htb hmz noSp (fun _ => false) rfl rfl (by kernel_rfl) ?_); intro m' e' l' ob h; simp only [zE0, zE1, zE2, zE3, zE4, zE5, evp, evx, ev1, evLoad, evStore, evBin, isBoolK, forall_const, z38, tb, Nat.reduceAdd, Nat.reduceSub, Nat.reduceMul, Nat.reduceEqDiff, Nat.reduceLeDiff, Nat.reduceLT, Nat.reduceBEq, Nat.reduceBNe, ↓reduceIte, reduceIte] at h; obtain ⟨rfl, rfl, rfl, rfl⟩ := h; refine ⟨?_, ?_⟩)
      | ((with_reducible refine Ob.mk ?_); first | exact trivial | (intros; omega) | ((repeat' first | apply And.intro | (intro hg; have hg' := hg; try simp only [zH] at hg')) <;> first | assumption | omega | (simp only [zH]; omega)))
    · refine fin_ret rfl rfl (spec_imp rfl ?_ rfl)
      have hs0 : ss = [] := List.length_eq_zero_iff.1 (by omega)
      rw [part_e3 (by simp only [Gm.n]; omega) (.inr ⟨v, by
        simp only [Gm.n]
        rw [← hkl, hkk, ← hvv, List.getD_eq_getElem?_getD, List.getElem?_eq_getElem hjl]
        exact List.getElem_mem hjl, by rw [← hs0]; exact hss⟩)]
      exact part_imp imp_nilG13 imp_nilI rfl
    · refine back (j + 1) [(25, 53), (26, 64), (27, 71)] ?_ ⟨by omega, fun i hi => ?_⟩ (by omega)
      · (refine ⟨rfl, ?_, ?_⟩ <;> simp only [zE0, zE1, zE2, zE3, zE4, zE5, evp, evx, ev1, evLoad, evStore, evBin, isBoolK, forall_const, z38, tb, Nat.reduceAdd, Nat.reduceSub, Nat.reduceMul, Nat.reduceEqDiff, Nat.reduceLeDiff, Nat.reduceLT, Nat.reduceBEq, Nat.reduceBNe, ↓reduceIte, reduceIte, zI])
        rw [take1 (d := 0) hjl, hvv]
        simp only [List.map_append, List.map_cons, List.map_nil, hss]
        exact ⟨trivial, trivial, trivial⟩
      · rcases Nat.lt_succ_iff_lt_or_eq.1 hi with h | rfl
        · exact hne i h
        · rw [hvv, hss]
          rintro rfl
          exact hb rfl
  have hje : j = kl.length := by omega
  subst hje
  rw [List.take_length]
  refine awp_fzN 25 (.roI (kl.map fun v => o.getD v 0)) (by simp only [lkr_cons, lkr_nil, fzE, fzA, fzR, fzB, set1, nbeq, Nat.reduceEqDiff, decide_true, decide_false, ↓reduceIte, reduceIte, cond_true, cond_false, List.take_length, Option.some.injEq]; rfl) (by first | exact rfl | (refine ⟨?_, rfl⟩; first | rfl | (intros; rfl))) (by simp only [lkr_cons, lkr_nil, fzE, fzA, fzR, fzB, set1, nbeq, Nat.reduceEqDiff, decide_true, decide_false, ↓reduceIte, reduceIte, cond_true, cond_false, List.take_length, Option.some.injEq]; rfl) (by simp only [lkr_cons, lkr_nil, fzE, fzA, fzR, fzB, set1, nbeq, Nat.reduceEqDiff, decide_true, decide_false, ↓reduceIte, reduceIte, cond_true, cond_false, List.take_length, Option.some.injEq]; rfl) ?_
  refine awp_fzN 26 (.roI (kl.map fun v => p.getD v 0)) (by simp only [lkr_cons, lkr_nil, fzE, fzA, fzR, fzB, set1, nbeq, Nat.reduceEqDiff, decide_true, decide_false, ↓reduceIte, reduceIte, cond_true, cond_false, List.take_length, Option.some.injEq]; rfl) (by first | exact rfl | (refine ⟨?_, rfl⟩; first | rfl | (intros; rfl))) (by simp only [lkr_cons, lkr_nil, fzE, fzA, fzR, fzB, set1, nbeq, Nat.reduceEqDiff, decide_true, decide_false, ↓reduceIte, reduceIte, cond_true, cond_false, List.take_length, Option.some.injEq]; rfl) (by simp only [lkr_cons, lkr_nil, fzE, fzA, fzR, fzB, set1, nbeq, Nat.reduceEqDiff, decide_true, decide_false, ↓reduceIte, reduceIte, cond_true, cond_false, List.take_length, Option.some.injEq]; rfl) ?_
  refine awp_fzN 27 (.roII (kl.map (ptr x k))) (by simp only [lkr_cons, lkr_nil, fzE, fzA, fzR, fzB, set1, nbeq, Nat.reduceEqDiff, decide_true, decide_false, ↓reduceIte, reduceIte, cond_true, cond_false, List.take_length, Option.some.injEq]; rfl) (by first | exact rfl | (refine ⟨?_, rfl⟩; first | rfl | (intros; rfl))) (by simp only [lkr_cons, lkr_nil, fzE, fzA, fzR, fzB, set1, nbeq, Nat.reduceEqDiff, decide_true, decide_false, ↓reduceIte, reduceIte, cond_true, cond_false, List.take_length, Option.some.injEq]; rfl) (by simp only [lkr_cons, lkr_nil, fzE, fzA, fzR, fzB, set1, nbeq, Nat.reduceEqDiff, decide_true, decide_false, ↓reduceIte, reduceIte, cond_true, cond_false, List.take_length, Option.some.injEq]; rfl) ?_
  repeat' first
    | with_reducible first | refine awp_seq ?_ | refine awp_block ?_ | refine next_then ?_ | refine next_block ?_ | refine exit_then ?_ | refine ret_then ?_ | refine ret_block ?_ | refine exit_here ?_ | refine awp_exit ?_ | refine awp_ret ?_ | refine awp_skip ?_ | refine awp_label ?_ | refine next_noGoto ?_ | refine ret_noGoto ?_ | refine exit_noGoto ?_ | refine awp_scope ?_
    | ((with_reducible refine exit_past ?_ ?_); exact rfl)
    | ((with_reducible refine isCond ?_); refine awp_condO rfl ?_ ?_ <;> intro hb <;> (try simp only [zH] at hb))
    | ((with_reducible refine isReg ?_); (first | refine awp_textM htb hmz noSp (fun _ => false) rfl rfl ?_ | refine awp_drawM hmo htb hmz noSp (fun _ => false) rfl rfl (by kernel_rfl) ?_); intro m' e' l' ob h; simp only [zE0, zE1, zE2, zE3, zE4, zE5, evp, evx, ev1, evLoad, evStore, evBin, isBoolK, forall_const, z38, tb, Nat.reduceAdd, Nat.reduceSub, Nat.reduceMul, Nat.reduceEqDiff, Nat.reduceLeDiff, Nat.reduceLT, Nat.reduceBEq, Nat.reduceBNe, ↓reduceIte, reduceIte] at h; obtain ⟨rfl, rfl, rfl, rfl⟩ := h; refine ⟨?_, ?_⟩)
    | ((with_reducible refine Ob.mk ?_); first | exact trivial | (intros; omega) | ((repeat' first | apply And.intro | (intro hg; have hg' := hg; try simp only [zH] at hg')) <;> first | assumption | omega | (simp only [zH]; omega)))
  refine fin_ret rfl rfl (spec_flat rfl ?_ rfl)
  rw [part_e4 (by simp only [Gm.n]; omega) (by
    simp only [Gm.n]
    rw [← hkl, hkk]
    rintro (h0 | ⟨u, hu, hs⟩)
    · exact hkne h0
    obtain ⟨i, hi, rfl⟩ := List.getElem_of_mem hu
    refine hne i hi ?_
    rw [List.getD_eq_getElem?_getD, List.getElem?_eq_getElem hi]
    exact hs)]
  show AV.tup _ = AV.tup _
  simp only [Gm.n]
  rw [← hkl, hkk, hee]
  rfl
end Go.Proofs.Ytlckljphakkomaa.Cal
