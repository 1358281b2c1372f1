/- Own texts of the proof, merged, in order. -/
import Derived.Test.YtgminhedbeblpaaS17
set_option linter.unusedVariables false
set_option linter.unusedSimpArgs false
namespace Go.Proofs.Ytgminhedbeblpaa.Cal
open Go Pl
/-- What Wins answers. -/
noncomputable def winA (g : Gm) : List Int := winL g (g.own.length + 1) fun v => decide (v < g.own.length)
noncomputable def winaS : Spec
  | [.agg (.cons (.roI o) (.cons (.roI p) (.cons (.roII x) .nil)))] => some ⟨validB ⟨o, p, x⟩ = true, .roI (winA ⟨o, p, x⟩), none⟩
  | _ => none
noncomputable def spWa (n : Nat) : Nat → Option Spec
  | 40 => some (winsS (n + 1))
  | _ => none
theorem spWa_ok {n : Nat} : SpOK Try.prog (spWa n) := by
  intro f S h
  unfold spWa at h
  split at h
  · cases h; exact wins_ok _
  · cases h
set_option maxRecDepth 4000 in
set_option maxHeartbeats 4000000 in
theorem wina_ok : FSpec Try.prog 18 winaS := by
  refine fspec_of htb (fn := Try.f18) (by kernel_rfl) (by kernel_rfl) rfl (fun args r hS => ?_) (fun args r hS hob hl => ?_)
  · unfold winaS at hS; split at hS <;> first | (cases hS; done) | (cases hS; exact Nat.le_of_ble_eq_true rfl)
  unfold winaS at hS
  split at hS
  case h_2 => cases hS
  rename_i o p x
  simp only [Option.some.injEq] at hS
  subst hS
  simp only [lenP, mkL, lim] at hl
  dsimp only at hob
  have hv := hob
  have hV := validB_iff.1 hv
  obtain ⟨hn, hpl, hxl, hpos⟩ := id hV
  simp only [Gm.n] at hn hpl hxl
  have hz : ∀ f : Nat → Bool, List.replicate o.length false = mix f (fun _ => false) o.length 0 := fun f => List.ext_getElem (by simp [mix]) fun j h1 h2 => by simp [mix]
  repeat' first
    | with_reducible first | refine awp_seq ?_ | refine awp_block ?_ | refine next_then ?_ | refine next_block ?_ | refine exit_then ?_ | refine ret_then ?_ | refine ret_block ?_ | refine exit_here ?_ | refine awp_exit ?_ | refine awp_ret ?_ | refine awp_skip ?_ | refine awp_label ?_ | refine next_noGoto ?_ | refine ret_noGoto ?_ | refine exit_noGoto ?_ | refine awp_scope ?_
    | ((with_reducible refine exit_past ?_ ?_); exact rfl)
    | ((with_reducible refine isCond ?_); refine awp_condO rfl ?_ ?_ <;> intro hb <;> (try simp only [zH] at hb))
    | ((with_reducible refine isReg ?_); (first | refine awp_textM htb hmz (spWa_ok (n := o.length)) (fun _ => false) rfl rfl ?_ | refine awp_drawM hmo htb hmz (spWa_ok (n := o.length)) (fun _ => false) rfl rfl (by kernel_rfl) ?_); intro m' e' l' ob h; simp only [zE0, zE1, zE2, zE3, zE4, zE5, evp, evx, ev1, evLoad, evStore, evBin, isBoolK, forall_const, z38, tb, Nat.reduceAdd, Nat.reduceSub, Nat.reduceMul, Nat.reduceEqDiff, Nat.reduceLeDiff, Nat.reduceLT, Nat.reduceBEq, Nat.reduceBNe, ↓reduceIte, reduceIte, spWa, winsS] at h; obtain ⟨rfl, rfl, rfl, rfl⟩ := h; refine ⟨?_, ?_⟩)
    | ((with_reducible refine Ob.mk ?_); first | exact trivial | (intros; omega) | ((repeat' first | apply And.intro | (intro hg; have hg' := hg; try simp only [zH] at hg')) <;> first | assumption | omega | (simp only [zH]; omega)))
  refine awp_loopC (τ := Nat) (fun i => i ≤ o.length) (fun i => ⟨15, [(18, .int .i64 i), (17, .int .i64 o.length), (5, .own 10), (4, .own 7), (1, (.rop (.agg (.cons (.roI o) (.cons (.roI p) (.cons (.roII x) .nil))))))], [(7, some (.ints (List.replicate o.length 0))), (10, some (.bools (mix (fun v => decide (v < o.length)) (fun _ => false) o.length i)))], []⟩) (fun i => o.length - i) 0 [] ?_ (Nat.zero_le _) ?_
  · (refine ⟨rfl, ?_, ?_⟩ <;> simp only [zE0, zE1, zE2, zE3, zE4, zE5, evp, evx, ev1, evLoad, evStore, evBin, isBoolK, forall_const, z38, tb, Nat.reduceAdd, Nat.reduceSub, Nat.reduceMul, Nat.reduceEqDiff, Nat.reduceLeDiff, Nat.reduceLT, Nat.reduceBEq, Nat.reduceBNe, ↓reduceIte, reduceIte, spWa, winsS, zI])
    · rw [List.length_replicate]
    · exact hz _
  intro i hi
  have hm1 : (mix (fun v => decide (v < o.length)) (fun _ => false) o.length i).length = o.length := mix_len
  have hms : i < o.length → (mix (fun v => decide (v < o.length)) (fun _ => false) o.length i).set i true = mix (fun v => decide (v < o.length)) (fun _ => false) o.length (i + 1) := fun h => by
    have := mix_set (f := fun v => decide (v < o.length)) (h := fun _ => false) (n := o.length) (i := i)
    rw [show decide (i < o.length) = true from decide_eq_true h] at this; exact this
  repeat' first
    | with_reducible first | refine awp_seq ?_ | refine awp_block ?_ | refine next_then ?_ | refine next_block ?_ | refine exit_then ?_ | refine ret_then ?_ | refine ret_block ?_ | refine exit_here ?_ | refine awp_exit ?_ | refine awp_ret ?_ | refine awp_skip ?_ | refine awp_label ?_ | refine next_noGoto ?_ | refine ret_noGoto ?_ | refine exit_noGoto ?_ | refine awp_scope ?_
    | ((with_reducible refine exit_past ?_ ?_); exact rfl)
    | ((with_reducible refine isCond ?_); refine awp_condO rfl ?_ ?_ <;> intro hb <;> (try simp only [zH] at hb))
    | ((with_reducible refine isRegS 9 ?_ ?_); (· exact rfl); (first | refine awp_textM htb hmz (spWa_ok (n := o.length)) (fun _ => false) rfl rfl ?_ | refine awp_drawM hmo htb hmz (spWa_ok (n := o.length)) (fun _ => false) rfl rfl (by kernel_rfl) ?_); intro m' e' l' ob h; simp only [zE0, zE1, zE2, zE3, zE4, zE5, evp, evx, ev1, evLoad, evStore, evBin, isBoolK, forall_const, z38, tb, Nat.reduceAdd, Nat.reduceSub, Nat.reduceMul, Nat.reduceEqDiff, Nat.reduceLeDiff, Nat.reduceLT, Nat.reduceBEq, Nat.reduceBNe, ↓reduceIte, reduceIte, spWa, winsS] at h; obtain ⟨rfl, rfl, rfl, rfl⟩ := h; refine ⟨?_, ?_⟩)
    | ((with_reducible refine Ob.mk ?_); first | exact trivial | (intros; omega) | ((repeat' first | apply And.intro | (intro hg; have hg' := hg; try simp only [zH] at hg')) <;> first | assumption | omega | (simp only [zH]; omega)))
  · refine back (i + 1) [] ?_ (by omega) (by omega)
    (refine ⟨rfl, ?_, ?_⟩ <;> simp only [zE0, zE1, zE2, zE3, zE4, zE5, evp, evx, ev1, evLoad, evStore, evBin, isBoolK, forall_const, z38, tb, Nat.reduceAdd, Nat.reduceSub, Nat.reduceMul, Nat.reduceEqDiff, Nat.reduceLeDiff, Nat.reduceLT, Nat.reduceBEq, Nat.reduceBNe, ↓reduceIte, reduceIte, spWa, winsS, zI])
    exact hms (by omega)
  have hie : i = o.length := by omega
  subst hie
  rw [mix_all]
  refine awp_fzN 10 (.roB ((List.range o.length).map fun v => decide (v < o.length))) (by simp only [lkr_cons, lkr_nil, fzE, fzA, fzR, fzB, set1, nbeq, Nat.reduceEqDiff, decide_true, decide_false, ↓reduceIte, reduceIte, cond_true, cond_false, List.take_length, Option.some.injEq]; rfl) (by first | exact rfl | (refine ⟨?_, rfl⟩; first | rfl | (intros; rfl))) (by simp only [lkr_cons, lkr_nil, fzE, fzA, fzR, fzB, set1, nbeq, Nat.reduceEqDiff, decide_true, decide_false, ↓reduceIte, reduceIte, cond_true, cond_false, List.take_length, Option.some.injEq]; rfl) (by simp only [lkr_cons, lkr_nil, fzE, fzA, fzR, fzB, set1, nbeq, Nat.reduceEqDiff, decide_true, decide_false, ↓reduceIte, reduceIte, cond_true, cond_false, List.take_length, Option.some.injEq]; rfl) ?_
  have hKl : ((List.range o.length).map fun v => decide (v < o.length)).length = o.length := by simp
  have hKf : bF ((List.range o.length).map fun v => decide (v < o.length)) = fun v => decide (v < o.length) := bF_map fun v hv => decide_eq_false (by omega)
  have hKc : cntZ o.length (bF ((List.range o.length).map fun v => decide (v < o.length))) < o.length + 1 := by
    have : cntZ o.length (bF ((List.range o.length).map fun v => decide (v < o.length))) ≤ (List.range o.length).length := List.countP_le_length
    rw [List.length_range] at this; omega
  generalize (List.range o.length).map (fun v => decide (v < o.length)) = K at *
  have hWl : (winA ⟨o, p, x⟩).length = o.length := winL_len
  clear hms hm1 hz
  have hA : winL ⟨o, p, x⟩ (o.length + 1) (bF K) = winA ⟨o, p, x⟩ := by rw [hKf]; rfl
  repeat' first
    | with_reducible first | refine awp_seq ?_ | refine awp_block ?_ | refine next_then ?_ | refine next_block ?_ | refine exit_then ?_ | refine ret_then ?_ | refine ret_block ?_ | refine exit_here ?_ | refine awp_exit ?_ | refine awp_ret ?_ | refine awp_skip ?_ | refine awp_label ?_ | refine next_noGoto ?_ | refine ret_noGoto ?_ | refine exit_noGoto ?_ | refine awp_scope ?_
    | ((with_reducible refine exit_past ?_ ?_); exact rfl)
    | ((with_reducible refine isCond ?_); refine awp_condO rfl ?_ ?_ <;> intro hb <;> (try simp only [zH] at hb))
    | ((with_reducible refine isReg ?_); (first | refine awp_textM htb hmz (spWa_ok (n := o.length)) (fun _ => false) rfl rfl ?_ | refine awp_drawM hmo htb hmz (spWa_ok (n := o.length)) (fun _ => false) rfl rfl (by kernel_rfl) ?_); intro m' e' l' ob h; simp only [zE0, zE1, zE2, zE3, zE4, zE5, evp, evx, ev1, evLoad, evStore, evBin, isBoolK, forall_const, z38, tb, Nat.reduceAdd, Nat.reduceSub, Nat.reduceMul, Nat.reduceEqDiff, Nat.reduceLeDiff, Nat.reduceLT, Nat.reduceBEq, Nat.reduceBNe, ↓reduceIte, reduceIte, spWa, winsS] at h; obtain ⟨rfl, rfl, rfl, rfl⟩ := h; refine ⟨?_, ?_⟩)
    | ((with_reducible refine Ob.mk ?_); first | exact trivial | (intros; omega) | ((repeat' first | apply And.intro | (intro hg; have hg' := hg; try simp only [zH] at hg')) <;> first | assumption | omega | (simp only [zH]; omega)))
  rw [hA]
  clear hA
  generalize winA ⟨o, p, x⟩ = W at *
  have hzi : List.replicate o.length (0 : Int) = mix (fun v => W.getD v 0) (fun _ => 0) o.length 0 := List.ext_getElem (by simp [mix]) fun j h1 h2 => by simp [mix]
  refine awp_loopC (τ := Nat) (fun i => i ≤ o.length) (fun i => ⟨21, [(29, .int .i64 i), (28, .int .i64 W.length), (27, .roI W), (4, .own 7)], [(7, some (.ints (mix (fun v => W.getD v 0) (fun _ => 0) o.length i)))], []⟩) (fun i => o.length - i) 0 [] ?_ (Nat.zero_le _) ?_
  · (refine ⟨rfl, ?_, ?_⟩ <;> simp only [zE0, zE1, zE2, zE3, zE4, zE5, evp, evx, ev1, evLoad, evStore, evBin, isBoolK, forall_const, z38, tb, Nat.reduceAdd, Nat.reduceSub, Nat.reduceMul, Nat.reduceEqDiff, Nat.reduceLeDiff, Nat.reduceLT, Nat.reduceBEq, Nat.reduceBNe, ↓reduceIte, reduceIte, spWa, winsS, zI])
    exact hzi
  intro i hi
  have hm1 : (mix (fun v => W.getD v 0) (fun _ => 0) o.length i).length = o.length := mix_len
  clear hzi
  repeat' first
    | with_reducible first | refine awp_seq ?_ | refine awp_block ?_ | refine next_then ?_ | refine next_block ?_ | refine exit_then ?_ | refine ret_then ?_ | refine ret_block ?_ | refine exit_here ?_ | refine awp_exit ?_ | refine awp_ret ?_ | refine awp_skip ?_ | refine awp_label ?_ | refine next_noGoto ?_ | refine ret_noGoto ?_ | refine exit_noGoto ?_ | refine awp_scope ?_
    | ((with_reducible refine exit_past ?_ ?_); exact rfl)
    | ((with_reducible refine isCond ?_); refine awp_condO rfl ?_ ?_ <;> intro hb <;> (try simp only [zH] at hb))
    | ((with_reducible refine isRegS 14 ?_ ?_); (· exact rfl); (first | refine awp_textM htb hmz (spWa_ok (n := o.length)) (fun _ => false) rfl rfl ?_ | refine awp_drawM hmo htb hmz (spWa_ok (n := o.length)) (fun _ => false) rfl rfl (by kernel_rfl) ?_); intro m' e' l' ob h; simp only [zE0, zE1, zE2, zE3, zE4, zE5, evp, evx, ev1, evLoad, evStore, evBin, isBoolK, forall_const, z38, tb, Nat.reduceAdd, Nat.reduceSub, Nat.reduceMul, Nat.reduceEqDiff, Nat.reduceLeDiff, Nat.reduceLT, Nat.reduceBEq, Nat.reduceBNe, ↓reduceIte, reduceIte, spWa, winsS] at h; obtain ⟨rfl, rfl, rfl, rfl⟩ := h; refine ⟨?_, ?_⟩)
    | ((with_reducible refine Ob.mk ?_); first | exact trivial | (intros; omega) | ((repeat' first | apply And.intro | (intro hg; have hg' := hg; try simp only [zH] at hg')) <;> first | assumption | omega | (simp only [zH]; omega)))
  · refine back (i + 1) [] ?_ (by omega) (by omega)
    (refine ⟨rfl, ?_, ?_⟩ <;> simp only [zE0, zE1, zE2, zE3, zE4, zE5, evp, evx, ev1, evLoad, evStore, evBin, isBoolK, forall_const, z38, tb, Nat.reduceAdd, Nat.reduceSub, Nat.reduceMul, Nat.reduceEqDiff, Nat.reduceLeDiff, Nat.reduceLT, Nat.reduceBEq, Nat.reduceBNe, ↓reduceIte, reduceIte, spWa, winsS, zI])
    exact mix_set
  have hie : i = o.length := by omega
  subst hie
  rw [mix_all]
  refine awp_fzN 7 (.roI ((List.range o.length).map fun v => W.getD v 0)) (by simp only [lkr_cons, lkr_nil, fzE, fzA, fzR, fzB, set1, nbeq, Nat.reduceEqDiff, decide_true, decide_false, ↓reduceIte, reduceIte, cond_true, cond_false, List.take_length, Option.some.injEq]; rfl) (by first | exact rfl | (refine ⟨?_, rfl⟩; first | rfl | (intros; rfl))) (by simp only [lkr_cons, lkr_nil, fzE, fzA, fzR, fzB, set1, nbeq, Nat.reduceEqDiff, decide_true, decide_false, ↓reduceIte, reduceIte, cond_true, cond_false, List.take_length, Option.some.injEq]; rfl) (by simp only [lkr_cons, lkr_nil, fzE, fzA, fzR, fzB, set1, nbeq, Nat.reduceEqDiff, decide_true, decide_false, ↓reduceIte, reduceIte, cond_true, cond_false, List.take_length, Option.some.injEq]; rfl) ?_
  repeat' first
    | with_reducible first | refine awp_seq ?_ | refine awp_block ?_ | refine next_then ?_ | refine next_block ?_ | refine exit_then ?_ | refine ret_then ?_ | refine ret_block ?_ | refine exit_here ?_ | refine awp_exit ?_ | refine awp_ret ?_ | refine awp_skip ?_ | refine awp_label ?_ | refine next_noGoto ?_ | refine ret_noGoto ?_ | refine exit_noGoto ?_ | refine awp_scope ?_
    | ((with_reducible refine exit_past ?_ ?_); exact rfl)
    | ((with_reducible refine isCond ?_); refine awp_condO rfl ?_ ?_ <;> intro hb <;> (try simp only [zH] at hb))
    | ((with_reducible refine isReg ?_); (first | refine awp_textM htb hmz (spWa_ok (n := o.length)) (fun _ => false) rfl rfl ?_ | refine awp_drawM hmo htb hmz (spWa_ok (n := o.length)) (fun _ => false) rfl rfl (by kernel_rfl) ?_); intro m' e' l' ob h; simp only [zE0, zE1, zE2, zE3, zE4, zE5, evp, evx, ev1, evLoad, evStore, evBin, isBoolK, forall_const, z38, tb, Nat.reduceAdd, Nat.reduceSub, Nat.reduceMul, Nat.reduceEqDiff, Nat.reduceLeDiff, Nat.reduceLT, Nat.reduceBEq, Nat.reduceBNe, ↓reduceIte, reduceIte, spWa, winsS] at h; obtain ⟨rfl, rfl, rfl, rfl⟩ := h; refine ⟨?_, ?_⟩)
    | ((with_reducible refine Ob.mk ?_); first | exact trivial | (intros; omega) | ((repeat' first | apply And.intro | (intro hg; have hg' := hg; try simp only [zH] at hg')) <;> first | assumption | omega | (simp only [zH]; omega)))
  refine fin_ret rfl rfl (spec_flat rfl ?_ rfl)
  refine congrArg AV.roI (List.ext_getElem (by simp [hWl]) fun v h1 h2 => ?_)
  have hv : v < W.length := h2
  simp [List.getElem?_eq_getElem hv]
/-- The game in which a player follows its choices. -/
def fromG (g : Gm) (pl : Int) (c : List Int) : Gm := ⟨g.own, g.pri, (List.range g.own.length).map fun v => if g.own.getD v 0 = pl then [c.getD v 0] else g.nxt.getD v []⟩
theorem fromG_x {g : Gm} {pl : Int} {c : List Int} {v : Nat} (hv : v < g.own.length) : (fromG g pl c).nxt.getD v [] = if g.own.getD v 0 = pl then [c.getD v 0] else g.nxt.getD v [] := by
  simp [fromG, List.getD_eq_getElem?_getD, hv]
theorem fromG_valid {g : Gm} {pl : Int} {c : List Int} (h : Valid g) (hc : ∀ v, v < g.own.length → g.own.getD v 0 = pl → 0 ≤ c.getD v 0 ∧ c.getD v 0 < g.own.length) : Valid (fromG g pl c) := by
  obtain ⟨hn, hpl, hxl, hpos⟩ := h
  refine ⟨hn, hpl, by simp [fromG, Gm.n], fun v hv => ?_⟩
  have hv : v < g.own.length := hv
  obtain ⟨⟨a1, a2, a3, a4, a5, a6⟩, hr⟩ := hpos v hv
  unfold posOK
  have e : (fromG g pl c).x v = if g.own.getD v 0 = pl then [c.getD v 0] else g.nxt.getD v [] := fromG_x hv
  rw [e]
  split
  · rename_i h
    refine ⟨⟨a1, a2, a3, a4, Nat.le_refl 1, by show 1 ≤ 64; decide⟩, fun i hi => ?_⟩
    have hi : i < 1 := hi
    obtain rfl : i = 0 := by omega
    exact ⟨(hc v hv h).1, (hc v hv h).2, fun h => absurd h (Nat.lt_irrefl 0)⟩
  · exact ⟨⟨a1, a2, a3, a4, a5, a6⟩, hr⟩
noncomputable def fromL (g : Gm) (pl : Int) (c : List Int) : List Bool := (List.range g.own.length).map fun v => !(aloneL (fromG g pl c) (1 - pl)).getD v false
noncomputable def fromS : Spec
  | [.agg (.cons (.roI o) (.cons (.roI p) (.cons (.roII x) .nil))), .int .i64 pl, .roI c] => some ⟨validB ⟨o, p, x⟩ = true ∧ (0 ≤ pl ∧ pl ≤ 1) ∧ c.length = o.length ∧ ∀ v, v < o.length → o.getD v 0 = pl → 0 ≤ c.getD v 0 ∧ c.getD v 0 < (o.length : Int), .roB (fromL ⟨o, p, x⟩ pl c), none⟩
  | _ => none
noncomputable def spFr : Nat → Option Spec
  | 39 => some aloneoS
  | _ => none
theorem spFr_ok : SpOK Try.prog spFr := by
  intro f S h
  unfold spFr at h
  split at h
  · cases h; exact aloneo_ok
  · cases h
set_option maxRecDepth 4000 in
set_option maxHeartbeats 4000000 in
theorem from_ok : FSpec Try.prog 27 fromS := by
  refine fspec_of htb (fn := Try.f27) (by kernel_rfl) (by kernel_rfl) rfl (fun args r hS => ?_) (fun args r hS hob hl => ?_)
  · unfold fromS at hS; split at hS <;> first | (cases hS; done) | (cases hS; exact Nat.le_of_ble_eq_true rfl)
  unfold fromS at hS
  split at hS
  case h_2 => cases hS
  rename_i o p x pl c
  simp only [Option.some.injEq] at hS
  subst hS
  simp only [lenP, mkL, lim] at hl
  dsimp only at hob
  obtain ⟨hv, hp01, hcl, hcr⟩ := hob
  have hV := validB_iff.1 hv
  obtain ⟨hn, hpl, hxl, hpos⟩ := id hV
  simp only [Gm.n] at hn hpl hxl
  have hcr1 : ∀ v, v < o.length → 0 ≤ o.getD v 0 := fun v h => by
    obtain ⟨⟨a1, a2, a3, a4, _, a6⟩, _⟩ := hpos v (by simp only [Gm.n]; omega)
    exact a1
  repeat' first
    | with_reducible first | refine awp_seq ?_ | refine awp_block ?_ | refine next_then ?_ | refine next_block ?_ | refine exit_then ?_ | refine ret_then ?_ | refine ret_block ?_ | refine exit_here ?_ | refine awp_exit ?_ | refine awp_ret ?_ | refine awp_skip ?_ | refine awp_label ?_ | refine next_noGoto ?_ | refine ret_noGoto ?_ | refine exit_noGoto ?_ | refine awp_scope ?_
    | ((with_reducible refine exit_past ?_ ?_); exact rfl)
    | ((with_reducible refine isCond ?_); refine awp_condO rfl ?_ ?_ <;> intro hb <;> (try simp only [zH] at hb))
    | ((with_reducible refine isReg ?_); (first | refine awp_textM htb hmz spFr_ok (fun _ => false) rfl rfl ?_ | refine awp_drawM hmo htb hmz spFr_ok (fun _ => false) rfl rfl (by kernel_rfl) ?_); intro m' e' l' ob h; simp only [zE0, zE1, zE2, zE3, zE4, zE5, evp, evx, ev1, evLoad, evStore, evBin, isBoolK, forall_const, z38, tb, Nat.reduceAdd, Nat.reduceSub, Nat.reduceMul, Nat.reduceEqDiff, Nat.reduceLeDiff, Nat.reduceLT, Nat.reduceBEq, Nat.reduceBNe, ↓reduceIte, reduceIte, spFr, aloneoS] at h; obtain ⟨rfl, rfl, rfl, rfl⟩ := h; refine ⟨?_, ?_⟩)
    | ((with_reducible refine Ob.mk ?_); first | exact trivial | (intros; omega) | ((repeat' first | apply And.intro | (intro hg; have hg' := hg; try simp only [zH] at hg')) <;> first | assumption | omega | (simp only [zH]; omega)))
  refine awp_nilbox 7 (.rowsR []) (.agg (.cons (.roI o) (.cons (.roI p) (.cons (.own 13) .nil)))) rfl rfl rfl (by first | exact .inl rfl | exact .inr (.inl rfl) | exact .inr (.inr (.inl rfl)) | exact .inr (.inr (.inr rfl))) (by simp only [lkr_cons, lkr_nil, fzE, fzA, fzR, fzB, set1, nbeq, Nat.reduceEqDiff, decide_true, decide_false, ↓reduceIte, reduceIte, cond_true, cond_false, List.take_length, Option.some.injEq] <;> rfl) rfl ?_
  obtain ⟨F, hF⟩ : ∃ F : Nat → List Int, F = fun v => if o.getD v 0 = pl then [c.getD v 0] else x.getD v [] := ⟨_, rfl⟩
  refine awp_loopC (τ := Nat) (fun i => i ≤ o.length) (fun i => ⟨14, [(20, .int .i64 i), (19, .int .i64 x.length), (18, .roII x), (7, .own 7), (3, (.rop (.agg (.cons (.roI o) (.cons (.roI p) (.cons (.roII x) .nil)))))), (1, .int .i64 pl), (2, .roI c)], [(13, some (.rowsR ((List.range i).map F))), (7, some (.box (.agg (.cons (.roI o) (.cons (.roI p) (.cons (.own 13) .nil))))))], []⟩) (fun i => o.length - i) 0 [] ?_ (Nat.zero_le _) ?_
  · (refine ⟨rfl, ?_, ?_⟩ <;> simp only [zE0, zE1, zE2, zE3, zE4, zE5, evp, evx, ev1, evLoad, evStore, evBin, isBoolK, forall_const, z38, tb, Nat.reduceAdd, Nat.reduceSub, Nat.reduceMul, Nat.reduceEqDiff, Nat.reduceLeDiff, Nat.reduceLT, Nat.reduceBEq, Nat.reduceBNe, ↓reduceIte, reduceIte, spFr, aloneoS, zI])
    rfl
  intro i hi
  have hFi : F i = if o.getD i 0 = pl then [c.getD i 0] else x.getD i [] := by rw [hF]
  have hRl : ((List.range i).map F).length = i := by simp
  have hRn : (List.range (i + 1)).map F = (List.range i).map F ++ [F i] := by rw [List.range_succ, List.map_append]; rfl
  repeat' first
    | with_reducible first | refine awp_seq ?_ | refine awp_block ?_ | refine next_then ?_ | refine next_block ?_ | refine exit_then ?_ | refine ret_then ?_ | refine ret_block ?_ | refine exit_here ?_ | refine awp_exit ?_ | refine awp_ret ?_ | refine awp_skip ?_ | refine awp_label ?_ | refine next_noGoto ?_ | refine ret_noGoto ?_ | refine exit_noGoto ?_ | refine awp_scope ?_
    | ((with_reducible refine exit_past ?_ ?_); exact rfl)
    | ((with_reducible refine isCond ?_); refine awp_condO rfl ?_ ?_ <;> intro hb <;> (try simp only [zH] at hb))
    | ((with_reducible refine isRegS 9 ?_ ?_); (· exact rfl); (first | refine awp_textM htb hmz spFr_ok (fun _ => false) rfl rfl ?_ | refine awp_drawM hmo htb hmz spFr_ok (fun _ => false) rfl rfl (by kernel_rfl) ?_); intro m' e' l' ob h; simp only [zE0, zE1, zE2, zE3, zE4, zE5, evp, evx, ev1, evLoad, evStore, evBin, isBoolK, forall_const, z38, tb, Nat.reduceAdd, Nat.reduceSub, Nat.reduceMul, Nat.reduceEqDiff, Nat.reduceLeDiff, Nat.reduceLT, Nat.reduceBEq, Nat.reduceBNe, ↓reduceIte, reduceIte, spFr, aloneoS] at h; obtain ⟨rfl, rfl, rfl, rfl⟩ := h; refine ⟨?_, ?_⟩)
    | ((with_reducible refine Ob.mk ?_); first | exact trivial | (intros; omega) | ((repeat' first | apply And.intro | (intro hg; have hg' := hg; try simp only [zH] at hg')) <;> first | assumption | omega | (simp only [zH]; omega)))
  · rw [if_pos hb] at hFi
    refine back (i + 1) [(13, 37)] ?_ (by omega) (by omega)
    (refine ⟨rfl, ?_, ?_⟩ <;> simp only [zE0, zE1, zE2, zE3, zE4, zE5, evp, evx, ev1, evLoad, evStore, evBin, isBoolK, forall_const, z38, tb, Nat.reduceAdd, Nat.reduceSub, Nat.reduceMul, Nat.reduceEqDiff, Nat.reduceLeDiff, Nat.reduceLT, Nat.reduceBEq, Nat.reduceBNe, ↓reduceIte, reduceIte, spFr, aloneoS, zI])
    rw [hRn, hFi]
  · rw [if_neg hb] at hFi
    refine back (i + 1) [(13, 31)] ?_ (by omega) (by omega)
    (refine ⟨rfl, ?_, ?_⟩ <;> simp only [zE0, zE1, zE2, zE3, zE4, zE5, evp, evx, ev1, evLoad, evStore, evBin, isBoolK, forall_const, z38, tb, Nat.reduceAdd, Nat.reduceSub, Nat.reduceMul, Nat.reduceEqDiff, Nat.reduceLeDiff, Nat.reduceLT, Nat.reduceBEq, Nat.reduceBNe, ↓reduceIte, reduceIte, spFr, aloneoS, zI])
    rw [hRn, hFi]
  have hie : i = o.length := by omega
  subst hie
  have hY : (List.range o.length).map F = (fromG ⟨o, p, x⟩ pl c).nxt := by rw [hF]; rfl
  rw [hY]
  have hYl : (fromG ⟨o, p, x⟩ pl c).nxt.length = o.length := by rw [← hY]; simp
  have hvf : validB ⟨o, p, (fromG ⟨o, p, x⟩ pl c).nxt⟩ = true := validB_true (fromG_valid hV hcr)
  have hfl : fromL ⟨o, p, x⟩ pl c = (List.range o.length).map fun v => !(aloneL ⟨o, p, (fromG ⟨o, p, x⟩ pl c).nxt⟩ (1 - pl)).getD v false := rfl
  have hal : (aloneL ⟨o, p, (fromG ⟨o, p, x⟩ pl c).nxt⟩ (1 - pl)).length = o.length := by simp [aloneL]
  generalize (fromG ⟨o, p, x⟩ pl c).nxt = y at *
  clear hY hFi hRl hRn hpos hcr hcr1
  refine awp_fzN 13 (.roII y) (by simp only [lkr_cons, lkr_nil, fzE, fzA, fzR, fzB, set1, nbeq, Nat.reduceEqDiff, decide_true, decide_false, ↓reduceIte, reduceIte, cond_true, cond_false, List.take_length, Option.some.injEq]; rfl) (by first | exact rfl | (refine ⟨?_, rfl⟩; first | rfl | (intros; rfl))) (by simp only [lkr_cons, lkr_nil, fzE, fzA, fzR, fzB, set1, nbeq, Nat.reduceEqDiff, decide_true, decide_false, ↓reduceIte, reduceIte, cond_true, cond_false, List.take_length, Option.some.injEq]; rfl) (by simp only [lkr_cons, lkr_nil, fzE, fzA, fzR, fzB, set1, nbeq, Nat.reduceEqDiff, decide_true, decide_false, ↓reduceIte, reduceIte, cond_true, cond_false, List.take_length, Option.some.injEq]; rfl) ?_
  repeat' first
    | with_reducible first | refine awp_seq ?_ | refine awp_block ?_ | refine next_then ?_ | refine next_block ?_ | refine exit_then ?_ | refine ret_then ?_ | refine ret_block ?_ | refine exit_here ?_ | refine awp_exit ?_ | refine awp_ret ?_ | refine awp_skip ?_ | refine awp_label ?_ | refine next_noGoto ?_ | refine ret_noGoto ?_ | refine exit_noGoto ?_ | refine awp_scope ?_
    | ((with_reducible refine exit_past ?_ ?_); exact rfl)
    | ((with_reducible refine isCond ?_); refine awp_condO rfl ?_ ?_ <;> intro hb <;> (try simp only [zH] at hb))
    | ((with_reducible refine isReg ?_); (first | refine awp_textM htb hmz spFr_ok (fun _ => false) rfl rfl ?_ | refine awp_drawM hmo htb hmz spFr_ok (fun _ => false) rfl rfl (by kernel_rfl) ?_); intro m' e' l' ob h; simp only [zE0, zE1, zE2, zE3, zE4, zE5, evp, evx, ev1, evLoad, evStore, evBin, isBoolK, forall_const, z38, tb, Nat.reduceAdd, Nat.reduceSub, Nat.reduceMul, Nat.reduceEqDiff, Nat.reduceLeDiff, Nat.reduceLT, Nat.reduceBEq, Nat.reduceBNe, ↓reduceIte, reduceIte, spFr, aloneoS] at h; obtain ⟨rfl, rfl, rfl, rfl⟩ := h; refine ⟨?_, ?_⟩)
    | ((with_reducible refine Ob.mk ?_); first | exact trivial | (intros; omega) | ((repeat' first | apply And.intro | (intro hg; have hg' := hg; try simp only [zH] at hg')) <;> first | assumption | omega | (simp only [zH]; omega)))
  generalize aloneL ⟨o, p, y⟩ (1 - pl) = A at *
  have hz : mix (fun v => !A.getD v false) (fun v => A.getD v false) o.length 0 = A := by rw [← hal]; exact mix_zero
  refine awp_loopC (τ := Nat) (fun i => i ≤ o.length) (fun i => ⟨23, [(50, .int .i64 i), (49, .int .i64 A.length), (10, .own 18)], [(18, some (.bools (mix (fun v => !A.getD v false) (fun v => A.getD v false) o.length i)))], []⟩) (fun i => o.length - i) 0 [] ?_ (Nat.zero_le _) ?_
  · (refine ⟨rfl, ?_, ?_⟩ <;> simp only [zE0, zE1, zE2, zE3, zE4, zE5, evp, evx, ev1, evLoad, evStore, evBin, isBoolK, forall_const, z38, tb, Nat.reduceAdd, Nat.reduceSub, Nat.reduceMul, Nat.reduceEqDiff, Nat.reduceLeDiff, Nat.reduceLT, Nat.reduceBEq, Nat.reduceBNe, ↓reduceIte, reduceIte, spFr, aloneoS, zI])
    exact hz.symm
  intro i hi
  have hm1 : (mix (fun v => !A.getD v false) (fun v => A.getD v false) o.length i).length = o.length := mix_len
  have hmg : i < o.length → (mix (fun v => !A.getD v false) (fun v => A.getD v false) o.length i).getD i false = A.getD i false := fun h => by
    unfold mix
    rw [List.getD_eq_getElem?_getD, List.getElem?_eq_getElem (by simpa using h)]
    simp
  have hms : (mix (fun v => !A.getD v false) (fun v => A.getD v false) o.length i).set i (!A.getD i false) = mix (fun v => !A.getD v false) (fun v => A.getD v false) o.length (i + 1) := mix_set
  clear hz
  repeat' first
    | with_reducible first | refine awp_seq ?_ | refine awp_block ?_ | refine next_then ?_ | refine next_block ?_ | refine exit_then ?_ | refine ret_then ?_ | refine ret_block ?_ | refine exit_here ?_ | refine awp_exit ?_ | refine awp_ret ?_ | refine awp_skip ?_ | refine awp_label ?_ | refine next_noGoto ?_ | refine ret_noGoto ?_ | refine exit_noGoto ?_ | refine awp_scope ?_
    | ((with_reducible refine exit_past ?_ ?_); exact rfl)
    | ((with_reducible refine isCond ?_); refine awp_condO rfl ?_ ?_ <;> intro hb <;> (try simp only [zH] at hb))
    | ((with_reducible refine isRegS 15 ?_ ?_); (· exact rfl); (first | refine awp_textM htb hmz spFr_ok (fun _ => false) rfl rfl ?_ | refine awp_drawM hmo htb hmz spFr_ok (fun _ => false) rfl rfl (by kernel_rfl) ?_); intro m' e' l' ob h; simp only [zE0, zE1, zE2, zE3, zE4, zE5, evp, evx, ev1, evLoad, evStore, evBin, isBoolK, forall_const, z38, tb, Nat.reduceAdd, Nat.reduceSub, Nat.reduceMul, Nat.reduceEqDiff, Nat.reduceLeDiff, Nat.reduceLT, Nat.reduceBEq, Nat.reduceBNe, ↓reduceIte, reduceIte, spFr, aloneoS] at h; obtain ⟨rfl, rfl, rfl, rfl⟩ := h; refine ⟨?_, ?_⟩)
    | ((with_reducible refine Ob.mk ?_); first | exact trivial | (intros; omega) | ((repeat' first | apply And.intro | (intro hg; have hg' := hg; try simp only [zH] at hg')) <;> first | assumption | omega | (simp only [zH]; omega)))
  · refine back (i + 1) [] ?_ (by omega) (by omega)
    (refine ⟨rfl, ?_, ?_⟩ <;> simp only [zE0, zE1, zE2, zE3, zE4, zE5, evp, evx, ev1, evLoad, evStore, evBin, isBoolK, forall_const, z38, tb, Nat.reduceAdd, Nat.reduceSub, Nat.reduceMul, Nat.reduceEqDiff, Nat.reduceLeDiff, Nat.reduceLT, Nat.reduceBEq, Nat.reduceBNe, ↓reduceIte, reduceIte, spFr, aloneoS, zI])
    rw [hmg (by omega)]; exact hms
  have hie : i = o.length := by omega
  subst hie
  rw [mix_all]
  refine awp_fzN 18 (.roB ((List.range o.length).map fun v => !A.getD v false)) (by simp only [lkr_cons, lkr_nil, fzE, fzA, fzR, fzB, set1, nbeq, Nat.reduceEqDiff, decide_true, decide_false, ↓reduceIte, reduceIte, cond_true, cond_false, List.take_length, Option.some.injEq]; rfl) (by first | exact rfl | (refine ⟨?_, rfl⟩; first | rfl | (intros; rfl))) (by simp only [lkr_cons, lkr_nil, fzE, fzA, fzR, fzB, set1, nbeq, Nat.reduceEqDiff, decide_true, decide_false, ↓reduceIte, reduceIte, cond_true, cond_false, List.take_length, Option.some.injEq]; rfl) (by simp only [lkr_cons, lkr_nil, fzE, fzA, fzR, fzB, set1, nbeq, Nat.reduceEqDiff, decide_true, decide_false, ↓reduceIte, reduceIte, cond_true, cond_false, List.take_length, Option.some.injEq]; rfl) ?_
  repeat' first
    | with_reducible first | refine awp_seq ?_ | refine awp_block ?_ | refine next_then ?_ | refine next_block ?_ | refine exit_then ?_ | refine ret_then ?_ | refine ret_block ?_ | refine exit_here ?_ | refine awp_exit ?_ | refine awp_ret ?_ | refine awp_skip ?_ | refine awp_label ?_ | refine next_noGoto ?_ | refine ret_noGoto ?_ | refine exit_noGoto ?_ | refine awp_scope ?_
    | ((with_reducible refine exit_past ?_ ?_); exact rfl)
    | ((with_reducible refine isCond ?_); refine awp_condO rfl ?_ ?_ <;> intro hb <;> (try simp only [zH] at hb))
    | ((with_reducible refine isReg ?_); (first | refine awp_textM htb hmz spFr_ok (fun _ => false) rfl rfl ?_ | refine awp_drawM hmo htb hmz spFr_ok (fun _ => false) rfl rfl (by kernel_rfl) ?_); intro m' e' l' ob h; simp only [zE0, zE1, zE2, zE3, zE4, zE5, evp, evx, ev1, evLoad, evStore, evBin, isBoolK, forall_const, z38, tb, Nat.reduceAdd, Nat.reduceSub, Nat.reduceMul, Nat.reduceEqDiff, Nat.reduceLeDiff, Nat.reduceLT, Nat.reduceBEq, Nat.reduceBNe, ↓reduceIte, reduceIte, spFr, aloneoS] at h; obtain ⟨rfl, rfl, rfl, rfl⟩ := h; refine ⟨?_, ?_⟩)
    | ((with_reducible refine Ob.mk ?_); first | exact trivial | (intros; omega) | ((repeat' first | apply And.intro | (intro hg; have hg' := hg; try simp only [zH] at hg')) <;> first | assumption | omega | (simp only [zH]; omega)))
  refine fin_ret rfl rfl (spec_flat rfl ?_ rfl)
  rw [hfl]
  rfl
end Go.Proofs.Ytgminhedbeblpaa.Cal
namespace Go.Proofs.Ytgminhedbeblpaa.Cal
section
open Go Pl
theorem Rch.monoD {E E' : Nat → Nat → Prop} {D : Nat → Prop} (h : ∀ a b, D a → E a b → E' a b ∧ D b) {a b : Nat} (hr : Rch E a b) (ha : D a) : Rch E' a b ∧ D b := by
  induction hr with
  | refl => exact ⟨.refl _, ha⟩
  | step _ e ih => exact ⟨.step ih.1 (h _ _ ih.2 e).1, (h _ _ ih.2 e).2⟩
structure GOk (g : Gm) : Prop where
  pl : g.pri.length = g.own.length
  xl : g.nxt.length = g.own.length
  n : g.own.length ≤ 20000
  own : ∀ v, v < g.own.length → g.own.getD v 0 = 0 ∨ g.own.getD v 0 = 1
  pri : ∀ v, v < g.own.length → 0 ≤ g.pri.getD v 0 ∧ g.pri.getD v 0 ≤ 60
  row : ∀ v, v < g.own.length → ∀ t, t ∈ rws g.nxt v → t < g.own.length
  len : ∀ v, v < g.own.length → 0 < (g.nxt.getD v []).length ∧ (g.nxt.getD v []).length ≤ 64
  at' : ∀ v, v < g.own.length → ∀ j, j < (g.nxt.getD v []).length → 0 ≤ (g.nxt.getD v []).getD j 0 ∧ (g.nxt.getD v []).getD j 0 < g.own.length
theorem gok {g : Gm} (h : Valid g) : GOk g := by
  obtain ⟨hn, hpl, hxl, hpos⟩ := h
  have hr : ∀ v, v < g.own.length → ∀ j, j < (g.nxt.getD v []).length → 0 ≤ (g.nxt.getD v []).getD j 0 ∧ (g.nxt.getD v []).getD j 0 < g.own.length := fun v hv j hj => by
    obtain ⟨_, hr⟩ := hpos v hv
    exact ⟨(hr j hj).1, (hr j hj).2.1⟩
  refine ⟨hpl, hxl, hn, fun v hv => ?_, fun v hv => ?_, fun v hv t ht => ?_, fun v hv => ?_, hr⟩
  · obtain ⟨⟨a1, a2, a3, a4, a5, a6⟩, _⟩ := hpos v hv
    simp only [Gm.o] at a1 a2
    omega
  · obtain ⟨⟨a1, a2, a3, a4, a5, a6⟩, _⟩ := hpos v hv
    exact ⟨a3, a4⟩
  · obtain ⟨s, h1, rfl⟩ := List.mem_map.1 ht
    obtain ⟨j, hj, rfl⟩ := List.getElem_of_mem h1
    have := hr v hv j hj
    rw [List.getD_eq_getElem?_getD, List.getElem?_eq_getElem hj, Option.getD_some] at this
    omega
  · obtain ⟨⟨a1, a2, a3, a4, a5, a6⟩, _⟩ := hpos v hv
    exact ⟨a5, a6⟩
/-- The winners by the reference are those of a solution. -/
theorem win_sol {g : Gm} (hV : Valid g) : (∀ v, v < g.own.length → (winA g).getD v 0 = 0 ∨ (winA g).getD v 0 = 1) ∧ ∃ c, Sol (fun v => g.own.getD v 0) (fun v => g.pri.getD v 0) (rws g.nxt) (fun v => v < g.own.length) (fun v => (winA g).getD v 0) c 0 ∧ Sol (fun v => g.own.getD v 0) (fun v => g.pri.getD v 0) (rws g.nxt) (fun v => v < g.own.length) (fun v => (winA g).getD v 0) c 1 := by
  have hG := gok hV
  have hK : (fun v => (decide (v < g.own.length)) = true) = fun v => v < g.own.length := funext fun v => by simp
  have hc : cntZ g.own.length (fun v => decide (v < g.own.length)) ≤ g.own.length + 1 := by
    have : cntZ g.own.length (fun v => decide (v < g.own.length)) ≤ (List.range g.own.length).length := List.countP_le_length
    rw [List.length_range] at this; omega
  obtain ⟨h1, c, h2, h3⟩ := zsol (own := fun v => g.own.getD v 0) (pri := fun v => g.pri.getD v 0) (sx := rws g.nxt) (n := g.own.length) hG.own (fun v hv => (hG.pri v hv).1) (g.own.length + 1) (fun v => decide (v < g.own.length)) (fun v hv => of_decide_eq_true hv) hc (by
    rw [hK]
    intro v hv
    have h0 := (hG.len v hv).1
    have hm : (rws g.nxt v)[0]'(by rw [rws_len]; exact h0) ∈ rws g.nxt v := List.getElem_mem _
    exact ⟨_, hm, hG.row v hv _ hm⟩)
  rw [hK] at h2 h3
  have hW : ∀ v, v < g.own.length → (winA g).getD v 0 = winG g (g.own.length + 1) (fun v => decide (v < g.own.length)) v := fun v hv => winL_getD hv
  refine ⟨fun v hv => ?_, c, Sol.congrW h2 hW, Sol.congrW h3 hW⟩
  rw [hW v hv]
  exact h1 v (decide_eq_true hv)
theorem fromG_row {g : Gm} {p : Int} {c : List Int} {v t : Nat} (hv : v < g.own.length) : t ∈ rws (fromG g p c).nxt v ↔ (g.own.getD v 0 = p ∧ t = (c.getD v 0).toNat) ∨ (g.own.getD v 0 ≠ p ∧ t ∈ rws g.nxt v) := by
  unfold rws
  rw [fromG_x hv]
  by_cases h : g.own.getD v 0 = p
  · rw [if_pos h]
    simp only [List.map_cons, List.map_nil, List.mem_singleton]
    exact ⟨fun e => .inl ⟨h, e⟩, fun e => e.elim (fun e => e.2) fun e => absurd h e.1⟩
  · rw [if_neg h]
    exact ⟨fun e => .inr ⟨h, e⟩, fun e => e.elim (fun e => absurd e.1 h) fun e => e.2⟩
/-- Who wins by a solution's choices wins in the game that is left. -/
theorem from_of_sol {g : Gm} (hG : GOk g) {p : Int} {W : Nat → Int} {d : Nat → Nat} {c : List Int} (h : Sol (fun v => g.own.getD v 0) (fun v => g.pri.getD v 0) (rws g.nxt) (fun v => v < g.own.length) W d p)
    (hc : ∀ v, v < g.own.length → W v = p → g.own.getD v 0 = p → (c.getD v 0).toNat = d v) {v : Nat} (hv : v < g.own.length) (hw : W v = p) : ¬ alone (fromG g p c) (1 - p) v := by
  have hst : ∀ a b, (a < g.own.length ∧ W a = p) → b ∈ rws (fromG g p c).nxt a → Stp (fun v => g.own.getD v 0) (rws g.nxt) (fun v => v < g.own.length) W d p a b ∧ (b < g.own.length ∧ W b = p) := fun a b ha hb => by
    rcases (fromG_row ha.1).1 hb with ⟨h1, h2⟩ | ⟨h1, h2⟩
    · rw [hc a ha.1 ha.2 h1] at h2
      subst h2
      obtain ⟨h3, h4, h5⟩ := h.mine a ha.1 ha.2 h1
      exact ⟨⟨ha, h4, fun _ => rfl, fun h6 => absurd h1 h6⟩, h4, h5⟩
    · have hb2 := hG.row a ha.1 b h2
      exact ⟨⟨ha, hb2, fun h6 => absurd h6 h1, fun _ => h2⟩, hb2, h.his a ha.1 ha.2 h1 b h2 hb2⟩
  rintro ⟨w, hwn, ⟨h1, t, ht, htw⟩, h2⟩
  have hD := (Rch.monoD hst h2 ⟨hv, hw⟩).2
  refine h.cyc w hD.1 hD.2 (fun h3 => ?_) ⟨t, ⟨(hst w t hD ht.1).1, ht.2⟩, ?_⟩
  · have h1 : g.pri.getD w 0 % 2 = 1 - p := h1
    have h3 : g.pri.getD w 0 % 2 = p := h3
    omega
  · exact (Rch.monoD (D := fun v => v < g.own.length ∧ W v = p) (fun a b ha hb => ⟨⟨(hst a b ha hb.1).1, hb.2⟩, (hst a b ha hb.1).2⟩) htw (hst w t hD ht.1).2).1
end
end Go.Proofs.Ytgminhedbeblpaa.Cal
namespace Go.Proofs.Ytgminhedbeblpaa.Cal
open Go Pl
/-- How many lists of digits there are. -/
def rpr : List Int → Int
  | [] => 1
  | m :: ms => (m + 1) * rpr ms
def wfL : List Int → List Int → Prop
  | [], [] => True
  | m :: ms, d :: ds => (0 ≤ d ∧ d ≤ m) ∧ wfL ms ds
  | _, _ => False
def nvl : List Int → List Int → Int
  | _ :: ms, d :: ds => d * rpr ms + nvl ms ds
  | _, _ => 0
def dgl : List Int → Int → List Int
  | [], _ => []
  | _ :: ms, V => V / rpr ms :: dgl ms (V % rpr ms)
def posL (ms : List Int) : Prop := ∀ m, m ∈ ms → 0 ≤ m
theorem rpr_pos : ∀ {ms : List Int}, posL ms → 0 < rpr ms
  | [], _ => by decide
  | m :: ms, h => by
    have h1 := h m List.mem_cons_self
    have h2 := rpr_pos (ms := ms) fun x hx => h x (List.mem_cons_of_mem _ hx)
    exact Int.mul_pos (by omega) h2
theorem wfL_len : ∀ {ms l : List Int}, wfL ms l → l.length = ms.length
  | [], [], _ => rfl
  | [], _ :: _, h => h.elim
  | _ :: _, [], h => h.elim
  | m :: ms, d :: ds, h => by rw [List.length_cons, List.length_cons, wfL_len h.2]
theorem wfL_pos : ∀ {ms l : List Int}, wfL ms l → posL ms
  | [], _, _ => fun x hx => absurd hx List.not_mem_nil
  | _ :: _, [], h => h.elim
  | m :: ms, d :: ds, h => fun x hx => by
    rcases List.mem_cons.1 hx with rfl | hx
    · have := h.1; omega
    · exact wfL_pos h.2 x hx
theorem nvl_bd : ∀ {ms l : List Int}, wfL ms l → 0 ≤ nvl ms l ∧ nvl ms l < rpr ms
  | [], [], _ => ⟨Int.le_refl _, by decide⟩
  | [], _ :: _, h => h.elim
  | _ :: _, [], h => h.elim
  | m :: ms, d :: ds, h => by
    obtain ⟨h1, h2⟩ := nvl_bd h.2
    have h3 := rpr_pos (wfL_pos h.2)
    have h4 : 0 ≤ d * rpr ms := Int.mul_nonneg h.1.1 (Int.le_of_lt h3)
    have h5 : d * rpr ms ≤ m * rpr ms := Int.mul_le_mul_of_nonneg_right h.1.2 (Int.le_of_lt h3)
    have h6 : (m + 1) * rpr ms = m * rpr ms + rpr ms := by rw [Int.add_mul, Int.one_mul]
    show 0 ≤ d * rpr ms + nvl ms ds ∧ d * rpr ms + nvl ms ds < (m + 1) * rpr ms
    omega
theorem dgl_wf : ∀ {ms : List Int} {V : Int}, posL ms → 0 ≤ V → V < rpr ms → wfL ms (dgl ms V) ∧ nvl ms (dgl ms V) = V
  | [], V, _, h1, h2 => ⟨trivial, by have h2 : V < 1 := h2; show 0 = V; omega⟩
  | m :: ms, V, hp, h1, h2 => by
    have hp2 : posL ms := fun x hx => hp x (List.mem_cons_of_mem _ hx)
    have h3 := rpr_pos hp2
    have h2 : V < (m + 1) * rpr ms := h2
    obtain ⟨i1, i2⟩ := dgl_wf (V := V % rpr ms) hp2 (Int.emod_nonneg _ (by omega)) (Int.emod_lt_of_pos _ h3)
    have h5 : 0 ≤ V / rpr ms := Int.ediv_nonneg h1 (Int.le_of_lt h3)
    have h6 : V / rpr ms < m + 1 := Int.ediv_lt_of_lt_mul h3 h2
    refine ⟨⟨⟨h5, by omega⟩, i1⟩, ?_⟩
    show V / rpr ms * rpr ms + nvl ms (dgl ms (V % rpr ms)) = V
    rw [i2, Int.mul_comm]; exact Int.mul_ediv_add_emod V (rpr ms)
theorem dgl_nvl : ∀ {ms l : List Int}, wfL ms l → dgl ms (nvl ms l) = l
  | [], [], _ => rfl
  | [], _ :: _, h => h.elim
  | _ :: _, [], h => h.elim
  | m :: ms, d :: ds, h => by
    obtain ⟨h1, h2⟩ := nvl_bd h.2
    have h3 := rpr_pos (wfL_pos h.2)
    have h4 : (d * rpr ms + nvl ms ds) / rpr ms = d := by
      rw [Int.add_comm, Int.add_mul_ediv_right _ _ (by omega), Int.ediv_eq_zero_of_lt h1 h2]; omega
    have h5 : (d * rpr ms + nvl ms ds) % rpr ms = nvl ms ds := by
      rw [Int.add_comm, Int.add_mul_emod_self_right, Int.emod_eq_of_lt h1 h2]
    show (d * rpr ms + nvl ms ds) / rpr ms :: dgl ms ((d * rpr ms + nvl ms ds) % rpr ms) = d :: ds
    rw [h4, h5, dgl_nvl h.2]
/-- How two lists compare. -/
def cmpL : List Int → List Int → Int
  | [], [] => 0
  | [], _ :: _ => -1
  | _ :: _, [] => 1
  | a :: l, b :: r => if a < b then -1 else if b < a then 1 else cmpL l r
theorem cmp_nv : ∀ {ms a b : List Int}, wfL ms a → wfL ms b → (cmpL a b < 0 ↔ nvl ms a < nvl ms b) ∧ (0 < cmpL a b ↔ nvl ms b < nvl ms a)
  | [], [], [], _, _ => ⟨by show (0 : Int) < 0 ↔ (0 : Int) < 0; omega, by show (0 : Int) < 0 ↔ (0 : Int) < 0; omega⟩
  | [], _ :: _, _, h, _ => h.elim
  | [], [], _ :: _, _, h => h.elim
  | _ :: _, [], _, h, _ => h.elim
  | _ :: _, _ :: _, [], _, h => h.elim
  | m :: ms, a :: l, b :: r, h1, h2 => by
    obtain ⟨i1, i2⟩ := cmp_nv h1.2 h2.2
    obtain ⟨b1, b2⟩ := nvl_bd h1.2
    obtain ⟨b3, b4⟩ := nvl_bd h2.2
    have h3 := rpr_pos (wfL_pos h1.2)
    show ((if a < b then (-1 : Int) else if b < a then 1 else cmpL l r) < 0 ↔ a * rpr ms + nvl ms l < b * rpr ms + nvl ms r) ∧ (0 < (if a < b then (-1 : Int) else if b < a then 1 else cmpL l r) ↔ b * rpr ms + nvl ms r < a * rpr ms + nvl ms l)
    by_cases e : a < b
    · rw [if_pos e]
      have : (a + 1) * rpr ms ≤ b * rpr ms := Int.mul_le_mul_of_nonneg_right (by omega) (Int.le_of_lt h3)
      rw [Int.add_mul, Int.one_mul] at this
      omega
    · rw [if_neg e]
      by_cases e2 : b < a
      · rw [if_pos e2]
        have : (b + 1) * rpr ms ≤ a * rpr ms := Int.mul_le_mul_of_nonneg_right (by omega) (Int.le_of_lt h3)
        rw [Int.add_mul, Int.one_mul] at this
        omega
      · rw [if_neg e2]
        obtain rfl : a = b := by omega
        omega
/-! Digits changed -/
theorem wfL_get : ∀ {ms l : List Int} {i : Nat}, wfL ms l → i < ms.length → 0 ≤ l.getD i 0 ∧ l.getD i 0 ≤ ms.getD i 0
  | [], _, _, _, h => absurd h (Nat.not_lt_zero _)
  | _ :: _, [], _, h, _ => h.elim
  | m :: ms, d :: ds, 0, h, _ => h.1
  | m :: ms, d :: ds, i + 1, h, hi => wfL_get (i := i) h.2 (by simpa using hi)
theorem wfL_set : ∀ {ms l : List Int} {i : Nat} {x : Int}, wfL ms l → 0 ≤ x → x ≤ ms.getD i 0 → wfL ms (l.set i x)
  | [], [], _, _, _, _, _ => trivial
  | [], _ :: _, _, _, h, _, _ => h.elim
  | _ :: _, [], _, _, h, _, _ => h.elim
  | m :: ms, d :: ds, 0, x, h, h1, h2 => ⟨⟨h1, h2⟩, h.2⟩
  | m :: ms, d :: ds, i + 1, x, h, h1, h2 => ⟨h.1, wfL_set (i := i) h.2 h1 h2⟩
theorem nvl_set : ∀ {ms l : List Int} {i : Nat} {x : Int}, wfL ms l → i < ms.length → nvl ms (l.set i x) = nvl ms l + (x - l.getD i 0) * rpr (ms.drop (i + 1))
  | [], _, _, _, _, h => absurd h (Nat.not_lt_zero _)
  | _ :: _, [], _, _, h, _ => h.elim
  | m :: ms, d :: ds, 0, x, h, _ => by
    show x * rpr ms + nvl ms ds = d * rpr ms + nvl ms ds + (x - d) * rpr ms
    rw [Int.sub_mul]; omega
  | m :: ms, d :: ds, i + 1, x, h, hi => by
    have := nvl_set (i := i) (x := x) h.2 (by simpa using hi)
    show d * rpr ms + nvl ms (ds.set i x) = d * rpr ms + nvl ms ds + (x - ds.getD i 0) * rpr (ms.drop (i + 1))
    rw [this]; omega
theorem rpr_drop : ∀ {ms : List Int} {i : Nat}, i < ms.length → rpr (ms.drop i) = (ms.getD i 0 + 1) * rpr (ms.drop (i + 1))
  | [], _, h => absurd h (Nat.not_lt_zero _)
  | m :: ms, 0, _ => rfl
  | m :: ms, i + 1, h => rpr_drop (ms := ms) (i := i) (by simpa using h)
theorem rpr_dvd : ∀ {ms : List Int} {j : Nat}, ∃ t, rpr ms = t * rpr (ms.drop j) ∧ (posL ms → 0 < t)
  | ms, 0 => ⟨1, by simp, fun _ => by decide⟩
  | [], j + 1 => ⟨1, by simp, fun _ => by decide⟩
  | m :: ms, j + 1 => by
    obtain ⟨t, h1, h2⟩ := rpr_dvd (ms := ms) (j := j)
    refine ⟨(m + 1) * t, ?_, fun hp => Int.mul_pos (by have := hp m List.mem_cons_self; omega) (h2 fun x hx => hp x (List.mem_cons_of_mem _ hx))⟩
    show (m + 1) * rpr ms = _
    rw [h1, Int.mul_assoc]; rfl
theorem drop_pos {ms : List Int} {j : Nat} (h : posL ms) : posL (ms.drop j) := fun x hx => h x (List.mem_of_mem_drop hx)
theorem zero_wf : ∀ {ms : List Int}, posL ms → wfL ms (List.replicate ms.length 0) ∧ nvl ms (List.replicate ms.length 0) = 0
  | [], _ => ⟨trivial, rfl⟩
  | m :: ms, h => by
    obtain ⟨h1, h2⟩ := zero_wf (ms := ms) fun x hx => h x (List.mem_cons_of_mem _ hx)
    refine ⟨⟨⟨Int.le_refl _, h m List.mem_cons_self⟩, h1⟩, ?_⟩
    show 0 * rpr ms + nvl ms (List.replicate ms.length 0) = 0
    rw [h2]; omega
/-- The first j digits. -/
theorem pad_nv : ∀ {ms l : List Int} {j : Nat}, wfL ms l → j ≤ ms.length → wfL ms (l.take j ++ List.replicate (ms.length - j) 0) ∧ nvl ms (l.take j ++ List.replicate (ms.length - j) 0) = nvl ms l / rpr (ms.drop j) * rpr (ms.drop j)
  | ms, l, 0, h, _ => by
    obtain ⟨h1, h2⟩ := zero_wf (wfL_pos h)
    obtain ⟨b1, b2⟩ := nvl_bd h
    refine ⟨by simpa using h1, ?_⟩
    rw [List.drop_zero, Int.ediv_eq_zero_of_lt b1 b2]
    simpa using h2
  | [], _, j + 1, _, h => absurd h (Nat.not_succ_le_zero _)
  | _ :: _, [], _ + 1, h, _ => h.elim
  | m :: ms, d :: ds, j + 1, h, hj => by
    obtain ⟨h1, h2⟩ := pad_nv (j := j) h.2 (by simpa using hj)
    have e : (m :: ms).length - (j + 1) = ms.length - j := by rw [List.length_cons]; omega
    rw [e]
    refine ⟨⟨h.1, h1⟩, ?_⟩
    obtain ⟨t, ht, _⟩ := rpr_dvd (ms := ms) (j := j)
    have hR := rpr_pos (drop_pos (j := j) (wfL_pos h.2))
    show d * rpr ms + nvl ms (ds.take j ++ List.replicate (ms.length - j) 0) = (d * rpr ms + nvl ms ds) / rpr (ms.drop j) * rpr (ms.drop j)
    rw [h2]
    have : (d * rpr ms + nvl ms ds) / rpr (ms.drop j) = d * t + nvl ms ds / rpr (ms.drop j) := by
      have e2 : d * rpr ms + nvl ms ds = nvl ms ds + d * t * rpr (ms.drop j) := by rw [ht, Int.mul_assoc]; omega
      rw [e2, Int.add_mul_ediv_right _ _ (by omega)]; omega
    rw [this, Int.add_mul, ht, Int.mul_assoc]
/-! Progress -/
def abv (odd : List Int) (q : Int) : Nat := (odd.takeWhile fun o => decide (q ≤ o)).length
theorem abv_le {odd : List Int} {q : Int} : abv odd q ≤ odd.length := (List.takeWhile_sublist _).length_le
theorem abv_step : ∀ {odd : List Int} {q : Int} {j : Nat}, j ≤ abv odd q → ((j < odd.length ∧ q ≤ odd.getD j 0) ↔ j < abv odd q)
  | [], q, j, h => by
    have : abv [] q = 0 := rfl
    rw [this]; simp
  | o :: odd, q, j, h => by
    have hc : abv (o :: odd) q = if q ≤ o then abv odd q + 1 else 0 := by
      unfold abv
      by_cases e : q ≤ o
      · rw [if_pos e, List.takeWhile_cons, if_pos (decide_eq_true e)]; rfl
      · rw [if_neg e, List.takeWhile_cons, if_neg (by simpa using e)]; rfl
    rw [hc] at h ⊢
    by_cases e : q ≤ o
    · rw [if_pos e] at h ⊢
      cases j with
      | zero => exact ⟨fun _ => Nat.succ_pos _, fun _ => ⟨Nat.succ_pos _, e⟩⟩
      | succ j =>
        have := abv_step (odd := odd) (q := q) (j := j) (by omega)
        show (j + 1 < odd.length + 1 ∧ q ≤ odd.getD j 0) ↔ _
        omega
    · rw [if_neg e] at h ⊢
      obtain rfl : j = 0 := by omega
      show (0 < odd.length + 1 ∧ q ≤ o) ↔ 0 < 0
      omega
def progV (odd many : List Int) (V q : Int) : Int :=
  if V = rpr many then V else if q % 2 = 0 then V / rpr (many.drop (abv odd q)) * rpr (many.drop (abv odd q)) else V / rpr (many.drop (abv odd q)) * rpr (many.drop (abv odd q)) + rpr (many.drop (abv odd q))
theorem ediv_mul_bd {V R t : Int} (hR : 0 < R) (h0 : 0 ≤ V) (h : V < t * R) : 0 ≤ V / R * R ∧ V / R * R ≤ V ∧ V / R * R + R ≤ t * R := by
  have h1 : 0 ≤ V / R := Int.ediv_nonneg h0 (Int.le_of_lt hR)
  have h2 : V / R < t := Int.ediv_lt_of_lt_mul hR h
  have h3 : 0 ≤ V / R * R := Int.mul_nonneg h1 (Int.le_of_lt hR)
  have h4 := Int.mul_ediv_add_emod V R
  have h5 := Int.emod_nonneg V (b := R) (by omega)
  have h6 : (V / R + 1) * R ≤ t * R := Int.mul_le_mul_of_nonneg_right (by omega) (Int.le_of_lt hR)
  rw [Int.add_mul, Int.one_mul] at h6
  rw [Int.mul_comm] at h4
  omega
theorem progV_bd {odd many : List Int} {V q : Int} (hp : posL many) (h0 : 0 ≤ V) (h1 : V ≤ rpr many) : 0 ≤ progV odd many V q ∧ progV odd many V q ≤ rpr many := by
  unfold progV
  by_cases e : V = rpr many
  · rw [if_pos e]; omega
  · rw [if_neg e]
    obtain ⟨t, ht, _⟩ := rpr_dvd (ms := many) (j := abv odd q)
    have hR := rpr_pos (drop_pos (j := abv odd q) hp)
    obtain ⟨a1, a2, a3⟩ := ediv_mul_bd (t := t) hR h0 (by rw [← ht]; omega)
    rw [← ht] at a3
    split <;> omega
theorem progV_mono {odd many : List Int} {V W q : Int} (hp : posL many) (h0 : 0 ≤ V) (h : V ≤ W) (h1 : W ≤ rpr many) : progV odd many V q ≤ progV odd many W q := by
  by_cases e : W = rpr many
  · have := (progV_bd (odd := odd) (q := q) hp h0 (by omega)).2
    have e2 : progV odd many W q = W := by unfold progV; rw [if_pos e]
    rw [e2]; omega
  · have hR := rpr_pos (drop_pos (j := abv odd q) hp)
    unfold progV
    rw [if_neg e, if_neg (by omega)]
    have h3 : V / rpr (many.drop (abv odd q)) ≤ W / rpr (many.drop (abv odd q)) := Int.ediv_le_ediv hR h
    have h4 := Int.mul_le_mul_of_nonneg_right h3 (Int.le_of_lt hR)
    split <;> omega
/-- A measure as the program has it. -/
def deM (many : List Int) (V : Int) : Bool × List Int := if V = rpr many then (true, []) else (false, dgl many V)
theorem deM_top {many : List Int} : deM many (rpr many) = (true, []) := if_pos rfl
theorem deM_low {many l : List Int} (h : wfL many l) : deM many (nvl many l) = (false, l) := by
  have := (nvl_bd h).2
  unfold deM
  rw [if_neg (by omega), dgl_nvl h]
theorem deM_cases {many : List Int} {V : Int} (hp : posL many) (h0 : 0 ≤ V) (h1 : V ≤ rpr many) : (V = rpr many ∧ deM many V = (true, [])) ∨ (V < rpr many ∧ wfL many (dgl many V) ∧ nvl many (dgl many V) = V ∧ deM many V = (false, dgl many V)) := by
  by_cases e : V = rpr many
  · exact .inl ⟨e, by rw [e]; exact deM_top⟩
  · obtain ⟨a1, a2⟩ := dgl_wf hp h0 (by omega)
    exact .inr ⟨by omega, a1, a2, by unfold deM; rw [if_neg e]⟩
end Go.Proofs.Ytgminhedbeblpaa.Cal
