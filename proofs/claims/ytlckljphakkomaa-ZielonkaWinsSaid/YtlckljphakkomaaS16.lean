/- Own texts of the proof, merged, in order. -/
import Derived.Test.YtlckljphakkomaaS15
set_option linter.unusedVariables false
set_option linter.unusedSimpArgs false
namespace Go.Proofs.Ytlckljphakkomaa.Cal
open Go Pl
noncomputable def winG (g : Gm) (k : Nat) (K : Nat → Bool) : Nat → Int := winZ (fun v => g.own.getD v 0) (fun v => g.pri.getD v 0) (rws g.nxt) g.own.length k K
noncomputable def winL (g : Gm) (k : Nat) (K : Nat → Bool) : List Int := (List.range g.own.length).map (winG g k K)
noncomputable def winsS (k : Nat) : Spec
  | [.agg (.cons (.roI o) (.cons (.roI p) (.cons (.roII x) .nil))), .roB keep] => some ⟨validB ⟨o, p, x⟩ = true ∧ keep.length = o.length ∧ cntZ o.length (bF keep) < k, .roI (winL ⟨o, p, x⟩ k (bF keep)), none⟩
  | _ => none
noncomputable def spWn (k : Nat) : Nat → Option Spec
  | 40 => some insS
  | 30 => some (winsS k)
  | _ => none
theorem spWn_ok {k : Nat} (ih : FSpec Try.prog 30 (winsS k)) : SpOK Try.prog (spWn k) := by
  intro f S h
  unfold spWn at h
  split at h
  · cases h; exact inside_ok
  · cases h; exact ih
  · cases h
theorem bF_map {n : Nat} {f : Nat → Bool} (h : ∀ v, n ≤ v → f v = false) : bF ((List.range n).map f) = f := by
  funext v
  unfold bF
  rw [List.getD_eq_getElem?_getD]
  by_cases hv : v < n
  · simp [hv]
  · rw [List.getElem?_eq_none (by simp; omega), h v (by omega)]; rfl
theorem bF_out {l : List Bool} {v : Nat} (h : l.length ≤ v) : bF l v = false := by
  unfold bF
  rw [List.getD_eq_getElem?_getD, List.getElem?_eq_none h]; rfl
/-- Whether f says yes of one of the first i. -/
def sB (f : Nat → Bool) (i : Nat) : Bool := (List.range i).any f
theorem sB_next {f : Nat → Bool} {i : Nat} : sB f (i + 1) = (sB f i || f i) := by
  unfold sB; rw [List.range_succ, List.any_append]; simp
theorem sB_iff {f : Nat → Bool} {i : Nat} : sB f i = true ↔ ∃ u, u < i ∧ f u = true := by
  unfold sB; rw [List.any_eq_true]
  exact ⟨fun ⟨u, h1, h2⟩ => ⟨u, List.mem_range.1 h1, h2⟩, fun ⟨u, h1, h2⟩ => ⟨u, List.mem_range.2 h1, h2⟩⟩
theorem insL_getD {g : Gm} {keep to : List Bool} {q : Int} {v : Nat} (hv : v < g.own.length) : (insL g keep q to).getD v false = attB (fun v => g.own.getD v 0) (rws g.nxt) (bF keep) (bF to) q v := by
  simp [insL, List.getD_eq_getElem?_getD, hv]
theorem insL_len {g : Gm} {keep to : List Bool} {q : Int} : (insL g keep q to).length = g.own.length := by simp [insL]
theorem winL_len {g : Gm} {k : Nat} {K : Nat → Bool} : (winL g k K).length = g.own.length := by simp [winL]
theorem winL_getD {g : Gm} {k : Nat} {K : Nat → Bool} {v : Nat} (hv : v < g.own.length) : (winL g k K).getD v 0 = winG g k K v := by
  simp [winL, List.getD_eq_getElem?_getD, hv]
theorem attB_in {own : Nat → Int} {sx : Nat → List Nat} {K T : Nat → Bool} {q : Int} {v : Nat} (h : T v = true) : attB own sx K T q v = true := attB_iff.2 ⟨0, h⟩
theorem wins0_ok : FSpec Try.prog 30 (winsS 0) := by
  refine fspec_of htb (fn := Try.f30) (by kernel_rfl) (by kernel_rfl) rfl (fun args r hS => ?_) (fun args r hS hob hl => ?_)
  · unfold winsS at hS; split at hS <;> first | (cases hS; done) | (cases hS; exact Nat.le_of_ble_eq_true rfl)
  · unfold winsS at hS
    split at hS
    case h_2 => cases hS
    simp only [Option.some.injEq] at hS
    subst hS
    exact absurd hob.2.2 (Nat.not_lt_zero _)
set_option maxRecDepth 4000 in
set_option maxHeartbeats 4000000 in
theorem wins_step {k : Nat} (ih : FSpec Try.prog 30 (winsS k)) : FSpec Try.prog 30 (winsS (k + 1)) := by
  refine fspec_of htb (fn := Try.f30) (by kernel_rfl) (by kernel_rfl) rfl (fun args r hS => ?_) (fun args r hS hob hl => ?_)
  · unfold winsS at hS; split at hS <;> first | (cases hS; done) | (cases hS; exact Nat.le_of_ble_eq_true rfl)
  unfold winsS at hS
  split at hS
  case h_2 => cases hS
  rename_i o p x keep
  simp only [Option.some.injEq] at hS
  subst hS
  simp only [lenP, mkL, lim] at hl
  dsimp only at hob
  obtain ⟨hv, hkl, hck⟩ := hob
  have hV := validB_iff.1 hv
  obtain ⟨hn, hpl, hxl, hpos⟩ := id hV
  simp only [Gm.n] at hn hpl hxl
  have hpr : ∀ v, v < o.length → 0 ≤ p.getD v 0 ∧ p.getD v 0 ≤ 60 := fun v h => by
    obtain ⟨⟨a1, a2, a3, a4, _, a6⟩, _⟩ := hpos v (by simp only [Gm.n]; omega)
    exact ⟨a3, a4⟩
  repeat' first
    | with_reducible first | refine awp_seq ?_ | refine awp_block ?_ | refine next_then ?_ | refine next_block ?_ | refine exit_then ?_ | refine ret_then ?_ | refine ret_block ?_ | refine exit_here ?_ | refine awp_exit ?_ | refine awp_ret ?_ | refine awp_skip ?_ | refine awp_label ?_ | refine next_noGoto ?_ | refine ret_noGoto ?_ | refine exit_noGoto ?_ | refine awp_scope ?_
    | ((with_reducible refine exit_past ?_ ?_); exact rfl)
    | ((with_reducible refine isCond ?_); refine awp_condO rfl ?_ ?_ <;> intro hb <;> (try simp only [zH] at hb))
    | ((with_reducible refine isReg ?_); (first | refine awp_textM htb hmz (spWn_ok ih) (fun _ => false) rfl rfl ?_ | refine awp_drawM hmo htb hmz (spWn_ok ih) (fun _ => false) rfl rfl (by kernel_rfl) ?_); intro m' e' l' ob h; simp only [zE0, zE1, zE2, zE3, zE4, zE5, evp, evx, ev1, evLoad, evStore, evBin, isBoolK, forall_const, z38, tb, Nat.reduceAdd, Nat.reduceSub, Nat.reduceMul, Nat.reduceEqDiff, Nat.reduceLeDiff, Nat.reduceLT, Nat.reduceBEq, Nat.reduceBNe, ↓reduceIte, reduceIte, spWn, insS, winsS] at h; obtain ⟨rfl, rfl, rfl, rfl⟩ := h; refine ⟨?_, ?_⟩)
    | ((with_reducible refine Ob.mk ?_); first | exact trivial | (intros; omega) | ((repeat' first | apply And.intro | (intro hg; have hg' := hg; try simp only [zH] at hg')) <;> first | assumption | omega | (simp only [zH]; omega)))
  refine awp_loopC (τ := Nat) (fun i => i ≤ o.length) (fun i => ⟨13, [(37, .int .i64 i), (36, .int .i64 keep.length), (35, .roB keep), (7, .int .i64 (topR (fun v => p.getD v 0) (bF keep) i)), (6, .own 7), (5, .int .i64 o.length), (2, (.rop (.agg (.cons (.roI o) (.cons (.roI p) (.cons (.roII x) .nil)))))), (1, .roB keep)], [(7, some (.ints (List.replicate o.length 0)))], []⟩) (fun i => o.length - i) 0 [] ?_ (Nat.zero_le _) ?_
  · (refine ⟨rfl, ?_, ?_⟩ <;> simp only [zE0, zE1, zE2, zE3, zE4, zE5, evp, evx, ev1, evLoad, evStore, evBin, isBoolK, forall_const, z38, tb, Nat.reduceAdd, Nat.reduceSub, Nat.reduceMul, Nat.reduceEqDiff, Nat.reduceLeDiff, Nat.reduceLT, Nat.reduceBEq, Nat.reduceBNe, ↓reduceIte, reduceIte, spWn, insS, winsS, zI])
    rfl
  intro i hi
  have htn : topR (fun v => p.getD v 0) (bF keep) (i + 1) = if bF keep i = true then max (topR (fun v => p.getD v 0) (bF keep) i) (p.getD i 0) else topR (fun v => p.getD v 0) (bF keep) i := rfl
  have htb2 : topR (fun v => p.getD v 0) (bF keep) i = -1 ∨ ∃ v, v < i ∧ bF keep v = true ∧ p.getD v 0 = topR (fun v => p.getD v 0) (bF keep) i := topR_mem
  have hbi : bF keep i = keep.getD i false := rfl
  rw [hbi] at htn
  generalize hT : topR (fun v => p.getD v 0) (bF keep) = T at *
  have hT60 : -1 ≤ T i ∧ T i ≤ 60 := by
    rcases htb2 with h | ⟨v, h1, h2, h3⟩
    · omega
    · have := hpr v (by omega); omega
  have hpri := hpr i
  repeat' first
    | with_reducible first | refine awp_seq ?_ | refine awp_block ?_ | refine next_then ?_ | refine next_block ?_ | refine exit_then ?_ | refine ret_then ?_ | refine ret_block ?_ | refine exit_here ?_ | refine awp_exit ?_ | refine awp_ret ?_ | refine awp_skip ?_ | refine awp_label ?_ | refine next_noGoto ?_ | refine ret_noGoto ?_ | refine exit_noGoto ?_ | refine awp_scope ?_
    | ((with_reducible refine exit_past ?_ ?_); exact rfl)
    | ((with_reducible refine isCond ?_); refine awp_condO rfl ?_ ?_ <;> intro hb <;> (try simp only [zH] at hb))
    | ((with_reducible refine isRegS 10 ?_ ?_); (· exact rfl); (first | refine awp_textM htb hmz (spWn_ok ih) (fun _ => false) rfl rfl ?_ | refine awp_drawM hmo htb hmz (spWn_ok ih) (fun _ => false) rfl rfl (by kernel_rfl) ?_); intro m' e' l' ob h; simp only [zE0, zE1, zE2, zE3, zE4, zE5, evp, evx, ev1, evLoad, evStore, evBin, isBoolK, forall_const, z38, tb, Nat.reduceAdd, Nat.reduceSub, Nat.reduceMul, Nat.reduceEqDiff, Nat.reduceLeDiff, Nat.reduceLT, Nat.reduceBEq, Nat.reduceBNe, ↓reduceIte, reduceIte, spWn, insS, winsS] at h; obtain ⟨rfl, rfl, rfl, rfl⟩ := h; refine ⟨?_, ?_⟩)
    | ((with_reducible refine Ob.mk ?_); first | exact trivial | (intros; omega) | ((repeat' first | apply And.intro | (intro hg; have hg' := hg; try simp only [zH] at hg')) <;> first | assumption | omega | (simp only [zH]; omega)))
  · refine back (i + 1) [] ?_ (by omega) (by omega)
    (refine ⟨rfl, ?_, ?_⟩ <;> simp only [zE0, zE1, zE2, zE3, zE4, zE5, evp, evx, ev1, evLoad, evStore, evBin, isBoolK, forall_const, z38, tb, Nat.reduceAdd, Nat.reduceSub, Nat.reduceMul, Nat.reduceEqDiff, Nat.reduceLeDiff, Nat.reduceLT, Nat.reduceBEq, Nat.reduceBNe, ↓reduceIte, reduceIte, spWn, insS, winsS, zI])
    rw [htn, if_pos hb]
  · refine back (i + 1) [] ?_ (by omega) (by omega)
    (refine ⟨rfl, ?_, ?_⟩ <;> simp only [zE0, zE1, zE2, zE3, zE4, zE5, evp, evx, ev1, evLoad, evStore, evBin, isBoolK, forall_const, z38, tb, Nat.reduceAdd, Nat.reduceSub, Nat.reduceMul, Nat.reduceEqDiff, Nat.reduceLeDiff, Nat.reduceLT, Nat.reduceBEq, Nat.reduceBNe, ↓reduceIte, reduceIte, spWn, insS, winsS, zI])
    rw [htn, if_neg (by rw [hb]; decide)]
  have hie : i = o.length := by omega
  subst hie
  have hwz : ∀ v, winG ⟨o, p, x⟩ (k + 1) (bF keep) v = if T o.length < 0 then 0
    else if ∀ u, u < o.length → restS (fun v => o.getD v 0) (fun v => p.getD v 0) (rws x) o.length (bF keep) u = true → winG ⟨o, p, x⟩ k (restS (fun v => o.getD v 0) (fun v => p.getD v 0) (rws x) o.length (bF keep)) u = T o.length % 2 then T o.length % 2
    else if attB (fun v => o.getD v 0) (rws x) (bF keep) (fun u => restS (fun v => o.getD v 0) (fun v => p.getD v 0) (rws x) o.length (bF keep) u && decide (winG ⟨o, p, x⟩ k (restS (fun v => o.getD v 0) (fun v => p.getD v 0) (rws x) o.length (bF keep)) u ≠ T o.length % 2)) (1 - T o.length % 2) v = true then 1 - T o.length % 2
    else winG ⟨o, p, x⟩ k (fun u => bF keep u && !attB (fun v => o.getD v 0) (rws x) (bF keep) (fun u => restS (fun v => o.getD v 0) (fun v => p.getD v 0) (rws x) o.length (bF keep) u && decide (winG ⟨o, p, x⟩ k (restS (fun v => o.getD v 0) (fun v => p.getD v 0) (rws x) o.length (bF keep)) u ≠ T o.length % 2)) (1 - T o.length % 2) u) v := fun v => by
      rw [← hT]; rfl
  have hrs : restS (fun v => o.getD v 0) (fun v => p.getD v 0) (rws x) o.length (bF keep) = fun v => bF keep v && !attB (fun v => o.getD v 0) (rws x) (bF keep) (fun v => bF keep v && decide (p.getD v 0 = T o.length)) (T o.length % 2) v := by
    funext v; rw [← hT]; rfl
  have hex := htb2
  clear htn hbi hpri htb2
  generalize T o.length = top at *
  repeat' first
    | with_reducible first | refine awp_seq ?_ | refine awp_block ?_ | refine next_then ?_ | refine next_block ?_ | refine exit_then ?_ | refine ret_then ?_ | refine ret_block ?_ | refine exit_here ?_ | refine awp_exit ?_ | refine awp_ret ?_ | refine awp_skip ?_ | refine awp_label ?_ | refine next_noGoto ?_ | refine ret_noGoto ?_ | refine exit_noGoto ?_ | refine awp_scope ?_
    | ((with_reducible refine exit_past ?_ ?_); exact rfl)
    | ((with_reducible refine isCond ?_); refine awp_condO rfl ?_ ?_ <;> intro hb <;> (try simp only [zH] at hb))
    | ((with_reducible refine isRegS 10 ?_ ?_); (· exact rfl); (first | refine awp_textM htb hmz (spWn_ok ih) (fun _ => false) rfl rfl ?_ | refine awp_drawM hmo htb hmz (spWn_ok ih) (fun _ => false) rfl rfl (by kernel_rfl) ?_); intro m' e' l' ob h; simp only [zE0, zE1, zE2, zE3, zE4, zE5, evp, evx, ev1, evLoad, evStore, evBin, isBoolK, forall_const, z38, tb, Nat.reduceAdd, Nat.reduceSub, Nat.reduceMul, Nat.reduceEqDiff, Nat.reduceLeDiff, Nat.reduceLT, Nat.reduceBEq, Nat.reduceBNe, ↓reduceIte, reduceIte, spWn, insS, winsS] at h; obtain ⟨rfl, rfl, rfl, rfl⟩ := h; refine ⟨?_, ?_⟩)
    | ((with_reducible refine Ob.mk ?_); first | exact trivial | (intros; omega) | ((repeat' first | apply And.intro | (intro hg; have hg' := hg; try simp only [zH] at hg')) <;> first | assumption | omega | (simp only [zH]; omega)))
  repeat' first
    | with_reducible first | refine awp_seq ?_ | refine awp_block ?_ | refine next_then ?_ | refine next_block ?_ | refine exit_then ?_ | refine ret_then ?_ | refine ret_block ?_ | refine exit_here ?_ | refine awp_exit ?_ | refine awp_ret ?_ | refine awp_skip ?_ | refine awp_label ?_ | refine next_noGoto ?_ | refine ret_noGoto ?_ | refine exit_noGoto ?_ | refine awp_scope ?_
    | ((with_reducible refine exit_past ?_ ?_); exact rfl)
    | ((with_reducible refine isCond ?_); refine awp_condO rfl ?_ ?_ <;> intro hb <;> (try simp only [zH] at hb))
    | ((with_reducible refine isRegS 11 ?_ ?_); (· exact rfl); (with_reducible refine isRegS 12 ?_ ?_); (· exact rfl); (first | refine awp_textM htb hmz (spWn_ok ih) (fun _ => false) rfl rfl ?_ | refine awp_drawM hmo htb hmz (spWn_ok ih) (fun _ => false) rfl rfl (by kernel_rfl) ?_); intro m' e' l' ob h; simp only [zE0, zE1, zE2, zE3, zE4, zE5, evp, evx, ev1, evLoad, evStore, evBin, isBoolK, forall_const, z38, tb, Nat.reduceAdd, Nat.reduceSub, Nat.reduceMul, Nat.reduceEqDiff, Nat.reduceLeDiff, Nat.reduceLT, Nat.reduceBEq, Nat.reduceBNe, ↓reduceIte, reduceIte, spWn, insS, winsS] at h; obtain ⟨rfl, rfl, rfl, rfl⟩ := h; refine ⟨?_, ?_⟩)
    | ((with_reducible refine Ob.mk ?_); first | exact trivial | (intros; omega) | ((repeat' first | apply And.intro | (intro hg; have hg' := hg; try simp only [zH] at hg')) <;> first | assumption | omega | (simp only [zH]; omega)))
  · refine awp_fzN 7 (.roI (List.replicate o.length 0)) (by simp only [lkr_cons, lkr_nil, fzE, fzA, fzR, fzB, set1, nbeq, Nat.reduceEqDiff, decide_true, decide_false, ↓reduceIte, reduceIte, cond_true, cond_false, List.take_length, Option.some.injEq]; rfl) (by first | exact rfl | (refine ⟨?_, rfl⟩; first | rfl | (intros; rfl))) (by simp only [lkr_cons, lkr_nil, fzE, fzA, fzR, fzB, set1, nbeq, Nat.reduceEqDiff, decide_true, decide_false, ↓reduceIte, reduceIte, cond_true, cond_false, List.take_length, Option.some.injEq]; rfl) (by simp only [lkr_cons, lkr_nil, fzE, fzA, fzR, fzB, set1, nbeq, Nat.reduceEqDiff, decide_true, decide_false, ↓reduceIte, reduceIte, cond_true, cond_false, List.take_length, Option.some.injEq]; rfl) ?_
    repeat' first
      | with_reducible first | refine awp_seq ?_ | refine awp_block ?_ | refine next_then ?_ | refine next_block ?_ | refine exit_then ?_ | refine ret_then ?_ | refine ret_block ?_ | refine exit_here ?_ | refine awp_exit ?_ | refine awp_ret ?_ | refine awp_skip ?_ | refine awp_label ?_ | refine next_noGoto ?_ | refine ret_noGoto ?_ | refine exit_noGoto ?_ | refine awp_scope ?_
      | ((with_reducible refine exit_past ?_ ?_); exact rfl)
      | ((with_reducible refine isCond ?_); refine awp_condO rfl ?_ ?_ <;> intro hb <;> (try simp only [zH] at hb))
      | ((with_reducible refine isReg ?_); (first | refine awp_textM htb hmz (spWn_ok ih) (fun _ => false) rfl rfl ?_ | refine awp_drawM hmo htb hmz (spWn_ok ih) (fun _ => false) rfl rfl (by kernel_rfl) ?_); intro m' e' l' ob h; simp only [zE0, zE1, zE2, zE3, zE4, zE5, evp, evx, ev1, evLoad, evStore, evBin, isBoolK, forall_const, z38, tb, Nat.reduceAdd, Nat.reduceSub, Nat.reduceMul, Nat.reduceEqDiff, Nat.reduceLeDiff, Nat.reduceLT, Nat.reduceBEq, Nat.reduceBNe, ↓reduceIte, reduceIte, spWn, insS, winsS] at h; obtain ⟨rfl, rfl, rfl, rfl⟩ := h; refine ⟨?_, ?_⟩)
      | ((with_reducible refine Ob.mk ?_); first | exact trivial | (intros; omega) | ((repeat' first | apply And.intro | (intro hg; have hg' := hg; try simp only [zH] at hg')) <;> first | assumption | omega | (simp only [zH]; omega)))
    refine fin_ret rfl rfl (spec_flat rfl ?_ rfl)
    refine congrArg AV.roI ?_
    unfold winL
    refine List.ext_getElem (by simp) fun v h1 h2 => ?_
    simp only [List.getElem_replicate, List.getElem_map, List.getElem_range]
    rw [hwz, if_pos hb]
  have htop : 0 ≤ top := by omega
  obtain ⟨ve, hve1, hve2, hve3⟩ : ∃ v, v < o.length ∧ bF keep v = true ∧ p.getD v 0 = top := hex.resolve_left (by omega)
  have hz : ∀ f : Nat → Bool, List.replicate o.length false = mix f (fun _ => false) o.length 0 := fun f => List.ext_getElem (by simp [mix]) fun j h1 h2 => by simp [mix]
  have hml : ∀ (f : Nat → Bool) i, (mix f (fun _ => false) o.length i).length = o.length := fun f i => mix_len
  repeat' first
    | with_reducible first | refine awp_seq ?_ | refine awp_block ?_ | refine next_then ?_ | refine next_block ?_ | refine exit_then ?_ | refine ret_then ?_ | refine ret_block ?_ | refine exit_here ?_ | refine awp_exit ?_ | refine awp_ret ?_ | refine awp_skip ?_ | refine awp_label ?_ | refine next_noGoto ?_ | refine ret_noGoto ?_ | refine exit_noGoto ?_ | refine awp_scope ?_
    | ((with_reducible refine exit_past ?_ ?_); exact rfl)
    | ((with_reducible refine isCond ?_); refine awp_condO rfl ?_ ?_ <;> intro hb <;> (try simp only [zH] at hb))
    | ((with_reducible refine isReg ?_); (first | refine awp_textM htb hmz (spWn_ok ih) (fun _ => false) rfl rfl ?_ | refine awp_drawM hmo htb hmz (spWn_ok ih) (fun _ => false) rfl rfl (by kernel_rfl) ?_); intro m' e' l' ob h; simp only [zE0, zE1, zE2, zE3, zE4, zE5, evp, evx, ev1, evLoad, evStore, evBin, isBoolK, forall_const, z38, tb, Nat.reduceAdd, Nat.reduceSub, Nat.reduceMul, Nat.reduceEqDiff, Nat.reduceLeDiff, Nat.reduceLT, Nat.reduceBEq, Nat.reduceBNe, ↓reduceIte, reduceIte, spWn, insS, winsS] at h; obtain ⟨rfl, rfl, rfl, rfl⟩ := h; refine ⟨?_, ?_⟩)
    | ((with_reducible refine Ob.mk ?_); first | exact trivial | (intros; omega) | ((repeat' first | apply And.intro | (intro hg; have hg' := hg; try simp only [zH] at hg')) <;> first | assumption | omega | (simp only [zH]; omega)))
  refine awp_loopC (τ := Nat) (fun i => i ≤ o.length) (fun i => ⟨25, [(60, .int .i64 i), (59, .int .i64 keep.length), (58, .roB keep), (11, .own 20), (10, .int .i64 (top % 2)), (7, .int .i64 top), (6, .own 7), (5, .int .i64 o.length), (2, (.rop (.agg (.cons (.roI o) (.cons (.roI p) (.cons (.roII x) .nil)))))), (1, .roB keep)], [(7, some (.ints (List.replicate o.length 0))), (20, some (.bools (mix (fun v => bF keep v && decide (p.getD v 0 = top)) (fun _ => false) o.length i)))], []⟩) (fun i => o.length - i) 0 [] ?_ (Nat.zero_le _) ?_
  · (refine ⟨rfl, ?_, ?_⟩ <;> simp only [zE0, zE1, zE2, zE3, zE4, zE5, evp, evx, ev1, evLoad, evStore, evBin, isBoolK, forall_const, z38, tb, Nat.reduceAdd, Nat.reduceSub, Nat.reduceMul, Nat.reduceEqDiff, Nat.reduceLeDiff, Nat.reduceLT, Nat.reduceBEq, Nat.reduceBNe, ↓reduceIte, reduceIte, spWn, insS, winsS, zI])
    exact hz _
  intro i hi
  have hml1 := hml (fun v => bF keep v && decide (p.getD v 0 = top)) i
  have hpri := hpr i
  repeat' first
    | with_reducible first | refine awp_seq ?_ | refine awp_block ?_ | refine next_then ?_ | refine next_block ?_ | refine exit_then ?_ | refine ret_then ?_ | refine ret_block ?_ | refine exit_here ?_ | refine awp_exit ?_ | refine awp_ret ?_ | refine awp_skip ?_ | refine awp_label ?_ | refine next_noGoto ?_ | refine ret_noGoto ?_ | refine exit_noGoto ?_ | refine awp_scope ?_
    | ((with_reducible refine exit_past ?_ ?_); exact rfl)
    | ((with_reducible refine isCond ?_); refine awp_condO rfl ?_ ?_ <;> intro hb <;> (try simp only [zH] at hb))
    | ((with_reducible refine isRegS 19 ?_ ?_); (· exact rfl); (first | refine awp_textM htb hmz (spWn_ok ih) (fun _ => false) rfl rfl ?_ | refine awp_drawM hmo htb hmz (spWn_ok ih) (fun _ => false) rfl rfl (by kernel_rfl) ?_); intro m' e' l' ob h; simp only [zE0, zE1, zE2, zE3, zE4, zE5, evp, evx, ev1, evLoad, evStore, evBin, isBoolK, forall_const, z38, tb, Nat.reduceAdd, Nat.reduceSub, Nat.reduceMul, Nat.reduceEqDiff, Nat.reduceLeDiff, Nat.reduceLT, Nat.reduceBEq, Nat.reduceBNe, ↓reduceIte, reduceIte, spWn, insS, winsS] at h; obtain ⟨rfl, rfl, rfl, rfl⟩ := h; refine ⟨?_, ?_⟩)
    | ((with_reducible refine Ob.mk ?_); first | exact trivial | (intros; omega) | ((repeat' first | apply And.intro | (intro hg; have hg' := hg; try simp only [zH] at hg')) <;> first | assumption | omega | (simp only [zH]; omega)))
  · refine back (i + 1) [] ?_ (by omega) (by omega)
    (refine ⟨rfl, ?_, ?_⟩ <;> simp only [zE0, zE1, zE2, zE3, zE4, zE5, evp, evx, ev1, evLoad, evStore, evBin, isBoolK, forall_const, z38, tb, Nat.reduceAdd, Nat.reduceSub, Nat.reduceMul, Nat.reduceEqDiff, Nat.reduceLeDiff, Nat.reduceLT, Nat.reduceBEq, Nat.reduceBNe, ↓reduceIte, reduceIte, spWn, insS, winsS, zI])
    exact mix_set
  have hie : i = o.length := by omega
  subst hie
  rw [mix_all]
  refine awp_fzN 20 (.roB ((List.range o.length).map fun v => bF keep v && decide (p.getD v 0 = top))) (by simp only [lkr_cons, lkr_nil, fzE, fzA, fzR, fzB, set1, nbeq, Nat.reduceEqDiff, decide_true, decide_false, ↓reduceIte, reduceIte, cond_true, cond_false, List.take_length, Option.some.injEq]; rfl) (by first | exact rfl | (refine ⟨?_, rfl⟩; first | rfl | (intros; rfl))) (by simp only [lkr_cons, lkr_nil, fzE, fzA, fzR, fzB, set1, nbeq, Nat.reduceEqDiff, decide_true, decide_false, ↓reduceIte, reduceIte, cond_true, cond_false, List.take_length, Option.some.injEq]; rfl) (by simp only [lkr_cons, lkr_nil, fzE, fzA, fzR, fzB, set1, nbeq, Nat.reduceEqDiff, decide_true, decide_false, ↓reduceIte, reduceIte, cond_true, cond_false, List.take_length, Option.some.injEq]; rfl) ?_
  have hgl : ((List.range o.length).map fun v => bF keep v && decide (p.getD v 0 = top)).length = o.length := by simp
  have hgf : bF ((List.range o.length).map fun v => bF keep v && decide (p.getD v 0 = top)) = fun v => bF keep v && decide (p.getD v 0 = top) := bF_map fun v hv => by rw [bF_out (by omega)]; rfl
  rw [← hgf] at hrs
  generalize (List.range o.length).map (fun v => bF keep v && decide (p.getD v 0 = top)) = great at *
  repeat' first
    | with_reducible first | refine awp_seq ?_ | refine awp_block ?_ | refine next_then ?_ | refine next_block ?_ | refine exit_then ?_ | refine ret_then ?_ | refine ret_block ?_ | refine exit_here ?_ | refine awp_exit ?_ | refine awp_ret ?_ | refine awp_skip ?_ | refine awp_label ?_ | refine next_noGoto ?_ | refine ret_noGoto ?_ | refine exit_noGoto ?_ | refine awp_scope ?_
    | ((with_reducible refine exit_past ?_ ?_); exact rfl)
    | ((with_reducible refine isCond ?_); refine awp_condO rfl ?_ ?_ <;> intro hb <;> (try simp only [zH] at hb))
    | ((with_reducible refine isRegS 20 ?_ ?_); (· exact rfl); (first | refine awp_textM htb hmz (spWn_ok ih) (fun _ => false) rfl rfl ?_ | refine awp_drawM hmo htb hmz (spWn_ok ih) (fun _ => false) rfl rfl (by kernel_rfl) ?_); intro m' e' l' ob h; simp only [zE0, zE1, zE2, zE3, zE4, zE5, evp, evx, ev1, evLoad, evStore, evBin, isBoolK, forall_const, z38, tb, Nat.reduceAdd, Nat.reduceSub, Nat.reduceMul, Nat.reduceEqDiff, Nat.reduceLeDiff, Nat.reduceLT, Nat.reduceBEq, Nat.reduceBNe, ↓reduceIte, reduceIte, spWn, insS, winsS] at h; obtain ⟨rfl, rfl, rfl, rfl⟩ := h; refine ⟨?_, ?_⟩)
    | ((with_reducible refine Ob.mk ?_); first | exact trivial | (intros; omega) | ((repeat' first | apply And.intro | (intro hg; have hg' := hg; try simp only [zH] at hg')) <;> first | assumption | omega | (simp only [zH]; omega)))
  have hNl : (insL ⟨o, p, x⟩ keep (top % 2) great).length = o.length := insL_len
  have hNg : ∀ v, v < o.length → (insL ⟨o, p, x⟩ keep (top % 2) great).getD v false = attB (fun v => o.getD v 0) (rws x) (bF keep) (bF great) (top % 2) v := fun v hv => insL_getD hv
  generalize insL ⟨o, p, x⟩ keep (top % 2) great = N at *
  repeat' first
    | with_reducible first | refine awp_seq ?_ | refine awp_block ?_ | refine next_then ?_ | refine next_block ?_ | refine exit_then ?_ | refine ret_then ?_ | refine ret_block ?_ | refine exit_here ?_ | refine awp_exit ?_ | refine awp_ret ?_ | refine awp_skip ?_ | refine awp_label ?_ | refine next_noGoto ?_ | refine ret_noGoto ?_ | refine exit_noGoto ?_ | refine awp_scope ?_
    | ((with_reducible refine exit_past ?_ ?_); exact rfl)
    | ((with_reducible refine isCond ?_); refine awp_condO rfl ?_ ?_ <;> intro hb <;> (try simp only [zH] at hb))
    | ((with_reducible refine isReg ?_); (first | refine awp_textM htb hmz (spWn_ok ih) (fun _ => false) rfl rfl ?_ | refine awp_drawM hmo htb hmz (spWn_ok ih) (fun _ => false) rfl rfl (by kernel_rfl) ?_); intro m' e' l' ob h; simp only [zE0, zE1, zE2, zE3, zE4, zE5, evp, evx, ev1, evLoad, evStore, evBin, isBoolK, forall_const, z38, tb, Nat.reduceAdd, Nat.reduceSub, Nat.reduceMul, Nat.reduceEqDiff, Nat.reduceLeDiff, Nat.reduceLT, Nat.reduceBEq, Nat.reduceBNe, ↓reduceIte, reduceIte, spWn, insS, winsS] at h; obtain ⟨rfl, rfl, rfl, rfl⟩ := h; refine ⟨?_, ?_⟩)
    | ((with_reducible refine Ob.mk ?_); first | exact trivial | (intros; omega) | ((repeat' first | apply And.intro | (intro hg; have hg' := hg; try simp only [zH] at hg')) <;> first | assumption | omega | (simp only [zH]; omega)))
  refine awp_loopC (τ := Nat) (fun i => i ≤ o.length) (fun i => ⟨38, [(88, .int .i64 i), (87, .int .i64 keep.length), (86, .roB keep), (15, .own 33), (14, .roB N), (10, .int .i64 (top % 2)), (7, .int .i64 top), (6, .own 7), (5, .int .i64 o.length), (2, (.rop (.agg (.cons (.roI o) (.cons (.roI p) (.cons (.roII x) .nil)))))), (1, .roB keep)], [(7, some (.ints (List.replicate o.length 0))), (33, some (.bools (mix (fun v => bF keep v && !N.getD v false) (fun _ => false) o.length i)))], []⟩) (fun i => o.length - i) 0 [] ?_ (Nat.zero_le _) ?_
  · (refine ⟨rfl, ?_, ?_⟩ <;> simp only [zE0, zE1, zE2, zE3, zE4, zE5, evp, evx, ev1, evLoad, evStore, evBin, isBoolK, forall_const, z38, tb, Nat.reduceAdd, Nat.reduceSub, Nat.reduceMul, Nat.reduceEqDiff, Nat.reduceLeDiff, Nat.reduceLT, Nat.reduceBEq, Nat.reduceBNe, ↓reduceIte, reduceIte, spWn, insS, winsS, zI])
    exact hz _
  intro i hi
  have hml1 := hml (fun v => bF keep v && !N.getD v false) i
  repeat' first
    | with_reducible first | refine awp_seq ?_ | refine awp_block ?_ | refine next_then ?_ | refine next_block ?_ | refine exit_then ?_ | refine ret_then ?_ | refine ret_block ?_ | refine exit_here ?_ | refine awp_exit ?_ | refine awp_ret ?_ | refine awp_skip ?_ | refine awp_label ?_ | refine next_noGoto ?_ | refine ret_noGoto ?_ | refine exit_noGoto ?_ | refine awp_scope ?_
    | ((with_reducible refine exit_past ?_ ?_); exact rfl)
    | ((with_reducible refine isCond ?_); refine awp_condO rfl ?_ ?_ <;> intro hb <;> (try simp only [zH] at hb))
    | ((with_reducible refine isRegS 26 ?_ ?_); (· exact rfl); (first | refine awp_textM htb hmz (spWn_ok ih) (fun _ => false) rfl rfl ?_ | refine awp_drawM hmo htb hmz (spWn_ok ih) (fun _ => false) rfl rfl (by kernel_rfl) ?_); intro m' e' l' ob h; simp only [zE0, zE1, zE2, zE3, zE4, zE5, evp, evx, ev1, evLoad, evStore, evBin, isBoolK, forall_const, z38, tb, Nat.reduceAdd, Nat.reduceSub, Nat.reduceMul, Nat.reduceEqDiff, Nat.reduceLeDiff, Nat.reduceLT, Nat.reduceBEq, Nat.reduceBNe, ↓reduceIte, reduceIte, spWn, insS, winsS] at h; obtain ⟨rfl, rfl, rfl, rfl⟩ := h; refine ⟨?_, ?_⟩)
    | ((with_reducible refine Ob.mk ?_); first | exact trivial | (intros; omega) | ((repeat' first | apply And.intro | (intro hg; have hg' := hg; try simp only [zH] at hg')) <;> first | assumption | omega | (simp only [zH]; omega)))
  · refine back (i + 1) [] ?_ (by omega) (by omega)
    (refine ⟨rfl, ?_, ?_⟩ <;> simp only [zE0, zE1, zE2, zE3, zE4, zE5, evp, evx, ev1, evLoad, evStore, evBin, isBoolK, forall_const, z38, tb, Nat.reduceAdd, Nat.reduceSub, Nat.reduceMul, Nat.reduceEqDiff, Nat.reduceLeDiff, Nat.reduceLT, Nat.reduceBEq, Nat.reduceBNe, ↓reduceIte, reduceIte, spWn, insS, winsS, zI])
    exact mix_set
  have hie : i = o.length := by omega
  subst hie
  rw [mix_all]
  refine awp_fzN 33 (.roB ((List.range o.length).map fun v => bF keep v && !N.getD v false)) (by simp only [lkr_cons, lkr_nil, fzE, fzA, fzR, fzB, set1, nbeq, Nat.reduceEqDiff, decide_true, decide_false, ↓reduceIte, reduceIte, cond_true, cond_false, List.take_length, Option.some.injEq]; rfl) (by first | exact rfl | (refine ⟨?_, rfl⟩; first | rfl | (intros; rfl))) (by simp only [lkr_cons, lkr_nil, fzE, fzA, fzR, fzB, set1, nbeq, Nat.reduceEqDiff, decide_true, decide_false, ↓reduceIte, reduceIte, cond_true, cond_false, List.take_length, Option.some.injEq]; rfl) (by simp only [lkr_cons, lkr_nil, fzE, fzA, fzR, fzB, set1, nbeq, Nat.reduceEqDiff, decide_true, decide_false, ↓reduceIte, reduceIte, cond_true, cond_false, List.take_length, Option.some.injEq]; rfl) ?_
  have hRl : ((List.range o.length).map fun v => bF keep v && !N.getD v false).length = o.length := by simp
  have hRf : bF ((List.range o.length).map fun v => bF keep v && !N.getD v false) = restS (fun v => o.getD v 0) (fun v => p.getD v 0) (rws x) o.length (bF keep) := by
    rw [bF_map fun v hv => by rw [bF_out (by omega)]; rfl, hrs]
    funext v
    by_cases h : v < o.length
    · rw [hNg v h]
    · rw [bF_out (by omega)]; rfl
  rw [hrs] at hRf
  rw [hrs] at hwz
  rw [← hRf] at hwz
  have hRk : ∀ v, bF ((List.range o.length).map fun v => bF keep v && !N.getD v false) v = true → bF keep v = true := fun v h => by
    rw [hRf] at h
    rw [Bool.and_eq_true] at h; exact h.1
  have hcR : cntZ o.length (bF ((List.range o.length).map fun v => bF keep v && !N.getD v false)) < k := by
    have := cnt_lt (n := o.length) (K := bF keep) hRk hve1 hve2 (by
      rw [hRf]
      show (bF keep ve && !attB _ _ _ _ _ ve) = false
      rw [attB_in (by rw [hgf]; show (bF keep ve && decide _) = true; rw [hve2, decide_eq_true hve3]; rfl)]; simp)
    omega
  generalize (List.range o.length).map (fun v => bF keep v && !N.getD v false) = R at *
  clear hrs hNg hgf hRf
  repeat' first
    | with_reducible first | refine awp_seq ?_ | refine awp_block ?_ | refine next_then ?_ | refine next_block ?_ | refine exit_then ?_ | refine ret_then ?_ | refine ret_block ?_ | refine exit_here ?_ | refine awp_exit ?_ | refine awp_ret ?_ | refine awp_skip ?_ | refine awp_label ?_ | refine next_noGoto ?_ | refine ret_noGoto ?_ | refine exit_noGoto ?_ | refine awp_scope ?_
    | ((with_reducible refine exit_past ?_ ?_); exact rfl)
    | ((with_reducible refine isCond ?_); refine awp_condO rfl ?_ ?_ <;> intro hb <;> (try simp only [zH] at hb))
    | ((with_reducible refine isRegS 27 ?_ ?_); (· exact rfl); (first | refine awp_textM htb hmz (spWn_ok ih) (fun _ => false) rfl rfl ?_ | refine awp_drawM hmo htb hmz (spWn_ok ih) (fun _ => false) rfl rfl (by kernel_rfl) ?_); intro m' e' l' ob h; simp only [zE0, zE1, zE2, zE3, zE4, zE5, evp, evx, ev1, evLoad, evStore, evBin, isBoolK, forall_const, z38, tb, Nat.reduceAdd, Nat.reduceSub, Nat.reduceMul, Nat.reduceEqDiff, Nat.reduceLeDiff, Nat.reduceLT, Nat.reduceBEq, Nat.reduceBNe, ↓reduceIte, reduceIte, spWn, insS, winsS] at h; obtain ⟨rfl, rfl, rfl, rfl⟩ := h; refine ⟨?_, ?_⟩)
    | ((with_reducible refine Ob.mk ?_); first | exact trivial | (intros; omega) | ((repeat' first | apply And.intro | (intro hg; have hg' := hg; try simp only [zH] at hg')) <;> first | assumption | omega | (simp only [zH]; omega)))
  have hBl : (winL ⟨o, p, x⟩ k (bF R)).length = o.length := winL_len
  have hBg : ∀ v, v < o.length → (winL ⟨o, p, x⟩ k (bF R)).getD v 0 = winG ⟨o, p, x⟩ k (bF R) v := fun v hv => winL_getD hv
  generalize winL ⟨o, p, x⟩ k (bF R) = B at *
  clear hex hT hml1 hpri hpos
  repeat' first
    | with_reducible first | refine awp_seq ?_ | refine awp_block ?_ | refine next_then ?_ | refine next_block ?_ | refine exit_then ?_ | refine ret_then ?_ | refine ret_block ?_ | refine exit_here ?_ | refine awp_exit ?_ | refine awp_ret ?_ | refine awp_skip ?_ | refine awp_label ?_ | refine next_noGoto ?_ | refine ret_noGoto ?_ | refine exit_noGoto ?_ | refine awp_scope ?_
    | ((with_reducible refine exit_past ?_ ?_); exact rfl)
    | ((with_reducible refine isCond ?_); refine awp_condO rfl ?_ ?_ <;> intro hb <;> (try simp only [zH] at hb))
    | ((with_reducible refine isReg ?_); (first | refine awp_textM htb hmz (spWn_ok ih) (fun _ => false) rfl rfl ?_ | refine awp_drawM hmo htb hmz (spWn_ok ih) (fun _ => false) rfl rfl (by kernel_rfl) ?_); intro m' e' l' ob h; simp only [zE0, zE1, zE2, zE3, zE4, zE5, evp, evx, ev1, evLoad, evStore, evBin, isBoolK, forall_const, z38, tb, Nat.reduceAdd, Nat.reduceSub, Nat.reduceMul, Nat.reduceEqDiff, Nat.reduceLeDiff, Nat.reduceLT, Nat.reduceBEq, Nat.reduceBNe, ↓reduceIte, reduceIte, spWn, insS, winsS] at h; obtain ⟨rfl, rfl, rfl, rfl⟩ := h; refine ⟨?_, ?_⟩)
    | ((with_reducible refine Ob.mk ?_); first | exact trivial | (intros; omega) | ((repeat' first | apply And.intro | (intro hg; have hg' := hg; try simp only [zH] at hg')) <;> first | assumption | omega | (simp only [zH]; omega)))
  obtain ⟨F, hF⟩ : ∃ F : Nat → Bool, F = fun v => R.getD v false && decide (B.getD v 0 ≠ top % 2) := ⟨_, rfl⟩
  have hFi : ∀ i, F i = (R.getD i false && decide (B.getD i 0 ≠ top % 2)) := fun i => by rw [hF]
  refine awp_loopC (τ := Nat) (fun i => i ≤ o.length) (fun i => ⟨50, [(112, .int .i64 i), (111, .int .i64 R.length), (110, .roB R), (20, .bool (sB F i)), (19, .own 44), (18, .roI B), (15, .roB R), (14, .roB N), (10, .int .i64 (top % 2)), (7, .int .i64 top), (6, .own 7), (5, .int .i64 o.length), (2, (.rop (.agg (.cons (.roI o) (.cons (.roI p) (.cons (.roII x) .nil)))))), (1, .roB keep)], [(7, some (.ints (List.replicate o.length 0))), (44, some (.bools (mix F (fun _ => false) o.length i)))], []⟩) (fun i => o.length - i) 0 [] ?_ (Nat.zero_le _) ?_
  · (refine ⟨rfl, ?_, ?_⟩ <;> simp only [zE0, zE1, zE2, zE3, zE4, zE5, evp, evx, ev1, evLoad, evStore, evBin, isBoolK, forall_const, z38, tb, Nat.reduceAdd, Nat.reduceSub, Nat.reduceMul, Nat.reduceEqDiff, Nat.reduceLeDiff, Nat.reduceLT, Nat.reduceBEq, Nat.reduceBNe, ↓reduceIte, reduceIte, spWn, insS, winsS, zI])
    · rfl
    · exact hz _
  intro i hi
  have hml1 := hml F i
  have hsn1 : sB F (i + 1) = (sB F i || F i) := sB_next
  have hms1 : (mix F (fun _ => false) o.length i).set i (F i) = mix F (fun _ => false) o.length (i + 1) := mix_set
  have hmk1 : F i = false → mix F (fun _ => false) o.length i = mix F (fun _ => false) o.length (i + 1) := fun h => mix_keep h
  have hF1 := hFi i
  repeat' first
    | with_reducible first | refine awp_seq ?_ | refine awp_block ?_ | refine next_then ?_ | refine next_block ?_ | refine exit_then ?_ | refine ret_then ?_ | refine ret_block ?_ | refine exit_here ?_ | refine awp_exit ?_ | refine awp_ret ?_ | refine awp_skip ?_ | refine awp_label ?_ | refine next_noGoto ?_ | refine ret_noGoto ?_ | refine exit_noGoto ?_ | refine awp_scope ?_
    | ((with_reducible refine exit_past ?_ ?_); exact rfl)
    | ((with_reducible refine isCond ?_); refine awp_condO rfl ?_ ?_ <;> intro hb <;> (try simp only [zH] at hb))
    | ((with_reducible refine isRegS 35 ?_ ?_); (· exact rfl); (first | refine awp_textM htb hmz (spWn_ok ih) (fun _ => false) rfl rfl ?_ | refine awp_drawM hmo htb hmz (spWn_ok ih) (fun _ => false) rfl rfl (by kernel_rfl) ?_); intro m' e' l' ob h; simp only [zE0, zE1, zE2, zE3, zE4, zE5, evp, evx, ev1, evLoad, evStore, evBin, isBoolK, forall_const, z38, tb, Nat.reduceAdd, Nat.reduceSub, Nat.reduceMul, Nat.reduceEqDiff, Nat.reduceLeDiff, Nat.reduceLT, Nat.reduceBEq, Nat.reduceBNe, ↓reduceIte, reduceIte, spWn, insS, winsS] at h; obtain ⟨rfl, rfl, rfl, rfl⟩ := h; refine ⟨?_, ?_⟩)
    | ((with_reducible refine Ob.mk ?_); first | exact trivial | (intros; omega) | ((repeat' first | apply And.intro | (intro hg; have hg' := hg; try simp only [zH] at hg')) <;> first | assumption | omega | (simp only [zH]; omega)))
  · have hFt : F i = true := by rw [hF1, hb.1, decide_eq_true hb.2]; rfl
    rw [hFt] at hms1 hsn1
    refine back (i + 1) [] ?_ (by omega) (by omega)
    (refine ⟨rfl, ?_, ?_⟩ <;> simp only [zE0, zE1, zE2, zE3, zE4, zE5, evp, evx, ev1, evLoad, evStore, evBin, isBoolK, forall_const, z38, tb, Nat.reduceAdd, Nat.reduceSub, Nat.reduceMul, Nat.reduceEqDiff, Nat.reduceLeDiff, Nat.reduceLT, Nat.reduceBEq, Nat.reduceBNe, ↓reduceIte, reduceIte, spWn, insS, winsS, zI])
    · rw [hsn1, Bool.or_true]
    · exact hms1
  · have hFt : F i = false := by
      rw [hF1, Bool.and_eq_false_iff, decide_eq_false_iff_not]
      exact hb.imp id fun h => Classical.not_not.2 h
    refine back (i + 1) [] ?_ (by omega) (by omega)
    (refine ⟨rfl, ?_, ?_⟩ <;> simp only [zE0, zE1, zE2, zE3, zE4, zE5, evp, evx, ev1, evLoad, evStore, evBin, isBoolK, forall_const, z38, tb, Nat.reduceAdd, Nat.reduceSub, Nat.reduceMul, Nat.reduceEqDiff, Nat.reduceLeDiff, Nat.reduceLT, Nat.reduceBEq, Nat.reduceBNe, ↓reduceIte, reduceIte, spWn, insS, winsS, zI])
    · rw [hsn1, hFt, Bool.or_false]
    · exact hmk1 hFt
  have hie : i = o.length := by omega
  subst hie
  have hsF : sB F o.length = true ↔ ∃ u, u < o.length ∧ F u = true := sB_iff
  clear hsn1 hms1 hmk1 hF1
  rw [mix_all] at *
  refine awp_fzN 44 (.roB ((List.range o.length).map F)) (by simp only [lkr_cons, lkr_nil, fzE, fzA, fzR, fzB, set1, nbeq, Nat.reduceEqDiff, decide_true, decide_false, ↓reduceIte, reduceIte, cond_true, cond_false, List.take_length, Option.some.injEq]; rfl) (by first | exact rfl | (refine ⟨?_, rfl⟩; first | rfl | (intros; rfl))) (by simp only [lkr_cons, lkr_nil, fzE, fzA, fzR, fzB, set1, nbeq, Nat.reduceEqDiff, decide_true, decide_false, ↓reduceIte, reduceIte, cond_true, cond_false, List.take_length, Option.some.injEq]; rfl) (by simp only [lkr_cons, lkr_nil, fzE, fzA, fzR, fzB, set1, nbeq, Nat.reduceEqDiff, decide_true, decide_false, ↓reduceIte, reduceIte, cond_true, cond_false, List.take_length, Option.some.injEq]; rfl) ?_
  generalize sB F o.length = any at *
  have hFl : ((List.range o.length).map F).length = o.length := by simp
  have hFo : ∀ v, o.length ≤ v → F v = false := fun v hv => by
    rw [hFi, show R.getD v false = false from bF_out (by omega)]; rfl
  have hFf : bF ((List.range o.length).map F) = F := bF_map hFo
  generalize (List.range o.length).map F = L at *
  have hFw : (fun u => bF R u && decide (winG ⟨o, p, x⟩ k (bF R) u ≠ top % 2)) = F := by
    funext u
    rw [hFi]
    by_cases h : u < o.length
    · rw [hBg u h]; rfl
    · rw [bF_out (by omega), show R.getD u false = false from bF_out (by omega)]; rfl
  rw [hFw] at hwz
  repeat' first
    | with_reducible first | refine awp_seq ?_ | refine awp_block ?_ | refine next_then ?_ | refine next_block ?_ | refine exit_then ?_ | refine ret_then ?_ | refine ret_block ?_ | refine exit_here ?_ | refine awp_exit ?_ | refine awp_ret ?_ | refine awp_skip ?_ | refine awp_label ?_ | refine next_noGoto ?_ | refine ret_noGoto ?_ | refine exit_noGoto ?_ | refine awp_scope ?_
    | ((with_reducible refine exit_past ?_ ?_); exact rfl)
    | ((with_reducible refine isCond ?_); refine awp_condO rfl ?_ ?_ <;> intro hb <;> (try simp only [zH] at hb))
    | ((with_reducible refine isReg ?_); (first | refine awp_textM htb hmz (spWn_ok ih) (fun _ => false) rfl rfl ?_ | refine awp_drawM hmo htb hmz (spWn_ok ih) (fun _ => false) rfl rfl (by kernel_rfl) ?_); intro m' e' l' ob h; simp only [zE0, zE1, zE2, zE3, zE4, zE5, evp, evx, ev1, evLoad, evStore, evBin, isBoolK, forall_const, z38, tb, Nat.reduceAdd, Nat.reduceSub, Nat.reduceMul, Nat.reduceEqDiff, Nat.reduceLeDiff, Nat.reduceLT, Nat.reduceBEq, Nat.reduceBNe, ↓reduceIte, reduceIte, spWn, insS, winsS] at h; obtain ⟨rfl, rfl, rfl, rfl⟩ := h; refine ⟨?_, ?_⟩)
    | ((with_reducible refine Ob.mk ?_); first | exact trivial | (intros; omega) | ((repeat' first | apply And.intro | (intro hg; have hg' := hg; try simp only [zH] at hg')) <;> first | assumption | omega | (simp only [zH]; omega)))
  · have hall : ∀ u, u < o.length → bF R u = true → winG ⟨o, p, x⟩ k (bF R) u = top % 2 := fun u hu hR => by
      refine Classical.byContradiction fun hne => ?_
      have : F u = true := by
        rw [← hFw]
        show (bF R u && decide _) = true
        rw [hR, decide_eq_true hne]; rfl
      have := hsF.2 ⟨u, hu, this⟩
      rw [hb] at this; cases this
    have hzi : ∀ c : Int, List.replicate o.length (0 : Int) = mix (fun _ => c) (fun _ => 0) o.length 0 := fun c => List.ext_getElem (by simp [mix]) fun j h1 h2 => by simp [mix]
    refine awp_loopC (τ := Nat) (fun i => i ≤ o.length) (fun i => ⟨56, [(134, .int .i64 i), (133, .int .i64 o.length), (10, .int .i64 (top % 2)), (6, .own 7)], [(7, some (.ints (mix (fun _ => top % 2) (fun _ => 0) o.length i)))], []⟩) (fun i => o.length - i) 0 [] ?_ (Nat.zero_le _) ?_
    · (refine ⟨rfl, ?_, ?_⟩ <;> simp only [zE0, zE1, zE2, zE3, zE4, zE5, evp, evx, ev1, evLoad, evStore, evBin, isBoolK, forall_const, z38, tb, Nat.reduceAdd, Nat.reduceSub, Nat.reduceMul, Nat.reduceEqDiff, Nat.reduceLeDiff, Nat.reduceLT, Nat.reduceBEq, Nat.reduceBNe, ↓reduceIte, reduceIte, spWn, insS, winsS, zI])
      · rw [List.length_replicate]
      · exact hzi _
    intro i hi
    have hml2 : (mix (fun _ => top % 2) (fun _ => 0) o.length i).length = o.length := mix_len
    repeat' first
      | with_reducible first | refine awp_seq ?_ | refine awp_block ?_ | refine next_then ?_ | refine next_block ?_ | refine exit_then ?_ | refine ret_then ?_ | refine ret_block ?_ | refine exit_here ?_ | refine awp_exit ?_ | refine awp_ret ?_ | refine awp_skip ?_ | refine awp_label ?_ | refine next_noGoto ?_ | refine ret_noGoto ?_ | refine exit_noGoto ?_ | refine awp_scope ?_
      | ((with_reducible refine exit_past ?_ ?_); exact rfl)
      | ((with_reducible refine isCond ?_); refine awp_condO rfl ?_ ?_ <;> intro hb <;> (try simp only [zH] at hb))
      | ((with_reducible refine isRegS 41 ?_ ?_); (· exact rfl); (first | refine awp_textM htb hmz (spWn_ok ih) (fun _ => false) rfl rfl ?_ | refine awp_drawM hmo htb hmz (spWn_ok ih) (fun _ => false) rfl rfl (by kernel_rfl) ?_); intro m' e' l' ob h; simp only [zE0, zE1, zE2, zE3, zE4, zE5, evp, evx, ev1, evLoad, evStore, evBin, isBoolK, forall_const, z38, tb, Nat.reduceAdd, Nat.reduceSub, Nat.reduceMul, Nat.reduceEqDiff, Nat.reduceLeDiff, Nat.reduceLT, Nat.reduceBEq, Nat.reduceBNe, ↓reduceIte, reduceIte, spWn, insS, winsS] at h; obtain ⟨rfl, rfl, rfl, rfl⟩ := h; refine ⟨?_, ?_⟩)
      | ((with_reducible refine Ob.mk ?_); first | exact trivial | (intros; omega) | ((repeat' first | apply And.intro | (intro hg; have hg' := hg; try simp only [zH] at hg')) <;> first | assumption | omega | (simp only [zH]; omega)))
    · refine back (i + 1) [] ?_ (by omega) (by omega)
      (refine ⟨rfl, ?_, ?_⟩ <;> simp only [zE0, zE1, zE2, zE3, zE4, zE5, evp, evx, ev1, evLoad, evStore, evBin, isBoolK, forall_const, z38, tb, Nat.reduceAdd, Nat.reduceSub, Nat.reduceMul, Nat.reduceEqDiff, Nat.reduceLeDiff, Nat.reduceLT, Nat.reduceBEq, Nat.reduceBNe, ↓reduceIte, reduceIte, spWn, insS, winsS, zI])
      exact mix_set
    have hie : i = o.length := by omega
    subst hie
    rw [mix_all]
    refine awp_fzN 7 (.roI ((List.range o.length).map fun _ => top % 2)) (by simp only [lkr_cons, lkr_nil, fzE, fzA, fzR, fzB, set1, nbeq, Nat.reduceEqDiff, decide_true, decide_false, ↓reduceIte, reduceIte, cond_true, cond_false, List.take_length, Option.some.injEq]; rfl) (by first | exact rfl | (refine ⟨?_, rfl⟩; first | rfl | (intros; rfl))) (by simp only [lkr_cons, lkr_nil, fzE, fzA, fzR, fzB, set1, nbeq, Nat.reduceEqDiff, decide_true, decide_false, ↓reduceIte, reduceIte, cond_true, cond_false, List.take_length, Option.some.injEq]; rfl) (by simp only [lkr_cons, lkr_nil, fzE, fzA, fzR, fzB, set1, nbeq, Nat.reduceEqDiff, decide_true, decide_false, ↓reduceIte, reduceIte, cond_true, cond_false, List.take_length, Option.some.injEq]; rfl) ?_
    repeat' first
      | with_reducible first | refine awp_seq ?_ | refine awp_block ?_ | refine next_then ?_ | refine next_block ?_ | refine exit_then ?_ | refine ret_then ?_ | refine ret_block ?_ | refine exit_here ?_ | refine awp_exit ?_ | refine awp_ret ?_ | refine awp_skip ?_ | refine awp_label ?_ | refine next_noGoto ?_ | refine ret_noGoto ?_ | refine exit_noGoto ?_ | refine awp_scope ?_
      | ((with_reducible refine exit_past ?_ ?_); exact rfl)
      | ((with_reducible refine isCond ?_); refine awp_condO rfl ?_ ?_ <;> intro hb <;> (try simp only [zH] at hb))
      | ((with_reducible refine isReg ?_); (first | refine awp_textM htb hmz (spWn_ok ih) (fun _ => false) rfl rfl ?_ | refine awp_drawM hmo htb hmz (spWn_ok ih) (fun _ => false) rfl rfl (by kernel_rfl) ?_); intro m' e' l' ob h; simp only [zE0, zE1, zE2, zE3, zE4, zE5, evp, evx, ev1, evLoad, evStore, evBin, isBoolK, forall_const, z38, tb, Nat.reduceAdd, Nat.reduceSub, Nat.reduceMul, Nat.reduceEqDiff, Nat.reduceLeDiff, Nat.reduceLT, Nat.reduceBEq, Nat.reduceBNe, ↓reduceIte, reduceIte, spWn, insS, winsS] at h; obtain ⟨rfl, rfl, rfl, rfl⟩ := h; refine ⟨?_, ?_⟩)
      | ((with_reducible refine Ob.mk ?_); first | exact trivial | (intros; omega) | ((repeat' first | apply And.intro | (intro hg; have hg' := hg; try simp only [zH] at hg')) <;> first | assumption | omega | (simp only [zH]; omega)))
    refine fin_ret rfl rfl (spec_flat rfl ?_ rfl)
    refine congrArg AV.roI ?_
    unfold winL
    refine List.map_congr_left fun v hv => ?_
    rw [hwz, if_neg (by omega), if_pos hall]
  obtain ⟨vf, hvf1, hvf2⟩ := hsF.1 hb
  have hIl : (insL ⟨o, p, x⟩ keep (1 - top % 2) L).length = o.length := insL_len
  have hIg : ∀ v, v < o.length → (insL ⟨o, p, x⟩ keep (1 - top % 2) L).getD v false = attB (fun v => o.getD v 0) (rws x) (bF keep) F (1 - top % 2) v := fun v hv => by rw [← hFf]; exact insL_getD hv
  generalize insL ⟨o, p, x⟩ keep (1 - top % 2) L = I at *
  refine awp_loopC (τ := Nat) (fun i => i ≤ o.length) (fun i => ⟨66, [(153, .int .i64 i), (152, .int .i64 keep.length), (151, .roB keep), (25, .own 61), (24, .roB I), (10, .int .i64 (top % 2)), (6, .own 7), (5, .int .i64 o.length), (2, (.rop (.agg (.cons (.roI o) (.cons (.roI p) (.cons (.roII x) .nil)))))), (1, .roB keep)], [(7, some (.ints (List.replicate o.length 0))), (61, some (.bools (mix (fun v => bF keep v && !I.getD v false) (fun _ => false) o.length i)))], []⟩) (fun i => o.length - i) 0 [] ?_ (Nat.zero_le _) ?_
  · (refine ⟨rfl, ?_, ?_⟩ <;> simp only [zE0, zE1, zE2, zE3, zE4, zE5, evp, evx, ev1, evLoad, evStore, evBin, isBoolK, forall_const, z38, tb, Nat.reduceAdd, Nat.reduceSub, Nat.reduceMul, Nat.reduceEqDiff, Nat.reduceLeDiff, Nat.reduceLT, Nat.reduceBEq, Nat.reduceBNe, ↓reduceIte, reduceIte, spWn, insS, winsS, zI])
    exact hz _
  intro i hi
  have hml1 := hml (fun v => bF keep v && !I.getD v false) i
  repeat' first
    | with_reducible first | refine awp_seq ?_ | refine awp_block ?_ | refine next_then ?_ | refine next_block ?_ | refine exit_then ?_ | refine ret_then ?_ | refine ret_block ?_ | refine exit_here ?_ | refine awp_exit ?_ | refine awp_ret ?_ | refine awp_skip ?_ | refine awp_label ?_ | refine next_noGoto ?_ | refine ret_noGoto ?_ | refine exit_noGoto ?_ | refine awp_scope ?_
    | ((with_reducible refine exit_past ?_ ?_); exact rfl)
    | ((with_reducible refine isCond ?_); refine awp_condO rfl ?_ ?_ <;> intro hb <;> (try simp only [zH] at hb))
    | ((with_reducible refine isRegS 49 ?_ ?_); (· exact rfl); (first | refine awp_textM htb hmz (spWn_ok ih) (fun _ => false) rfl rfl ?_ | refine awp_drawM hmo htb hmz (spWn_ok ih) (fun _ => false) rfl rfl (by kernel_rfl) ?_); intro m' e' l' ob h; simp only [zE0, zE1, zE2, zE3, zE4, zE5, evp, evx, ev1, evLoad, evStore, evBin, isBoolK, forall_const, z38, tb, Nat.reduceAdd, Nat.reduceSub, Nat.reduceMul, Nat.reduceEqDiff, Nat.reduceLeDiff, Nat.reduceLT, Nat.reduceBEq, Nat.reduceBNe, ↓reduceIte, reduceIte, spWn, insS, winsS] at h; obtain ⟨rfl, rfl, rfl, rfl⟩ := h; refine ⟨?_, ?_⟩)
    | ((with_reducible refine Ob.mk ?_); first | exact trivial | (intros; omega) | ((repeat' first | apply And.intro | (intro hg; have hg' := hg; try simp only [zH] at hg')) <;> first | assumption | omega | (simp only [zH]; omega)))
  · refine back (i + 1) [] ?_ (by omega) (by omega)
    (refine ⟨rfl, ?_, ?_⟩ <;> simp only [zE0, zE1, zE2, zE3, zE4, zE5, evp, evx, ev1, evLoad, evStore, evBin, isBoolK, forall_const, z38, tb, Nat.reduceAdd, Nat.reduceSub, Nat.reduceMul, Nat.reduceEqDiff, Nat.reduceLeDiff, Nat.reduceLT, Nat.reduceBEq, Nat.reduceBNe, ↓reduceIte, reduceIte, spWn, insS, winsS, zI])
    exact mix_set
  have hie : i = o.length := by omega
  subst hie
  rw [mix_all]
  refine awp_fzN 61 (.roB ((List.range o.length).map fun v => bF keep v && !I.getD v false)) (by simp only [lkr_cons, lkr_nil, fzE, fzA, fzR, fzB, set1, nbeq, Nat.reduceEqDiff, decide_true, decide_false, ↓reduceIte, reduceIte, cond_true, cond_false, List.take_length, Option.some.injEq]; rfl) (by first | exact rfl | (refine ⟨?_, rfl⟩; first | rfl | (intros; rfl))) (by simp only [lkr_cons, lkr_nil, fzE, fzA, fzR, fzB, set1, nbeq, Nat.reduceEqDiff, decide_true, decide_false, ↓reduceIte, reduceIte, cond_true, cond_false, List.take_length, Option.some.injEq]; rfl) (by simp only [lkr_cons, lkr_nil, fzE, fzA, fzR, fzB, set1, nbeq, Nat.reduceEqDiff, decide_true, decide_false, ↓reduceIte, reduceIte, cond_true, cond_false, List.take_length, Option.some.injEq]; rfl) ?_
  have hQl : ((List.range o.length).map fun v => bF keep v && !I.getD v false).length = o.length := by simp
  have hQf : bF ((List.range o.length).map fun v => bF keep v && !I.getD v false) = fun u => bF keep u && !attB (fun v => o.getD v 0) (rws x) (bF keep) F (1 - top % 2) u := by
    rw [bF_map fun v hv => by rw [bF_out (by omega)]; rfl]
    funext v
    by_cases h : v < o.length
    · rw [hIg v h]
    · rw [bF_out (by omega)]; rfl
  rw [← hQf] at hwz
  have hcQ : cntZ o.length (bF ((List.range o.length).map fun v => bF keep v && !I.getD v false)) < k := by
    have hvk : bF keep vf = true := hRk vf (by
      rw [← hFw] at hvf2
      have hvf2 : (bF R vf && decide _) = true := hvf2
      rw [Bool.and_eq_true] at hvf2; exact hvf2.1)
    have := cnt_lt (n := o.length) (K := bF keep) (K' := bF ((List.range o.length).map fun v => bF keep v && !I.getD v false)) (fun u hu => by
      rw [hQf] at hu
      have hu : (bF keep u && !attB _ _ _ _ _ u) = true := hu
      rw [Bool.and_eq_true] at hu; exact hu.1) hvf1 hvk (by
      rw [hQf]
      show (bF keep vf && !attB _ _ _ _ _ vf) = false
      rw [attB_in hvf2]; simp)
    omega
  generalize (List.range o.length).map (fun v => bF keep v && !I.getD v false) = Q at *
  repeat' first
    | with_reducible first | refine awp_seq ?_ | refine awp_block ?_ | refine next_then ?_ | refine next_block ?_ | refine exit_then ?_ | refine ret_then ?_ | refine ret_block ?_ | refine exit_here ?_ | refine awp_exit ?_ | refine awp_ret ?_ | refine awp_skip ?_ | refine awp_label ?_ | refine next_noGoto ?_ | refine ret_noGoto ?_ | refine exit_noGoto ?_ | refine awp_scope ?_
    | ((with_reducible refine exit_past ?_ ?_); exact rfl)
    | ((with_reducible refine isCond ?_); refine awp_condO rfl ?_ ?_ <;> intro hb <;> (try simp only [zH] at hb))
    | ((with_reducible refine isRegS 50 ?_ ?_); (· exact rfl); (first | refine awp_textM htb hmz (spWn_ok ih) (fun _ => false) rfl rfl ?_ | refine awp_drawM hmo htb hmz (spWn_ok ih) (fun _ => false) rfl rfl (by kernel_rfl) ?_); intro m' e' l' ob h; simp only [zE0, zE1, zE2, zE3, zE4, zE5, evp, evx, ev1, evLoad, evStore, evBin, isBoolK, forall_const, z38, tb, Nat.reduceAdd, Nat.reduceSub, Nat.reduceMul, Nat.reduceEqDiff, Nat.reduceLeDiff, Nat.reduceLT, Nat.reduceBEq, Nat.reduceBNe, ↓reduceIte, reduceIte, spWn, insS, winsS] at h; obtain ⟨rfl, rfl, rfl, rfl⟩ := h; refine ⟨?_, ?_⟩)
    | ((with_reducible refine Ob.mk ?_); first | exact trivial | (intros; omega) | ((repeat' first | apply And.intro | (intro hg; have hg' := hg; try simp only [zH] at hg')) <;> first | assumption | omega | (simp only [zH]; omega)))
  have hWl : (winL ⟨o, p, x⟩ k (bF Q)).length = o.length := winL_len
  have hWg : ∀ v, v < o.length → (winL ⟨o, p, x⟩ k (bF Q)).getD v 0 = winG ⟨o, p, x⟩ k (bF Q) v := fun v hv => winL_getD hv
  generalize winL ⟨o, p, x⟩ k (bF Q) = Wn at *
  have hzi : ∀ f : Nat → Int, List.replicate o.length (0 : Int) = mix f (fun _ => 0) o.length 0 := fun c => List.ext_getElem (by simp [mix]) fun j h1 h2 => by simp [mix]
  repeat' first
    | with_reducible first | refine awp_seq ?_ | refine awp_block ?_ | refine next_then ?_ | refine next_block ?_ | refine exit_then ?_ | refine ret_then ?_ | refine ret_block ?_ | refine exit_here ?_ | refine awp_exit ?_ | refine awp_ret ?_ | refine awp_skip ?_ | refine awp_label ?_ | refine next_noGoto ?_ | refine ret_noGoto ?_ | refine exit_noGoto ?_ | refine awp_scope ?_
    | ((with_reducible refine exit_past ?_ ?_); exact rfl)
    | ((with_reducible refine isCond ?_); refine awp_condO rfl ?_ ?_ <;> intro hb <;> (try simp only [zH] at hb))
    | ((with_reducible refine isReg ?_); (first | refine awp_textM htb hmz (spWn_ok ih) (fun _ => false) rfl rfl ?_ | refine awp_drawM hmo htb hmz (spWn_ok ih) (fun _ => false) rfl rfl (by kernel_rfl) ?_); intro m' e' l' ob h; simp only [zE0, zE1, zE2, zE3, zE4, zE5, evp, evx, ev1, evLoad, evStore, evBin, isBoolK, forall_const, z38, tb, Nat.reduceAdd, Nat.reduceSub, Nat.reduceMul, Nat.reduceEqDiff, Nat.reduceLeDiff, Nat.reduceLT, Nat.reduceBEq, Nat.reduceBNe, ↓reduceIte, reduceIte, spWn, insS, winsS] at h; obtain ⟨rfl, rfl, rfl, rfl⟩ := h; refine ⟨?_, ?_⟩)
    | ((with_reducible refine Ob.mk ?_); first | exact trivial | (intros; omega) | ((repeat' first | apply And.intro | (intro hg; have hg' := hg; try simp only [zH] at hg')) <;> first | assumption | omega | (simp only [zH]; omega)))
  obtain ⟨f, hf⟩ : ∃ f : Nat → Int, f = fun v => if I.getD v false = true then 1 - top % 2 else Wn.getD v 0 := ⟨_, rfl⟩
  have hfin : ∀ v, v < o.length → f v = winG ⟨o, p, x⟩ (k + 1) (bF keep) v := fun v hv => by
    rw [hwz, if_neg (by omega), if_neg (fun h => ?_), hf]
    · dsimp only
      rw [hIg v hv, hWg v hv]
    · rw [← hFw] at hvf2
      have hvf2 : (bF R vf && decide _) = true := hvf2
      rw [Bool.and_eq_true, decide_eq_true_eq] at hvf2
      exact hvf2.2 (h vf hvf1 hvf2.1)
  clear hWg hQf hcQ hwz hIg hFw hFo hFf hsF hvf1 hvf2 hF hFi hBg hRk hcR hml1 hml hz hve1 hve2 hve3 hT60 hpr hV hv hck hl
  refine awp_loopC (τ := Nat) (fun i => i ≤ o.length) (fun i => ⟨74, [(175, .int .i64 i), (174, .int .i64 o.length), (28, .roI Wn), (24, .roB I), (10, .int .i64 (top % 2)), (6, .own 7)], [(7, some (.ints (mix f (fun _ => 0) o.length i)))], []⟩) (fun i => o.length - i) 0 [] ?_ (Nat.zero_le _) ?_
  · (refine ⟨rfl, ?_, ?_⟩ <;> simp only [zE0, zE1, zE2, zE3, zE4, zE5, evp, evx, ev1, evLoad, evStore, evBin, isBoolK, forall_const, z38, tb, Nat.reduceAdd, Nat.reduceSub, Nat.reduceMul, Nat.reduceEqDiff, Nat.reduceLeDiff, Nat.reduceLT, Nat.reduceBEq, Nat.reduceBNe, ↓reduceIte, reduceIte, spWn, insS, winsS, zI])
    · rw [List.length_replicate]
    · exact hzi _
  intro i hi
  have hml2 : (mix f (fun _ => 0) o.length i).length = o.length := mix_len
  have hml3 : ((mix f (fun _ => 0) o.length i).set i (Wn.getD i 0)).length = o.length := by rw [List.length_set, hml2]
  have hms : (mix f (fun _ => 0) o.length i).set i (f i) = mix f (fun _ => 0) o.length (i + 1) := mix_set
  have hfi : f i = if I.getD i false = true then 1 - top % 2 else Wn.getD i 0 := by rw [hf]
  repeat' first
    | with_reducible first | refine awp_seq ?_ | refine awp_block ?_ | refine next_then ?_ | refine next_block ?_ | refine exit_then ?_ | refine ret_then ?_ | refine ret_block ?_ | refine exit_here ?_ | refine awp_exit ?_ | refine awp_ret ?_ | refine awp_skip ?_ | refine awp_label ?_ | refine next_noGoto ?_ | refine ret_noGoto ?_ | refine exit_noGoto ?_ | refine awp_scope ?_
    | ((with_reducible refine exit_past ?_ ?_); exact rfl)
    | ((with_reducible refine isCond ?_); refine awp_condO rfl ?_ ?_ <;> intro hb <;> (try simp only [zH] at hb))
    | ((with_reducible refine isRegS 57 ?_ ?_); (· exact rfl); (first | refine awp_textM htb hmz (spWn_ok ih) (fun _ => false) rfl rfl ?_ | refine awp_drawM hmo htb hmz (spWn_ok ih) (fun _ => false) rfl rfl (by kernel_rfl) ?_); intro m' e' l' ob h; simp only [zE0, zE1, zE2, zE3, zE4, zE5, evp, evx, ev1, evLoad, evStore, evBin, isBoolK, forall_const, z38, tb, Nat.reduceAdd, Nat.reduceSub, Nat.reduceMul, Nat.reduceEqDiff, Nat.reduceLeDiff, Nat.reduceLT, Nat.reduceBEq, Nat.reduceBNe, ↓reduceIte, reduceIte, spWn, insS, winsS] at h; obtain ⟨rfl, rfl, rfl, rfl⟩ := h; refine ⟨?_, ?_⟩)
    | ((with_reducible refine Ob.mk ?_); first | exact trivial | (intros; omega) | ((repeat' first | apply And.intro | (intro hg; have hg' := hg; try simp only [zH] at hg')) <;> first | assumption | omega | (simp only [zH]; omega)))
  · rw [if_pos hb] at hfi
    refine back (i + 1) [] ?_ (by omega) (by omega)
    (refine ⟨rfl, ?_, ?_⟩ <;> simp only [zE0, zE1, zE2, zE3, zE4, zE5, evp, evx, ev1, evLoad, evStore, evBin, isBoolK, forall_const, z38, tb, Nat.reduceAdd, Nat.reduceSub, Nat.reduceMul, Nat.reduceEqDiff, Nat.reduceLeDiff, Nat.reduceLT, Nat.reduceBEq, Nat.reduceBNe, ↓reduceIte, reduceIte, spWn, insS, winsS, zI])
    rw [← hms, hfi, List.set_set]
  · rw [if_neg (by rw [hb]; decide)] at hfi
    refine back (i + 1) [] ?_ (by omega) (by omega)
    (refine ⟨rfl, ?_, ?_⟩ <;> simp only [zE0, zE1, zE2, zE3, zE4, zE5, evp, evx, ev1, evLoad, evStore, evBin, isBoolK, forall_const, z38, tb, Nat.reduceAdd, Nat.reduceSub, Nat.reduceMul, Nat.reduceEqDiff, Nat.reduceLeDiff, Nat.reduceLT, Nat.reduceBEq, Nat.reduceBNe, ↓reduceIte, reduceIte, spWn, insS, winsS, zI])
    rw [← hms, hfi]
  have hie : i = o.length := by omega
  subst hie
  rw [mix_all]
  refine awp_fzN 7 (.roI ((List.range o.length).map f)) (by simp only [lkr_cons, lkr_nil, fzE, fzA, fzR, fzB, set1, nbeq, Nat.reduceEqDiff, decide_true, decide_false, ↓reduceIte, reduceIte, cond_true, cond_false, List.take_length, Option.some.injEq]; rfl) (by first | exact rfl | (refine ⟨?_, rfl⟩; first | rfl | (intros; rfl))) (by simp only [lkr_cons, lkr_nil, fzE, fzA, fzR, fzB, set1, nbeq, Nat.reduceEqDiff, decide_true, decide_false, ↓reduceIte, reduceIte, cond_true, cond_false, List.take_length, Option.some.injEq]; rfl) (by simp only [lkr_cons, lkr_nil, fzE, fzA, fzR, fzB, set1, nbeq, Nat.reduceEqDiff, decide_true, decide_false, ↓reduceIte, reduceIte, cond_true, cond_false, List.take_length, Option.some.injEq]; rfl) ?_
  repeat' first
    | with_reducible first | refine awp_seq ?_ | refine awp_block ?_ | refine next_then ?_ | refine next_block ?_ | refine exit_then ?_ | refine ret_then ?_ | refine ret_block ?_ | refine exit_here ?_ | refine awp_exit ?_ | refine awp_ret ?_ | refine awp_skip ?_ | refine awp_label ?_ | refine next_noGoto ?_ | refine ret_noGoto ?_ | refine exit_noGoto ?_ | refine awp_scope ?_
    | ((with_reducible refine exit_past ?_ ?_); exact rfl)
    | ((with_reducible refine isCond ?_); refine awp_condO rfl ?_ ?_ <;> intro hb <;> (try simp only [zH] at hb))
    | ((with_reducible refine isReg ?_); (first | refine awp_textM htb hmz (spWn_ok ih) (fun _ => false) rfl rfl ?_ | refine awp_drawM hmo htb hmz (spWn_ok ih) (fun _ => false) rfl rfl (by kernel_rfl) ?_); intro m' e' l' ob h; simp only [zE0, zE1, zE2, zE3, zE4, zE5, evp, evx, ev1, evLoad, evStore, evBin, isBoolK, forall_const, z38, tb, Nat.reduceAdd, Nat.reduceSub, Nat.reduceMul, Nat.reduceEqDiff, Nat.reduceLeDiff, Nat.reduceLT, Nat.reduceBEq, Nat.reduceBNe, ↓reduceIte, reduceIte, spWn, insS, winsS] at h; obtain ⟨rfl, rfl, rfl, rfl⟩ := h; refine ⟨?_, ?_⟩)
    | ((with_reducible refine Ob.mk ?_); first | exact trivial | (intros; omega) | ((repeat' first | apply And.intro | (intro hg; have hg' := hg; try simp only [zH] at hg')) <;> first | assumption | omega | (simp only [zH]; omega)))
  refine fin_ret rfl rfl (spec_flat rfl ?_ rfl)
  refine congrArg AV.roI ?_
  unfold winL
  refine List.map_congr_left fun v hv => ?_
  have hv := List.mem_range.1 hv
  exact hfin v hv
theorem wins_ok : ∀ k, FSpec Try.prog 30 (winsS k)
  | 0 => wins0_ok
  | k + 1 => wins_step (wins_ok k)
end Go.Proofs.Ytlckljphakkomaa.Cal
