/- Own texts of the proof, merged, in order. -/
import Derived.Test.YtgminhedbeblpaaS22
set_option linter.unusedVariables false
set_option linter.unusedSimpArgs false
namespace Go.Proofs.Ytgminhedbeblpaa.Cal
open Go Pl
section
variable {P : Program} {ro : Option Nat} {N κ : Nat}
/-- What is said of a slice's elements counts as far as the slice goes. -/
theorem awp_avs {c : Code} {m : Nat} {env : List (Nat × AV)} {rs : List (Nat × Option Blk)} {ms : List Nat} {Q : Exit → St → Prop} (k : Nat) {sz n : Nat} {f : Nat → AV} (f' : Nat → AV) (hk : lkr rs k = some (.avs sz n f)) (hf : ∀ j, j < n → f j = f' j) {rs' : List (Nat × Option Blk)} (hrs : set1 k (.avs sz n f') rs = rs')
    (h : awp P ro N κ c (CS.st ⟨m, env, rs', ms⟩) Q) : awp P ro N κ c (CS.st ⟨m, env, rs, ms⟩) Q := by
  intro n0 K Z ν w a hg
  refine h n0 K Z ν w a { hg with rs := ?_ }
  subst hrs
  obtain ⟨Ft, hF⟩ := hg.rs
  have e : (CS.st ⟨m, env, set1 k (.avs sz n f') rs, ms⟩).rs = fun j => if j = k then some (.avs sz n f') else lkr rs j := lkr_set1
  refine ⟨Ft, fun j b hj => ?_⟩
  rw [e] at hj
  have hold : ∀ j' b', (CS.st ⟨m, env, set1 k (.avs sz n f') rs, ms⟩).rs j' = some b' → ∃ b0, lkr rs j' = some b0 := fun j' b' h' => by
    rw [e] at h'
    dsimp only at h'
    by_cases h1 : j' = k
    · rw [h1]; exact ⟨_, hk⟩
    · rw [if_neg h1] at h'; exact ⟨_, h'⟩
  dsimp only at hj
  by_cases h1 : j = k
  · rw [if_pos h1] at hj
    cases hj
    subst h1
    obtain ⟨a1, a2, a3, a4, a5⟩ := hF j _ hk
    refine ⟨a1, fun i hi => ?_, ?_, a4, fun j' b' hne hj' => ?_⟩
    · rw [← hf i hi]; exact a2 i hi
    · exact row_mono (fun _ _ => rfl) (fun i es hi h => by rw [← hf i hi]; exact h) a3
    · obtain ⟨b0, h0⟩ := hold j' b' hj'
      exact a5 j' b0 hne h0
  · rw [if_neg h1] at hj
    obtain ⟨a1, a2, a3, a4, a5⟩ := hF j b hj
    refine ⟨a1, a2, a3, a4, fun j' b' hne hj' => ?_⟩
    obtain ⟨b0, h0⟩ := hold j' b' hj'
    exact a5 j' b0 hne h0
end
/-- The first i measures made, all nought. -/
def msZ (n i j : Nat) : AV := if j < i then msA (false, List.replicate n 0) else .agg (.cons (.bool false) (.cons (.cst (.slice none 0 0)) .nil))
theorem msZ_self {n i : Nat} : msZ n i i = .agg (.cons (.bool false) (.cons (.cst (.slice none 0 0)) .nil)) := if_neg (Nat.lt_irrefl _)
theorem msZ_zero {n : Nat} : (fun _ => AV.agg (.cons (.bool false) (.cons (.cst (.slice none 0 0)) .nil))) = msZ n 0 := by
  funext j; unfold msZ; rw [if_neg (Nat.not_lt_zero _)]
theorem msZ_men {μ : Nat → Bool} {n i j : Nat} : men μ (msZ n i j) = true := by unfold msZ; split <;> rfl
theorem msZ_ren {ρ : Nat → Nat} {n i j : Nat} : ren ρ (msZ n i j) = msZ n i j := by unfold msZ; split <;> rfl
theorem msZ_next {n i : Nat} : (fun j => if j = i then AV.agg (.cons (.bool false) (.cons (.roI (List.replicate n 0)) .nil)) else msZ n i j) = msZ n (i + 1) := by
  funext j
  unfold msZ msA
  by_cases h : j = i
  · rw [if_pos h, if_pos (by omega)]
  · rw [if_neg h]
    by_cases h2 : j < i
    · rw [if_pos h2, if_pos (by omega)]
    · rw [if_neg h2, if_neg (by omega)]
structure QSt where
  l : List Int
  th : List Bool
  w : List Nat
  left : Int
/-- A slice of measures, seen as numbers. -/
theorem mlF_is {g : Gm} {many l : List Int} (hp : posL many) (h : LR g many l) : mlF many g.own.length (fun j => deM many (l.getD j 0)) = l := by
  refine List.ext_getElem (by simp [mlF, h.len]) fun j h1 h2 => ?_
  have hj : j < g.own.length := by rw [← h.len]; exact h2
  have h3 := h.rng j hj
  have := (en_de hp h3.1 h3.2).1
  simp only [mlF, List.getElem_map, List.getElem_range]
  show enM many (deM many (l.getD j 0)) = _
  rw [this, List.getD_eq_getElem?_getD, List.getElem?_eq_getElem h2]; rfl
theorem qm_raise {g : Gm} {many l : List Int} {w w' : List Nat} {v : Nat} {V : Int} (h : LR g many (l.set v V)) (hv : v < l.length) (hlt : l.getD v 0 < V) (hw : w'.length ≤ g.own.length) : qm g many (l.set v V) w' < qm g many l w := by
  have h1 := LR_sum h
  rw [sum_set hv] at h1
  unfold qm
  rw [sum_set hv]
  generalize (g.own.length : Int) * rpr many = X at *
  have h2 : (X - (l.sum - l.getD v 0 + V)).toNat + 1 ≤ (X - l.sum).toNat := by omega
  have h3 := Nat.mul_le_mul_right (g.own.length + 1) h2
  rw [Nat.add_mul, Nat.one_mul] at h3
  omega
theorem ms_set {many l : List Int} {v : Nat} {V : Int} (hv : v < l.length) : (fun j => if j = v then AV.agg (.cons (.bool (deM many V).1) (.cons (.roI (deM many V).2) .nil)) else .agg (.cons (.bool (deM many (l.getD j 0)).1) (.cons (.roI (deM many (l.getD j 0)).2) .nil))) = fun j => AV.agg (.cons (.bool (deM many ((l.set v V).getD j 0)).1) (.cons (.roI (deM many ((l.set v V).getD j 0)).2) .nil)) := by
  funext j
  rw [getD_set hv]
  by_cases h : j = v
  · rw [if_pos h, if_pos h]
  · rw [if_neg h, if_neg h]
structure QIn where
  th : List Bool
  w : List Nat
  r : Nat
noncomputable def spMs : Nat → Option Spec
  | 49 => some bestS
  | 50 => some lessS
  | _ => none
theorem spMs_ok : SpOK Try.prog spMs := by
  intro f S h
  unfold spMs at h
  split at h
  · cases h; exact best_ok
  · cases h; exact less_ok
  · cases h
noncomputable def measuresS : Spec
  | [.agg (.cons (.roI odd) (.cons (.roI many) .nil)), .agg (.cons (.roI o) (.cons (.roI p) (.cons (.roII x) .nil)))] =>
    some ⟨SOK odd many ∧ validB ⟨o, p, x⟩ = true ∧ o.length ≤ 12 ∧ rpr many ≤ 4096, .tup (.cons (.own 0) (.cons (.bool true) .nil)), some (.avs 2 o.length fun j => msA (deM many ((leastL ⟨o, p, x⟩ odd many).getD j 0)))⟩
  | _ => none
set_option maxRecDepth 4000 in
set_option maxHeartbeats 4000000 in
theorem measures_ok : FSpec Try.prog 31 measuresS := by
  refine fspec_of htb (fn := Try.f31) (by kernel_rfl) (by kernel_rfl) rfl (fun args r hS => ?_) (fun args r hS hob hl => ?_)
  · unfold measuresS at hS; split at hS <;> first | (cases hS; done) | (cases hS; exact Nat.le_of_ble_eq_true rfl)
  unfold measuresS at hS
  split at hS
  case h_2 => cases hS
  rename_i odd many o p x
  simp only [Option.some.injEq] at hS
  subst hS
  simp only [lenP, mkL, lim] at hl
  dsimp only at hob
  obtain ⟨hS, hv, hn12, hP4⟩ := hob
  have hV := validB_iff.1 hv
  obtain ⟨hn, hpl, hxl, hpos⟩ := id hV
  simp only [Gm.n] at hn hpl hxl
  have hrl : ∀ v, v < o.length → (x.getD v []).length ≤ 64 := fun v h => by
    obtain ⟨⟨a1, a2, a3, a4, _, a6⟩, _⟩ := hpos v (by simp only [Gm.n]; omega)
    exact a6
  have hrb : ∀ v, v < o.length → ∀ j, j < (x.getD v []).length → 0 ≤ (x.getD v []).getD j 0 ∧ (x.getD v []).getD j 0 < o.length := fun v h j hj => by
    obtain ⟨_, hr⟩ := hpos v (by simp only [Gm.n]; omega)
    exact ⟨(hr j hj).1, (hr j hj).2.1⟩
  have hS2 := hS.l100
  have hb4 : ∀ i t, i ≤ x.length → (bkI x t i).length ≤ 64 * i := fun i t h => bkI_len (fun v hv => hrl v (by omega)) i h
  repeat' first
    | with_reducible first | refine awp_seq ?_ | refine awp_block ?_ | refine next_then ?_ | refine next_block ?_ | refine exit_then ?_ | refine ret_then ?_ | refine ret_block ?_ | refine exit_here ?_ | refine awp_exit ?_ | refine awp_ret ?_ | refine awp_skip ?_ | refine awp_label ?_ | refine next_noGoto ?_ | refine ret_noGoto ?_ | refine exit_noGoto ?_ | refine awp_scope ?_
    | ((with_reducible refine exit_past ?_ ?_); exact rfl)
    | ((with_reducible refine isCond ?_); refine awp_condO rfl ?_ ?_ <;> intro hb <;> (try simp only [zH] at hb))
    | ((with_reducible refine isReg ?_); (first | refine awp_textM htb hmz spMs_ok (fun _ => false) rfl rfl ?_ | refine awp_drawM hmo htb hmz spMs_ok (fun _ => false) rfl rfl (by kernel_rfl) ?_); intro m' e' l' ob h; simp only [zE0, zE1, zE2, zE3, zE4, zE5, evp, evx, ev1, evLoad, evStore, evBin, isBoolK, forall_const, z38, tb, Nat.reduceAdd, Nat.reduceSub, Nat.reduceMul, Nat.reduceEqDiff, Nat.reduceLeDiff, Nat.reduceLT, Nat.reduceBEq, Nat.reduceBNe, ↓reduceIte, reduceIte, spMs, bestS, lessS, msA, msZ_self, msZ_men, msZ_ren] at h; obtain ⟨rfl, rfl, rfl, rfl⟩ := h; refine ⟨?_, ?_⟩)
    | ((with_reducible refine Ob.mk ?_); first | exact trivial | (intros; omega) | ((repeat' first | apply And.intro | (intro hg; have hg' := hg; try simp only [zH] at hg')) <;> first | assumption | omega | (simp only [zH]; omega)))
  refine awp_nilbox 16 (.ints []) (.own 24) rfl rfl rfl (by first | exact .inl rfl | exact .inr (.inl rfl) | exact .inr (.inr (.inl rfl)) | exact .inr (.inr (.inr rfl))) (by simp only [lkr_cons, lkr_nil, fzE, fzA, fzR, fzB, set1, nbeq, Nat.reduceEqDiff, decide_true, decide_false, ↓reduceIte, reduceIte, cond_true, cond_false, List.take_length, Option.some.injEq] <;> rfl) rfl ?_
  refine awp_loopC (τ := Nat) (fun i => i ≤ o.length) (fun i => ⟨25, [(31, .int .i64 i), (30, .int .i64 o.length), (10, .own 19), (9, .own 16), (8, .own 13), (7, .own 12), (5, .own 3), (4, .own 2), (3, .rop (.agg (.cons (.roI o) (.cons (.roI p) (.cons (.roII x) .nil))))), (2, .rop (.agg (.cons (.roI odd) (.cons (.roI many) .nil))))],
    [(9, some (.avs 2 o.length (msZ odd.length i))), (11, some (.rows ((List.range x.length).map fun t => bkI x t i))), (12, some (.box (.own 9))), (13, some (.box (.own 11))), (16, some (.box (.own 24))), (24, some (.ints ((List.range i).map fun v : Nat => (v : Int)))), (18, some (.bools (mix (fun _ => true) (fun _ => false) o.length i))), (19, some (.box (.own 18))), (2, some (.box (.cst (Value.slice none 0 0)))), (3, some (.box (.bool false)))], []⟩) (fun i => o.length - i) 0 [] ?_ (Nat.zero_le _) ?_
  · refine ⟨rfl, ?_, ?_⟩ <;> simp only [zE0, zE1, zE2, zE3, zE4, zE5, evp, evx, ev1, evLoad, evStore, evBin, isBoolK, forall_const, z38, tb, Nat.reduceAdd, Nat.reduceSub, Nat.reduceMul, Nat.reduceEqDiff, Nat.reduceLeDiff, Nat.reduceLT, Nat.reduceBEq, Nat.reduceBNe, ↓reduceIte, reduceIte, spMs, bestS, lessS, msA, msZ_self, msZ_men, msZ_ren, zI]
    refine ⟨congrArg (Blk.avs 2 o.length) msZ_zero, List.ext_getElem (by simp [hxl]) fun j h1 h2 => by simp [bkI], rfl, List.ext_getElem (by simp [mix]) fun j h1 h2 => by simp [mix]⟩
  intro i hi
  have hml : (mix (fun _ => true) (fun _ => false) o.length i).length = o.length := mix_len
  have hrg : ((List.range i).map fun v : Nat => (v : Int)).length = i := by simp
  repeat' first
    | with_reducible first | refine awp_seq ?_ | refine awp_block ?_ | refine next_then ?_ | refine next_block ?_ | refine exit_then ?_ | refine ret_then ?_ | refine ret_block ?_ | refine exit_here ?_ | refine awp_exit ?_ | refine awp_ret ?_ | refine awp_skip ?_ | refine awp_label ?_ | refine next_noGoto ?_ | refine ret_noGoto ?_ | refine exit_noGoto ?_ | refine awp_scope ?_
    | ((with_reducible refine exit_past ?_ ?_); exact rfl)
    | ((with_reducible refine isCond ?_); refine awp_condO rfl ?_ ?_ <;> intro hb <;> (try simp only [zH] at hb))
    | ((with_reducible refine isRegS 8 ?_ ?_); (· exact rfl); (with_reducible refine isRegS 16 ?_ ?_); (· exact rfl); (first | refine awp_textM htb hmz spMs_ok (fun _ => false) rfl rfl ?_ | refine awp_drawM hmo htb hmz spMs_ok (fun _ => false) rfl rfl (by kernel_rfl) ?_); intro m' e' l' ob h; simp only [zE0, zE1, zE2, zE3, zE4, zE5, evp, evx, ev1, evLoad, evStore, evBin, isBoolK, forall_const, z38, tb, Nat.reduceAdd, Nat.reduceSub, Nat.reduceMul, Nat.reduceEqDiff, Nat.reduceLeDiff, Nat.reduceLT, Nat.reduceBEq, Nat.reduceBNe, ↓reduceIte, reduceIte, spMs, bestS, lessS, msA, msZ_self, msZ_men, msZ_ren] at h; obtain ⟨rfl, rfl, rfl, rfl⟩ := h; refine ⟨?_, ?_⟩)
    | ((with_reducible refine Ob.mk ?_); first | exact trivial | (intros; omega) | ((repeat' first | apply And.intro | (intro hg; have hg' := hg; try simp only [zH] at hg')) <;> first | assumption | omega | (simp only [zH]; omega)))
  · have hin : i < o.length := by omega
    (refine awp_drawM hmo htb hmz spMs_ok (fun i => Nat.beq i 5) rfl rfl (by kernel_rfl) ?_; intro m' e' l' ob h; simp only [zE0, zE1, zE2, zE3, zE4, zE5, evp, evx, ev1, evLoad, evStore, evBin, isBoolK, forall_const, z38, tb, Nat.reduceAdd, Nat.reduceSub, Nat.reduceMul, Nat.reduceEqDiff, Nat.reduceLeDiff, Nat.reduceLT, Nat.reduceBEq, Nat.reduceBNe, ↓reduceIte, reduceIte, spMs, bestS, lessS, msA, msZ_self, msZ_men, msZ_ren] at h; obtain ⟨rfl, rfl, rfl, rfl⟩ := h; refine ⟨?_, ?_⟩)
    · first | ((with_reducible refine Ob.mk ?_); first | exact trivial | (intros; omega) | ((repeat' first | apply And.intro | (intro hg; have hg' := hg; try simp only [zH] at hg')) <;> first | assumption | omega | (simp only [zH]; omega))) | skip
    repeat' first
      | with_reducible first | refine awp_seq ?_ | refine awp_block ?_ | refine next_then ?_ | refine next_block ?_ | refine exit_then ?_ | refine ret_then ?_ | refine ret_block ?_ | refine exit_here ?_ | refine awp_exit ?_ | refine awp_ret ?_ | refine awp_skip ?_ | refine awp_label ?_ | refine next_noGoto ?_ | refine ret_noGoto ?_ | refine exit_noGoto ?_ | refine awp_scope ?_
      | ((with_reducible refine exit_past ?_ ?_); exact rfl)
      | ((with_reducible refine isCond ?_); refine awp_condO rfl ?_ ?_ <;> intro hb <;> (try simp only [zH] at hb))
      | ((with_reducible refine isRegS 11 ?_ ?_); (· exact rfl); (first | refine awp_textM htb hmz spMs_ok (fun _ => false) rfl rfl ?_ | refine awp_drawM hmo htb hmz spMs_ok (fun _ => false) rfl rfl (by kernel_rfl) ?_); intro m' e' l' ob h; simp only [zE0, zE1, zE2, zE3, zE4, zE5, evp, evx, ev1, evLoad, evStore, evBin, isBoolK, forall_const, z38, tb, Nat.reduceAdd, Nat.reduceSub, Nat.reduceMul, Nat.reduceEqDiff, Nat.reduceLeDiff, Nat.reduceLT, Nat.reduceBEq, Nat.reduceBNe, ↓reduceIte, reduceIte, spMs, bestS, lessS, msA, msZ_self, msZ_men, msZ_ren] at h; obtain ⟨rfl, rfl, rfl, rfl⟩ := h; refine ⟨?_, ?_⟩)
      | ((with_reducible refine Ob.mk ?_); first | exact trivial | (intros; omega) | ((repeat' first | apply And.intro | (intro hg; have hg' := hg; try simp only [zH] at hg')) <;> first | assumption | omega | (simp only [zH]; omega)))
    have hrb := hrb i hin
    have hrl := hrl i hin
    have hj0 : ∀ t, bkJ x t i (x.getD i []).length = bkI x t (i + 1) := fun t => bkJ_all
    have hjs : ∀ t j, j < (x.getD i []).length → bkJ x t i (j + 1) = if (x.getD i []).getD j 0 = (t : Int) then bkJ x t i j ++ [(i : Int)] else bkJ x t i j := fun t j h => bkJ_succ h
    have hjl : ∀ t j, (bkJ x t i j).length ≤ 64 * i + 64 := fun t j => by
      have h1 := hb4 i t (by omega)
      have h2 : ((x.getD i []).take j).count (t : Int) ≤ ((x.getD i []).take j).length := List.count_le_length
      have h3 : ((x.getD i []).take j).length ≤ (x.getD i []).length := by rw [List.length_take]; omega
      simp only [bkJ, List.length_append, List.length_replicate]; omega
    generalize hrw : x.getD i [] = rw at *
    refine awp_loopC (τ := Nat) (fun j => j ≤ rw.length) (fun j => ⟨53, [(55, .int .i64 j), (54, .int .i64 rw.length), (53, .roI rw), (11, .int .i64 i), (31, .int .i64 i), (30, .int .i64 o.length), (10, .own 19), (9, .own 16), (8, .own 13), (7, .own 12), (5, .own 3), (4, .own 2), (3, .rop (.agg (.cons (.roI o) (.cons (.roI p) (.cons (.roII x) .nil))))), (2, .rop (.agg (.cons (.roI odd) (.cons (.roI many) .nil))))],
      [(9, some (.avs 2 o.length (msZ odd.length (i + 1)))), (11, some (.rows ((List.range x.length).map fun t => bkJ x t i j))), (12, some (.box (.own 9))), (13, some (.box (.own 11))), (16, some (.box (.own 42))), (42, some (.ints ((List.range (i + 1)).map fun v : Nat => (v : Int)))), (18, some (.bools (mix (fun _ => true) (fun _ => false) o.length (i + 1)))), (19, some (.box (.own 18))), (2, some (.box (.cst (Value.slice none 0 0)))), (3, some (.box (.bool false)))], []⟩) (fun j => rw.length - j) 0 [] ?_ (Nat.zero_le _) ?_
    · refine ⟨rfl, ?_, ?_⟩ <;> simp only [zE0, zE1, zE2, zE3, zE4, zE5, evp, evx, ev1, evLoad, evStore, evBin, isBoolK, forall_const, z38, tb, Nat.reduceAdd, Nat.reduceSub, Nat.reduceMul, Nat.reduceEqDiff, Nat.reduceLeDiff, Nat.reduceLT, Nat.reduceBEq, Nat.reduceBNe, ↓reduceIte, reduceIte, spMs, bestS, lessS, msA, msZ_self, msZ_men, msZ_ren, zI, bkJ_zero]
      exact ⟨congrArg (Blk.avs 2 o.length) msZ_next, by rw [List.range_succ, List.map_append]; rfl, mix_set (f := fun _ => true)⟩
    intro j hj
    have hrb := hrb j
    have hget : ∀ t, t < x.length → ((List.range x.length).map fun t => bkJ x t i j).getD t [] = bkJ x t i j := fun t ht => by simp [List.getD_eq_getElem?_getD, ht]
    have hlen : ((List.range x.length).map fun t => bkJ x t i j).length = x.length := by simp
    repeat' first
      | with_reducible first | refine awp_seq ?_ | refine awp_block ?_ | refine next_then ?_ | refine next_block ?_ | refine exit_then ?_ | refine ret_then ?_ | refine ret_block ?_ | refine exit_here ?_ | refine awp_exit ?_ | refine awp_ret ?_ | refine awp_skip ?_ | refine awp_label ?_ | refine next_noGoto ?_ | refine ret_noGoto ?_ | refine exit_noGoto ?_ | refine awp_scope ?_
      | ((with_reducible refine exit_past ?_ ?_); exact rfl)
      | ((with_reducible refine isCond ?_); refine awp_condO rfl ?_ ?_ <;> intro hb <;> (try simp only [zH] at hb))
      | ((with_reducible refine isReg ?_); (first | refine awp_textM htb hmz spMs_ok (fun _ => false) rfl rfl ?_ | refine awp_drawM hmo htb hmz spMs_ok (fun _ => false) rfl rfl (by kernel_rfl) ?_); intro m' e' l' ob h; simp only [zE0, zE1, zE2, zE3, zE4, zE5, evp, evx, ev1, evLoad, evStore, evBin, isBoolK, forall_const, z38, tb, Nat.reduceAdd, Nat.reduceSub, Nat.reduceMul, Nat.reduceEqDiff, Nat.reduceLeDiff, Nat.reduceLT, Nat.reduceBEq, Nat.reduceBNe, ↓reduceIte, reduceIte, spMs, bestS, lessS, msA, msZ_self, msZ_men, msZ_ren] at h; obtain ⟨rfl, rfl, rfl, rfl⟩ := h; refine ⟨?_, ?_⟩)
      | ((with_reducible refine Ob.mk ?_); first | exact trivial | (intros; omega) | ((repeat' first | apply And.intro | (intro hg; have hg' := hg; try simp only [zH] at hg')) <;> first | assumption | omega | (simp only [zH]; omega)))
    · have hjr : j < rw.length := by omega
      obtain ⟨c1, c2⟩ := hrb hjr
      have h1 := hget (rw.getD j 0).toNat (by omega)
      have h2 := hjl (rw.getD j 0).toNat j
      rw [h1, hlen]
      exact Ob.mk ⟨⟨⟨⟨⟨by omega, by omega⟩, by omega⟩, by omega⟩, by omega, by omega⟩, by omega⟩
    · have hjr : j < rw.length := by omega
      obtain ⟨c1, c2⟩ := hrb hjr
      refine back (j + 1) [] ?_ (by omega) (by omega)
      (refine ⟨rfl, ?_, ?_⟩ <;> simp only [zE0, zE1, zE2, zE3, zE4, zE5, evp, evx, ev1, evLoad, evStore, evBin, isBoolK, forall_const, z38, tb, Nat.reduceAdd, Nat.reduceSub, Nat.reduceMul, Nat.reduceEqDiff, Nat.reduceLeDiff, Nat.reduceLT, Nat.reduceBEq, Nat.reduceBNe, ↓reduceIte, reduceIte, spMs, bestS, lessS, msA, msZ_self, msZ_men, msZ_ren, zI])
      refine map_set (fun ht => ?_) fun s hs => ?_
      · rw [hjs _ j hjr, if_pos (by omega), hget _ ht]
      · rw [hjs _ j hjr, if_neg (by omega)]
    · have hje : j = rw.length := by omega
      subst hje
      refine back (i + 1) [(24, 42)] ?_ (by omega) (by omega)
      (refine ⟨rfl, ?_, ?_⟩ <;> simp only [zE0, zE1, zE2, zE3, zE4, zE5, evp, evx, ev1, evLoad, evStore, evBin, isBoolK, forall_const, z38, tb, Nat.reduceAdd, Nat.reduceSub, Nat.reduceMul, Nat.reduceEqDiff, Nat.reduceLeDiff, Nat.reduceLT, Nat.reduceBEq, Nat.reduceBNe, ↓reduceIte, reduceIte, spMs, bestS, lessS, msA, msZ_self, msZ_men, msZ_ren, zI])
      exact List.map_congr_left fun t _ => hj0 t
  have hie : i = o.length := by omega
  subst hie
  have hbk : (List.range x.length).map (fun t => bkI x t o.length) = backL x := by unfold backL; rw [hxl]
  rw [mix_all, hbk]
  refine awp_fzN 11 (.roII (backL x)) (by simp only [lkr_cons, lkr_nil, fzE, fzA, fzR, fzB, set1, nbeq, Nat.reduceEqDiff, decide_true, decide_false, ↓reduceIte, reduceIte, cond_true, cond_false, List.take_length, Option.some.injEq]; rfl) (by first | exact rfl | (refine ⟨?_, rfl⟩; first | rfl | (intros; rfl))) (by simp only [lkr_cons, lkr_nil, fzE, fzA, fzR, fzB, set1, nbeq, Nat.reduceEqDiff, decide_true, decide_false, ↓reduceIte, reduceIte, cond_true, cond_false, List.take_length, Option.some.injEq]; rfl) (by simp only [lkr_cons, lkr_nil, fzE, fzA, fzR, fzB, set1, nbeq, Nat.reduceEqDiff, decide_true, decide_false, ↓reduceIte, reduceIte, cond_true, cond_false, List.take_length, Option.some.injEq]; rfl) ?_
  have hp0 := rpr_pos hS.ps
  have hz0 : deM many 0 = (false, List.replicate odd.length 0) := by
    obtain ⟨z1, z2⟩ := zero_wf hS.ps
    have := deM_low z1
    rw [z2] at this
    rw [this, hS.len]
  have hr0 : ∀ j, (List.replicate o.length (0 : Int)).getD j 0 = 0 := fun j => by
    rw [List.getD_eq_getElem?_getD, List.getElem?_replicate]; split <;> rfl
  refine awp_avs 9 (fun j => msA (deM many ((List.replicate o.length (0 : Int)).getD j 0))) rfl (fun j hj => by rw [hr0, hz0]; unfold msZ; rw [if_pos hj]) rfl ?_
  repeat' first
    | with_reducible first | refine awp_seq ?_ | refine awp_block ?_ | refine next_then ?_ | refine next_block ?_ | refine exit_then ?_ | refine ret_then ?_ | refine ret_block ?_ | refine exit_here ?_ | refine awp_exit ?_ | refine awp_ret ?_ | refine awp_skip ?_ | refine awp_label ?_ | refine next_noGoto ?_ | refine ret_noGoto ?_ | refine exit_noGoto ?_ | refine awp_scope ?_
    | ((with_reducible refine exit_past ?_ ?_); exact rfl)
    | ((with_reducible refine isCond ?_); refine awp_condO rfl ?_ ?_ <;> intro hb <;> (try simp only [zH] at hb))
    | ((with_reducible refine isRegS 17 ?_ ?_); (· exact rfl); (first | refine awp_textM htb hmz spMs_ok (fun _ => false) rfl rfl ?_ | refine awp_drawM hmo htb hmz spMs_ok (fun _ => false) rfl rfl (by kernel_rfl) ?_); intro m' e' l' ob h; simp only [zE0, zE1, zE2, zE3, zE4, zE5, evp, evx, ev1, evLoad, evStore, evBin, isBoolK, forall_const, z38, tb, Nat.reduceAdd, Nat.reduceSub, Nat.reduceMul, Nat.reduceEqDiff, Nat.reduceLeDiff, Nat.reduceLT, Nat.reduceBEq, Nat.reduceBNe, ↓reduceIte, reduceIte, spMs, bestS, lessS, msA, msZ_self, msZ_men, msZ_ren] at h; obtain ⟨rfl, rfl, rfl, rfl⟩ := h; refine ⟨?_, ?_⟩)
    | ((with_reducible refine Ob.mk ?_); first | exact trivial | (intros; omega) | ((repeat' first | apply And.intro | (intro hg; have hg' := hg; try simp only [zH] at hg')) <;> first | assumption | omega | (simp only [zH]; omega)))
  refine awp_list rfl ?_
  refine awpL_callG ([16, 24]) (queue_fg ((List.range o.length).map fun v : Nat => (v : Int))) rfl rfl rfl rfl rfl rfl rfl rfl rfl (by simp only [rinR, rhoC, zE0, zE1, zE2, zE3, zE4, zE5, evp, evx, ev1, evLoad, evStore, evBin, isBoolK, forall_const, z38, tb, Nat.reduceAdd, Nat.reduceSub, Nat.reduceMul, Nat.reduceEqDiff, Nat.reduceLeDiff, Nat.reduceLT, Nat.reduceBEq, Nat.reduceBNe, ↓reduceIte, reduceIte, spMs, bestS, lessS, msA, msZ_self, msZ_men, msZ_ren]) ?_; intro gm gv gr hq m' e' l' h; simp only [GR.mk.injEq] at hq; obtain ⟨rfl, rfl, rfl⟩ := hq; simp only [rhoC, outR, renR, dels, zE0, zE1, zE2, zE3, zE4, zE5, evp, evx, ev1, evLoad, evStore, evBin, isBoolK, forall_const, z38, tb, Nat.reduceAdd, Nat.reduceSub, Nat.reduceMul, Nat.reduceEqDiff, Nat.reduceLeDiff, Nat.reduceLT, Nat.reduceBEq, Nat.reduceBNe, ↓reduceIte, reduceIte, spMs, bestS, lessS, msA, msZ_self, msZ_men, msZ_ren] at h; obtain ⟨rfl, rfl, rfl⟩ := h; refine next_then ?_
  have hG : GOK ⟨o, p, x⟩ many := ⟨hS.ps, fun v hv => by
    obtain ⟨⟨a1, a2, a3, a4, a5, a6⟩, _⟩ := hpos v (by simp only [Gm.n]; exact hv)
    exact a5, fun v hv t ht => by
    obtain ⟨j, hj, rfl⟩ := List.getElem_of_mem ht
    rw [rws_len] at hj
    have := hrb v hv j hj
    have e : (rws x v)[j] = (rws x v).getD j 0 := by rw [List.getD_eq_getElem?_getD, List.getElem?_eq_getElem (by rw [rws_len]; exact hj)]; rfl
    show (rws x v)[j] < o.length
    rw [e, rws_getD]; omega⟩
  have hQ0 : QJ ⟨o, p, x⟩ odd many (List.replicate o.length 0) ((List.range o.length).map fun _ => true) (List.range o.length) 1048576 fun _ => False := by
    refine { lr := ⟨List.length_replicate, fun v hv => by rw [hr0]; omega⟩, blw := fun l' hl' v hv => by rw [hr0]; exact (hl'.rng v hv).1, tl := by simp, tw := fun v hv => ?_, wn := List.nodup_range, wb := fun v hv => List.mem_range.1 hv, st := fun v hv h => absurd (List.mem_range.2 hv) h, lf := by simp, l2 := Int.le_refl _ }
    have hv : v < o.length := hv
    simp [List.getD_eq_getElem?_getD, hv]
  refine awp_block ?_
  refine awp_leC ⟨30, [(71, .fn 60 (.cons (.own 28) .nil)), (14, .own 26), (10, .own 19), (9, .own 16), (8, .own 13), (7, .own 12), (5, .own 3), (4, .own 2), (3, .rop (.agg (.cons (.roI o) (.cons (.roI p) (.cons (.roII x) .nil))))), (2, .rop (.agg (.cons (.roI odd) (.cons (.roI many) .nil))))],
    (28, some (.box (.own 16))) :: fullR 16 29 ((List.range o.length).map fun v : Nat => (v : Int)) [(9, some (.avs 2 o.length (fun j => msA (deM many ((List.replicate o.length (0 : Int)).getD j 0))))), (12, some (.box (.own 9))), (13, some (.box (.roII (backL x)))), (18, some (.bools ((List.range o.length).map fun _ => true))), (19, some (.box (.own 18))), (26, some (.box (.int .i64 1048576))), (2, some (.box (.cst (Value.slice none 0 0)))), (3, some (.box (.bool false)))], []⟩ [(29, 24)] ?_ ?_
  · refine ⟨rfl, ?_, ?_⟩ <;> simp only [fullR, zE0, zE1, zE2, zE3, zE4, zE5, evp, evx, ev1, evLoad, evStore, evBin, isBoolK, forall_const, z38, tb, Nat.reduceAdd, Nat.reduceSub, Nat.reduceMul, Nat.reduceEqDiff, Nat.reduceLeDiff, Nat.reduceLT, Nat.reduceBEq, Nat.reduceBNe, ↓reduceIte, reduceIte, spMs, bestS, lessS, msA, msZ_self, msZ_men, msZ_ren, zI]
  refine awp_rangeP (m := 29) (M := 29) (kb := 28) (kq := 16) (fun b : QSt => QJ ⟨o, p, x⟩ odd many b.l b.th b.w b.left fun _ => False) (fun b => b.w.map fun v : Nat => (v : Int)) (fun b => qm ⟨o, p, x⟩ many b.l b.w)
    (fun b => [(9, some (.avs 2 o.length (fun j => msA (deM many (b.l.getD j 0))))), (12, some (.box (.own 9))), (13, some (.box (.roII (backL x)))), (18, some (.bools b.th)), (19, some (.box (.own 18))), (26, some (.box (.int .i64 b.left))), (2, some (.box (.cst (Value.slice none 0 0)))), (3, some (.box (.bool false)))]) ⟨List.replicate o.length 0, (List.range o.length).map fun _ => true, List.range o.length, 1048576⟩
    queue1_iter hQ0 (fun b hb => ?_) rfl rfl rfl rfl rfl rfl rfl rfl (fun b k B _ hk => sOK_mem (l := [(9, some (.avs 2 o.length (fun j => msA (deM many (b.l.getD j 0))))), (12, some (.box (.own 9))), (13, some (.box (.roII (backL x)))), (18, some (.bools b.th)), (19, some (.box (.own 18))), (26, some (.box (.int .i64 b.left))), (2, some (.box (.cst (Value.slice none 0 0)))), (3, some (.box (.bool false)))]) ?_ (mem_keysOf hk).2) ?_ ?_
  · have := nodup_len _ _ hb.wn hb.wb
    simp only [List.length_map]
    dsimp only at this
    omega
  · exact ⟨⟨by decide, by decide, by decide, fun _ _ => rfl⟩, ⟨by decide, by decide, by decide, rfl⟩, ⟨by decide, by decide, by decide, rfl⟩, ⟨by decide, by decide, by decide, trivial⟩, ⟨by decide, by decide, by decide, rfl⟩, ⟨by decide, by decide, by decide, rfl⟩, ⟨by decide, by decide, by decide, rfl⟩, ⟨by decide, by decide, by decide, rfl⟩, trivial⟩
  · rintro lp ⟨l, th, w, left⟩ hB hi
    dsimp only [fullR] at hB hi ⊢
    obtain ⟨v, w, rfl⟩ : ∃ v w', w = v :: w' := by
      cases w with
      | nil => exact absurd hi (by simp)
      | cons v w' => exact ⟨v, w', rfl⟩
    obtain ⟨hP, hvn⟩ := QJ_pop hB
    have hvn : v < o.length := hvn
    have hB0 := hB
    clear hB hi
    rw [show ((v :: w).map fun v : Nat => (v : Int)).getD 0 0 = (v : Int) from rfl, show ((v :: w).map fun v : Nat => (v : Int)).drop 1 = w.map fun v : Nat => (v : Int) from rfl]
    have htl : th.length = o.length := by have := hP.tl; rw [List.length_set] at this; exact this
    first | (refine awp_textM htb hmz spMs_ok (fun _ => false) rfl rfl ?_; intro m' e' l' ob h; simp only [zE0, zE1, zE2, zE3, zE4, zE5, evp, evx, ev1, evLoad, evStore, evBin, isBoolK, forall_const, z38, tb, Nat.reduceAdd, Nat.reduceSub, Nat.reduceMul, Nat.reduceEqDiff, Nat.reduceLeDiff, Nat.reduceLT, Nat.reduceBEq, Nat.reduceBNe, ↓reduceIte, reduceIte, spMs, bestS, lessS, msA, msZ_self, msZ_men, msZ_ren] at h; obtain ⟨rfl, rfl, rfl, rfl⟩ := h; refine ⟨?_, ?_⟩)
          | (refine awp_drawM hmo htb hmz spMs_ok (fun _ => false) rfl rfl (by kernel_rfl) ?_; intro m' e' l' ob h; simp only [zE0, zE1, zE2, zE3, zE4, zE5, evp, evx, ev1, evLoad, evStore, evBin, isBoolK, forall_const, z38, tb, Nat.reduceAdd, Nat.reduceSub, Nat.reduceMul, Nat.reduceEqDiff, Nat.reduceLeDiff, Nat.reduceLT, Nat.reduceBEq, Nat.reduceBNe, ↓reduceIte, reduceIte, spMs, bestS, lessS, msA, msZ_self, msZ_men, msZ_ren] at h; obtain ⟨rfl, rfl, rfl, rfl⟩ := h; refine ⟨?_, ?_⟩)
    · first | ((with_reducible refine Ob.mk ?_); first | exact trivial | (intros; omega) | ((repeat' first | apply And.intro | (intro hg; have hg' := hg; try simp only [zH] at hg')) <;> first | assumption | omega | (simp only [zH]; omega))) | skip
    refine ⟨rfl, ?_⟩
    have hok : ∀ j, j < o.length → okM many (deM many (l.getD j 0)) := fun j hj => by
      have h3 := hP.lr.rng j hj
      exact (en_de hS.ps h3.1 h3.2).2
    have hml : mlF many o.length (fun j => deM many (l.getD j 0)) = l := mlF_is (g := ⟨o, p, x⟩) hS.ps hP.lr
    repeat' first
      | with_reducible first | refine awp_seq ?_ | refine awp_block ?_ | refine next_then ?_ | refine next_block ?_ | refine exit_then ?_ | refine ret_then ?_ | refine ret_block ?_ | refine exit_here ?_ | refine awp_exit ?_ | refine awp_ret ?_ | refine awp_skip ?_ | refine awp_label ?_ | refine next_noGoto ?_ | refine ret_noGoto ?_ | refine exit_noGoto ?_ | refine awp_scope ?_
      | ((with_reducible refine exit_past ?_ ?_); exact rfl)
      | ((with_reducible refine isCond ?_); refine awp_condO rfl ?_ ?_ <;> intro hb <;> (try simp only [zH] at hb))
      | ((with_reducible refine isRegS 20 ?_ ?_); (· exact rfl); (first | refine awp_textM htb hmz spMs_ok (fun _ => false) rfl rfl ?_ | refine awp_drawM hmo htb hmz spMs_ok (fun _ => false) rfl rfl (by kernel_rfl) ?_); intro m' e' l' ob h; simp only [zE0, zE1, zE2, zE3, zE4, zE5, evp, evx, ev1, evLoad, evStore, evBin, isBoolK, forall_const, z38, tb, Nat.reduceAdd, Nat.reduceSub, Nat.reduceMul, Nat.reduceEqDiff, Nat.reduceLeDiff, Nat.reduceLT, Nat.reduceBEq, Nat.reduceBNe, ↓reduceIte, reduceIte, spMs, bestS, lessS, msA, msZ_self, msZ_men, msZ_ren] at h; obtain ⟨rfl, rfl, rfl, rfl⟩ := h; refine ⟨?_, ?_⟩)
      | ((with_reducible refine Ob.mk ?_); first | exact trivial | (intros; omega) | ((repeat' first | apply And.intro | (intro hg; have hg' := hg; try simp only [zH] at hg')) <;> first | assumption | omega | (simp only [zH]; omega)))
    refine awp_cut ([_, _, _, _]) ([_, _, _, _, _, _]) rfl rfl ?_
    refine awpL_text htb hmz spMs_ok (fun _ => false) rfl rfl rfl ?_; intro m' e' l' ob h; simp only [zE0, zE1, zE2, zE3, zE4, zE5, evp, evx, ev1, evLoad, evStore, evBin, isBoolK, forall_const, z38, tb, Nat.reduceAdd, Nat.reduceSub, Nat.reduceMul, Nat.reduceEqDiff, Nat.reduceLeDiff, Nat.reduceLT, Nat.reduceBEq, Nat.reduceBNe, ↓reduceIte, reduceIte, spMs, bestS, lessS, msA, msZ_self, msZ_men, msZ_ren] at h; obtain ⟨rfl, rfl, rfl, rfl⟩ := h; refine ⟨?_, next_then ?_⟩
    · first | ((with_reducible refine Ob.mk ?_); first | exact trivial | (intros; omega) | ((repeat' first | apply And.intro | (intro hg; have hg' := hg; try simp only [zH] at hg')) <;> first | assumption | omega | (simp only [zH]; omega))) | skip
    refine awpL_callG ([9]) (best_fg (F := fun j => deM many (l.getD j 0)) (v := v) hS hv hok hvn) rfl rfl rfl rfl rfl rfl rfl rfl rfl (by simp only [rinR, rhoC, zE0, zE1, zE2, zE3, zE4, zE5, evp, evx, ev1, evLoad, evStore, evBin, isBoolK, forall_const, z38, tb, Nat.reduceAdd, Nat.reduceSub, Nat.reduceMul, Nat.reduceEqDiff, Nat.reduceLeDiff, Nat.reduceLT, Nat.reduceBEq, Nat.reduceBNe, ↓reduceIte, reduceIte, spMs, bestS, lessS, msA, msZ_self, msZ_men, msZ_ren]) ?_; intro gm gv gr hq m' e' l' h; simp only [GR.mk.injEq] at hq; obtain ⟨rfl, rfl, rfl⟩ := hq; simp only [rhoC, outR, renR, dels, zE0, zE1, zE2, zE3, zE4, zE5, evp, evx, ev1, evLoad, evStore, evBin, isBoolK, forall_const, z38, tb, Nat.reduceAdd, Nat.reduceSub, Nat.reduceMul, Nat.reduceEqDiff, Nat.reduceLeDiff, Nat.reduceLT, Nat.reduceBEq, Nat.reduceBNe, ↓reduceIte, reduceIte, spMs, bestS, lessS, msA, msZ_self, msZ_men, msZ_ren] at h; obtain ⟨rfl, rfl, rfl⟩ := h; refine next_then ?_
    rw [hml]
    refine awpL_text htb hmz spMs_ok (fun _ => false) rfl rfl rfl ?_; intro m' e' l' ob h; simp only [zE0, zE1, zE2, zE3, zE4, zE5, evp, evx, ev1, evLoad, evStore, evBin, isBoolK, forall_const, z38, tb, Nat.reduceAdd, Nat.reduceSub, Nat.reduceMul, Nat.reduceEqDiff, Nat.reduceLeDiff, Nat.reduceLT, Nat.reduceBEq, Nat.reduceBNe, ↓reduceIte, reduceIte, spMs, bestS, lessS, msA, msZ_self, msZ_men, msZ_ren] at h; obtain ⟨rfl, rfl, rfl, rfl⟩ := h; refine ⟨?_, ?_⟩
    · first | ((with_reducible refine Ob.mk ?_); first | exact trivial | (intros; omega) | ((repeat' first | apply And.intro | (intro hg; have hg' := hg; try simp only [zH] at hg')) <;> first | assumption | omega | (simp only [zH]; omega))) | skip
    have hVb := best_bd (odd := odd) hG.hp hP.lr (hG.hr v hvn) (hG.hw v hvn)
    have hlb := hP.lr.rng v hvn
    have hlen := hP.lr.len
    dsimp only at hlen
    have hsk := @QJ_skip _ _ _ _ _ _ _ _ hP
    have hra := fun h => QJ_raise hG hP hvn h
    generalize bestV ⟨o, p, x⟩ odd many l v = V at *
    have hls : lessM (deM many (l.getD v 0)) (deM many V) = decide (l.getD v 0 < V) := lessM_V hS.ps hlb.1 hlb.2 hVb.1 hVb.2
    refine next_then ?_
    repeat' first
      | with_reducible first | refine awp_seq ?_ | refine awp_block ?_ | refine next_then ?_ | refine next_block ?_ | refine exit_then ?_ | refine ret_then ?_ | refine ret_block ?_ | refine exit_here ?_ | refine awp_exit ?_ | refine awp_ret ?_ | refine awp_skip ?_ | refine awp_label ?_ | refine next_noGoto ?_ | refine ret_noGoto ?_ | refine exit_noGoto ?_ | refine awp_scope ?_
      | ((with_reducible refine exit_past ?_ ?_); exact rfl)
      | ((with_reducible refine isCond ?_); refine awp_condO rfl ?_ ?_ <;> intro hb <;> (try simp only [zH] at hb))
      | ((with_reducible refine isRegS 22 ?_ ?_); (· exact rfl); (with_reducible refine isRegS 22 ?_ ?_); (· exact rfl); (first | refine awp_textM htb hmz spMs_ok (fun _ => false) rfl rfl ?_ | refine awp_drawM hmo htb hmz spMs_ok (fun _ => false) rfl rfl (by kernel_rfl) ?_); intro m' e' l' ob h; simp only [zE0, zE1, zE2, zE3, zE4, zE5, evp, evx, ev1, evLoad, evStore, evBin, isBoolK, forall_const, z38, tb, Nat.reduceAdd, Nat.reduceSub, Nat.reduceMul, Nat.reduceEqDiff, Nat.reduceLeDiff, Nat.reduceLT, Nat.reduceBEq, Nat.reduceBNe, ↓reduceIte, reduceIte, spMs, bestS, lessS, msA, msZ_self, msZ_men, msZ_ren] at h; obtain ⟨rfl, rfl, rfl, rfl⟩ := h; refine ⟨?_, ?_⟩)
      | ((with_reducible refine Ob.mk ?_); first | exact trivial | (intros; omega) | ((repeat' first | apply And.intro | (intro hg; have hg' := hg; try simp only [zH] at hg')) <;> first | assumption | omega | (simp only [zH]; omega)))
    · rw [show lessM ((deM many (l.getD v 0)).1, (deM many (l.getD v 0)).2) ((deM many V).1, (deM many V).2) = lessM (deM many (l.getD v 0)) (deM many V) from rfl, hls] at hb
      refine ⟨rfl, _, ⟨l, th.set v false, w, left⟩, [], rfl, ⟨rfl, ?_, ?_⟩, hsk (by simpa using hb), ?_⟩
      · simp only [leE, zE0, zE1, zE2, zE3, zE4, zE5, evp, evx, ev1, evLoad, evStore, evBin, isBoolK, forall_const, z38, tb, Nat.reduceAdd, Nat.reduceSub, Nat.reduceMul, Nat.reduceEqDiff, Nat.reduceLeDiff, Nat.reduceLT, Nat.reduceBEq, Nat.reduceBNe, ↓reduceIte, reduceIte, spMs, bestS, lessS, msA, msZ_self, msZ_men, msZ_ren]
      · simp only [fullR, zE0, zE1, zE2, zE3, zE4, zE5, evp, evx, ev1, evLoad, evStore, evBin, isBoolK, forall_const, z38, tb, Nat.reduceAdd, Nat.reduceSub, Nat.reduceMul, Nat.reduceEqDiff, Nat.reduceLeDiff, Nat.reduceLT, Nat.reduceBEq, Nat.reduceBNe, ↓reduceIte, reduceIte, spMs, bestS, lessS, msA, msZ_self, msZ_men, msZ_ren, zI]
      · unfold qm
        simp only [List.length_cons]
        omega
    · rw [show lessM ((deM many (l.getD v 0)).1, (deM many (l.getD v 0)).2) ((deM many V).1, (deM many V).2) = lessM (deM many (l.getD v 0)) (deM many V) from rfl, hls] at hb
      have hlt : l.getD v 0 < V := by simpa using hb
      have hR := hra hlt
      have hlf := QJ_left hR hn12 hP4 hp0
      have hl2 := hR.l2
      have hbl : (backL x).length = x.length := by simp [backL]
      have hbf := back_fact hV hvn
      have hba := back_all hV hvn
      dsimp only at hbf hba
      repeat' first
        | with_reducible first | refine awp_seq ?_ | refine awp_block ?_ | refine next_then ?_ | refine next_block ?_ | refine exit_then ?_ | refine ret_then ?_ | refine ret_block ?_ | refine exit_here ?_ | refine awp_exit ?_ | refine awp_ret ?_ | refine awp_skip ?_ | refine awp_label ?_ | refine next_noGoto ?_ | refine ret_noGoto ?_ | refine exit_noGoto ?_ | refine awp_scope ?_
        | ((with_reducible refine exit_past ?_ ?_); exact rfl)
        | ((with_reducible refine isCond ?_); refine awp_condO rfl ?_ ?_ <;> intro hb <;> (try simp only [zH] at hb))
        | ((with_reducible refine isRegS 24 ?_ ?_); (· exact rfl); (first | refine awp_textM htb hmz spMs_ok (fun _ => false) rfl rfl ?_ | refine awp_drawM hmo htb hmz spMs_ok (fun _ => false) rfl rfl (by kernel_rfl) ?_); intro m' e' l' ob h; simp only [zE0, zE1, zE2, zE3, zE4, zE5, evp, evx, ev1, evLoad, evStore, evBin, isBoolK, forall_const, z38, tb, Nat.reduceAdd, Nat.reduceSub, Nat.reduceMul, Nat.reduceEqDiff, Nat.reduceLeDiff, Nat.reduceLT, Nat.reduceBEq, Nat.reduceBNe, ↓reduceIte, reduceIte, spMs, bestS, lessS, msA, msZ_self, msZ_men, msZ_ren] at h; obtain ⟨rfl, rfl, rfl, rfl⟩ := h; refine ⟨?_, ?_⟩)
        | ((with_reducible refine Ob.mk ?_); first | exact trivial | (intros; omega) | ((repeat' first | apply And.intro | (intro hg; have hg' := hg; try simp only [zH] at hg')) <;> first | assumption | omega | (simp only [zH]; omega)))
      · omega
      rw [ms_set (by omega)]
      generalize hbk2 : (backL x).getD v [] = bk at *
      have hbkl : bk.length ≤ 1280000 := by
        have h1 : (backL x).getD v [] = bkI x v x.length := by
          have : v < x.length := by omega
          simp [backL, List.getD_eq_getElem?_getD, this]
        have h2 := hb4 x.length v (Nat.le_refl _)
        rw [hbk2] at h1
        rw [h1]; omega
      refine awp_loopC (τ := QIn) (fun t => t.r ≤ bk.length ∧ QJ ⟨o, p, x⟩ odd many (l.set v V) t.th t.w (left - 1) (fun u => v ∈ rws x u ∧ u ∉ (bk.take t.r).map Int.toNat)) (fun t => ⟨68, [(104, .int .i64 t.r), (103, .int .i64 bk.length), (102, .roI bk), (10, .own 19), (9, .own 16)],
        [(9, some (.avs 2 o.length (fun j => msA (deM many ((l.set v V).getD j 0))))), (16, some (.box (.own 29))), (29, some (.ints (t.w.map fun v : Nat => (v : Int)))), (12, some (.box (.own 9))), (13, some (.box (.roII (backL x)))), (18, some (.bools t.th)), (19, some (.box (.own 18))), (26, some (.box (.int .i64 (left - 1)))), (2, some (.box (.cst (Value.slice none 0 0)))), (3, some (.box (.bool false)))], []⟩) (fun t => bk.length - t.r) ⟨th.set v false, w, 0⟩ [] ?_ ⟨Nat.zero_le _, QJ_weak hR fun u hu h => ⟨h, by simp⟩⟩ ?_
      · refine ⟨rfl, ?_, ?_⟩ <;> simp only [zE0, zE1, zE2, zE3, zE4, zE5, evp, evx, ev1, evLoad, evStore, evBin, isBoolK, forall_const, z38, tb, Nat.reduceAdd, Nat.reduceSub, Nat.reduceMul, Nat.reduceEqDiff, Nat.reduceLeDiff, Nat.reduceLT, Nat.reduceBEq, Nat.reduceBNe, ↓reduceIte, reduceIte, spMs, bestS, lessS, msA, msZ_self, msZ_men, msZ_ren, zI]
      rintro ⟨th, w, r⟩ ⟨hr, hd⟩
      dsimp only at hr hd ⊢
      have htl2 := hd.tl
      dsimp only at htl2
      have hbf := hbf r
      have hwl : w.length ≤ o.length := nodup_len _ _ hd.wn hd.wb
      have hwm : (w.map fun v : Nat => (v : Int)).length = w.length := List.length_map ..
      repeat' first
        | with_reducible first | refine awp_seq ?_ | refine awp_block ?_ | refine next_then ?_ | refine next_block ?_ | refine exit_then ?_ | refine ret_then ?_ | refine ret_block ?_ | refine exit_here ?_ | refine awp_exit ?_ | refine awp_ret ?_ | refine awp_skip ?_ | refine awp_label ?_ | refine next_noGoto ?_ | refine ret_noGoto ?_ | refine exit_noGoto ?_ | refine awp_scope ?_
        | ((with_reducible refine exit_past ?_ ?_); exact rfl)
        | ((with_reducible refine isCond ?_); refine awp_condO rfl ?_ ?_ <;> intro hb <;> (try simp only [zH] at hb))
        | ((with_reducible refine isReg ?_); (first | refine awp_textM htb hmz spMs_ok (fun _ => false) rfl rfl ?_ | refine awp_drawM hmo htb hmz spMs_ok (fun _ => false) rfl rfl (by kernel_rfl) ?_); intro m' e' l' ob h; simp only [zE0, zE1, zE2, zE3, zE4, zE5, evp, evx, ev1, evLoad, evStore, evBin, isBoolK, forall_const, z38, tb, Nat.reduceAdd, Nat.reduceSub, Nat.reduceMul, Nat.reduceEqDiff, Nat.reduceLeDiff, Nat.reduceLT, Nat.reduceBEq, Nat.reduceBNe, ↓reduceIte, reduceIte, spMs, bestS, lessS, msA, msZ_self, msZ_men, msZ_ren] at h; obtain ⟨rfl, rfl, rfl, rfl⟩ := h; refine ⟨?_, ?_⟩)
        | ((with_reducible refine Ob.mk ?_); first | exact trivial | (intros; omega) | ((repeat' first | apply And.intro | (intro hg; have hg' := hg; try simp only [zH] at hg')) <;> first | assumption | omega | (simp only [zH]; omega)))
      · have hrl2 : r < bk.length := by omega
        obtain ⟨u1, u2, u3, u4⟩ := hbf hrl2
        refine back ⟨th.set (bk.getD r 0).toNat true, w ++ [(bk.getD r 0).toNat], r + 1⟩ [(29, 82)] ?_ ⟨by dsimp only; omega, ?_⟩ (by dsimp only; omega)
        · (refine ⟨rfl, ?_, ?_⟩ <;> simp only [zE0, zE1, zE2, zE3, zE4, zE5, evp, evx, ev1, evLoad, evStore, evBin, isBoolK, forall_const, z38, tb, Nat.reduceAdd, Nat.reduceSub, Nat.reduceMul, Nat.reduceEqDiff, Nat.reduceLeDiff, Nat.reduceLT, Nat.reduceBEq, Nat.reduceBNe, ↓reduceIte, reduceIte, spMs, bestS, lessS, msA, msZ_self, msZ_men, msZ_ren, zI])
          rw [List.map_append, List.map_cons, List.map_nil, ← u1]
        · dsimp only
          rw [take1 (d := 0) hrl2, List.map_append]
          exact QJ_push hd u2 hb
      · have hrl2 : r < bk.length := by omega
        obtain ⟨u1, u2, u3, u4⟩ := hbf hrl2
        refine back ⟨th, w, r + 1⟩ [] ?_ ⟨by dsimp only; omega, ?_⟩ (by dsimp only; omega)
        · (refine ⟨rfl, ?_, ?_⟩ <;> simp only [zE0, zE1, zE2, zE3, zE4, zE5, evp, evx, ev1, evLoad, evStore, evBin, isBoolK, forall_const, z38, tb, Nat.reduceAdd, Nat.reduceSub, Nat.reduceMul, Nat.reduceEqDiff, Nat.reduceLeDiff, Nat.reduceLT, Nat.reduceBEq, Nat.reduceBNe, ↓reduceIte, reduceIte, spMs, bestS, lessS, msA, msZ_self, msZ_men, msZ_ren, zI])
        · dsimp only
          rw [take1 (d := 0) hrl2, List.map_append]
          exact QJ_past hd u2 hb
      · have hre : r = bk.length := by omega
        subst hre
        refine ⟨rfl, _, ⟨l.set v V, th, w, left - 1⟩, [], rfl, ⟨rfl, ?_, ?_⟩, QJ_weak hd fun u hu h => ?_, qm_raise hd.lr (by omega) hlt hwl⟩
        · simp only [leE, zE0, zE1, zE2, zE3, zE4, zE5, evp, evx, ev1, evLoad, evStore, evBin, isBoolK, forall_const, z38, tb, Nat.reduceAdd, Nat.reduceSub, Nat.reduceMul, Nat.reduceEqDiff, Nat.reduceLeDiff, Nat.reduceLT, Nat.reduceBEq, Nat.reduceBNe, ↓reduceIte, reduceIte, spMs, bestS, lessS, msA, msZ_self, msZ_men, msZ_ren]
        · simp only [fullR, zE0, zE1, zE2, zE3, zE4, zE5, evp, evx, ev1, evLoad, evStore, evBin, isBoolK, forall_const, z38, tb, Nat.reduceAdd, Nat.reduceSub, Nat.reduceMul, Nat.reduceEqDiff, Nat.reduceLeDiff, Nat.reduceLT, Nat.reduceBEq, Nat.reduceBNe, ↓reduceIte, reduceIte, spMs, bestS, lessS, msA, msZ_self, msZ_men, msZ_ren, zI]
        · rw [List.take_length] at h
          exact h.2 (hba u hu h.1)
  · rintro ⟨l, th, w, left⟩ hB hi
    dsimp only [fullR, Nat.reduceAdd] at hB hi ⊢
    have hw : w = [] := by simpa using hi
    subst hw
    rw [leastL_eq (QJ_done hB)]
    refine next_block ?_
    refine next_then ?_
    repeat' first
      | with_reducible first | refine awp_seq ?_ | refine awp_block ?_ | refine next_then ?_ | refine next_block ?_ | refine exit_then ?_ | refine ret_then ?_ | refine ret_block ?_ | refine exit_here ?_ | refine awp_exit ?_ | refine awp_ret ?_ | refine awp_skip ?_ | refine awp_label ?_ | refine next_noGoto ?_ | refine ret_noGoto ?_ | refine exit_noGoto ?_ | refine awp_scope ?_
      | ((with_reducible refine exit_past ?_ ?_); exact rfl)
      | ((with_reducible refine isCond ?_); refine awp_condO rfl ?_ ?_ <;> intro hb <;> (try simp only [zH] at hb))
      | ((with_reducible refine isReg ?_); (first | refine awp_textM htb hmz spMs_ok (fun _ => false) rfl rfl ?_ | refine awp_drawM hmo htb hmz spMs_ok (fun _ => false) rfl rfl (by kernel_rfl) ?_); intro m' e' l' ob h; simp only [zE0, zE1, zE2, zE3, zE4, zE5, evp, evx, ev1, evLoad, evStore, evBin, isBoolK, forall_const, z38, tb, Nat.reduceAdd, Nat.reduceSub, Nat.reduceMul, Nat.reduceEqDiff, Nat.reduceLeDiff, Nat.reduceLT, Nat.reduceBEq, Nat.reduceBNe, ↓reduceIte, reduceIte, spMs, bestS, lessS, msA, msZ_self, msZ_men, msZ_ren] at h; obtain ⟨rfl, rfl, rfl, rfl⟩ := h; refine ⟨?_, ?_⟩)
      | ((with_reducible refine Ob.mk ?_); first | exact trivial | (intros; omega) | ((repeat' first | apply And.intro | (intro hg; have hg' := hg; try simp only [zH] at hg')) <;> first | assumption | omega | (simp only [zH]; omega)))
    exact ⟨_, _, rfl, rfl, fun k hk => by rw [List.mem_singleton.1 hk]; rfl, (by show [30].Nodup; decide), Nat.zero_le _, spec_own 9 rfl rfl rfl rfl rfl (Nat.lt_of_lt_of_le (by decide : 9 < 34) (Nat.le_refl 34)) (fun j hj => rfl)⟩
end Go.Proofs.Ytgminhedbeblpaa.Cal
