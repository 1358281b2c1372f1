/- Own texts of the proof, merged, in order. -/
import Derived.Test.YtgminhedbeblpaaS26
set_option linter.unusedVariables false
set_option linter.unusedSimpArgs false
namespace Go.Proofs.Ytgminhedbeblpaa.Cal
open Go Pl
noncomputable def spMn : Nat → Option Spec
  | 7 => some fewS
  | 8 => some awkS
  | 19 => some shortS
  | 9 => some meaS
  | 10 => some validS
  | 18 => some winaS
  | 20 => some prgS
  | 13 => some gotS
  | 26 => some lssS
  | 27 => some fromS
  | 23 => some smlS
  | 24 => some allS
  | _ => none
theorem spMn_ok : SpOK Try.prog spMn := by
  intro f S h
  unfold spMn at h
  split at h
  · cases h; exact few_ok
  · cases h; exact awk_ok
  · cases h; exact short_ok
  · cases h; exact mea_ok
  · cases h; exact valid12_ok
  · cases h; exact wina_ok
  · cases h; exact prg_ok
  · cases h; exact got_ok
  · cases h; exact lss_ok
  · cases h; exact from_ok
  · cases h; exact sml_ok
  · cases h; exact all_ok
  · cases h
def mmS : Spec
  | [.agg (.cons (.roI o) (.cons (.roI p) (.cons (.roII x) .nil))), .ro 2 n f] => some ⟨f = fun j => msA (mOf (f j)), .bool true, none⟩
  | _ => none
theorem mm_next {C : Int → Bool} {rw : List Int} {c c' : Int} {j : Nat} (hjr : j < rw.length) (hc1 : ∃ k, k < rw.length ∧ c = rw.getD k 0) (hc2 : ∀ k, k < j → C (rw.getD k 0) = true → C c = true)
    (h : (C (rw.getD j 0) = true ∧ c' = rw.getD j 0) ∨ (C (rw.getD j 0) = false ∧ c' = c)) : (∃ k, k < rw.length ∧ c' = rw.getD k 0) ∧ ∀ k, k < j + 1 → C (rw.getD k 0) = true → C c' = true := by
  rcases h with ⟨hb, e⟩ | ⟨hb, e⟩
  · rw [e]; exact ⟨⟨j, hjr, rfl⟩, fun k hk hC => hb⟩
  · rw [e]
    refine ⟨hc1, fun k hk hC => ?_⟩
    rcases Nat.lt_succ_iff_lt_or_eq.1 hk with h | rfl
    · exact hc2 k h hC
    · rw [hb] at hC; cases hC
structure MmS where
  i : Nat
  ch : List Int
structure MmJ where
  j : Nat
  c : Int
set_option maxRecDepth 4000 in
set_option maxHeartbeats 4000000 in
theorem mm_ok : FSpec Try.prog 6 mmS := by
  refine fspec_of htb (fn := Try.f6) (by kernel_rfl) (by kernel_rfl) rfl (fun args r hS => ?_) (fun args r hS hob hl => ?_)
  · unfold mmS at hS; split at hS <;> first | (cases hS; done) | (cases hS; exact Nat.le_of_ble_eq_true rfl)
  unfold mmS at hS
  split at hS
  case h_2 => cases hS
  rename_i o p x n f
  simp only [Option.some.injEq] at hS
  subst hS
  simp only [lenP, mkL, lim] at hl
  dsimp only at hob
  obtain ⟨F, hF⟩ : ∃ F : Nat → Bool × List Int, ∀ j, mOf (f j) = F j := ⟨_, fun _ => rfl⟩
  have hf : f = fun j => msA (F j) := by rw [hob]; funext j; rw [hF]
  clear hob hF
  subst hf
  repeat' first
    | with_reducible first | refine awp_seq ?_ | refine awp_block ?_ | refine next_then ?_ | refine next_block ?_ | refine exit_then ?_ | refine ret_then ?_ | refine ret_block ?_ | refine exit_here ?_ | refine awp_exit ?_ | refine awp_ret ?_ | refine awp_skip ?_ | refine awp_label ?_ | refine next_noGoto ?_ | refine ret_noGoto ?_ | refine exit_noGoto ?_ | refine awp_scope ?_
    | ((with_reducible refine exit_past ?_ ?_); exact rfl)
    | ((with_reducible refine isCond ?_); refine awp_condO rfl ?_ ?_ <;> intro hb <;> (try simp only [zH] at hb))
    | ((with_reducible refine isRegS 3 ?_ ?_); (· exact rfl); (first | refine awp_textM htb hmz spMn_ok (fun _ => false) rfl rfl ?_ | refine awp_drawM hmo htb hmz spMn_ok (fun _ => false) rfl rfl (by kernel_rfl) ?_); intro m' e' l' ob h; simp only [zE0, zE1, zE2, zE3, zE4, zE5, evp, evx, ev1, evLoad, evStore, evBin, isBoolK, forall_const, z38, tb, Nat.reduceAdd, Nat.reduceSub, Nat.reduceMul, Nat.reduceEqDiff, Nat.reduceLeDiff, Nat.reduceLT, Nat.reduceBEq, Nat.reduceBNe, ↓reduceIte, reduceIte, spMn, fewS, awkS, shortS, meaS, validS, winaS, prgS, gotS, lssS, fromS, smlS, allS, msA, mOf, peta] at h; obtain ⟨rfl, rfl, rfl, rfl⟩ := h; refine ⟨?_, ?_⟩)
    | ((with_reducible refine Ob.mk ?_); first | exact trivial | (intros; omega) | ((repeat' first | apply And.intro | (intro hg; have hg' := hg; try simp only [zH] at hg')) <;> first | assumption | omega | (simp only [zH]; omega)))
  · refine fin_ret rfl rfl (spec_flat rfl ?_ rfl)
    rfl
  have hfew := hb.1
  unfold few at hfew
  simp only [Bool.not_eq_true', Bool.not_eq_false', Bool.and_eq_true, Bool.or_eq_false_iff, decide_eq_false_iff_not] at hfew
  have ho10 : o.length ≤ 12 := by have := hfew.1.1.1; omega
  have hp10 : p.length ≤ 12 := by have := hfew.1.1.2; omega
  have hn : n ≤ 400 := by
    have hb2 := hb.2
    unfold shortB at hb2
    simp at hb2
    omega
  clear hfew hb
  by_cases hv : validB ⟨o, p, x⟩ = true
  case neg =>
    have hv' : validB ⟨o, p, x⟩ = false := by simpa using hv
    have e1 : meaN ⟨o, p, x⟩ = 0 := by unfold meaN; rw [hv']; rfl
    have e2 : meaE ⟨o, p, x⟩ = 1 := by unfold meaE; rw [hv']; rfl
    repeat' first
      | with_reducible first | refine awp_seq ?_ | refine awp_block ?_ | refine next_then ?_ | refine next_block ?_ | refine exit_then ?_ | refine ret_then ?_ | refine ret_block ?_ | refine exit_here ?_ | refine awp_exit ?_ | refine awp_ret ?_ | refine awp_skip ?_ | refine awp_label ?_ | refine next_noGoto ?_ | refine ret_noGoto ?_ | refine exit_noGoto ?_ | refine awp_scope ?_
      | ((with_reducible refine exit_past ?_ ?_); exact rfl)
      | ((with_reducible refine isCond ?_); refine awp_condO rfl ?_ ?_ <;> intro hb <;> (try simp only [zH] at hb))
      | ((with_reducible refine isRegS 4 ?_ ?_); (· exact rfl); (first | refine awp_textM htb hmz spMn_ok (fun _ => false) rfl rfl ?_ | refine awp_drawM hmo htb hmz spMn_ok (fun _ => false) rfl rfl (by kernel_rfl) ?_); intro m' e' l' ob h; simp only [zE0, zE1, zE2, zE3, zE4, zE5, evp, evx, ev1, evLoad, evStore, evBin, isBoolK, forall_const, z38, tb, Nat.reduceAdd, Nat.reduceSub, Nat.reduceMul, Nat.reduceEqDiff, Nat.reduceLeDiff, Nat.reduceLT, Nat.reduceBEq, Nat.reduceBNe, ↓reduceIte, reduceIte, spMn, fewS, awkS, shortS, meaS, validS, winaS, prgS, gotS, lssS, fromS, smlS, allS, msA, mOf, peta] at h; obtain ⟨rfl, rfl, rfl, rfl⟩ := h; refine ⟨?_, ?_⟩)
      | ((with_reducible refine Ob.mk ?_); first | exact trivial | (intros; omega) | ((repeat' first | apply And.intro | (intro hg; have hg' := hg; try simp only [zH] at hg')) <;> first | assumption | omega | (simp only [zH]; omega)))
    rw [e1, e2]
    repeat' first
      | with_reducible first | refine awp_seq ?_ | refine awp_block ?_ | refine next_then ?_ | refine next_block ?_ | refine exit_then ?_ | refine ret_then ?_ | refine ret_block ?_ | refine exit_here ?_ | refine awp_exit ?_ | refine awp_ret ?_ | refine awp_skip ?_ | refine awp_label ?_ | refine next_noGoto ?_ | refine ret_noGoto ?_ | refine exit_noGoto ?_ | refine awp_scope ?_
      | ((with_reducible refine exit_past ?_ ?_); exact rfl)
      | ((with_reducible refine isCond ?_); refine awp_condO rfl ?_ ?_ <;> intro hb <;> (try simp only [zH] at hb))
      | ((with_reducible refine isRegS 5 ?_ ?_); (· exact rfl); (with_reducible refine isRegS 6 ?_ ?_); (· exact rfl); (first | refine awp_textM htb hmz spMn_ok (fun _ => false) rfl rfl ?_ | refine awp_drawM hmo htb hmz spMn_ok (fun _ => false) rfl rfl (by kernel_rfl) ?_); intro m' e' l' ob h; simp only [zE0, zE1, zE2, zE3, zE4, zE5, evp, evx, ev1, evLoad, evStore, evBin, isBoolK, forall_const, z38, tb, Nat.reduceAdd, Nat.reduceSub, Nat.reduceMul, Nat.reduceEqDiff, Nat.reduceLeDiff, Nat.reduceLT, Nat.reduceBEq, Nat.reduceBNe, ↓reduceIte, reduceIte, spMn, fewS, awkS, shortS, meaS, validS, winaS, prgS, gotS, lssS, fromS, smlS, allS, msA, mOf, peta] at h; obtain ⟨rfl, rfl, rfl, rfl⟩ := h; refine ⟨?_, ?_⟩)
      | ((with_reducible refine Ob.mk ?_); first | exact trivial | (intros; omega) | ((repeat' first | apply And.intro | (intro hg; have hg' := hg; try simp only [zH] at hg')) <;> first | assumption | omega | (simp only [zH]; omega)))
    · repeat' first
        | with_reducible first | refine awp_seq ?_ | refine awp_block ?_ | refine next_then ?_ | refine next_block ?_ | refine exit_then ?_ | refine ret_then ?_ | refine ret_block ?_ | refine exit_here ?_ | refine awp_exit ?_ | refine awp_ret ?_ | refine awp_skip ?_ | refine awp_label ?_ | refine next_noGoto ?_ | refine ret_noGoto ?_ | refine exit_noGoto ?_ | refine awp_scope ?_
        | ((with_reducible refine exit_past ?_ ?_); exact rfl)
        | ((with_reducible refine isCond ?_); refine awp_condO rfl ?_ ?_ <;> intro hb <;> (try simp only [zH] at hb))
        | ((with_reducible refine isReg ?_); (first | refine awp_textM htb hmz spMn_ok (fun _ => false) rfl rfl ?_ | refine awp_drawM hmo htb hmz spMn_ok (fun _ => false) rfl rfl (by kernel_rfl) ?_); intro m' e' l' ob h; simp only [zE0, zE1, zE2, zE3, zE4, zE5, evp, evx, ev1, evLoad, evStore, evBin, isBoolK, forall_const, z38, tb, Nat.reduceAdd, Nat.reduceSub, Nat.reduceMul, Nat.reduceEqDiff, Nat.reduceLeDiff, Nat.reduceLT, Nat.reduceBEq, Nat.reduceBNe, ↓reduceIte, reduceIte, spMn, fewS, awkS, shortS, meaS, validS, winaS, prgS, gotS, lssS, fromS, smlS, allS, msA, mOf, peta] at h; obtain ⟨rfl, rfl, rfl, rfl⟩ := h; refine ⟨?_, ?_⟩)
        | ((with_reducible refine Ob.mk ?_); first | exact trivial | (intros; omega) | ((repeat' first | apply And.intro | (intro hg; have hg' := hg; try simp only [zH] at hg')) <;> first | assumption | omega | (simp only [zH]; omega)))
      refine fin_ret rfl rfl (spec_flat rfl ?_ rfl)
      rw [hv']; rfl
    exact absurd hb (by decide)
  have e1 : meaN ⟨o, p, x⟩ = o.length := by unfold meaN; rw [hv]; rfl
  have e2 : meaE ⟨o, p, x⟩ = 0 := by unfold meaE; rw [hv]; rfl
  have hV := validB_iff.1 hv
  have hG := gok hV
  repeat' first
    | with_reducible first | refine awp_seq ?_ | refine awp_block ?_ | refine next_then ?_ | refine next_block ?_ | refine exit_then ?_ | refine ret_then ?_ | refine ret_block ?_ | refine exit_here ?_ | refine awp_exit ?_ | refine awp_ret ?_ | refine awp_skip ?_ | refine awp_label ?_ | refine next_noGoto ?_ | refine ret_noGoto ?_ | refine exit_noGoto ?_ | refine awp_scope ?_
    | ((with_reducible refine exit_past ?_ ?_); exact rfl)
    | ((with_reducible refine isCond ?_); refine awp_condO rfl ?_ ?_ <;> intro hb <;> (try simp only [zH] at hb))
    | ((with_reducible refine isRegS 4 ?_ ?_); (· exact rfl); (first | refine awp_textM htb hmz spMn_ok (fun _ => false) rfl rfl ?_ | refine awp_drawM hmo htb hmz spMn_ok (fun _ => false) rfl rfl (by kernel_rfl) ?_); intro m' e' l' ob h; simp only [zE0, zE1, zE2, zE3, zE4, zE5, evp, evx, ev1, evLoad, evStore, evBin, isBoolK, forall_const, z38, tb, Nat.reduceAdd, Nat.reduceSub, Nat.reduceMul, Nat.reduceEqDiff, Nat.reduceLeDiff, Nat.reduceLT, Nat.reduceBEq, Nat.reduceBNe, ↓reduceIte, reduceIte, spMn, fewS, awkS, shortS, meaS, validS, winaS, prgS, gotS, lssS, fromS, smlS, allS, msA, mOf, peta] at h; obtain ⟨rfl, rfl, rfl, rfl⟩ := h; refine ⟨?_, ?_⟩)
    | ((with_reducible refine Ob.mk ?_); first | exact trivial | (intros; omega) | ((repeat' first | apply And.intro | (intro hg; have hg' := hg; try simp only [zH] at hg')) <;> first | assumption | omega | (simp only [zH]; omega)))
  rw [e1, e2]
  have hMt : ∀ v, v < o.length → (meaF ⟨o, p, x⟩ v).1 = decide ((winA ⟨o, p, x⟩).getD v 0 = 1) := fun v hv => mea_top hV hv
  have hWl : (winA ⟨o, p, x⟩).length = o.length := winL_len
  have hrl : ∀ v, v < o.length → 0 < (x.getD v []).length ∧ (x.getD v []).length ≤ 64 := hG.len
  have hrb : ∀ v, v < o.length → ∀ j, j < (x.getD v []).length → 0 ≤ (x.getD v []).getD j 0 ∧ (x.getD v []).getD j 0 < o.length := hG.at'
  have hpl : p.length = o.length := hG.pl
  have hxl : x.length = o.length := hG.xl
  have hPr : ∀ u v, u < o.length → v < o.length → (prgF ⟨o, p, x⟩ (meaF ⟨o, p, x⟩ u) (p.getD v 0)).2 = 0 := fun u v hu hv => by rw [mea_prog hV hu hv]
  have hPc : ∀ (v : Nat) (u : Int), mmC ⟨o, p, x⟩ v u = ((!(meaF ⟨o, p, x⟩ v).1 && !(prgF ⟨o, p, x⟩ (meaF ⟨o, p, x⟩ u.toNat) (p.getD v 0)).1.1) && decide (lssI (prgF ⟨o, p, x⟩ (meaF ⟨o, p, x⟩ u.toNat) (p.getD v 0)).1 (meaF ⟨o, p, x⟩ v) ≤ 0)) := fun v u => rfl
  have hLn : ∀ (v : Nat) (u : Int), v < o.length → u.toNat < o.length → (prgF ⟨o, p, x⟩ (meaF ⟨o, p, x⟩ u.toNat) (p.getD v 0)).1.1 = false → (meaF ⟨o, p, x⟩ v).1 = false → (prgF ⟨o, p, x⟩ (meaF ⟨o, p, x⟩ u.toNat) (p.getD v 0)).1.2.length = (meaF ⟨o, p, x⟩ v).2.length := fun v u hv hu h1 h2 => by
    rw [mea_prog hV hu hv] at h1 ⊢
    rw [meaF_eq] at h2 ⊢
    have hk : ∀ V : Int, (deM (mnN p 61) V).1 = false → (deM (mnN p 61) V).2.length = (mnN p 61).length := fun V h => by
      rw [deM_fst, decide_eq_false_iff_not] at h
      unfold deM
      rw [if_neg h]; exact dgl_len
    dsimp only at h1 ⊢
    rw [hk _ h1, hk _ h2]
  have hSm : smlF ⟨o, p, x⟩ o.length (meaF ⟨o, p, x⟩) = (true, 0) := mea_small hV
  have hFr : ∀ c : List Int, (∀ v, v < o.length → o.getD v 0 = 0 → (c.getD v 0).toNat ∈ rws x v ∧ (meaV ⟨o, p, x⟩ v < rpr (mnN p 61) → mmC ⟨o, p, x⟩ v (c.getD v 0) = true)) → ∀ v, v < o.length → (meaF ⟨o, p, x⟩ v).1 = false → (fromL ⟨o, p, x⟩ 0 c).getD v false = true := fun c h v hv ht => mea_from hV h hv ht
  have hCs : ∀ v, v < o.length → o.getD v 0 = 0 → meaV ⟨o, p, x⟩ v < rpr (mnN p 61) → ∃ j, j < (x.getD v []).length ∧ mmC ⟨o, p, x⟩ v ((x.getD v []).getD j 0) = true := fun v hv h0 ht => mmC_some hV hv h0 ht
  have hLw : (smlF ⟨o, p, x⟩ n F).1 = true → n = o.length ∧ ∀ v, v < o.length → lssI (meaF ⟨o, p, x⟩ v) (F v) ≤ 0 ∧ ((meaF ⟨o, p, x⟩ v).1 = false → (F v).1 = false → (meaF ⟨o, p, x⟩ v).2.length = (F v).2.length) := mea_low hV
  generalize meaF ⟨o, p, x⟩ = M at *
  generalize mmC ⟨o, p, x⟩ = C at *
  generalize meaV ⟨o, p, x⟩ = V at *
  repeat' first
    | with_reducible first | refine awp_seq ?_ | refine awp_block ?_ | refine next_then ?_ | refine next_block ?_ | refine exit_then ?_ | refine ret_then ?_ | refine ret_block ?_ | refine exit_here ?_ | refine awp_exit ?_ | refine awp_ret ?_ | refine awp_skip ?_ | refine awp_label ?_ | refine next_noGoto ?_ | refine ret_noGoto ?_ | refine exit_noGoto ?_ | refine awp_scope ?_
    | ((with_reducible refine exit_past ?_ ?_); exact rfl)
    | ((with_reducible refine isCond ?_); refine awp_condO rfl ?_ ?_ <;> intro hb <;> (try simp only [zH] at hb))
    | ((with_reducible refine isRegS 5 ?_ ?_); (· exact rfl); (with_reducible refine isRegS 6 ?_ ?_); (· exact rfl); (first | refine awp_textM htb hmz spMn_ok (fun _ => false) rfl rfl ?_ | refine awp_drawM hmo htb hmz spMn_ok (fun _ => false) rfl rfl (by kernel_rfl) ?_); intro m' e' l' ob h; simp only [zE0, zE1, zE2, zE3, zE4, zE5, evp, evx, ev1, evLoad, evStore, evBin, isBoolK, forall_const, z38, tb, Nat.reduceAdd, Nat.reduceSub, Nat.reduceMul, Nat.reduceEqDiff, Nat.reduceLeDiff, Nat.reduceLT, Nat.reduceBEq, Nat.reduceBNe, ↓reduceIte, reduceIte, spMn, fewS, awkS, shortS, meaS, validS, winaS, prgS, gotS, lssS, fromS, smlS, allS, msA, mOf, peta] at h; obtain ⟨rfl, rfl, rfl, rfl⟩ := h; refine ⟨?_, ?_⟩)
    | ((with_reducible refine Ob.mk ?_); first | exact trivial | (intros; omega) | ((repeat' first | apply And.intro | (intro hg; have hg' := hg; try simp only [zH] at hg')) <;> first | assumption | omega | (simp only [zH]; omega)))
  · exact absurd hb (by decide)
  clear hb
  repeat' first
    | with_reducible first | refine awp_seq ?_ | refine awp_block ?_ | refine next_then ?_ | refine next_block ?_ | refine exit_then ?_ | refine ret_then ?_ | refine ret_block ?_ | refine exit_here ?_ | refine awp_exit ?_ | refine awp_ret ?_ | refine awp_skip ?_ | refine awp_label ?_ | refine next_noGoto ?_ | refine ret_noGoto ?_ | refine exit_noGoto ?_ | refine awp_scope ?_
    | ((with_reducible refine exit_past ?_ ?_); exact rfl)
    | ((with_reducible refine isCond ?_); refine awp_condO rfl ?_ ?_ <;> intro hb <;> (try simp only [zH] at hb))
    | ((with_reducible refine isRegS 7 ?_ ?_); (· exact rfl); (with_reducible refine isRegS 8 ?_ ?_); (· exact rfl); (first | refine awp_textM htb hmz spMn_ok (fun _ => false) rfl rfl ?_ | refine awp_drawM hmo htb hmz spMn_ok (fun _ => false) rfl rfl (by kernel_rfl) ?_); intro m' e' l' ob h; simp only [zE0, zE1, zE2, zE3, zE4, zE5, evp, evx, ev1, evLoad, evStore, evBin, isBoolK, forall_const, z38, tb, Nat.reduceAdd, Nat.reduceSub, Nat.reduceMul, Nat.reduceEqDiff, Nat.reduceLeDiff, Nat.reduceLT, Nat.reduceBEq, Nat.reduceBNe, ↓reduceIte, reduceIte, spMn, fewS, awkS, shortS, meaS, validS, winaS, prgS, gotS, lssS, fromS, smlS, allS, msA, mOf, peta] at h; obtain ⟨rfl, rfl, rfl, rfl⟩ := h; refine ⟨?_, ?_⟩)
    | ((with_reducible refine Ob.mk ?_); first | exact trivial | (intros; omega) | ((repeat' first | apply And.intro | (intro hg; have hg' := hg; try simp only [zH] at hg')) <;> first | assumption | omega | (simp only [zH]; omega)))
  · exact absurd hb (by simp)
  clear hb
  generalize hWA : winA ⟨o, p, x⟩ = W at *
  repeat' first
    | with_reducible first | refine awp_seq ?_ | refine awp_block ?_ | refine next_then ?_ | refine next_block ?_ | refine exit_then ?_ | refine ret_then ?_ | refine ret_block ?_ | refine exit_here ?_ | refine awp_exit ?_ | refine awp_ret ?_ | refine awp_skip ?_ | refine awp_label ?_ | refine next_noGoto ?_ | refine ret_noGoto ?_ | refine exit_noGoto ?_ | refine awp_scope ?_
    | ((with_reducible refine exit_past ?_ ?_); exact rfl)
    | ((with_reducible refine isCond ?_); refine awp_condO rfl ?_ ?_ <;> intro hb <;> (try simp only [zH] at hb))
    | ((with_reducible refine isReg ?_); (first | refine awp_textM htb hmz spMn_ok (fun _ => false) rfl rfl ?_ | refine awp_drawM hmo htb hmz spMn_ok (fun _ => false) rfl rfl (by kernel_rfl) ?_); intro m' e' l' ob h; simp only [zE0, zE1, zE2, zE3, zE4, zE5, evp, evx, ev1, evLoad, evStore, evBin, isBoolK, forall_const, z38, tb, Nat.reduceAdd, Nat.reduceSub, Nat.reduceMul, Nat.reduceEqDiff, Nat.reduceLeDiff, Nat.reduceLT, Nat.reduceBEq, Nat.reduceBNe, ↓reduceIte, reduceIte, spMn, fewS, awkS, shortS, meaS, validS, winaS, prgS, gotS, lssS, fromS, smlS, allS, msA, mOf, peta] at h; obtain ⟨rfl, rfl, rfl, rfl⟩ := h; refine ⟨?_, ?_⟩)
    | ((with_reducible refine Ob.mk ?_); first | exact trivial | (intros; omega) | ((repeat' first | apply And.intro | (intro hg; have hg' := hg; try simp only [zH] at hg')) <;> first | assumption | omega | (simp only [zH]; omega)))
  rw [hWA]
  obtain ⟨Q, hQ⟩ : ∃ Q : Nat → Int → Prop, Q = fun v c => (∃ j, j < (x.getD v []).length ∧ c = (x.getD v []).getD j 0) ∧ (V v < rpr (mnN p 61) → C v c = true) := ⟨_, rfl⟩
  refine awp_loopC (τ := MmS) (fun s => s.i ≤ o.length ∧ s.ch.length = o.length ∧ ∀ v, v < s.i → o.getD v 0 = 0 → Q v (s.ch.getD v 0)) (fun s => ⟨33, [(55, .int .i64 s.i), (54, .int .i64 W.length), (53, .roI W), (7, .own 27), (5, (.ro 2 o.length fun j => .agg (.cons (.bool (M j).1) (.cons (.roI (M j).2) .nil)))), (2, (.rop (.agg (.cons (.roI o) (.cons (.roI p) (.cons (.roII x) .nil)))))), (1, (.ro 2 n fun j => .agg (.cons (.bool (F j).1) (.cons (.roI (F j).2) .nil))))], [(27, some (.ints s.ch))], []⟩) (fun s => o.length - s.i) ⟨0, List.replicate o.length 0⟩ [] ?_ ⟨Nat.zero_le _, List.length_replicate, fun v hv => absurd hv (Nat.not_lt_zero v)⟩ ?_
  · (refine ⟨rfl, ?_, ?_⟩ <;> simp only [zE0, zE1, zE2, zE3, zE4, zE5, evp, evx, ev1, evLoad, evStore, evBin, isBoolK, forall_const, z38, tb, Nat.reduceAdd, Nat.reduceSub, Nat.reduceMul, Nat.reduceEqDiff, Nat.reduceLeDiff, Nat.reduceLT, Nat.reduceBEq, Nat.reduceBNe, ↓reduceIte, reduceIte, spMn, fewS, awkS, shortS, meaS, validS, winaS, prgS, gotS, lssS, fromS, smlS, allS, msA, mOf, peta, zI])
  rintro ⟨i, ch⟩ ⟨hi, hcl, hch⟩
  dsimp only at hi hcl hch ⊢
  have hMt1 := hMt i
  have hrl1 := hrl i
  repeat' first
    | with_reducible first | refine awp_seq ?_ | refine awp_block ?_ | refine next_then ?_ | refine next_block ?_ | refine exit_then ?_ | refine ret_then ?_ | refine ret_block ?_ | refine exit_here ?_ | refine awp_exit ?_ | refine awp_ret ?_ | refine awp_skip ?_ | refine awp_label ?_ | refine next_noGoto ?_ | refine ret_noGoto ?_ | refine exit_noGoto ?_ | refine awp_scope ?_
    | ((with_reducible refine exit_past ?_ ?_); exact rfl)
    | ((with_reducible refine isCond ?_); refine awp_condO rfl ?_ ?_ <;> intro hb <;> (try simp only [zH] at hb))
    | ((with_reducible refine isRegS 14 ?_ ?_); (· exact rfl); (with_reducible refine isRegS 27 ?_ ?_); (· exact rfl); (first | refine awp_textM htb hmz spMn_ok (fun _ => false) rfl rfl ?_ | refine awp_drawM hmo htb hmz spMn_ok (fun _ => false) rfl rfl (by kernel_rfl) ?_); intro m' e' l' ob h; simp only [zE0, zE1, zE2, zE3, zE4, zE5, evp, evx, ev1, evLoad, evStore, evBin, isBoolK, forall_const, z38, tb, Nat.reduceAdd, Nat.reduceSub, Nat.reduceMul, Nat.reduceEqDiff, Nat.reduceLeDiff, Nat.reduceLT, Nat.reduceBEq, Nat.reduceBNe, ↓reduceIte, reduceIte, spMn, fewS, awkS, shortS, meaS, validS, winaS, prgS, gotS, lssS, fromS, smlS, allS, msA, mOf, peta] at h; obtain ⟨rfl, rfl, rfl, rfl⟩ := h; refine ⟨?_, ?_⟩)
    | ((with_reducible refine Ob.mk ?_); first | exact trivial | (intros; omega) | ((repeat' first | apply And.intro | (intro hg; have hg' := hg; try simp only [zH] at hg')) <;> first | assumption | omega | (simp only [zH]; omega)))
  · rw [hMt1 (by omega)] at hb
    exact absurd hb (by simp)
  · clear hb
    have hcl2 : ∀ c : Int, (ch.set i c).length = o.length := fun c => by rw [List.length_set, hcl]
    have hset : ∀ c : Int, i < o.length → (o.getD i 0 = 0 → Q i c) → ∀ v, v < i + 1 → o.getD v 0 = 0 → Q v ((ch.set i c).getD v 0) := fun c hi hc v hv h0 => by
      rw [getD_set (by omega)]
      split
      · rename_i e; subst e; exact hc h0
      · exact hch v (by omega) h0
    repeat' first
      | with_reducible first | refine awp_seq ?_ | refine awp_block ?_ | refine next_then ?_ | refine next_block ?_ | refine exit_then ?_ | refine ret_then ?_ | refine ret_block ?_ | refine exit_here ?_ | refine awp_exit ?_ | refine awp_ret ?_ | refine awp_skip ?_ | refine awp_label ?_ | refine next_noGoto ?_ | refine ret_noGoto ?_ | refine exit_noGoto ?_ | refine awp_scope ?_
      | ((with_reducible refine exit_past ?_ ?_); exact rfl)
      | ((with_reducible refine isCond ?_); refine awp_condO rfl ?_ ?_ <;> intro hb <;> (try simp only [zH] at hb))
      | ((with_reducible refine isRegS 16 ?_ ?_); (· exact rfl); (with_reducible refine isRegS 17 ?_ ?_); (· exact rfl); (first | refine awp_textM htb hmz spMn_ok (fun _ => false) rfl rfl ?_ | refine awp_drawM hmo htb hmz spMn_ok (fun _ => false) rfl rfl (by kernel_rfl) ?_); intro m' e' l' ob h; simp only [zE0, zE1, zE2, zE3, zE4, zE5, evp, evx, ev1, evLoad, evStore, evBin, isBoolK, forall_const, z38, tb, Nat.reduceAdd, Nat.reduceSub, Nat.reduceMul, Nat.reduceEqDiff, Nat.reduceLeDiff, Nat.reduceLT, Nat.reduceBEq, Nat.reduceBNe, ↓reduceIte, reduceIte, spMn, fewS, awkS, shortS, meaS, validS, winaS, prgS, gotS, lssS, fromS, smlS, allS, msA, mOf, peta] at h; obtain ⟨rfl, rfl, rfl, rfl⟩ := h; refine ⟨?_, ?_⟩)
      | ((with_reducible refine Ob.mk ?_); first | exact trivial | (intros; omega) | ((repeat' first | apply And.intro | (intro hg; have hg' := hg; try simp only [zH] at hg')) <;> first | assumption | omega | (simp only [zH]; omega)))
    · refine back ⟨i + 1, ch.set i (-1)⟩ [] ?_ ⟨by dsimp only; omega, hcl2 _, hset _ (by omega) fun h => absurd h hb⟩ (by dsimp only; omega)
      (refine ⟨rfl, ?_, ?_⟩ <;> simp only [zE0, zE1, zE2, zE3, zE4, zE5, evp, evx, ev1, evLoad, evStore, evBin, isBoolK, forall_const, z38, tb, Nat.reduceAdd, Nat.reduceSub, Nat.reduceMul, Nat.reduceEqDiff, Nat.reduceLeDiff, Nat.reduceLT, Nat.reduceBEq, Nat.reduceBNe, ↓reduceIte, reduceIte, spMn, fewS, awkS, shortS, meaS, validS, winaS, prgS, gotS, lssS, fromS, smlS, allS, msA, mOf, peta, zI])
    have hx0 : x.getD i [] ≠ [] := fun h => by
      have := (hrl1 (by omega)).1
      rw [h] at this; exact absurd this (Nat.lt_irrefl 0)
    have hio : i < o.length := by omega
    have hrb1 := hrb i
    have hPc1 := hPc i
    have hLn1 := hLn i
    have hPr1 : ∀ u, u < o.length → i < o.length → (prgF ⟨o, p, x⟩ (M u) (p.getD i 0)).2 = 0 := fun u hu hi => hPr u i hu hi
    have hQi : ∀ c, Q i c ↔ (∃ j, j < (x.getD i []).length ∧ c = (x.getD i []).getD j 0) ∧ (V i < rpr (mnN p 61) → C i c = true) := fun c => by rw [hQ]
    have hCi := hCs i
    clear hPc hPr hLn hch hMt hrl hrb hQ hFr hLw hCs hSm
    repeat' first
      | with_reducible first | refine awp_seq ?_ | refine awp_block ?_ | refine next_then ?_ | refine next_block ?_ | refine exit_then ?_ | refine ret_then ?_ | refine ret_block ?_ | refine exit_here ?_ | refine awp_exit ?_ | refine awp_ret ?_ | refine awp_skip ?_ | refine awp_label ?_ | refine next_noGoto ?_ | refine ret_noGoto ?_ | refine exit_noGoto ?_ | refine awp_scope ?_
      | ((with_reducible refine exit_past ?_ ?_); exact rfl)
      | ((with_reducible refine isCond ?_); refine awp_condO rfl ?_ ?_ <;> intro hb <;> (try simp only [zH] at hb))
      | ((with_reducible refine isReg ?_); (first | refine awp_textM htb hmz spMn_ok (fun _ => false) rfl rfl ?_ | refine awp_drawM hmo htb hmz spMn_ok (fun _ => false) rfl rfl (by kernel_rfl) ?_); intro m' e' l' ob h; simp only [zE0, zE1, zE2, zE3, zE4, zE5, evp, evx, ev1, evLoad, evStore, evBin, isBoolK, forall_const, z38, tb, Nat.reduceAdd, Nat.reduceSub, Nat.reduceMul, Nat.reduceEqDiff, Nat.reduceLeDiff, Nat.reduceLT, Nat.reduceBEq, Nat.reduceBNe, ↓reduceIte, reduceIte, spMn, fewS, awkS, shortS, meaS, validS, winaS, prgS, gotS, lssS, fromS, smlS, allS, msA, mOf, peta] at h; obtain ⟨rfl, rfl, rfl, rfl⟩ := h; refine ⟨?_, ?_⟩)
      | ((with_reducible refine Ob.mk ?_); first | exact trivial | (intros; omega) | ((repeat' first | apply And.intro | (intro hg; have hg' := hg; try simp only [zH] at hg')) <;> first | assumption | omega | (simp only [zH]; omega)))
    rw [List.set_set]
    generalize x.getD i [] = rw at *
    refine awp_loopC (τ := MmJ) (fun t => t.j ≤ rw.length ∧ (∃ k, k < rw.length ∧ t.c = rw.getD k 0) ∧ ∀ k, k < t.j → C i (rw.getD k 0) = true → C i t.c = true) (fun t => ⟨75, [(93, .int .i64 t.j), (92, .int .i64 rw.length), (91, .roI rw), (8, .int .i64 i), (55, .int .i64 i), (54, .int .i64 W.length), (53, .roI W), (7, .own 27), (5, (.ro 2 o.length fun j => .agg (.cons (.bool (M j).1) (.cons (.roI (M j).2) .nil)))), (2, (.rop (.agg (.cons (.roI o) (.cons (.roI p) (.cons (.roII x) .nil)))))), (1, (.ro 2 n fun j => .agg (.cons (.bool (F j).1) (.cons (.roI (F j).2) .nil))))], [(27, some (.ints (ch.set i t.c)))], []⟩) (fun t => rw.length - t.j) ⟨0, rw.getD 0 0⟩ [] ?_ ⟨Nat.zero_le _, ⟨0, (hrl1 (by omega)).1, rfl⟩, fun k hk => absurd hk (Nat.not_lt_zero k)⟩ ?_
    · (refine ⟨rfl, ?_, ?_⟩ <;> simp only [zE0, zE1, zE2, zE3, zE4, zE5, evp, evx, ev1, evLoad, evStore, evBin, isBoolK, forall_const, z38, tb, Nat.reduceAdd, Nat.reduceSub, Nat.reduceMul, Nat.reduceEqDiff, Nat.reduceLeDiff, Nat.reduceLT, Nat.reduceBEq, Nat.reduceBNe, ↓reduceIte, reduceIte, spMn, fewS, awkS, shortS, meaS, validS, winaS, prgS, gotS, lssS, fromS, smlS, allS, msA, mOf, peta, zI])
    rintro ⟨j, c⟩ ⟨hj, hc1, hc2⟩
    dsimp only at hj hc1 hc2 ⊢
    have hio : i < o.length := hio
    have hrb2 := hrb1 hio j
    have hPc2 := hPc1 (rw.getD j 0)
    have hLn2 : (rw.getD j 0).toNat < o.length → _ := hLn1 (rw.getD j 0) hio
    have hPr2 : (rw.getD j 0).toNat < o.length → _ := fun h => hPr1 (rw.getD j 0).toNat h hio
    have hcl3 := hcl2 c
    clear hrb1 hPc1 hLn1 hPr1
    repeat' first
      | with_reducible first | refine awp_seq ?_ | refine awp_block ?_ | refine next_then ?_ | refine next_block ?_ | refine exit_then ?_ | refine ret_then ?_ | refine ret_block ?_ | refine exit_here ?_ | refine awp_exit ?_ | refine awp_ret ?_ | refine awp_skip ?_ | refine awp_label ?_ | refine next_noGoto ?_ | refine ret_noGoto ?_ | refine exit_noGoto ?_ | refine awp_scope ?_
      | ((with_reducible refine exit_past ?_ ?_); exact rfl)
      | ((with_reducible refine isCond ?_); refine awp_condO rfl ?_ ?_ <;> intro hb <;> (try simp only [zH] at hb))
      | ((with_reducible refine isRegS 21 ?_ ?_); (· exact rfl); (with_reducible refine isRegS 26 ?_ ?_); (· exact rfl); (first | refine awp_textM htb hmz spMn_ok (fun _ => false) rfl rfl ?_ | refine awp_drawM hmo htb hmz spMn_ok (fun _ => false) rfl rfl (by kernel_rfl) ?_); intro m' e' l' ob h; simp only [zE0, zE1, zE2, zE3, zE4, zE5, evp, evx, ev1, evLoad, evStore, evBin, isBoolK, forall_const, z38, tb, Nat.reduceAdd, Nat.reduceSub, Nat.reduceMul, Nat.reduceEqDiff, Nat.reduceLeDiff, Nat.reduceLT, Nat.reduceBEq, Nat.reduceBNe, ↓reduceIte, reduceIte, spMn, fewS, awkS, shortS, meaS, validS, winaS, prgS, gotS, lssS, fromS, smlS, allS, msA, mOf, peta] at h; obtain ⟨rfl, rfl, rfl, rfl⟩ := h; refine ⟨?_, ?_⟩)
      | ((with_reducible refine Ob.mk ?_); first | exact trivial | (intros; omega) | ((repeat' first | apply And.intro | (intro hg; have hg' := hg; try simp only [zH] at hg')) <;> first | assumption | omega | (simp only [zH]; omega)))
    · generalize prgF ⟨o, p, x⟩ (M (rw.getD j 0).toNat) (p.getD i 0) = PF at *
      have hjr : j < rw.length := by omega
      have hun : (rw.getD j 0).toNat < o.length := by have := hrb2 hjr; omega
      have hPr3 : PF.2 = 0 := hPr2 hun
      have hLn3 := hLn2 hun
      clear hPr2 hLn2
      repeat' first
        | with_reducible first | refine awp_seq ?_ | refine awp_block ?_ | refine next_then ?_ | refine next_block ?_ | refine exit_then ?_ | refine ret_then ?_ | refine ret_block ?_ | refine exit_here ?_ | refine awp_exit ?_ | refine awp_ret ?_ | refine awp_skip ?_ | refine awp_label ?_ | refine next_noGoto ?_ | refine ret_noGoto ?_ | refine exit_noGoto ?_ | refine awp_scope ?_
        | ((with_reducible refine exit_past ?_ ?_); exact rfl)
        | ((with_reducible refine isCond ?_); refine awp_condO rfl ?_ ?_ <;> intro hb <;> (try simp only [zH] at hb))
        | ((with_reducible refine isRegS 22 ?_ ?_); (· exact rfl); (with_reducible refine isRegS 23 ?_ ?_); (· exact rfl); (first | refine awp_textM htb hmz spMn_ok (fun _ => false) rfl rfl ?_ | refine awp_drawM hmo htb hmz spMn_ok (fun _ => false) rfl rfl (by kernel_rfl) ?_); intro m' e' l' ob h; simp only [zE0, zE1, zE2, zE3, zE4, zE5, evp, evx, ev1, evLoad, evStore, evBin, isBoolK, forall_const, z38, tb, Nat.reduceAdd, Nat.reduceSub, Nat.reduceMul, Nat.reduceEqDiff, Nat.reduceLeDiff, Nat.reduceLT, Nat.reduceBEq, Nat.reduceBNe, ↓reduceIte, reduceIte, spMn, fewS, awkS, shortS, meaS, validS, winaS, prgS, gotS, lssS, fromS, smlS, allS, msA, mOf, peta] at h; obtain ⟨rfl, rfl, rfl, rfl⟩ := h; refine ⟨?_, ?_⟩)
        | ((with_reducible refine Ob.mk ?_); first | exact trivial | (intros; omega) | ((repeat' first | apply And.intro | (intro hg; have hg' := hg; try simp only [zH] at hg')) <;> first | assumption | omega | (simp only [zH]; omega)))
      · exact absurd hPr3 hb
      clear hb
      obtain ⟨⟨pt, pl2⟩, pe⟩ := PF
      dsimp only at *
      repeat' first
        | with_reducible first | refine awp_seq ?_ | refine awp_block ?_ | refine next_then ?_ | refine next_block ?_ | refine exit_then ?_ | refine ret_then ?_ | refine ret_block ?_ | refine exit_here ?_ | refine awp_exit ?_ | refine awp_ret ?_ | refine awp_skip ?_ | refine awp_label ?_ | refine next_noGoto ?_ | refine ret_noGoto ?_ | refine exit_noGoto ?_ | refine awp_scope ?_
        | ((with_reducible refine exit_past ?_ ?_); exact rfl)
        | ((with_reducible refine isCond ?_); refine awp_condO rfl ?_ ?_ <;> intro hb <;> (try simp only [zH] at hb))
        | ((with_reducible refine isRegS 23 ?_ ?_); (· exact rfl); (first | refine awp_textM htb hmz spMn_ok (fun _ => false) rfl rfl ?_ | refine awp_drawM hmo htb hmz spMn_ok (fun _ => false) rfl rfl (by kernel_rfl) ?_); intro m' e' l' ob h; simp only [zE0, zE1, zE2, zE3, zE4, zE5, evp, evx, ev1, evLoad, evStore, evBin, isBoolK, forall_const, z38, tb, Nat.reduceAdd, Nat.reduceSub, Nat.reduceMul, Nat.reduceEqDiff, Nat.reduceLeDiff, Nat.reduceLT, Nat.reduceBEq, Nat.reduceBNe, ↓reduceIte, reduceIte, spMn, fewS, awkS, shortS, meaS, validS, winaS, prgS, gotS, lssS, fromS, smlS, allS, msA, mOf, peta] at h; obtain ⟨rfl, rfl, rfl, rfl⟩ := h; refine ⟨?_, ?_⟩)
        | ((with_reducible refine Ob.mk ?_); first | exact trivial | (intros; omega) | ((repeat' first | apply And.intro | (intro hg; have hg' := hg; try simp only [zH] at hg')) <;> first | assumption | omega | (simp only [zH]; omega)))
      refine awp_leC ⟨98, [(12, .own 93), (11, .int .i64 (rw.getD j 0)), (93, .int .i64 j), (92, .int .i64 rw.length), (91, .roI rw), (8, .int .i64 i), (55, .int .i64 i), (54, .int .i64 W.length), (53, .roI W), (7, .own 27), (5, (.ro 2 o.length fun j => .agg (.cons (.bool (M j).1) (.cons (.roI (M j).2) .nil)))), (2, (.rop (.agg (.cons (.roI o) (.cons (.roI p) (.cons (.roII x) .nil)))))), (1, (.ro 2 n fun j => .agg (.cons (.bool (F j).1) (.cons (.roI (F j).2) .nil))))], [(27, some (.ints (ch.set i c))), (93, some (.box (.agg (.cons (.bool pt) (.cons (.roI pl2) .nil)))))], []⟩ [] ?_ ?_
      · (refine ⟨rfl, ?_, ?_⟩ <;> simp only [zE0, zE1, zE2, zE3, zE4, zE5, evp, evx, ev1, evLoad, evStore, evBin, isBoolK, forall_const, z38, tb, Nat.reduceAdd, Nat.reduceSub, Nat.reduceMul, Nat.reduceEqDiff, Nat.reduceLeDiff, Nat.reduceLT, Nat.reduceBEq, Nat.reduceBNe, ↓reduceIte, reduceIte, spMn, fewS, awkS, shortS, meaS, validS, winaS, prgS, gotS, lssS, fromS, smlS, allS, msA, mOf, peta, zI])
      (refine awp_drawM hmo htb hmz spMn_ok (fun _ => false) rfl rfl (by kernel_rfl) ?_; intro m' e' l' ob h; simp only [zE0, zE1, zE2, zE3, zE4, zE5, evp, evx, ev1, evLoad, evStore, evBin, isBoolK, forall_const, z38, tb, Nat.reduceAdd, Nat.reduceSub, Nat.reduceMul, Nat.reduceEqDiff, Nat.reduceLeDiff, Nat.reduceLT, Nat.reduceBEq, Nat.reduceBNe, ↓reduceIte, reduceIte, spMn, fewS, awkS, shortS, meaS, validS, winaS, prgS, gotS, lssS, fromS, smlS, allS, msA, mOf, peta] at h; obtain ⟨rfl, rfl, rfl, rfl⟩ := h; refine ⟨?_, ?_⟩)
      · exact Ob.mk ⟨⟨⟨by omega, by omega⟩, fun h => ⟨h, by omega, by omega⟩⟩, fun h => ⟨h, hLn3⟩⟩
      have hrl2 : rw.length ≤ 64 := (hrl1 hio).2
      clear hl hset hrl1 hrb2 hun hLn3 hCi hMt1 hPr3
      repeat' first
        | with_reducible first | refine awp_seq ?_ | refine awp_block ?_ | refine next_then ?_ | refine next_block ?_ | refine exit_then ?_ | refine ret_then ?_ | refine ret_block ?_ | refine exit_here ?_ | refine awp_exit ?_ | refine awp_ret ?_ | refine awp_skip ?_ | refine awp_label ?_ | refine next_noGoto ?_ | refine ret_noGoto ?_ | refine exit_noGoto ?_ | refine awp_scope ?_
        | ((with_reducible refine exit_past ?_ ?_); exact rfl)
        | ((with_reducible refine isCond ?_); refine awp_condO rfl ?_ ?_ <;> intro hb <;> (try simp only [zH] at hb))
        | ((with_reducible refine isRegS 24 ?_ ?_); (· exact rfl); (with_reducible refine isRegS 25 ?_ ?_); (· exact rfl); (first | refine awp_textM htb hmz spMn_ok (fun _ => false) rfl rfl ?_ | refine awp_drawM hmo htb hmz spMn_ok (fun _ => false) rfl rfl (by kernel_rfl) ?_); intro m' e' l' ob h; simp only [zE0, zE1, zE2, zE3, zE4, zE5, evp, evx, ev1, evLoad, evStore, evBin, isBoolK, forall_const, z38, tb, Nat.reduceAdd, Nat.reduceSub, Nat.reduceMul, Nat.reduceEqDiff, Nat.reduceLeDiff, Nat.reduceLT, Nat.reduceBEq, Nat.reduceBNe, ↓reduceIte, reduceIte, spMn, fewS, awkS, shortS, meaS, validS, winaS, prgS, gotS, lssS, fromS, smlS, allS, msA, mOf, peta] at h; obtain ⟨rfl, rfl, rfl, rfl⟩ := h; refine ⟨?_, ?_⟩)
        | ((with_reducible refine Ob.mk ?_); first | exact trivial | (intros; omega) | ((repeat' first | apply And.intro | (intro hg; have hg' := hg; try simp only [zH] at hg')) <;> first | assumption | omega | (simp only [zH]; omega)))
      · repeat' first
          | with_reducible first | refine awp_seq ?_ | refine awp_block ?_ | refine next_then ?_ | refine next_block ?_ | refine exit_then ?_ | refine ret_then ?_ | refine ret_block ?_ | refine exit_here ?_ | refine awp_exit ?_ | refine awp_ret ?_ | refine awp_skip ?_ | refine awp_label ?_ | refine next_noGoto ?_ | refine ret_noGoto ?_ | refine exit_noGoto ?_ | refine awp_scope ?_
          | ((with_reducible refine exit_past ?_ ?_); exact rfl)
          | ((with_reducible refine isCond ?_); refine awp_condO rfl ?_ ?_ <;> intro hb <;> (try simp only [zH] at hb))
          | ((with_reducible refine isReg ?_); (first | refine awp_textM htb hmz spMn_ok (fun _ => false) rfl rfl ?_ | refine awp_drawM hmo htb hmz spMn_ok (fun _ => false) rfl rfl (by kernel_rfl) ?_); intro m' e' l' ob h; simp only [zE0, zE1, zE2, zE3, zE4, zE5, evp, evx, ev1, evLoad, evStore, evBin, isBoolK, forall_const, z38, tb, Nat.reduceAdd, Nat.reduceSub, Nat.reduceMul, Nat.reduceEqDiff, Nat.reduceLeDiff, Nat.reduceLT, Nat.reduceBEq, Nat.reduceBNe, ↓reduceIte, reduceIte, spMn, fewS, awkS, shortS, meaS, validS, winaS, prgS, gotS, lssS, fromS, smlS, allS, msA, mOf, peta] at h; obtain ⟨rfl, rfl, rfl, rfl⟩ := h; refine ⟨?_, ?_⟩)
          | ((with_reducible refine Ob.mk ?_); first | exact trivial | (intros; omega) | ((repeat' first | apply And.intro | (intro hg; have hg' := hg; try simp only [zH] at hg')) <;> first | assumption | omega | (simp only [zH]; omega)))
        have hCt : C i (rw.getD j 0) = true := by rw [hPc2, decide_eq_true hb.2, hb.1.1, hb.1.2]; rfl
        refine back ⟨j + 1, rw.getD j 0⟩ [] ?_ ⟨by dsimp only; omega, mm_next hjr hc1 hc2 (.inl ⟨hCt, rfl⟩)⟩ (by dsimp only; omega)
        (refine ⟨rfl, ?_, ?_⟩ <;> simp only [zE0, zE1, zE2, zE3, zE4, zE5, evp, evx, ev1, evLoad, evStore, evBin, isBoolK, forall_const, z38, tb, Nat.reduceAdd, Nat.reduceSub, Nat.reduceMul, Nat.reduceEqDiff, Nat.reduceLeDiff, Nat.reduceLT, Nat.reduceBEq, Nat.reduceBNe, ↓reduceIte, reduceIte, spMn, fewS, awkS, shortS, meaS, validS, winaS, prgS, gotS, lssS, fromS, smlS, allS, msA, mOf, peta, zI])
        rw [List.set_set]
      · repeat' first
          | with_reducible first | refine awp_seq ?_ | refine awp_block ?_ | refine next_then ?_ | refine next_block ?_ | refine exit_then ?_ | refine ret_then ?_ | refine ret_block ?_ | refine exit_here ?_ | refine awp_exit ?_ | refine awp_ret ?_ | refine awp_skip ?_ | refine awp_label ?_ | refine next_noGoto ?_ | refine ret_noGoto ?_ | refine exit_noGoto ?_ | refine awp_scope ?_
          | ((with_reducible refine exit_past ?_ ?_); exact rfl)
          | ((with_reducible refine isCond ?_); refine awp_condO rfl ?_ ?_ <;> intro hb <;> (try simp only [zH] at hb))
          | ((with_reducible refine isReg ?_); (first | refine awp_textM htb hmz spMn_ok (fun _ => false) rfl rfl ?_ | refine awp_drawM hmo htb hmz spMn_ok (fun _ => false) rfl rfl (by kernel_rfl) ?_); intro m' e' l' ob h; simp only [zE0, zE1, zE2, zE3, zE4, zE5, evp, evx, ev1, evLoad, evStore, evBin, isBoolK, forall_const, z38, tb, Nat.reduceAdd, Nat.reduceSub, Nat.reduceMul, Nat.reduceEqDiff, Nat.reduceLeDiff, Nat.reduceLT, Nat.reduceBEq, Nat.reduceBNe, ↓reduceIte, reduceIte, spMn, fewS, awkS, shortS, meaS, validS, winaS, prgS, gotS, lssS, fromS, smlS, allS, msA, mOf, peta] at h; obtain ⟨rfl, rfl, rfl, rfl⟩ := h; refine ⟨?_, ?_⟩)
          | ((with_reducible refine Ob.mk ?_); first | exact trivial | (intros; omega) | ((repeat' first | apply And.intro | (intro hg; have hg' := hg; try simp only [zH] at hg')) <;> first | assumption | omega | (simp only [zH]; omega)))
        have hCt : C i (rw.getD j 0) = false := by
          rw [hPc2]
          rcases hb with (h | h) | h
          · rw [h]; rfl
          · rw [h]; simp
          · rw [decide_eq_false (by omega), Bool.and_false]
        refine back ⟨j + 1, c⟩ [] ?_ ⟨by dsimp only; omega, mm_next hjr hc1 hc2 (.inr ⟨hCt, rfl⟩)⟩ (by dsimp only; omega)
        (refine ⟨rfl, ?_, ?_⟩ <;> simp only [zE0, zE1, zE2, zE3, zE4, zE5, evp, evx, ev1, evLoad, evStore, evBin, isBoolK, forall_const, z38, tb, Nat.reduceAdd, Nat.reduceSub, Nat.reduceMul, Nat.reduceEqDiff, Nat.reduceLeDiff, Nat.reduceLT, Nat.reduceBEq, Nat.reduceBNe, ↓reduceIte, reduceIte, spMn, fewS, awkS, shortS, meaS, validS, winaS, prgS, gotS, lssS, fromS, smlS, allS, msA, mOf, peta, zI])
    have hje : j = rw.length := by omega
    subst hje
    have hQc : o.getD i 0 = 0 → Q i c := fun h0 => (hQi c).2 ⟨hc1, fun hV => by
      obtain ⟨k, hk1, hk2⟩ := hCi hio h0 hV
      exact hc2 k hk1 hk2⟩
    have hst := hset c hio hQc
    clear hl hset hrl1 hrb2 hCi hMt1 hc1 hc2 hPr2 hLn2 hPc2
    repeat' first
      | with_reducible first | refine awp_seq ?_ | refine awp_block ?_ | refine next_then ?_ | refine next_block ?_ | refine exit_then ?_ | refine ret_then ?_ | refine ret_block ?_ | refine exit_here ?_ | refine awp_exit ?_ | refine awp_ret ?_ | refine awp_skip ?_ | refine awp_label ?_ | refine next_noGoto ?_ | refine ret_noGoto ?_ | refine exit_noGoto ?_ | refine awp_scope ?_
      | ((with_reducible refine exit_past ?_ ?_); exact rfl)
      | ((with_reducible refine isCond ?_); refine awp_condO rfl ?_ ?_ <;> intro hb <;> (try simp only [zH] at hb))
      | ((with_reducible refine isReg ?_); (first | refine awp_textM htb hmz spMn_ok (fun _ => false) rfl rfl ?_ | refine awp_drawM hmo htb hmz spMn_ok (fun _ => false) rfl rfl (by kernel_rfl) ?_); intro m' e' l' ob h; simp only [zE0, zE1, zE2, zE3, zE4, zE5, evp, evx, ev1, evLoad, evStore, evBin, isBoolK, forall_const, z38, tb, Nat.reduceAdd, Nat.reduceSub, Nat.reduceMul, Nat.reduceEqDiff, Nat.reduceLeDiff, Nat.reduceLT, Nat.reduceBEq, Nat.reduceBNe, ↓reduceIte, reduceIte, spMn, fewS, awkS, shortS, meaS, validS, winaS, prgS, gotS, lssS, fromS, smlS, allS, msA, mOf, peta] at h; obtain ⟨rfl, rfl, rfl, rfl⟩ := h; refine ⟨?_, ?_⟩)
      | ((with_reducible refine Ob.mk ?_); first | exact trivial | (intros; omega) | ((repeat' first | apply And.intro | (intro hg; have hg' := hg; try simp only [zH] at hg')) <;> first | assumption | omega | (simp only [zH]; omega)))
    refine back ⟨i + 1, ch.set i c⟩ [] ?_ ⟨by dsimp only; omega, hcl2 _, hst⟩ (by dsimp only; omega)
    (refine ⟨rfl, ?_, ?_⟩ <;> simp only [zE0, zE1, zE2, zE3, zE4, zE5, evp, evx, ev1, evLoad, evStore, evBin, isBoolK, forall_const, z38, tb, Nat.reduceAdd, Nat.reduceSub, Nat.reduceMul, Nat.reduceEqDiff, Nat.reduceLeDiff, Nat.reduceLT, Nat.reduceBEq, Nat.reduceBNe, ↓reduceIte, reduceIte, spMn, fewS, awkS, shortS, meaS, validS, winaS, prgS, gotS, lssS, fromS, smlS, allS, msA, mOf, peta, zI])
  have hie : i = o.length := by omega
  subst hie
  refine awp_fzN 27 (.roI ch) (by simp only [lkr_cons, lkr_nil, fzE, fzA, fzR, fzB, set1, nbeq, Nat.reduceEqDiff, decide_true, decide_false, ↓reduceIte, reduceIte, cond_true, cond_false, List.take_length, Option.some.injEq]; rfl) (by first | exact rfl | (refine ⟨?_, rfl⟩; first | rfl | (intros; rfl))) (by simp only [lkr_cons, lkr_nil, fzE, fzA, fzR, fzB, set1, nbeq, Nat.reduceEqDiff, decide_true, decide_false, ↓reduceIte, reduceIte, cond_true, cond_false, List.take_length, Option.some.injEq]; rfl) (by simp only [lkr_cons, lkr_nil, fzE, fzA, fzR, fzB, set1, nbeq, Nat.reduceEqDiff, decide_true, decide_false, ↓reduceIte, reduceIte, cond_true, cond_false, List.take_length, Option.some.injEq]; rfl) ?_
  have hcr : ∀ v, v < o.length → o.getD v 0 = 0 → 0 ≤ ch.getD v 0 ∧ ch.getD v 0 < (o.length : Int) := fun v hv h0 => by
    have := hch v hv h0
    rw [hQ] at this
    obtain ⟨⟨k, hk, e⟩, _⟩ := this
    rw [e]; exact hrb v hv k hk
  have hf1 := hFr ch fun v hv h0 => by
    have := hch v hv h0
    rw [hQ] at this
    obtain ⟨⟨k, hk, e⟩, h2⟩ := this
    refine ⟨?_, h2⟩
    rw [e]; exact row_at hk
  clear hFr hCs hPc hPr hLn hch hMt hrl hrb hQ hMt1 hrl1 hxl hpl
  have hp01 : (0 : Int) ≤ 0 ∧ (0 : Int) ≤ 1 := ⟨by decide, by decide⟩
  have hfl : (fromL ⟨o, p, x⟩ 0 ch).length = o.length := by simp [fromL]
  repeat' first
    | with_reducible first | refine awp_seq ?_ | refine awp_block ?_ | refine next_then ?_ | refine next_block ?_ | refine exit_then ?_ | refine ret_then ?_ | refine ret_block ?_ | refine exit_here ?_ | refine awp_exit ?_ | refine awp_ret ?_ | refine awp_skip ?_ | refine awp_label ?_ | refine next_noGoto ?_ | refine ret_noGoto ?_ | refine exit_noGoto ?_ | refine awp_scope ?_
    | ((with_reducible refine exit_past ?_ ?_); exact rfl)
    | ((with_reducible refine isCond ?_); refine awp_condO rfl ?_ ?_ <;> intro hb <;> (try simp only [zH] at hb))
    | ((with_reducible refine isRegS 28 ?_ ?_); (· exact rfl); (first | refine awp_textM htb hmz spMn_ok (fun _ => false) rfl rfl ?_ | refine awp_drawM hmo htb hmz spMn_ok (fun _ => false) rfl rfl (by kernel_rfl) ?_); intro m' e' l' ob h; simp only [zE0, zE1, zE2, zE3, zE4, zE5, evp, evx, ev1, evLoad, evStore, evBin, isBoolK, forall_const, z38, tb, Nat.reduceAdd, Nat.reduceSub, Nat.reduceMul, Nat.reduceEqDiff, Nat.reduceLeDiff, Nat.reduceLT, Nat.reduceBEq, Nat.reduceBNe, ↓reduceIte, reduceIte, spMn, fewS, awkS, shortS, meaS, validS, winaS, prgS, gotS, lssS, fromS, smlS, allS, msA, mOf, peta] at h; obtain ⟨rfl, rfl, rfl, rfl⟩ := h; refine ⟨?_, ?_⟩)
    | ((with_reducible refine Ob.mk ?_); first | exact trivial | (intros; omega) | ((repeat' first | apply And.intro | (intro hg; have hg' := hg; try simp only [zH] at hg')) <;> first | assumption | omega | (simp only [zH]; omega)))
  · exact Ob.mk ⟨hv, hp01, hcl, hcr⟩
  repeat' first
    | with_reducible first | refine awp_seq ?_ | refine awp_block ?_ | refine next_then ?_ | refine next_block ?_ | refine exit_then ?_ | refine ret_then ?_ | refine ret_block ?_ | refine exit_here ?_ | refine awp_exit ?_ | refine awp_ret ?_ | refine awp_skip ?_ | refine awp_label ?_ | refine next_noGoto ?_ | refine ret_noGoto ?_ | refine exit_noGoto ?_ | refine awp_scope ?_
    | ((with_reducible refine exit_past ?_ ?_); exact rfl)
    | ((with_reducible refine isCond ?_); refine awp_condO rfl ?_ ?_ <;> intro hb <;> (try simp only [zH] at hb))
    | ((with_reducible refine isRegS 28 ?_ ?_); (· exact rfl); (first | refine awp_textM htb hmz spMn_ok (fun _ => false) rfl rfl ?_ | refine awp_drawM hmo htb hmz spMn_ok (fun _ => false) rfl rfl (by kernel_rfl) ?_); intro m' e' l' ob h; simp only [zE0, zE1, zE2, zE3, zE4, zE5, evp, evx, ev1, evLoad, evStore, evBin, isBoolK, forall_const, z38, tb, Nat.reduceAdd, Nat.reduceSub, Nat.reduceMul, Nat.reduceEqDiff, Nat.reduceLeDiff, Nat.reduceLT, Nat.reduceBEq, Nat.reduceBNe, ↓reduceIte, reduceIte, spMn, fewS, awkS, shortS, meaS, validS, winaS, prgS, gotS, lssS, fromS, smlS, allS, msA, mOf, peta] at h; obtain ⟨rfl, rfl, rfl, rfl⟩ := h; refine ⟨?_, ?_⟩)
    | ((with_reducible refine Ob.mk ?_); first | exact trivial | (intros; omega) | ((repeat' first | apply And.intro | (intro hg; have hg' := hg; try simp only [zH] at hg')) <;> first | assumption | omega | (simp only [zH]; omega)))
  generalize fromL ⟨o, p, x⟩ 0 ch = fr at *
  repeat' first
    | with_reducible first | refine awp_seq ?_ | refine awp_block ?_ | refine next_then ?_ | refine next_block ?_ | refine exit_then ?_ | refine ret_then ?_ | refine ret_block ?_ | refine exit_here ?_ | refine awp_exit ?_ | refine awp_ret ?_ | refine awp_skip ?_ | refine awp_label ?_ | refine next_noGoto ?_ | refine ret_noGoto ?_ | refine exit_noGoto ?_ | refine awp_scope ?_
    | ((with_reducible refine exit_past ?_ ?_); exact rfl)
    | ((with_reducible refine isCond ?_); refine awp_condO rfl ?_ ?_ <;> intro hb <;> (try simp only [zH] at hb))
    | ((with_reducible refine isRegS 29 ?_ ?_); (· exact rfl); (first | refine awp_textM htb hmz spMn_ok (fun _ => false) rfl rfl ?_ | refine awp_drawM hmo htb hmz spMn_ok (fun _ => false) rfl rfl (by kernel_rfl) ?_); intro m' e' l' ob h; simp only [zE0, zE1, zE2, zE3, zE4, zE5, evp, evx, ev1, evLoad, evStore, evBin, isBoolK, forall_const, z38, tb, Nat.reduceAdd, Nat.reduceSub, Nat.reduceMul, Nat.reduceEqDiff, Nat.reduceLeDiff, Nat.reduceLT, Nat.reduceBEq, Nat.reduceBNe, ↓reduceIte, reduceIte, spMn, fewS, awkS, shortS, meaS, validS, winaS, prgS, gotS, lssS, fromS, smlS, allS, msA, mOf, peta] at h; obtain ⟨rfl, rfl, rfl, rfl⟩ := h; refine ⟨?_, ?_⟩)
    | ((with_reducible refine Ob.mk ?_); first | exact trivial | (intros; omega) | ((repeat' first | apply And.intro | (intro hg; have hg' := hg; try simp only [zH] at hg')) <;> first | assumption | omega | (simp only [zH]; omega)))
  have hSm' : smlF ⟨o, p, x⟩ o.length (fun j => M j) = (true, 0) := hSm
  rw [hSm']
  repeat' first
    | with_reducible first | refine awp_seq ?_ | refine awp_block ?_ | refine next_then ?_ | refine next_block ?_ | refine exit_then ?_ | refine ret_then ?_ | refine ret_block ?_ | refine exit_here ?_ | refine awp_exit ?_ | refine awp_ret ?_ | refine awp_skip ?_ | refine awp_label ?_ | refine next_noGoto ?_ | refine ret_noGoto ?_ | refine exit_noGoto ?_ | refine awp_scope ?_
    | ((with_reducible refine exit_past ?_ ?_); exact rfl)
    | ((with_reducible refine isCond ?_); refine awp_condO rfl ?_ ?_ <;> intro hb <;> (try simp only [zH] at hb))
    | ((with_reducible refine isRegS 29 ?_ ?_); (· exact rfl); (with_reducible refine isRegS 32 ?_ ?_); (· exact rfl); (first | refine awp_textM htb hmz spMn_ok (fun _ => false) rfl rfl ?_ | refine awp_drawM hmo htb hmz spMn_ok (fun _ => false) rfl rfl (by kernel_rfl) ?_); intro m' e' l' ob h; simp only [zE0, zE1, zE2, zE3, zE4, zE5, evp, evx, ev1, evLoad, evStore, evBin, isBoolK, forall_const, z38, tb, Nat.reduceAdd, Nat.reduceSub, Nat.reduceMul, Nat.reduceEqDiff, Nat.reduceLeDiff, Nat.reduceLT, Nat.reduceBEq, Nat.reduceBNe, ↓reduceIte, reduceIte, spMn, fewS, awkS, shortS, meaS, validS, winaS, prgS, gotS, lssS, fromS, smlS, allS, msA, mOf, peta] at h; obtain ⟨rfl, rfl, rfl, rfl⟩ := h; refine ⟨?_, ?_⟩)
    | ((with_reducible refine Ob.mk ?_); first | exact trivial | (intros; omega) | ((repeat' first | apply And.intro | (intro hg; have hg' := hg; try simp only [zH] at hg')) <;> first | assumption | omega | (simp only [zH]; omega)))
  repeat' first
    | with_reducible first | refine awp_seq ?_ | refine awp_block ?_ | refine next_then ?_ | refine next_block ?_ | refine exit_then ?_ | refine ret_then ?_ | refine ret_block ?_ | refine exit_here ?_ | refine awp_exit ?_ | refine awp_ret ?_ | refine awp_skip ?_ | refine awp_label ?_ | refine next_noGoto ?_ | refine ret_noGoto ?_ | refine exit_noGoto ?_ | refine awp_scope ?_
    | ((with_reducible refine exit_past ?_ ?_); exact rfl)
    | ((with_reducible refine isCond ?_); refine awp_condO rfl ?_ ?_ <;> intro hb <;> (try simp only [zH] at hb))
    | ((with_reducible refine isRegS 30 ?_ ?_); (· exact rfl); (with_reducible refine isRegS 32 ?_ ?_); (· exact rfl); (first | refine awp_textM htb hmz spMn_ok (fun _ => false) rfl rfl ?_ | refine awp_drawM hmo htb hmz spMn_ok (fun _ => false) rfl rfl (by kernel_rfl) ?_); intro m' e' l' ob h; simp only [zE0, zE1, zE2, zE3, zE4, zE5, evp, evx, ev1, evLoad, evStore, evBin, isBoolK, forall_const, z38, tb, Nat.reduceAdd, Nat.reduceSub, Nat.reduceMul, Nat.reduceEqDiff, Nat.reduceLeDiff, Nat.reduceLT, Nat.reduceBEq, Nat.reduceBNe, ↓reduceIte, reduceIte, spMn, fewS, awkS, shortS, meaS, validS, winaS, prgS, gotS, lssS, fromS, smlS, allS, msA, mOf, peta] at h; obtain ⟨rfl, rfl, rfl, rfl⟩ := h; refine ⟨?_, ?_⟩)
    | ((with_reducible refine Ob.mk ?_); first | exact trivial | (intros; omega) | ((repeat' first | apply And.intro | (intro hg; have hg' := hg; try simp only [zH] at hg')) <;> first | assumption | omega | (simp only [zH]; omega)))
  · exact absurd hb (by decide)
  clear hb
  refine awp_loopC (τ := Nat) (fun i => i ≤ o.length) (fun i => ⟨52, [(158, .int .i64 i), (157, .int .i64 o.length), (14, .roB fr), (5, (.ro 2 o.length fun j => .agg (.cons (.bool (M j).1) (.cons (.roI (M j).2) .nil)))), (2, (.rop (.agg (.cons (.roI o) (.cons (.roI p) (.cons (.roII x) .nil)))))), (1, (.ro 2 n fun j => .agg (.cons (.bool (F j).1) (.cons (.roI (F j).2) .nil))))], [], []⟩) (fun i => o.length - i) 0 [] ?_ (Nat.zero_le _) ?_
  · (refine ⟨rfl, ?_, ?_⟩ <;> simp only [zE0, zE1, zE2, zE3, zE4, zE5, evp, evx, ev1, evLoad, evStore, evBin, isBoolK, forall_const, z38, tb, Nat.reduceAdd, Nat.reduceSub, Nat.reduceMul, Nat.reduceEqDiff, Nat.reduceLeDiff, Nat.reduceLT, Nat.reduceBEq, Nat.reduceBNe, ↓reduceIte, reduceIte, spMn, fewS, awkS, shortS, meaS, validS, winaS, prgS, gotS, lssS, fromS, smlS, allS, msA, mOf, peta, zI])
  intro i hi
  have hf2 := hf1 i
  repeat' first
    | with_reducible first | refine awp_seq ?_ | refine awp_block ?_ | refine next_then ?_ | refine next_block ?_ | refine exit_then ?_ | refine ret_then ?_ | refine ret_block ?_ | refine exit_here ?_ | refine awp_exit ?_ | refine awp_ret ?_ | refine awp_skip ?_ | refine awp_label ?_ | refine next_noGoto ?_ | refine ret_noGoto ?_ | refine exit_noGoto ?_ | refine awp_scope ?_
    | ((with_reducible refine exit_past ?_ ?_); exact rfl)
    | ((with_reducible refine isCond ?_); refine awp_condO rfl ?_ ?_ <;> intro hb <;> (try simp only [zH] at hb))
    | ((with_reducible refine isRegS 35 ?_ ?_); (· exact rfl); (with_reducible refine isRegS 37 ?_ ?_); (· exact rfl); (first | refine awp_textM htb hmz spMn_ok (fun _ => false) rfl rfl ?_ | refine awp_drawM hmo htb hmz spMn_ok (fun _ => false) rfl rfl (by kernel_rfl) ?_); intro m' e' l' ob h; simp only [zE0, zE1, zE2, zE3, zE4, zE5, evp, evx, ev1, evLoad, evStore, evBin, isBoolK, forall_const, z38, tb, Nat.reduceAdd, Nat.reduceSub, Nat.reduceMul, Nat.reduceEqDiff, Nat.reduceLeDiff, Nat.reduceLT, Nat.reduceBEq, Nat.reduceBNe, ↓reduceIte, reduceIte, spMn, fewS, awkS, shortS, meaS, validS, winaS, prgS, gotS, lssS, fromS, smlS, allS, msA, mOf, peta] at h; obtain ⟨rfl, rfl, rfl, rfl⟩ := h; refine ⟨?_, ?_⟩)
    | ((with_reducible refine Ob.mk ?_); first | exact trivial | (intros; omega) | ((repeat' first | apply And.intro | (intro hg; have hg' := hg; try simp only [zH] at hg')) <;> first | assumption | omega | (simp only [zH]; omega)))
  · have h1 := hf2 (by omega) hb.1
    rw [hb.2] at h1; cases h1
  · refine back (i + 1) [] ?_ (by omega) (by omega)
    (refine ⟨rfl, ?_, ?_⟩ <;> simp only [zE0, zE1, zE2, zE3, zE4, zE5, evp, evx, ev1, evLoad, evStore, evBin, isBoolK, forall_const, z38, tb, Nat.reduceAdd, Nat.reduceSub, Nat.reduceMul, Nat.reduceEqDiff, Nat.reduceLeDiff, Nat.reduceLT, Nat.reduceBEq, Nat.reduceBNe, ↓reduceIte, reduceIte, spMn, fewS, awkS, shortS, meaS, validS, winaS, prgS, gotS, lssS, fromS, smlS, allS, msA, mOf, peta, zI])
  clear hf2 hf1 hfl
  have hfF : (fun j => msA (F j)) = fun j => msA (mOf (msA (F j))) := rfl
  repeat' first
    | with_reducible first | refine awp_seq ?_ | refine awp_block ?_ | refine next_then ?_ | refine next_block ?_ | refine exit_then ?_ | refine ret_then ?_ | refine ret_block ?_ | refine exit_here ?_ | refine awp_exit ?_ | refine awp_ret ?_ | refine awp_skip ?_ | refine awp_label ?_ | refine next_noGoto ?_ | refine ret_noGoto ?_ | refine exit_noGoto ?_ | refine awp_scope ?_
    | ((with_reducible refine exit_past ?_ ?_); exact rfl)
    | ((with_reducible refine isCond ?_); refine awp_condO rfl ?_ ?_ <;> intro hb <;> (try simp only [zH] at hb))
    | ((with_reducible refine isRegS 38 ?_ ?_); (· exact rfl); (with_reducible refine isRegS 40 ?_ ?_); (· exact rfl); (first | refine awp_textM htb hmz spMn_ok (fun _ => false) rfl rfl ?_ | refine awp_drawM hmo htb hmz spMn_ok (fun _ => false) rfl rfl (by kernel_rfl) ?_); intro m' e' l' ob h; simp only [zE0, zE1, zE2, zE3, zE4, zE5, evp, evx, ev1, evLoad, evStore, evBin, isBoolK, forall_const, z38, tb, Nat.reduceAdd, Nat.reduceSub, Nat.reduceMul, Nat.reduceEqDiff, Nat.reduceLeDiff, Nat.reduceLT, Nat.reduceBEq, Nat.reduceBNe, ↓reduceIte, reduceIte, spMn, fewS, awkS, shortS, meaS, validS, winaS, prgS, gotS, lssS, fromS, smlS, allS, msA, mOf, peta] at h; obtain ⟨rfl, rfl, rfl, rfl⟩ := h; refine ⟨?_, ?_⟩)
    | ((with_reducible refine Ob.mk ?_); first | exact trivial | (intros; omega) | ((repeat' first | apply And.intro | (intro hg; have hg' := hg; try simp only [zH] at hg')) <;> first | assumption | omega | (simp only [zH]; omega)))
  have hsF : smlF ⟨o, p, x⟩ n (fun j => F j) = smlF ⟨o, p, x⟩ n F := rfl
  rw [hsF]
  generalize smlF ⟨o, p, x⟩ n F = sF at *
  obtain ⟨is, e⟩ := sF
  dsimp only at *
  repeat' first
    | with_reducible first | refine awp_seq ?_ | refine awp_block ?_ | refine next_then ?_ | refine next_block ?_ | refine exit_then ?_ | refine ret_then ?_ | refine ret_block ?_ | refine exit_here ?_ | refine awp_exit ?_ | refine awp_ret ?_ | refine awp_skip ?_ | refine awp_label ?_ | refine next_noGoto ?_ | refine ret_noGoto ?_ | refine exit_noGoto ?_ | refine awp_scope ?_
    | ((with_reducible refine exit_past ?_ ?_); exact rfl)
    | ((with_reducible refine isCond ?_); refine awp_condO rfl ?_ ?_ <;> intro hb <;> (try simp only [zH] at hb))
    | ((with_reducible refine isRegS 39 ?_ ?_); (· exact rfl); (with_reducible refine isRegS 40 ?_ ?_); (· exact rfl); (first | refine awp_textM htb hmz spMn_ok (fun _ => false) rfl rfl ?_ | refine awp_drawM hmo htb hmz spMn_ok (fun _ => false) rfl rfl (by kernel_rfl) ?_); intro m' e' l' ob h; simp only [zE0, zE1, zE2, zE3, zE4, zE5, evp, evx, ev1, evLoad, evStore, evBin, isBoolK, forall_const, z38, tb, Nat.reduceAdd, Nat.reduceSub, Nat.reduceMul, Nat.reduceEqDiff, Nat.reduceLeDiff, Nat.reduceLT, Nat.reduceBEq, Nat.reduceBNe, ↓reduceIte, reduceIte, spMn, fewS, awkS, shortS, meaS, validS, winaS, prgS, gotS, lssS, fromS, smlS, allS, msA, mOf, peta] at h; obtain ⟨rfl, rfl, rfl, rfl⟩ := h; refine ⟨?_, ?_⟩)
    | ((with_reducible refine Ob.mk ?_); first | exact trivial | (intros; omega) | ((repeat' first | apply And.intro | (intro hg; have hg' := hg; try simp only [zH] at hg')) <;> first | assumption | omega | (simp only [zH]; omega)))
  · repeat' first
      | with_reducible first | refine awp_seq ?_ | refine awp_block ?_ | refine next_then ?_ | refine next_block ?_ | refine exit_then ?_ | refine ret_then ?_ | refine ret_block ?_ | refine exit_here ?_ | refine awp_exit ?_ | refine awp_ret ?_ | refine awp_skip ?_ | refine awp_label ?_ | refine next_noGoto ?_ | refine ret_noGoto ?_ | refine exit_noGoto ?_ | refine awp_scope ?_
      | ((with_reducible refine exit_past ?_ ?_); exact rfl)
      | ((with_reducible refine isCond ?_); refine awp_condO rfl ?_ ?_ <;> intro hb <;> (try simp only [zH] at hb))
      | ((with_reducible refine isReg ?_); (first | refine awp_textM htb hmz spMn_ok (fun _ => false) rfl rfl ?_ | refine awp_drawM hmo htb hmz spMn_ok (fun _ => false) rfl rfl (by kernel_rfl) ?_); intro m' e' l' ob h; simp only [zE0, zE1, zE2, zE3, zE4, zE5, evp, evx, ev1, evLoad, evStore, evBin, isBoolK, forall_const, z38, tb, Nat.reduceAdd, Nat.reduceSub, Nat.reduceMul, Nat.reduceEqDiff, Nat.reduceLeDiff, Nat.reduceLT, Nat.reduceBEq, Nat.reduceBNe, ↓reduceIte, reduceIte, spMn, fewS, awkS, shortS, meaS, validS, winaS, prgS, gotS, lssS, fromS, smlS, allS, msA, mOf, peta] at h; obtain ⟨rfl, rfl, rfl, rfl⟩ := h; refine ⟨?_, ?_⟩)
      | ((with_reducible refine Ob.mk ?_); first | exact trivial | (intros; omega) | ((repeat' first | apply And.intro | (intro hg; have hg' := hg; try simp only [zH] at hg')) <;> first | assumption | omega | (simp only [zH]; omega)))
    refine fin_ret rfl rfl (spec_flat rfl ?_ rfl)
    rfl
  obtain ⟨hnn, hl2⟩ := hLw hb.1
  clear hLw
  subst hnn
  repeat' first
    | with_reducible first | refine awp_seq ?_ | refine awp_block ?_ | refine next_then ?_ | refine next_block ?_ | refine exit_then ?_ | refine ret_then ?_ | refine ret_block ?_ | refine exit_here ?_ | refine awp_exit ?_ | refine awp_ret ?_ | refine awp_skip ?_ | refine awp_label ?_ | refine next_noGoto ?_ | refine ret_noGoto ?_ | refine exit_noGoto ?_ | refine awp_scope ?_
    | ((with_reducible refine exit_past ?_ ?_); exact rfl)
    | ((with_reducible refine isCond ?_); refine awp_condO rfl ?_ ?_ <;> intro hb <;> (try simp only [zH] at hb))
    | ((with_reducible refine isReg ?_); (first | refine awp_textM htb hmz spMn_ok (fun _ => false) rfl rfl ?_ | refine awp_drawM hmo htb hmz spMn_ok (fun _ => false) rfl rfl (by kernel_rfl) ?_); intro m' e' l' ob h; simp only [zE0, zE1, zE2, zE3, zE4, zE5, evp, evx, ev1, evLoad, evStore, evBin, isBoolK, forall_const, z38, tb, Nat.reduceAdd, Nat.reduceSub, Nat.reduceMul, Nat.reduceEqDiff, Nat.reduceLeDiff, Nat.reduceLT, Nat.reduceBEq, Nat.reduceBNe, ↓reduceIte, reduceIte, spMn, fewS, awkS, shortS, meaS, validS, winaS, prgS, gotS, lssS, fromS, smlS, allS, msA, mOf, peta] at h; obtain ⟨rfl, rfl, rfl, rfl⟩ := h; refine ⟨?_, ?_⟩)
    | ((with_reducible refine Ob.mk ?_); first | exact trivial | (intros; omega) | ((repeat' first | apply And.intro | (intro hg; have hg' := hg; try simp only [zH] at hg')) <;> first | assumption | omega | (simp only [zH]; omega)))
  refine awp_loopC (τ := Nat) (fun i => i ≤ o.length) (fun i => ⟨71, [(191, .int .i64 i), (190, .int .i64 o.length), (5, (.ro 2 o.length fun j => .agg (.cons (.bool (M j).1) (.cons (.roI (M j).2) .nil)))), (1, (.ro 2 o.length fun j => .agg (.cons (.bool (F j).1) (.cons (.roI (F j).2) .nil))))], [], []⟩) (fun i => o.length - i) 0 [] ?_ (Nat.zero_le _) ?_
  · (refine ⟨rfl, ?_, ?_⟩ <;> simp only [zE0, zE1, zE2, zE3, zE4, zE5, evp, evx, ev1, evLoad, evStore, evBin, isBoolK, forall_const, z38, tb, Nat.reduceAdd, Nat.reduceSub, Nat.reduceMul, Nat.reduceEqDiff, Nat.reduceLeDiff, Nat.reduceLT, Nat.reduceBEq, Nat.reduceBNe, ↓reduceIte, reduceIte, spMn, fewS, awkS, shortS, meaS, validS, winaS, prgS, gotS, lssS, fromS, smlS, allS, msA, mOf, peta, zI])
  intro j hj
  have hl3 := hl2 j
  have hl4 : j < o.length → (M j).1 = false → (F j).1 = false → (M j).2.length = (F j).2.length := fun h => (hl3 h).2
  clear hl2
  repeat' first
    | with_reducible first | refine awp_seq ?_ | refine awp_block ?_ | refine next_then ?_ | refine next_block ?_ | refine exit_then ?_ | refine ret_then ?_ | refine ret_block ?_ | refine exit_here ?_ | refine awp_exit ?_ | refine awp_ret ?_ | refine awp_skip ?_ | refine awp_label ?_ | refine next_noGoto ?_ | refine ret_noGoto ?_ | refine exit_noGoto ?_ | refine awp_scope ?_
    | ((with_reducible refine exit_past ?_ ?_); exact rfl)
    | ((with_reducible refine isCond ?_); refine awp_condO rfl ?_ ?_ <;> intro hb <;> (try simp only [zH] at hb))
    | ((with_reducible refine isRegS 43 ?_ ?_); (· exact rfl); (with_reducible refine isRegS 46 ?_ ?_); (· exact rfl); (first | refine awp_textM htb hmz spMn_ok (fun _ => false) rfl rfl ?_ | refine awp_drawM hmo htb hmz spMn_ok (fun _ => false) rfl rfl (by kernel_rfl) ?_); intro m' e' l' ob h; simp only [zE0, zE1, zE2, zE3, zE4, zE5, evp, evx, ev1, evLoad, evStore, evBin, isBoolK, forall_const, z38, tb, Nat.reduceAdd, Nat.reduceSub, Nat.reduceMul, Nat.reduceEqDiff, Nat.reduceLeDiff, Nat.reduceLT, Nat.reduceBEq, Nat.reduceBNe, ↓reduceIte, reduceIte, spMn, fewS, awkS, shortS, meaS, validS, winaS, prgS, gotS, lssS, fromS, smlS, allS, msA, mOf, peta] at h; obtain ⟨rfl, rfl, rfl, rfl⟩ := h; refine ⟨?_, ?_⟩)
    | ((with_reducible refine Ob.mk ?_); first | exact trivial | (intros; omega) | ((repeat' first | apply And.intro | (intro hg; have hg' := hg; try simp only [zH] at hg')) <;> first | assumption | omega | (simp only [zH]; omega)))
  · (refine awp_drawM hmo htb hmz spMn_ok (fun _ => false) rfl rfl (by kernel_rfl) ?_; intro m' e' l' ob h; simp only [zE0, zE1, zE2, zE3, zE4, zE5, evp, evx, ev1, evLoad, evStore, evBin, isBoolK, forall_const, z38, tb, Nat.reduceAdd, Nat.reduceSub, Nat.reduceMul, Nat.reduceEqDiff, Nat.reduceLeDiff, Nat.reduceLT, Nat.reduceBEq, Nat.reduceBNe, ↓reduceIte, reduceIte, spMn, fewS, awkS, shortS, meaS, validS, winaS, prgS, gotS, lssS, fromS, smlS, allS, msA, mOf, peta] at h; obtain ⟨rfl, rfl, rfl, rfl⟩ := h; refine ⟨?_, ?_⟩)
    · exact Ob.mk ⟨⟨by omega, by omega⟩, hl4 (by omega)⟩
    repeat' first
      | with_reducible first | refine awp_seq ?_ | refine awp_block ?_ | refine next_then ?_ | refine next_block ?_ | refine exit_then ?_ | refine ret_then ?_ | refine ret_block ?_ | refine exit_here ?_ | refine awp_exit ?_ | refine awp_ret ?_ | refine awp_skip ?_ | refine awp_label ?_ | refine next_noGoto ?_ | refine ret_noGoto ?_ | refine exit_noGoto ?_ | refine awp_scope ?_
      | ((with_reducible refine exit_past ?_ ?_); exact rfl)
      | ((with_reducible refine isCond ?_); refine awp_condO rfl ?_ ?_ <;> intro hb <;> (try simp only [zH] at hb))
      | ((with_reducible refine isReg ?_); (first | refine awp_textM htb hmz spMn_ok (fun _ => false) rfl rfl ?_ | refine awp_drawM hmo htb hmz spMn_ok (fun _ => false) rfl rfl (by kernel_rfl) ?_); intro m' e' l' ob h; simp only [zE0, zE1, zE2, zE3, zE4, zE5, evp, evx, ev1, evLoad, evStore, evBin, isBoolK, forall_const, z38, tb, Nat.reduceAdd, Nat.reduceSub, Nat.reduceMul, Nat.reduceEqDiff, Nat.reduceLeDiff, Nat.reduceLT, Nat.reduceBEq, Nat.reduceBNe, ↓reduceIte, reduceIte, spMn, fewS, awkS, shortS, meaS, validS, winaS, prgS, gotS, lssS, fromS, smlS, allS, msA, mOf, peta] at h; obtain ⟨rfl, rfl, rfl, rfl⟩ := h; refine ⟨?_, ?_⟩)
      | ((with_reducible refine Ob.mk ?_); first | exact trivial | (intros; omega) | ((repeat' first | apply And.intro | (intro hg; have hg' := hg; try simp only [zH] at hg')) <;> first | assumption | omega | (simp only [zH]; omega)))
    · have := (hl3 (by omega)).1
      omega
    · refine back (j + 1) [] ?_ (by omega) (by omega)
      (refine ⟨rfl, ?_, ?_⟩ <;> simp only [zE0, zE1, zE2, zE3, zE4, zE5, evp, evx, ev1, evLoad, evStore, evBin, isBoolK, forall_const, z38, tb, Nat.reduceAdd, Nat.reduceSub, Nat.reduceMul, Nat.reduceEqDiff, Nat.reduceLeDiff, Nat.reduceLT, Nat.reduceBEq, Nat.reduceBNe, ↓reduceIte, reduceIte, spMn, fewS, awkS, shortS, meaS, validS, winaS, prgS, gotS, lssS, fromS, smlS, allS, msA, mOf, peta, zI])
  repeat' first
    | with_reducible first | refine awp_seq ?_ | refine awp_block ?_ | refine next_then ?_ | refine next_block ?_ | refine exit_then ?_ | refine ret_then ?_ | refine ret_block ?_ | refine exit_here ?_ | refine awp_exit ?_ | refine awp_ret ?_ | refine awp_skip ?_ | refine awp_label ?_ | refine next_noGoto ?_ | refine ret_noGoto ?_ | refine exit_noGoto ?_ | refine awp_scope ?_
    | ((with_reducible refine exit_past ?_ ?_); exact rfl)
    | ((with_reducible refine isCond ?_); refine awp_condO rfl ?_ ?_ <;> intro hb <;> (try simp only [zH] at hb))
    | ((with_reducible refine isReg ?_); (first | refine awp_textM htb hmz spMn_ok (fun _ => false) rfl rfl ?_ | refine awp_drawM hmo htb hmz spMn_ok (fun _ => false) rfl rfl (by kernel_rfl) ?_); intro m' e' l' ob h; simp only [zE0, zE1, zE2, zE3, zE4, zE5, evp, evx, ev1, evLoad, evStore, evBin, isBoolK, forall_const, z38, tb, Nat.reduceAdd, Nat.reduceSub, Nat.reduceMul, Nat.reduceEqDiff, Nat.reduceLeDiff, Nat.reduceLT, Nat.reduceBEq, Nat.reduceBNe, ↓reduceIte, reduceIte, spMn, fewS, awkS, shortS, meaS, validS, winaS, prgS, gotS, lssS, fromS, smlS, allS, msA, mOf, peta] at h; obtain ⟨rfl, rfl, rfl, rfl⟩ := h; refine ⟨?_, ?_⟩)
    | ((with_reducible refine Ob.mk ?_); first | exact trivial | (intros; omega) | ((repeat' first | apply And.intro | (intro hg; have hg' := hg; try simp only [zH] at hg')) <;> first | assumption | omega | (simp only [zH]; omega)))
  refine fin_ret rfl rfl (spec_flat rfl ?_ rfl)
  rfl
end Go.Proofs.Ytgminhedbeblpaa.Cal
