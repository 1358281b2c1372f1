/- Own texts of the proof, merged, in order. -/
import Derived.Test.YtgminhedbeblpaaS23
set_option linter.unusedVariables false
set_option linter.unusedSimpArgs false
namespace Go.Proofs.Ytgminhedbeblpaa.Cal
open Go Pl
theorem cP_step {p : List Int} {z : Int} : p.countP (fun a => decide (z - 1 < a)) = p.countP (fun a => decide (z < a)) + p.count z := by
  induction p with
  | nil => rfl
  | cons a t ih =>
    rw [List.countP_cons, List.countP_cons, List.count_cons, ih]
    by_cases h1 : z < a
    · have h2 : z - 1 < a := by omega
      have h4 : (a == z) = false := by simp; omega
      rw [decide_eq_true h1, decide_eq_true h2, h4]
      simp only [if_true, Bool.false_eq_true, if_false]
      omega
    · by_cases h3 : a = z
      · have h2 : z - 1 < a := by omega
        have h4 : (a == z) = true := by simp [h3]
        rw [decide_eq_false h1, decide_eq_true h2, h4]
        simp only [if_true, Bool.false_eq_true, if_false]
        omega
      · have h2 : ¬ z - 1 < a := by omega
        have h4 : (a == z) = false := by simp [h3]
        rw [decide_eq_false h1, decide_eq_false h2, h4]
        simp only [Bool.false_eq_true, if_false]
        omega
theorem mnN_sum {p : List Int} : ∀ k : Nat, (mnN p k).sum ≤ (p.countP (fun a => decide (60 - (k : Int) < a)) : Nat)
  | 0 => by
    have : (mnN p 0).sum = 0 := rfl
    rw [this]; omega
  | k + 1 => by
    have ih := mnN_sum (p := p) k
    have hc := cP_step (p := p) (z := 60 - (k : Int))
    have e : (60 : Int) - ((k + 1 : Nat) : Int) = 60 - (k : Int) - 1 := by omega
    rw [e, hc]
    by_cases h : (60 - (k : Int)) % 2 = 1 ∧ 0 < p.count (60 - (k : Int))
    · rw [(odN_yes h).2, List.sum_append]
      simp only [List.sum_cons, List.sum_nil]
      omega
    · rw [(odN_no h).2]; omega
theorem pow_ge : ∀ {ms : List Int}, posL ms → rpr ms ≤ ((2 ^ ms.sum.toNat : Nat) : Int) ∧ 0 ≤ ms.sum
  | [], _ => ⟨by decide, Int.le_refl _⟩
  | m :: ms, h => by
    have h0 := h m List.mem_cons_self
    obtain ⟨h1, h2⟩ := pow_ge (ms := ms) fun x hx => h x (List.mem_cons_of_mem _ hx)
    obtain ⟨m, rfl⟩ := Int.eq_ofNat_of_zero_le h0
    have h3 : m + 1 ≤ 2 ^ m := Nat.lt_two_pow_self
    have e : ((m : Int) :: ms).sum = (m : Int) + ms.sum := List.sum_cons
    refine ⟨?_, by rw [e]; omega⟩
    rw [e, show ((m : Int) + ms.sum).toNat = m + ms.sum.toNat by omega, Nat.pow_add]
    show ((m : Int) + 1) * rpr ms ≤ _
    rw [Int.natCast_mul]
    exact Int.mul_le_mul (by omega) h1 (Int.le_of_lt (rpr_pos fun x hx => h x (List.mem_cons_of_mem _ hx))) (by omega)
theorem mnN_pos {p : List Int} {k : Nat} : posL (mnN p k) := fun m hm => by
  obtain ⟨q, _, rfl⟩ := List.mem_map.1 hm
  omega
theorem scale_sok {p : List Int} (hp : p.length ≤ 20000) : SOK (odN p 61) (mnN p 61) := by
  refine ⟨mnN_len.symm, by have := odN_len (p := p) 61; omega, fun i => ?_, mnN_pos⟩
  by_cases hi : i < (mnN p 61).length
  · rw [List.getD_eq_getElem?_getD, List.getElem?_eq_getElem hi]
    have := List.getElem_mem hi
    obtain ⟨q, _, e⟩ := List.mem_map.1 this
    simp only [Option.getD_some]
    rw [← e]
    have : p.count q ≤ p.length := List.count_le_length
    omega
  · rw [List.getD_eq_getElem?_getD, List.getElem?_eq_none (by omega)]
    decide
theorem scale_few {p : List Int} (hp : p.length ≤ 12) : rpr (mnN p 61) ≤ 4096 := by
  obtain ⟨h1, h2⟩ := pow_ge (mnN_pos (p := p) (k := 61))
  have h3 := mnN_sum (p := p) 61
  have h4 : p.countP (fun a => decide (60 - ((61 : Nat) : Int) < a)) ≤ p.length := List.countP_le_length
  have h5 : (mnN p 61).sum.toNat ≤ 12 := by omega
  have h6 : 2 ^ (mnN p 61).sum.toNat ≤ 2 ^ 12 := Nat.pow_le_pow_right (by decide) h5
  have h7 : (2 : Nat) ^ 12 = 4096 := by decide
  omega
theorem dgl_len : ∀ {ms : List Int} {V : Int}, (dgl ms V).length = ms.length
  | [], _ => rfl
  | _ :: ms, V => congrArg (· + 1) (dgl_len (ms := ms))
theorem deM_len {many : List Int} {V : Int} : (deM many V).2.length ≤ many.length := by
  unfold deM
  split
  · exact Nat.zero_le _
  · exact Nat.le_of_eq dgl_len
/-- The measures of a game as the program holds them. -/
noncomputable def meaF (g : Gm) (j : Nat) : Bool × List Int := deM (mnN g.pri 61) ((leastL g (odN g.pri 61) (mnN g.pri 61)).getD j 0)
noncomputable def meaN (g : Gm) : Nat := bif validB g then g.own.length else 0
noncomputable def meaE (g : Gm) : Int := bif validB g then 0 else 1
noncomputable def meaS : Spec
  | [.agg (.cons (.roI o) (.cons (.roI p) (.cons (.roII x) .nil)))] => some ⟨o.length ≤ 12 ∧ p.length ≤ 12, .tup (.cons (.ro 2 (meaN ⟨o, p, x⟩) (fun j => msA (meaF ⟨o, p, x⟩ j))) (.cons (.int .i64 (meaE ⟨o, p, x⟩)) .nil)), none⟩
  | _ => none
noncomputable def spMe : Nat → Option Spec
  | 29 => some validS
  | 30 => some scaleS
  | 31 => some measuresS
  | 32 => some cloneS
  | _ => none
theorem spMe_ok : SpOK Try.prog spMe := by
  intro f S h
  unfold spMe at h
  split at h
  · cases h; exact valid_ok
  · cases h; exact scale_ok
  · cases h; exact measures_ok
  · cases h; exact clone_ok
  · cases h
set_option maxRecDepth 4000 in
set_option maxHeartbeats 4000000 in
theorem mea_ok : FSpec Try.prog 9 meaS := by
  refine fspec_of htb (fn := Try.f9) (by kernel_rfl) (by kernel_rfl) rfl (fun args r hS => ?_) (fun args r hS hob hl => ?_)
  · unfold meaS at hS; split at hS <;> first | (cases hS; done) | (cases hS; exact Nat.le_of_ble_eq_true rfl)
  unfold meaS at hS
  split at hS
  case h_2 => cases hS
  rename_i o p x
  simp only [Option.some.injEq] at hS
  subst hS
  simp only [lenP, mkL, lim] at hl
  dsimp only at hob
  repeat' first
    | with_reducible first | refine awp_seq ?_ | refine awp_block ?_ | refine next_then ?_ | refine next_block ?_ | refine exit_then ?_ | refine ret_then ?_ | refine ret_block ?_ | refine exit_here ?_ | refine awp_exit ?_ | refine awp_ret ?_ | refine awp_skip ?_ | refine awp_label ?_ | refine next_noGoto ?_ | refine ret_noGoto ?_ | refine exit_noGoto ?_ | refine awp_scope ?_
    | ((with_reducible refine exit_past ?_ ?_); exact rfl)
    | ((with_reducible refine isCond ?_); refine awp_condO rfl ?_ ?_ <;> intro hb <;> (try simp only [zH] at hb))
    | ((with_reducible refine isRegS 3 ?_ ?_); (· exact rfl); (first | refine awp_textM htb hmz spMe_ok (fun _ => false) rfl rfl ?_ | refine awp_drawM hmo htb hmz spMe_ok (fun _ => false) rfl rfl (by kernel_rfl) ?_); intro m' e' l' ob h; simp only [zE0, zE1, zE2, zE3, zE4, zE5, evp, evx, ev1, evLoad, evStore, evBin, isBoolK, forall_const, z38, tb, Nat.reduceAdd, Nat.reduceSub, Nat.reduceMul, Nat.reduceEqDiff, Nat.reduceLeDiff, Nat.reduceLT, Nat.reduceBEq, Nat.reduceBNe, ↓reduceIte, reduceIte, spMe, validS, scaleS, cloneS, measuresS, msA] at h; obtain ⟨rfl, rfl, rfl, rfl⟩ := h; refine ⟨?_, ?_⟩)
    | ((with_reducible refine Ob.mk ?_); first | exact trivial | (intros; omega) | ((repeat' first | apply And.intro | (intro hg; have hg' := hg; try simp only [zH] at hg')) <;> first | assumption | omega | (simp only [zH]; omega)))
  · have e1 : meaN ⟨o, p, x⟩ = 0 := by unfold meaN; rw [hb]; rfl
    have e2 : meaE ⟨o, p, x⟩ = 1 := by unfold meaE; rw [hb]; rfl
    refine fin_ret rfl rfl (spec_imp rfl ?_ rfl)
    rw [e1, e2]
    exact imp_tup (imp_cons imp_nilro (imp_eq rfl))
  have hv := hb
  have hV := validB_iff.1 hv
  obtain ⟨hn, hpl, hxl, hpos⟩ := id hV
  simp only [Gm.n] at hn hpl hxl
  have hS := scale_sok (p := p) (by omega)
  have hP4 := scale_few (p := p) hob.2
  have hn12 := hob.1
  have e1 : meaN ⟨o, p, x⟩ = o.length := by unfold meaN; rw [hv]; rfl
  have e2 : meaE ⟨o, p, x⟩ = 0 := by unfold meaE; rw [hv]; rfl
  repeat' first
    | with_reducible first | refine awp_seq ?_ | refine awp_block ?_ | refine next_then ?_ | refine next_block ?_ | refine exit_then ?_ | refine ret_then ?_ | refine ret_block ?_ | refine exit_here ?_ | refine awp_exit ?_ | refine awp_ret ?_ | refine awp_skip ?_ | refine awp_label ?_ | refine next_noGoto ?_ | refine ret_noGoto ?_ | refine exit_noGoto ?_ | refine awp_scope ?_
    | ((with_reducible refine exit_past ?_ ?_); exact rfl)
    | ((with_reducible refine isCond ?_); refine awp_condO rfl ?_ ?_ <;> intro hb <;> (try simp only [zH] at hb))
    | ((with_reducible refine isRegS 6 ?_ ?_); (· exact rfl); (first | refine awp_textM htb hmz spMe_ok (fun _ => false) rfl rfl ?_ | refine awp_drawM hmo htb hmz spMe_ok (fun _ => false) rfl rfl (by kernel_rfl) ?_); intro m' e' l' ob h; simp only [zE0, zE1, zE2, zE3, zE4, zE5, evp, evx, ev1, evLoad, evStore, evBin, isBoolK, forall_const, z38, tb, Nat.reduceAdd, Nat.reduceSub, Nat.reduceMul, Nat.reduceEqDiff, Nat.reduceLeDiff, Nat.reduceLT, Nat.reduceBEq, Nat.reduceBNe, ↓reduceIte, reduceIte, spMe, validS, scaleS, cloneS, measuresS, msA] at h; obtain ⟨rfl, rfl, rfl, rfl⟩ := h; refine ⟨?_, ?_⟩)
    | ((with_reducible refine Ob.mk ?_); first | exact trivial | (intros; omega) | ((repeat' first | apply And.intro | (intro hg; have hg' := hg; try simp only [zH] at hg')) <;> first | assumption | omega | (simp only [zH]; omega)))
  · cases hb
  have hFe : ∀ j, deM (mnN p 61) ((leastL ⟨o, p, x⟩ (odN p 61) (mnN p 61)).getD j 0) = meaF ⟨o, p, x⟩ j := fun j => rfl
  simp only [hFe]
  rw [e1, e2]
  have hlF : ∀ j, (meaF ⟨o, p, x⟩ j).2.length ≤ 100 := fun j => by
    have h1 := hS.len
    have h2 := hS.l100
    have : (meaF ⟨o, p, x⟩ j).2.length ≤ (mnN p 61).length := deM_len
    omega
  generalize meaF ⟨o, p, x⟩ = F at *
  clear hFe
  repeat' first
    | with_reducible first | refine awp_seq ?_ | refine awp_block ?_ | refine next_then ?_ | refine next_block ?_ | refine exit_then ?_ | refine ret_then ?_ | refine ret_block ?_ | refine exit_here ?_ | refine awp_exit ?_ | refine awp_ret ?_ | refine awp_skip ?_ | refine awp_label ?_ | refine next_noGoto ?_ | refine ret_noGoto ?_ | refine exit_noGoto ?_ | refine awp_scope ?_
    | ((with_reducible refine exit_past ?_ ?_); exact rfl)
    | ((with_reducible refine isCond ?_); refine awp_condO rfl ?_ ?_ <;> intro hb <;> (try simp only [zH] at hb))
    | ((with_reducible refine isReg ?_); (first | refine awp_textM htb hmz spMe_ok (fun _ => false) rfl rfl ?_ | refine awp_drawM hmo htb hmz spMe_ok (fun _ => false) rfl rfl (by kernel_rfl) ?_); intro m' e' l' ob h; simp only [zE0, zE1, zE2, zE3, zE4, zE5, evp, evx, ev1, evLoad, evStore, evBin, isBoolK, forall_const, z38, tb, Nat.reduceAdd, Nat.reduceSub, Nat.reduceMul, Nat.reduceEqDiff, Nat.reduceLeDiff, Nat.reduceLT, Nat.reduceBEq, Nat.reduceBNe, ↓reduceIte, reduceIte, spMe, validS, scaleS, cloneS, measuresS, msA] at h; obtain ⟨rfl, rfl, rfl, rfl⟩ := h; refine ⟨?_, ?_⟩)
    | ((with_reducible refine Ob.mk ?_); first | exact trivial | (intros; omega) | ((repeat' first | apply And.intro | (intro hg; have hg' := hg; try simp only [zH] at hg')) <;> first | assumption | omega | (simp only [zH]; omega)))
  refine awp_loopC (τ := Nat) (fun v => v ≤ o.length) (fun v => ⟨20, [(21, .int .i64 v), (20, .int .i64 o.length), (4, .own 9)], [(9, some (.avs 2 o.length fun j => msA (F j)))], []⟩) (fun v => o.length - v) 0 [] ?_ (Nat.zero_le _) ?_
  · (refine ⟨rfl, ?_, ?_⟩ <;> simp only [zE0, zE1, zE2, zE3, zE4, zE5, evp, evx, ev1, evLoad, evStore, evBin, isBoolK, forall_const, z38, tb, Nat.reduceAdd, Nat.reduceSub, Nat.reduceMul, Nat.reduceEqDiff, Nat.reduceLeDiff, Nat.reduceLT, Nat.reduceBEq, Nat.reduceBNe, ↓reduceIte, reduceIte, spMe, validS, scaleS, cloneS, measuresS, msA, zI])
  intro v hvn
  have hlF := hlF v
  repeat' first
    | with_reducible first | refine awp_seq ?_ | refine awp_block ?_ | refine next_then ?_ | refine next_block ?_ | refine exit_then ?_ | refine ret_then ?_ | refine ret_block ?_ | refine exit_here ?_ | refine awp_exit ?_ | refine awp_ret ?_ | refine awp_skip ?_ | refine awp_label ?_ | refine next_noGoto ?_ | refine ret_noGoto ?_ | refine exit_noGoto ?_ | refine awp_scope ?_
    | ((with_reducible refine exit_past ?_ ?_); exact rfl)
    | ((with_reducible refine isCond ?_); refine awp_condO rfl ?_ ?_ <;> intro hb <;> (try simp only [zH] at hb))
    | ((with_reducible refine isRegS 9 ?_ ?_); (· exact rfl); (with_reducible refine isRegS 11 ?_ ?_); (· exact rfl); (first | refine awp_textM htb hmz spMe_ok (fun _ => false) rfl rfl ?_ | refine awp_drawM hmo htb hmz spMe_ok (fun _ => false) rfl rfl (by kernel_rfl) ?_); intro m' e' l' ob h; simp only [zE0, zE1, zE2, zE3, zE4, zE5, evp, evx, ev1, evLoad, evStore, evBin, isBoolK, forall_const, z38, tb, Nat.reduceAdd, Nat.reduceSub, Nat.reduceMul, Nat.reduceEqDiff, Nat.reduceLeDiff, Nat.reduceLT, Nat.reduceBEq, Nat.reduceBNe, ↓reduceIte, reduceIte, spMe, validS, scaleS, cloneS, measuresS, msA] at h; obtain ⟨rfl, rfl, rfl, rfl⟩ := h; refine ⟨?_, ?_⟩)
    | ((with_reducible refine Ob.mk ?_); first | exact trivial | (intros; omega) | ((repeat' first | apply And.intro | (intro hg; have hg' := hg; try simp only [zH] at hg')) <;> first | assumption | omega | (simp only [zH]; omega)))
  · repeat' first
      | with_reducible first | refine awp_seq ?_ | refine awp_block ?_ | refine next_then ?_ | refine next_block ?_ | refine exit_then ?_ | refine ret_then ?_ | refine ret_block ?_ | refine exit_here ?_ | refine awp_exit ?_ | refine awp_ret ?_ | refine awp_skip ?_ | refine awp_label ?_ | refine next_noGoto ?_ | refine ret_noGoto ?_ | refine exit_noGoto ?_ | refine awp_scope ?_
      | ((with_reducible refine exit_past ?_ ?_); exact rfl)
      | ((with_reducible refine isCond ?_); refine awp_condO rfl ?_ ?_ <;> intro hb <;> (try simp only [zH] at hb))
      | ((with_reducible refine isReg ?_); (first | refine awp_textM htb hmz spMe_ok (fun _ => false) rfl rfl ?_ | refine awp_drawM hmo htb hmz spMe_ok (fun _ => false) rfl rfl (by kernel_rfl) ?_); intro m' e' l' ob h; simp only [zE0, zE1, zE2, zE3, zE4, zE5, evp, evx, ev1, evLoad, evStore, evBin, isBoolK, forall_const, z38, tb, Nat.reduceAdd, Nat.reduceSub, Nat.reduceMul, Nat.reduceEqDiff, Nat.reduceLeDiff, Nat.reduceLT, Nat.reduceBEq, Nat.reduceBNe, ↓reduceIte, reduceIte, spMe, validS, scaleS, cloneS, measuresS, msA] at h; obtain ⟨rfl, rfl, rfl, rfl⟩ := h; refine ⟨?_, ?_⟩)
      | ((with_reducible refine Ob.mk ?_); first | exact trivial | (intros; omega) | ((repeat' first | apply And.intro | (intro hg; have hg' := hg; try simp only [zH] at hg')) <;> first | assumption | omega | (simp only [zH]; omega)))
    refine back (v + 1) [] ?_ (by omega) (by omega)
    (refine ⟨rfl, ?_, ?_⟩ <;> simp only [zE0, zE1, zE2, zE3, zE4, zE5, evp, evx, ev1, evLoad, evStore, evBin, isBoolK, forall_const, z38, tb, Nat.reduceAdd, Nat.reduceSub, Nat.reduceMul, Nat.reduceEqDiff, Nat.reduceLeDiff, Nat.reduceLT, Nat.reduceBEq, Nat.reduceBNe, ↓reduceIte, reduceIte, spMe, validS, scaleS, cloneS, measuresS, msA, zI])
    refine congrArg (Blk.avs 2 o.length) (funext fun j => ?_)
    by_cases h : j = v
    · rw [if_pos h, h]
    · rw [if_neg h]
  refine awp_fzN 9 (.ro 2 o.length (fun j => msA (F j))) (by simp only [lkr_cons, lkr_nil, fzE, fzA, fzR, fzB, set1, nbeq, Nat.reduceEqDiff, decide_true, decide_false, ↓reduceIte, reduceIte, cond_true, cond_false, List.take_length, Option.some.injEq]; rfl) (by first | exact rfl | (refine ⟨?_, rfl⟩; first | rfl | (intros; rfl))) (by simp only [lkr_cons, lkr_nil, fzE, fzA, fzR, fzB, set1, nbeq, Nat.reduceEqDiff, decide_true, decide_false, ↓reduceIte, reduceIte, cond_true, cond_false, List.take_length, Option.some.injEq]; rfl) (by simp only [lkr_cons, lkr_nil, fzE, fzA, fzR, fzB, set1, nbeq, Nat.reduceEqDiff, decide_true, decide_false, ↓reduceIte, reduceIte, cond_true, cond_false, List.take_length, Option.some.injEq]; rfl) ?_
  repeat' first
    | with_reducible first | refine awp_seq ?_ | refine awp_block ?_ | refine next_then ?_ | refine next_block ?_ | refine exit_then ?_ | refine ret_then ?_ | refine ret_block ?_ | refine exit_here ?_ | refine awp_exit ?_ | refine awp_ret ?_ | refine awp_skip ?_ | refine awp_label ?_ | refine next_noGoto ?_ | refine ret_noGoto ?_ | refine exit_noGoto ?_ | refine awp_scope ?_
    | ((with_reducible refine exit_past ?_ ?_); exact rfl)
    | ((with_reducible refine isCond ?_); refine awp_condO rfl ?_ ?_ <;> intro hb <;> (try simp only [zH] at hb))
    | ((with_reducible refine isReg ?_); (first | refine awp_textM htb hmz spMe_ok (fun _ => false) rfl rfl ?_ | refine awp_drawM hmo htb hmz spMe_ok (fun _ => false) rfl rfl (by kernel_rfl) ?_); intro m' e' l' ob h; simp only [zE0, zE1, zE2, zE3, zE4, zE5, evp, evx, ev1, evLoad, evStore, evBin, isBoolK, forall_const, z38, tb, Nat.reduceAdd, Nat.reduceSub, Nat.reduceMul, Nat.reduceEqDiff, Nat.reduceLeDiff, Nat.reduceLT, Nat.reduceBEq, Nat.reduceBNe, ↓reduceIte, reduceIte, spMe, validS, scaleS, cloneS, measuresS, msA] at h; obtain ⟨rfl, rfl, rfl, rfl⟩ := h; refine ⟨?_, ?_⟩)
    | ((with_reducible refine Ob.mk ?_); first | exact trivial | (intros; omega) | ((repeat' first | apply And.intro | (intro hg; have hg' := hg; try simp only [zH] at hg')) <;> first | assumption | omega | (simp only [zH]; omega)))
  refine fin_ret rfl rfl (spec_flat rfl ?_ rfl)
  rfl
end Go.Proofs.Ytgminhedbeblpaa.Cal
namespace Go.Proofs.Ytgminhedbeblpaa.Cal
open Go Pl
def gotS : Spec
  | [.agg (.cons (.bool t) (.cons (.roI xs) .nil))] => some ⟨True, .agg (.cons (.bool t) (.cons (.roI xs) .nil)), none⟩
  | _ => none
set_option maxRecDepth 4000 in
set_option maxHeartbeats 4000000 in
theorem got_ok : FSpec Try.prog 13 gotS := by
  refine fspec_of htb (fn := Try.f13) (by kernel_rfl) (by kernel_rfl) rfl (fun args r hS => ?_) (fun args r hS hob hl => ?_)
  · unfold gotS at hS; split at hS <;> first | (cases hS; done) | (cases hS; exact Nat.le_of_ble_eq_true rfl)
  unfold gotS at hS
  split at hS
  case h_2 => cases hS
  rename_i t xs
  simp only [Option.some.injEq] at hS
  subst hS
  simp only [lenP, mkL, lim] at hl
  dsimp only at hob
  repeat' first
    | with_reducible first | refine awp_seq ?_ | refine awp_block ?_ | refine next_then ?_ | refine next_block ?_ | refine exit_then ?_ | refine ret_then ?_ | refine ret_block ?_ | refine exit_here ?_ | refine awp_exit ?_ | refine awp_ret ?_ | refine awp_skip ?_ | refine awp_label ?_ | refine next_noGoto ?_ | refine ret_noGoto ?_ | refine exit_noGoto ?_ | refine awp_scope ?_
    | ((with_reducible refine exit_past ?_ ?_); exact rfl)
    | ((with_reducible refine isCond ?_); refine awp_condO rfl ?_ ?_ <;> intro hb <;> (try simp only [zH] at hb))
    | ((with_reducible refine isReg ?_); (first | refine awp_textM htb hmz noSp (fun _ => false) rfl rfl ?_ | refine awp_drawM hmo htb hmz noSp (fun _ => false) rfl rfl (by kernel_rfl) ?_); intro m' e' l' ob h; simp only [zE0, zE1, zE2, zE3, zE4, zE5, evp, evx, ev1, evLoad, evStore, evBin, isBoolK, forall_const, z38, tb, Nat.reduceAdd, Nat.reduceSub, Nat.reduceMul, Nat.reduceEqDiff, Nat.reduceLeDiff, Nat.reduceLT, Nat.reduceBEq, Nat.reduceBNe, ↓reduceIte, reduceIte] at h; obtain ⟨rfl, rfl, rfl, rfl⟩ := h; refine ⟨?_, ?_⟩)
    | ((with_reducible refine Ob.mk ?_); first | exact trivial | (intros; omega) | ((repeat' first | apply And.intro | (intro hg; have hg' := hg; try simp only [zH] at hg')) <;> first | assumption | omega | (simp only [zH]; omega)))
  refine fin_ret rfl rfl (spec_flat rfl ?_ rfl)
  rfl
def exG1 : Gm := ⟨[0, 1], [1, 2], [[0, 1], [0, 1]]⟩
def exG2 : Gm := ⟨[1], [3], [[0]]⟩
theorem ex1_valid : Valid exG1 := by
  refine ⟨by decide, rfl, rfl, fun v hv => ?_⟩
  have hv : v < 2 := hv
  have : v = 0 ∨ v = 1 := by omega
  rcases this with rfl | rfl
  · refine ⟨by decide, fun i hi => ?_⟩
    have hi : i < 2 := hi
    have : i = 0 ∨ i = 1 := by omega
    rcases this with rfl | rfl <;> exact ⟨by decide, by decide, by decide⟩
  · refine ⟨by decide, fun i hi => ?_⟩
    have hi : i < 2 := hi
    have : i = 0 ∨ i = 1 := by omega
    rcases this with rfl | rfl <;> exact ⟨by decide, by decide, by decide⟩
theorem ex2_valid : Valid exG2 := by
  refine ⟨by decide, rfl, rfl, fun v hv => ?_⟩
  have hv : v < 1 := hv
  obtain rfl : v = 0 := by omega
  refine ⟨by decide, fun i hi => ?_⟩
  have hi : i < 1 := hi
  obtain rfl : i = 0 := by omega
  exact ⟨by decide, by decide, by decide⟩
theorem ex1_od : odN [1, 2] 61 = [1] := by kernel_rfl
theorem ex1_mn : mnN [1, 2] 61 = [1] := by kernel_rfl
theorem ex2_od : odN [3] 61 = [3] := by kernel_rfl
theorem ex2_mn : mnN [3] 61 = [1] := by kernel_rfl
theorem ex1_least : leastL exG1 [1] [1] = [1, 0] := by
  refine leastL_eq { len := rfl, rng := fun v hv => ?_, ok := fun v hv => ?_, low := fun l' h v hv => ?_ }
  · have hv : v < 2 := hv
    have : v = 0 ∨ v = 1 := by omega
    rcases this with rfl | rfl <;> decide
  · have hv : v < 2 := hv
    have : v = 0 ∨ v = 1 := by omega
    rcases this with rfl | rfl <;> decide
  · have hv : v < 2 := hv
    have : v = 0 ∨ v = 1 := by omega
    rcases this with rfl | rfl
    · obtain ⟨i, h1, h2⟩ := best_ask (g := exG1) (odd := [1]) (many := [1]) (l := l') (v := 0) (by decide)
      have h3 := h.ok 0 (by decide)
      rw [h2] at h3
      have h1 : i < 2 := h1
      have key : ∀ V : Int, 0 ≤ V → V ≤ 2 → 1 ≤ progV [1] [1] V 1 := fun V a b => by
        have : V = 0 ∨ V = 1 ∨ V = 2 := by omega
        rcases this with rfl | rfl | rfl <;> decide
      have hi : i = 0 ∨ i = 1 := by omega
      rcases hi with rfl | rfl
      · have hr := h.rng 0 (by decide)
        have := key (l'.getD 0 0) hr.1 hr.2
        exact Int.le_trans this h3
      · have hr := h.rng 1 (by decide)
        have := key (l'.getD 1 0) hr.1 hr.2
        exact Int.le_trans this h3
    · exact (h.rng 1 (by decide)).1
theorem ex2_least : leastL exG2 [3] [1] = [2] := by
  refine leastL_eq { len := rfl, rng := fun v hv => ?_, ok := fun v hv => ?_, low := fun l' h v hv => ?_ }
  · have hv : v < 1 := hv
    obtain rfl : v = 0 := by omega
    decide
  · have hv : v < 1 := hv
    obtain rfl : v = 0 := by omega
    decide
  · have hv : v < 1 := hv
    obtain rfl : v = 0 := by omega
    have h3 := h.ok 0 (by decide)
    have hr := h.rng 0 (by decide)
    have e : bestV exG2 [3] [1] l' 0 = progV [3] [1] (l'.getD 0 0) 3 := rfl
    rw [e] at h3
    have hr2 : l'.getD 0 0 ≤ 2 := hr.2
    show 2 ≤ l'.getD 0 0
    generalize l'.getD 0 0 = V at *
    have : V = 0 ∨ V = 1 ∨ V = 2 := by have := hr.1; omega
    rcases this with rfl | rfl | rfl
    · exact absurd h3 (by decide)
    · exact absurd h3 (by decide)
    · exact Int.le_refl _
theorem ex1_F0 : meaF exG1 0 = (false, [1]) := by
  show deM (mnN [1, 2] 61) ((leastL exG1 (odN [1, 2] 61) (mnN [1, 2] 61)).getD 0 0) = _
  rw [ex1_od, ex1_mn, ex1_least]; decide
theorem ex1_F1 : meaF exG1 1 = (false, [0]) := by
  show deM (mnN [1, 2] 61) ((leastL exG1 (odN [1, 2] 61) (mnN [1, 2] 61)).getD 1 0) = _
  rw [ex1_od, ex1_mn, ex1_least]; decide
theorem ex2_F0 : meaF exG2 0 = (true, []) := by
  show deM (mnN [3] 61) ((leastL exG2 (odN [3] 61) (mnN [3] 61)).getD 0 0) = _
  rw [ex2_od, ex2_mn, ex2_least]; decide
theorem ex1_N : meaN exG1 = 2 := by unfold meaN; rw [validB_true ex1_valid]; rfl
theorem ex1_E : meaE exG1 = 0 := by unfold meaE; rw [validB_true ex1_valid]; rfl
theorem ex2_N : meaN exG2 = 1 := by unfold meaN; rw [validB_true ex2_valid]; rfl
theorem ex2_E : meaE exG2 = 0 := by unfold meaE; rw [validB_true ex2_valid]; rfl
def exS : Spec
  | [] => some ⟨True, .agg (.cons (.roI [0, 1]) (.cons (.roI [1, 2]) (.cons (.roII [[0, 1], [0, 1]]) .nil))), none⟩
  | _ => none
set_option maxRecDepth 4000 in
set_option maxHeartbeats 4000000 in
theorem ex_ok : FSpec Try.prog 28 exS := by
  refine fspec_of htb (fn := Try.f28) (by kernel_rfl) (by kernel_rfl) rfl (fun args r hS => ?_) (fun args r hS hob hl => ?_)
  · unfold exS at hS; split at hS <;> first | (cases hS; done) | (cases hS; exact Nat.le_of_ble_eq_true rfl)
  unfold exS at hS
  split at hS
  case h_2 => cases hS
  simp only [Option.some.injEq] at hS
  subst hS
  repeat' first
    | with_reducible first | refine awp_seq ?_ | refine awp_block ?_ | refine next_then ?_ | refine next_block ?_ | refine exit_then ?_ | refine ret_then ?_ | refine ret_block ?_ | refine exit_here ?_ | refine awp_exit ?_ | refine awp_ret ?_ | refine awp_skip ?_ | refine awp_label ?_ | refine next_noGoto ?_ | refine ret_noGoto ?_ | refine exit_noGoto ?_ | refine awp_scope ?_
    | ((with_reducible refine exit_past ?_ ?_); exact rfl)
    | ((with_reducible refine isCond ?_); refine awp_condO rfl ?_ ?_ <;> intro hb <;> (try simp only [zH] at hb))
    | ((with_reducible refine isReg ?_); (first | refine awp_textM htb hmz noSp (fun _ => false) rfl rfl ?_ | refine awp_drawM hmo htb hmz noSp (fun _ => false) rfl rfl (by kernel_rfl) ?_); intro m' e' l' ob h; simp only [zE0, zE1, zE2, zE3, zE4, zE5, evp, evx, ev1, evLoad, evStore, evBin, isBoolK, forall_const, z38, tb, Nat.reduceAdd, Nat.reduceSub, Nat.reduceMul, Nat.reduceEqDiff, Nat.reduceLeDiff, Nat.reduceLT, Nat.reduceBEq, Nat.reduceBNe, ↓reduceIte, reduceIte] at h; obtain ⟨rfl, rfl, rfl, rfl⟩ := h; refine ⟨?_, ?_⟩)
    | ((with_reducible refine Ob.mk ?_); first | exact trivial | (intros; omega) | ((repeat' first | apply And.intro | (intro hg; have hg' := hg; try simp only [zH] at hg')) <;> first | assumption | omega | (simp only [zH]; omega)))
  refine fin_ret rfl rfl (spec_flat rfl ?_ rfl)
  rfl
def awkS : Spec
  | [] => some ⟨True, .bool true, none⟩
  | _ => none
noncomputable def spAw : Nat → Option Spec
  | 28 => some exS
  | 9 => some meaS
  | 17 => some listS
  | _ => none
theorem spAw_ok : SpOK Try.prog spAw := by
  intro f S h
  unfold spAw at h
  split at h
  · cases h; exact ex_ok
  · cases h; exact mea_ok
  · cases h; exact list_ok
  · cases h
set_option maxRecDepth 4000 in
set_option maxHeartbeats 4000000 in
theorem awk_ok : FSpec Try.prog 8 awkS := by
  refine fspec_of htb (fn := Try.f8) (by kernel_rfl) (by kernel_rfl) rfl (fun args r hS => ?_) (fun args r hS hob hl => ?_)
  · unfold awkS at hS; split at hS <;> first | (cases hS; done) | (cases hS; exact Nat.le_of_ble_eq_true rfl)
  unfold awkS at hS
  split at hS
  case h_2 => cases hS
  simp only [Option.some.injEq] at hS
  subst hS
  repeat' first
    | with_reducible first | refine awp_seq ?_ | refine awp_block ?_ | refine next_then ?_ | refine next_block ?_ | refine exit_then ?_ | refine ret_then ?_ | refine ret_block ?_ | refine exit_here ?_ | refine awp_exit ?_ | refine awp_ret ?_ | refine awp_skip ?_ | refine awp_label ?_ | refine next_noGoto ?_ | refine ret_noGoto ?_ | refine exit_noGoto ?_ | refine awp_scope ?_
    | ((with_reducible refine exit_past ?_ ?_); exact rfl)
    | ((with_reducible refine isCond ?_); refine awp_condO rfl ?_ ?_ <;> intro hb <;> (try simp only [zH] at hb))
    | ((with_reducible refine isReg ?_); (first | refine awp_textM htb hmz spAw_ok (fun _ => false) rfl rfl ?_ | refine awp_drawM hmo htb hmz spAw_ok (fun _ => false) rfl rfl (by kernel_rfl) ?_); intro m' e' l' ob h; simp only [zE0, zE1, zE2, zE3, zE4, zE5, evp, evx, ev1, evLoad, evStore, evBin, isBoolK, forall_const, z38, tb, Nat.reduceAdd, Nat.reduceSub, Nat.reduceMul, Nat.reduceEqDiff, Nat.reduceLeDiff, Nat.reduceLT, Nat.reduceBEq, Nat.reduceBNe, ↓reduceIte, reduceIte, spAw, exS, meaS, listS, msA, show meaN ⟨[0, 1], [1, 2], [[0, 1], [0, 1]]⟩ = 2 from ex1_N, show meaE ⟨[0, 1], [1, 2], [[0, 1], [0, 1]]⟩ = 0 from ex1_E, show meaN ⟨[1], [3], [[0]]⟩ = 1 from ex2_N, show meaE ⟨[1], [3], [[0]]⟩ = 0 from ex2_E, show meaF ⟨[0, 1], [1, 2], [[0, 1], [0, 1]]⟩ 0 = (false, [1]) from ex1_F0, show meaF ⟨[0, 1], [1, 2], [[0, 1], [0, 1]]⟩ 1 = (false, [0]) from ex1_F1, show meaF ⟨[1], [3], [[0]]⟩ 0 = (true, []) from ex2_F0] at h; obtain ⟨rfl, rfl, rfl, rfl⟩ := h; refine ⟨?_, ?_⟩)
    | ((with_reducible refine Ob.mk ?_); first | exact trivial | (intros; omega) | ((repeat' first | apply And.intro | (intro hg; have hg' := hg; try simp only [zH] at hg')) <;> first | assumption | omega | (simp only [zH]; omega)))
  refine fin_ret rfl rfl (spec_flat rfl ?_ rfl)
  rfl
end Go.Proofs.Ytgminhedbeblpaa.Cal
namespace Go.Proofs.Ytgminhedbeblpaa.Cal
open Go Pl
def lssI (a b : Bool × List Int) : Int := if a.1 && b.1 then 0 else if a.1 then 1 else if b.1 then -1 else cmpL a.2 b.2
theorem lssI_V {many : List Int} (hp : posL many) {V W : Int} (h0 : 0 ≤ V) (h1 : V ≤ rpr many) (h2 : 0 ≤ W) (h3 : W ≤ rpr many) : (lssI (deM many V) (deM many W) < 0 ↔ V < W) ∧ (0 < lssI (deM many V) (deM many W) ↔ W < V) := by
  unfold lssI
  rcases deM_cases hp h0 h1 with ⟨a1, a2⟩ | ⟨a1, a2, a3, a4⟩
  · rw [a2]
    rcases deM_cases hp h2 h3 with ⟨b1, b2⟩ | ⟨b1, b2, b3, b4⟩
    · rw [b2]; simp; omega
    · rw [b4]; simp; omega
  · rw [a4]
    rcases deM_cases hp h2 h3 with ⟨b1, b2⟩ | ⟨b1, b2, b3, b4⟩
    · rw [b2]; simp; omega
    · rw [b4]
      obtain ⟨c1, c2⟩ := cmp_nv a2 b2
      rw [a3, b3] at c1 c2
      simp only [Bool.false_and, Bool.false_eq_true, if_false]
      exact ⟨c1, c2⟩
def lssS : Spec
  | [.agg (.cons (.bool t) (.cons (.roI xs) .nil)), .agg (.cons (.bool t') (.cons (.roI ys) .nil))] => some ⟨t = false → t' = false → xs.length = ys.length, .int .i64 (lssI (t, xs) (t', ys)), none⟩
  | _ => none
set_option maxRecDepth 4000 in
set_option maxHeartbeats 4000000 in
theorem lss_ok : FSpec Try.prog 26 lssS := by
  refine fspec_of htb (fn := Try.f26) (by kernel_rfl) (by kernel_rfl) rfl (fun args r hS => ?_) (fun args r hS hob hl => ?_)
  · unfold lssS at hS; split at hS <;> first | (cases hS; done) | (cases hS; exact Nat.le_of_ble_eq_true rfl)
  unfold lssS at hS
  split at hS
  case h_2 => cases hS
  rename_i t xs t' ys
  simp only [Option.some.injEq] at hS
  subst hS
  simp only [lenP, mkL, lim] at hl
  dsimp only at hob
  repeat' first
    | with_reducible first | refine awp_seq ?_ | refine awp_block ?_ | refine next_then ?_ | refine next_block ?_ | refine exit_then ?_ | refine ret_then ?_ | refine ret_block ?_ | refine exit_here ?_ | refine awp_exit ?_ | refine awp_ret ?_ | refine awp_skip ?_ | refine awp_label ?_ | refine next_noGoto ?_ | refine ret_noGoto ?_ | refine exit_noGoto ?_ | refine awp_scope ?_
    | ((with_reducible refine exit_past ?_ ?_); exact rfl)
    | ((with_reducible refine isCond ?_); refine awp_condO rfl ?_ ?_ <;> intro hb <;> (try simp only [zH] at hb))
    | ((with_reducible refine isReg ?_); (first | refine awp_textM htb hmz noSp (fun _ => false) rfl rfl ?_ | refine awp_drawM hmo htb hmz noSp (fun _ => false) rfl rfl (by kernel_rfl) ?_); intro m' e' l' ob h; simp only [zE0, zE1, zE2, zE3, zE4, zE5, evp, evx, ev1, evLoad, evStore, evBin, isBoolK, forall_const, z38, tb, Nat.reduceAdd, Nat.reduceSub, Nat.reduceMul, Nat.reduceEqDiff, Nat.reduceLeDiff, Nat.reduceLT, Nat.reduceBEq, Nat.reduceBNe, ↓reduceIte, reduceIte] at h; obtain ⟨rfl, rfl, rfl, rfl⟩ := h; refine ⟨?_, ?_⟩)
    | ((with_reducible refine Ob.mk ?_); first | exact trivial | (intros; omega) | ((repeat' first | apply And.intro | (intro hg; have hg' := hg; try simp only [zH] at hg')) <;> first | assumption | omega | (simp only [zH]; omega)))
  · obtain ⟨rfl, rfl⟩ := hb
    refine fin_ret rfl rfl (spec_flat rfl ?_ rfl)
    rfl
  · rename_i h
    subst hb
    obtain rfl : t' = false := h.resolve_left (by decide)
    refine fin_ret rfl rfl (spec_flat rfl ?_ rfl)
    rfl
  · rename_i h1 h
    subst h hb
    refine fin_ret rfl rfl (spec_flat rfl ?_ rfl)
    rfl
  rename_i h1 h
  subst h hb
  have hlen := hob rfl rfl
  have hls : lssI (false, xs) (false, ys) = cmpL xs ys := rfl
  rw [hls]
  refine awp_loopC (τ := Nat) (fun i => i ≤ xs.length ∧ cmpL (xs.drop i) (ys.drop i) = cmpL xs ys) (fun i => ⟨5, [(23, .int .i64 i), (22, .int .i64 xs.length), (21, .roI xs), (3, .rop (.agg (.cons (.bool false) (.cons (.roI ys) .nil))))], [], []⟩) (fun i => xs.length - i) 0 [] ?_ ⟨Nat.zero_le _, by simp⟩ ?_
  · (refine ⟨rfl, ?_, ?_⟩ <;> simp only [zE0, zE1, zE2, zE3, zE4, zE5, evp, evx, ev1, evLoad, evStore, evBin, isBoolK, forall_const, z38, tb, Nat.reduceAdd, Nat.reduceSub, Nat.reduceMul, Nat.reduceEqDiff, Nat.reduceLeDiff, Nat.reduceLT, Nat.reduceBEq, Nat.reduceBNe, ↓reduceIte, reduceIte, zI])
  rintro i ⟨hi, hc⟩
  have hst := @cmpL_step xs ys i
  have hen := @cmpL_end xs ys i
  rw [hc] at hst hen
  repeat' first
    | with_reducible first | refine awp_seq ?_ | refine awp_block ?_ | refine next_then ?_ | refine next_block ?_ | refine exit_then ?_ | refine ret_then ?_ | refine ret_block ?_ | refine exit_here ?_ | refine awp_exit ?_ | refine awp_ret ?_ | refine awp_skip ?_ | refine awp_label ?_ | refine next_noGoto ?_ | refine ret_noGoto ?_ | refine exit_noGoto ?_ | refine awp_scope ?_
    | ((with_reducible refine exit_past ?_ ?_); exact rfl)
    | ((with_reducible refine isCond ?_); refine awp_condO rfl ?_ ?_ <;> intro hb <;> (try simp only [zH] at hb))
    | ((with_reducible refine isReg ?_); (first | refine awp_textM htb hmz noSp (fun _ => false) rfl rfl ?_ | refine awp_drawM hmo htb hmz noSp (fun _ => false) rfl rfl (by kernel_rfl) ?_); intro m' e' l' ob h; simp only [zE0, zE1, zE2, zE3, zE4, zE5, evp, evx, ev1, evLoad, evStore, evBin, isBoolK, forall_const, z38, tb, Nat.reduceAdd, Nat.reduceSub, Nat.reduceMul, Nat.reduceEqDiff, Nat.reduceLeDiff, Nat.reduceLT, Nat.reduceBEq, Nat.reduceBNe, ↓reduceIte, reduceIte] at h; obtain ⟨rfl, rfl, rfl, rfl⟩ := h; refine ⟨?_, ?_⟩)
    | ((with_reducible refine Ob.mk ?_); first | exact trivial | (intros; omega) | ((repeat' first | apply And.intro | (intro hg; have hg' := hg; try simp only [zH] at hg')) <;> first | assumption | omega | (simp only [zH]; omega)))
  · refine fin_ret rfl rfl (spec_flat rfl ?_ rfl)
    rw [hst (by omega) (by omega), if_pos hb]
    rfl
  · refine fin_ret rfl rfl (spec_flat rfl ?_ rfl)
    rw [hst (by omega) (by omega), if_neg (by omega), if_pos hb]
    rfl
  · refine back (i + 1) [] ?_ ⟨by omega, ?_⟩ (by omega)
    · (refine ⟨rfl, ?_, ?_⟩ <;> simp only [zE0, zE1, zE2, zE3, zE4, zE5, evp, evx, ev1, evLoad, evStore, evBin, isBoolK, forall_const, z38, tb, Nat.reduceAdd, Nat.reduceSub, Nat.reduceMul, Nat.reduceEqDiff, Nat.reduceLeDiff, Nat.reduceLT, Nat.reduceBEq, Nat.reduceBNe, ↓reduceIte, reduceIte, zI])
    · have hst := hst (by omega) (by omega)
      rw [if_neg (by omega), if_neg (by omega)] at hst
      exact hst.symm
  · refine fin_ret rfl rfl (spec_flat rfl ?_ rfl)
    rw [hen (by omega)]
    unfold cmpI
    rw [if_neg (by omega), if_neg (by omega)]
    rfl
end Go.Proofs.Ytgminhedbeblpaa.Cal
