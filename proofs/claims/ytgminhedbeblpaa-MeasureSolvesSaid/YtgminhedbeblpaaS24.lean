/- Own texts of the proof, merged, in order. -/
import Derived.Test.YtgminhedbeblpaaS23
set_option linter.unusedVariables false
set_option linter.unusedSimpArgs false
namespace Go.Proofs.Ytgminhedbeblpaa.Cal
open Go Pl
theorem cP_step {p : List Int} {z : Int} : p.countP (fun a => decide (z - 1 < a)) = p.countP (fun a => decide (z < a)) + p.count z := by
  induction p with
  | nil => rfl
  | cons a t ih =>
    rw [List.countP_cons, List.countP_cons, List.count_cons, ih]
    by_cases h1 : z < a
    · have h2 : z - 1 < a := by omega
      have h4 : (a == z) = false := by simp; omega
      rw [decide_eq_true h1, decide_eq_true h2, h4]
      simp only [if_true, Bool.false_eq_true, if_false]
      omega
    · by_cases h3 : a = z
      · have h2 : z - 1 < a := by omega
        have h4 : (a == z) = true := by simp [h3]
        rw [decide_eq_false h1, decide_eq_true h2, h4]
        simp only [if_true, Bool.false_eq_true, if_false]
        omega
      · have h2 : ¬ z - 1 < a := by omega
        have h4 : (a == z) = false := by simp [h3]
        rw [decide_eq_false h1, decide_eq_false h2, h4]
        simp only [Bool.false_eq_true, if_false]
        omega
theorem mnN_sum {p : List Int} : ∀ k : Nat, (mnN p k).sum ≤ (p.countP (fun a => decide (60 - (k : Int) < a)) : Nat)
  | 0 => by
    have : (mnN p 0).sum = 0 := rfl
    rw [this]; omega
  | k + 1 => by
    have ih := mnN_sum (p := p) k
    have hc := cP_step (p := p) (z := 60 - (k : Int))
    have e : (60 : Int) - ((k + 1 : Nat) : Int) = 60 - (k : Int) - 1 := by omega
    rw [e, hc]
    by_cases h : (60 - (k : Int)) % 2 = 1 ∧ 0 < p.count (60 - (k : Int))
    · rw [(odN_yes h).2, List.sum_append]
      simp only [List.sum_cons, List.sum_nil]
      omega
    · rw [(odN_no h).2]; omega
theorem pow_ge : ∀ {ms : List Int}, posL ms → rpr ms ≤ ((2 ^ ms.sum.toNat : Nat) : Int) ∧ 0 ≤ ms.sum
  | [], _ => ⟨by decide, Int.le_refl _⟩
  | m :: ms, h => by
    have h0 := h m List.mem_cons_self
    obtain ⟨h1, h2⟩ := pow_ge (ms := ms) fun x hx => h x (List.mem_cons_of_mem _ hx)
    obtain ⟨m, rfl⟩ := Int.eq_ofNat_of_zero_le h0
    have h3 : m + 1 ≤ 2 ^ m := Nat.lt_two_pow_self
    have e : ((m : Int) :: ms).sum = (m : Int) + ms.sum := List.sum_cons
    refine ⟨?_, by rw [e]; omega⟩
    rw [e, show ((m : Int) + ms.sum).toNat = m + ms.sum.toNat by omega, Nat.pow_add]
    show ((m : Int) + 1) * rpr ms ≤ _
    rw [Int.natCast_mul]
    exact Int.mul_le_mul (by omega) h1 (Int.le_of_lt (rpr_pos fun x hx => h x (List.mem_cons_of_mem _ hx))) (by omega)
theorem mnN_pos {p : List Int} {k : Nat} : posL (mnN p k) := fun m hm => by
  obtain ⟨q, _, rfl⟩ := List.mem_map.1 hm
  omega
theorem scale_sok {p : List Int} (hp : p.length ≤ 20000) : SOK (odN p 61) (mnN p 61) := by
  refine ⟨mnN_len.symm, by have := odN_len (p := p) 61; omega, fun i => ?_, mnN_pos⟩
  by_cases hi : i < (mnN p 61).length
  · rw [List.getD_eq_getElem?_getD, List.getElem?_eq_getElem hi]
    have := List.getElem_mem hi
    obtain ⟨q, _, e⟩ := List.mem_map.1 this
    simp only [Option.getD_some]
    rw [← e]
    have : p.count q ≤ p.length := List.count_le_length
    omega
  · rw [List.getD_eq_getElem?_getD, List.getElem?_eq_none (by omega)]
    decide
theorem scale_few {p : List Int} (hp : p.length ≤ 12) : rpr (mnN p 61) ≤ 4096 := by
  obtain ⟨h1, h2⟩ := pow_ge (mnN_pos (p := p) (k := 61))
  have h3 := mnN_sum (p := p) 61
  have h4 : p.countP (fun a => decide (60 - ((61 : Nat) : Int) < a)) ≤ p.length := List.countP_le_length
  have h5 : (mnN p 61).sum.toNat ≤ 12 := by omega
  have h6 : 2 ^ (mnN p 61).sum.toNat ≤ 2 ^ 12 := Nat.pow_le_pow_right (by decide) h5
  have h7 : (2 : Nat) ^ 12 = 4096 := by decide
  omega
theorem dgl_len : ∀ {ms : List Int} {V : Int}, (dgl ms V).length = ms.length
  | [], _ => rfl
  | _ :: ms, V => congrArg (· + 1) (dgl_len (ms := ms))
theorem deM_len {many : List Int} {V : Int} : (deM many V).2.length ≤ many.length := by
  unfold deM
  split
  · exact Nat.zero_le _
  · exact Nat.le_of_eq dgl_len
/-- The measures of a game as the program holds them. -/
noncomputable def meaF (g : Gm) (j : Nat) : Bool × List Int := deM (mnN g.pri 61) ((leastL g (odN g.pri 61) (mnN g.pri 61)).getD j 0)
noncomputable def meaN (g : Gm) : Nat := bif validB g then g.own.length else 0
noncomputable def meaE (g : Gm) : Int := bif validB g then 0 else 1
noncomputable def meaS : Spec
  | [.agg (.cons (.roI o) (.cons (.roI p) (.cons (.roII x) .nil)))] => some ⟨o.length ≤ 12 ∧ p.length ≤ 12, .tup (.cons (.ro 2 (meaN ⟨o, p, x⟩) (fun j => msA (meaF ⟨o, p, x⟩ j))) (.cons (.int .i64 (meaE ⟨o, p, x⟩)) .nil)), none⟩
  | _ => none
noncomputable def spMe : Nat → Option Spec
  | 29 => some validS
  | 30 => some scaleS
  | 31 => some measuresS
  | 32 => some cloneS
  | _ => none
theorem spMe_ok : SpOK Try.prog spMe := by
  intro f S h
  unfold spMe at h
  split at h
  · cases h; exact valid_ok
  · cases h; exact scale_ok
  · cases h; exact measures_ok
  · cases h; exact clone_ok
  · cases h
set_option maxRecDepth 4000 in
set_option maxHeartbeats 4000000 in
theorem mea_ok : FSpec Try.prog 9 meaS := by
  refine fspec_of htb (fn := Try.f9) (by kernel_rfl) (by kernel_rfl) rfl (fun args r hS => ?_) (fun args r hS hob hl => ?_)
  · unfold meaS at hS; split at hS <;> first | (cases hS; done) | (cases hS; exact Nat.le_of_ble_eq_true rfl)
  unfold meaS at hS
  split at hS
  case h_2 => cases hS
  rename_i o p x
  simp only [Option.some.injEq] at hS
  subst hS
  simp only [lenP, mkL, lim] at hl
  dsimp only at hob
  repeat' first
    | with_reducible first | refine awp_seq ?_ | refine awp_block ?_ | refine next_then ?_ | refine next_block ?_ | refine exit_then ?_ | refine ret_then ?_ | refine ret_block ?_ | refine exit_here ?_ | refine awp_exit ?_ | refine awp_ret ?_ | refine awp_skip ?_ | refine awp_label ?_ | refine next_noGoto ?_ | refine ret_noGoto ?_ | refine exit_noGoto ?_ | refine awp_scope ?_
    | ((with_reducible refine exit_past ?_ ?_); exact rfl)
    | ((with_reducible refine isCond ?_); refine awp_condO rfl ?_ ?_ <;> intro hb <;> (try simp only [zH] at hb))
    | ((with_reducible refine isRegS 3 ?_ ?_); (· exact rfl); (first | refine awp_textM htb hmz spMe_ok (fun _ => false) rfl rfl ?_ | refine awp_drawM hmo htb hmz spMe_ok (fun _ => false) rfl rfl (by kernel_rfl) ?_); intro m' e' l' ob h; simp only [zE0, zE1, zE2, zE3, zE4, zE5, evp, evx, ev1, evLoad, evStore, evBin, isBoolK, forall_const, z38, tb, Nat.reduceAdd, Nat.reduceSub, Nat.reduceMul, Nat.reduceEqDiff, Nat.reduceLeDiff, Nat.reduceLT, Nat.reduceBEq, Nat.reduceBNe, ↓reduceIte, reduceIte, spMe, validS, scaleS, cloneS, measuresS, msA] at h; obtain ⟨rfl, rfl, rfl, rfl⟩ := h; refine ⟨?_, ?_⟩)
    | ((with_reducible refine Ob.mk ?_); first | exact trivial | (intros; omega) | ((repeat' first | apply And.intro | (intro hg; have hg' := hg; try simp only [zH] at hg')) <;> first | assumption | omega | (simp only [zH]; omega)))
  · have e1 : meaN ⟨o, p, x⟩ = 0 := by unfold meaN; rw [hb]; rfl
    have e2 : meaE ⟨o, p, x⟩ = 1 := by unfold meaE; rw [hb]; rfl
    refine fin_ret rfl rfl (spec_imp rfl ?_ rfl)
    rw [e1, e2]
    exact imp_tup (imp_cons imp_nilro (imp_eq rfl))
  have hv := hb
  have hV := validB_iff.1 hv
  obtain ⟨hn, hpl, hxl, hpos⟩ := id hV
  simp only [Gm.n] at hn hpl hxl
  have hS := scale_sok (p := p) (by omega)
  have hP4 := scale_few (p := p) hob.2
  have hn12 := hob.1
  have e1 : meaN ⟨o, p, x⟩ = o.length := by unfold meaN; rw [hv]; rfl
  have e2 : meaE ⟨o, p, x⟩ = 0 := by unfold meaE; rw [hv]; rfl
  repeat' first
    | with_reducible first | refine awp_seq ?_ | refine awp_block ?_ | refine next_then ?_ | refine next_block ?_ | refine exit_then ?_ | refine ret_then ?_ | refine ret_block ?_ | refine exit_here ?_ | refine awp_exit ?_ | refine awp_ret ?_ | refine awp_skip ?_ | refine awp_label ?_ | refine next_noGoto ?_ | refine ret_noGoto ?_ | refine exit_noGoto ?_ | refine awp_scope ?_
    | ((with_reducible refine exit_past ?_ ?_); exact rfl)
    | ((with_reducible refine isCond ?_); refine awp_condO rfl ?_ ?_ <;> intro hb <;> (try simp only [zH] at hb))
    | ((with_reducible refine isRegS 6 ?_ ?_); (· exact rfl); (first | refine awp_textM htb hmz spMe_ok (fun _ => false) rfl rfl ?_ | refine awp_drawM hmo htb hmz spMe_ok (fun _ => false) rfl rfl (by kernel_rfl) ?_); intro m' e' l' ob h; simp only [zE0, zE1, zE2, zE3, zE4, zE5, evp, evx, ev1, evLoad, evStore, evBin, isBoolK, forall_const, z38, tb, Nat.reduceAdd, Nat.reduceSub, Nat.reduceMul, Nat.reduceEqDiff, Nat.reduceLeDiff, Nat.reduceLT, Nat.reduceBEq, Nat.reduceBNe, ↓reduceIte, reduceIte, spMe, validS, scaleS, cloneS, measuresS, msA] at h; obtain ⟨rfl, rfl, rfl, rfl⟩ := h; refine ⟨?_, ?_⟩)
    | ((with_reducible refine Ob.mk ?_); first | exact trivial | (intros; omega) | ((repeat' first | apply And.intro | (intro hg; have hg' := hg; try simp only [zH] at hg')) <;> first | assumption | omega | (simp only [zH]; omega)))
  · cases hb
  have hFe : ∀ j, deM (mnN p 61) ((leastL ⟨o, p, x⟩ (odN p 61) (mnN p 61)).getD j 0) = meaF ⟨o, p, x⟩ j := fun j => rfl
  simp only [hFe]
  rw [e1, e2]
  have hlF : ∀ j, (meaF ⟨o, p, x⟩ j).2.length ≤ 100 := fun j => by
    have h1 := hS.len
    have h2 := hS.l100
    have : (meaF ⟨o, p, x⟩ j).2.length ≤ (mnN p 61).length := deM_len
    omega
  generalize meaF ⟨o, p, x⟩ = F at *
  clear hFe
  repeat' first
    | with_reducible first | refine awp_seq ?_ | refine awp_block ?_ | refine next_then ?_ | refine next_block ?_ | refine exit_then ?_ | refine ret_then ?_ | refine ret_block ?_ | refine exit_here ?_ | refine awp_exit ?_ | refine awp_ret ?_ | refine awp_skip ?_ | refine awp_label ?_ | refine next_noGoto ?_ | refine ret_noGoto ?_ | refine exit_noGoto ?_ | refine awp_scope ?_
    | ((with_reducible refine exit_past ?_ ?_); exact rfl)
    | ((with_reducible refine isCond ?_); refine awp_condO rfl ?_ ?_ <;> intro hb <;> (try simp only [zH] at hb))
    | ((with_reducible refine isReg ?_); (first | refine awp_textM htb hmz spMe_ok (fun _ => false) rfl rfl ?_ | refine awp_drawM hmo htb hmz spMe_ok (fun _ => false) rfl rfl (by kernel_rfl) ?_); intro m' e' l' ob h; simp only [zE0, zE1, zE2, zE3, zE4, zE5, evp, evx, ev1, evLoad, evStore, evBin, isBoolK, forall_const, z38, tb, Nat.reduceAdd, Nat.reduceSub, Nat.reduceMul, Nat.reduceEqDiff, Nat.reduceLeDiff, Nat.reduceLT, Nat.reduceBEq, Nat.reduceBNe, ↓reduceIte, reduceIte, spMe, validS, scaleS, cloneS, measuresS, msA] at h; obtain ⟨rfl, rfl, rfl, rfl⟩ := h; refine ⟨?_, ?_⟩)
    | ((with_reducible refine Ob.mk ?_); first | exact trivial | (intros; omega) | ((repeat' first | apply And.intro | (intro hg; have hg' := hg; try simp only [zH] at hg')) <;> first | assumption | omega | (simp only [zH]; omega)))
  refine awp_loopC (τ := Nat) (fun v => v ≤ o.length) (fun v => ⟨20, [(21, .int .i64 v), (20, .int .i64 o.length), (4, .own 9)], [(9, some (.avs 2 o.length fun j => msA (F j)))], []⟩) (fun v => o.length - v) 0 [] ?_ (Nat.zero_le _) ?_
  · (refine ⟨rfl, ?_, ?_⟩ <;> simp only [zE0, zE1, zE2, zE3, zE4, zE5, evp, evx, ev1, evLoad, evStore, evBin, isBoolK, forall_const, z38, tb, Nat.reduceAdd, Nat.reduceSub, Nat.reduceMul, Nat.reduceEqDiff, Nat.reduceLeDiff, Nat.reduceLT, Nat.reduceBEq, Nat.reduceBNe, ↓reduceIte, reduceIte, spMe, validS, scaleS, cloneS, measuresS, msA, zI])
  intro v hvn
  have hlF := hlF v
  repeat' first
    | with_reducible first | refine awp_seq ?_ | refine awp_block ?_ | refine next_then ?_ | refine next_block ?_ | refine exit_then ?_ | refine ret_then ?_ | refine ret_block ?_ | refine exit_here ?_ | refine awp_exit ?_ | refine awp_ret ?_ | refine awp_skip ?_ | refine awp_label ?_ | refine next_noGoto ?_ | refine ret_noGoto ?_ | refine exit_noGoto ?_ | refine awp_scope ?_
    | ((with_reducible refine exit_past ?_ ?_); exact rfl)
    | ((with_reducible refine isCond ?_); refine awp_condO rfl ?_ ?_ <;> intro hb <;> (try simp only [zH] at hb))
    | ((with_reducible refine isRegS 9 ?_ ?_); (· exact rfl); (with_reducible refine isRegS 11 ?_ ?_); (· exact rfl); (first | refine awp_textM htb hmz spMe_ok (fun _ => false) rfl rfl ?_ | refine awp_drawM hmo htb hmz spMe_ok (fun _ => false) rfl rfl (by kernel_rfl) ?_); intro m' e' l' ob h; simp only [zE0, zE1, zE2, zE3, zE4, zE5, evp, evx, ev1, evLoad, evStore, evBin, isBoolK, forall_const, z38, tb, Nat.reduceAdd, Nat.reduceSub, Nat.reduceMul, Nat.reduceEqDiff, Nat.reduceLeDiff, Nat.reduceLT, Nat.reduceBEq, Nat.reduceBNe, ↓reduceIte, reduceIte, spMe, validS, scaleS, cloneS, measuresS, msA] at h; obtain ⟨rfl, rfl, rfl, rfl⟩ := h; refine ⟨?_, ?_⟩)
    | ((with_reducible refine Ob.mk ?_); first | exact trivial | (intros; omega) | ((repeat' first | apply And.intro | (intro hg; have hg' := hg; try simp only [zH] at hg')) <;> first | assumption | omega | (simp only [zH]; omega)))
  · repeat' first
      | with_reducible first | refine awp_seq ?_ | refine awp_block ?_ | refine next_then ?_ | refine next_block ?_ | refine exit_then ?_ | refine ret_then ?_ | refine ret_block ?_ | refine exit_here ?_ | refine awp_exit ?_ | refine awp_ret ?_ | refine awp_skip ?_ | refine awp_label ?_ | refine next_noGoto ?_ | refine ret_noGoto ?_ | refine exit_noGoto ?_ | refine awp_scope ?_
      | ((with_reducible refine exit_past ?_ ?_); exact rfl)
      | ((with_reducible refine isCond ?_); refine awp_condO rfl ?_ ?_ <;> intro hb <;> (try simp only [zH] at hb))
      | ((with_reducible refine isReg ?_); (first | refine awp_textM htb hmz spMe_ok (fun _ => false) rfl rfl ?_ | refine awp_drawM hmo htb hmz spMe_ok (fun _ => false) rfl rfl (by kernel_rfl) ?_); intro m' e' l' ob h; simp only [zE0, zE1, zE2, zE3, zE4, zE5, evp, evx, ev1, evLoad, evStore, evBin, isBoolK, forall_const, z38, tb, Nat.reduceAdd, Nat.reduceSub, Nat.reduceMul, Nat.reduceEqDiff, Nat.reduceLeDiff, Nat.reduceLT, Nat.reduceBEq, Nat.reduceBNe, ↓reduceIte, reduceIte, spMe, validS, scaleS, cloneS, measuresS, msA] at h; obtain ⟨rfl, rfl, rfl, rfl⟩ := h; refine ⟨?_, ?_⟩)
      | ((with_reducible refine Ob.mk ?_); first | exact trivial | (intros; omega) | ((repeat' first | apply And.intro | (intro hg; have hg' := hg; try simp only [zH] at hg')) <;> first | assumption | omega | (simp only [zH]; omega)))
    refine back (v + 1) [] ?_ (by omega) (by omega)
    (refine ⟨rfl, ?_, ?_⟩ <;> simp only [zE0, zE1, zE2, zE3, zE4, zE5, evp, evx, ev1, evLoad, evStore, evBin, isBoolK, forall_const, z38, tb, Nat.reduceAdd, Nat.reduceSub, Nat.reduceMul, Nat.reduceEqDiff, Nat.reduceLeDiff, Nat.reduceLT, Nat.reduceBEq, Nat.reduceBNe, ↓reduceIte, reduceIte, spMe, validS, scaleS, cloneS, measuresS, msA, zI])
    refine congrArg (Blk.avs 2 o.length) (funext fun j => ?_)
    by_cases h : j = v
    · rw [if_pos h, h]
    · rw [if_neg h]
  refine awp_fzN 9 (.ro 2 o.length (fun j => msA (F j))) (by simp only [lkr_cons, lkr_nil, fzE, fzA, fzR, fzB, set1, nbeq, Nat.reduceEqDiff, decide_true, decide_false, ↓reduceIte, reduceIte, cond_true, cond_false, List.take_length, Option.some.injEq]; rfl) (by first | exact rfl | (refine ⟨?_, rfl⟩; first | rfl | (intros; rfl))) (by simp only [lkr_cons, lkr_nil, fzE, fzA, fzR, fzB, set1, nbeq, Nat.reduceEqDiff, decide_true, decide_false, ↓reduceIte, reduceIte, cond_true, cond_false, List.take_length, Option.some.injEq]; rfl) (by simp only [lkr_cons, lkr_nil, fzE, fzA, fzR, fzB, set1, nbeq, Nat.reduceEqDiff, decide_true, decide_false, ↓reduceIte, reduceIte, cond_true, cond_false, List.take_length, Option.some.injEq]; rfl) ?_
  repeat' first
    | with_reducible first | refine awp_seq ?_ | refine awp_block ?_ | refine next_then ?_ | refine next_block ?_ | refine exit_then ?_ | refine ret_then ?_ | refine ret_block ?_ | refine exit_here ?_ | refine awp_exit ?_ | refine awp_ret ?_ | refine awp_skip ?_ | refine awp_label ?_ | refine next_noGoto ?_ | refine ret_noGoto ?_ | refine exit_noGoto ?_ | refine awp_scope ?_
    | ((with_reducible refine exit_past ?_ ?_); exact rfl)
    | ((with_reducible refine isCond ?_); refine awp_condO rfl ?_ ?_ <;> intro hb <;> (try simp only [zH] at hb))
    | ((with_reducible refine isReg ?_); (first | refine awp_textM htb hmz spMe_ok (fun _ => false) rfl rfl ?_ | refine awp_drawM hmo htb hmz spMe_ok (fun _ => false) rfl rfl (by kernel_rfl) ?_); intro m' e' l' ob h; simp only [zE0, zE1, zE2, zE3, zE4, zE5, evp, evx, ev1, evLoad, evStore, evBin, isBoolK, forall_const, z38, tb, Nat.reduceAdd, Nat.reduceSub, Nat.reduceMul, Nat.reduceEqDiff, Nat.reduceLeDiff, Nat.reduceLT, Nat.reduceBEq, Nat.reduceBNe, ↓reduceIte, reduceIte, spMe, validS, scaleS, cloneS, measuresS, msA] at h; obtain ⟨rfl, rfl, rfl, rfl⟩ := h; refine ⟨?_, ?_⟩)
    | ((with_reducible refine Ob.mk ?_); first | exact trivial | (intros; omega) | ((repeat' first | apply And.intro | (intro hg; have hg' := hg; try simp only [zH] at hg')) <;> first | assumption | omega | (simp only [zH]; omega)))
  refine fin_ret rfl rfl (spec_flat rfl ?_ rfl)
  rfl
end Go.Proofs.Ytgminhedbeblpaa.Cal
namespace Go.Proofs.Ytgminhedbeblpaa.Cal
open Go Pl
def exG1 : Gm := ⟨[0, 1], [1, 2], [[0, 1], [0, 1]]⟩
def exG2 : Gm := ⟨[1], [3], [[0]]⟩
theorem ex1_valid : Valid exG1 := by
  refine ⟨by decide, rfl, rfl, fun v hv => ?_⟩
  have hv : v < 2 := hv
  have : v = 0 ∨ v = 1 := by omega
  rcases this with rfl | rfl
  · refine ⟨by decide, fun i hi => ?_⟩
    have hi : i < 2 := hi
    have : i = 0 ∨ i = 1 := by omega
    rcases this with rfl | rfl <;> exact ⟨by decide, by decide, by decide⟩
  · refine ⟨by decide, fun i hi => ?_⟩
    have hi : i < 2 := hi
    have : i = 0 ∨ i = 1 := by omega
    rcases this with rfl | rfl <;> exact ⟨by decide, by decide, by decide⟩
theorem ex2_valid : Valid exG2 := by
  refine ⟨by decide, rfl, rfl, fun v hv => ?_⟩
  have hv : v < 1 := hv
  obtain rfl : v = 0 := by omega
  refine ⟨by decide, fun i hi => ?_⟩
  have hi : i < 1 := hi
  obtain rfl : i = 0 := by omega
  exact ⟨by decide, by decide, by decide⟩
theorem ex1_od : odN [1, 2] 61 = [1] := by kernel_rfl
theorem ex1_mn : mnN [1, 2] 61 = [1] := by kernel_rfl
theorem ex2_od : odN [3] 61 = [3] := by kernel_rfl
theorem ex2_mn : mnN [3] 61 = [1] := by kernel_rfl
theorem ex1_least : leastL exG1 [1] [1] = [1, 0] := by
  refine leastL_eq { len := rfl, rng := fun v hv => ?_, ok := fun v hv => ?_, low := fun l' h v hv => ?_ }
  · have hv : v < 2 := hv
    have : v = 0 ∨ v = 1 := by omega
    rcases this with rfl | rfl <;> decide
  · have hv : v < 2 := hv
    have : v = 0 ∨ v = 1 := by omega
    rcases this with rfl | rfl <;> decide
  · have hv : v < 2 := hv
    have : v = 0 ∨ v = 1 := by omega
    rcases this with rfl | rfl
    · obtain ⟨i, h1, h2⟩ := best_ask (g := exG1) (odd := [1]) (many := [1]) (l := l') (v := 0) (by decide)
      have h3 := h.ok 0 (by decide)
      rw [h2] at h3
      have h1 : i < 2 := h1
      have key : ∀ V : Int, 0 ≤ V → V ≤ 2 → 1 ≤ progV [1] [1] V 1 := fun V a b => by
        have : V = 0 ∨ V = 1 ∨ V = 2 := by omega
        rcases this with rfl | rfl | rfl <;> decide
      have hi : i = 0 ∨ i = 1 := by omega
      rcases hi with rfl | rfl
      · have hr := h.rng 0 (by decide)
        have := key (l'.getD 0 0) hr.1 hr.2
        exact Int.le_trans this h3
      · have hr := h.rng 1 (by decide)
        have := key (l'.getD 1 0) hr.1 hr.2
        exact Int.le_trans this h3
    · exact (h.rng 1 (by decide)).1
theorem ex2_least : leastL exG2 [3] [1] = [2] := by
  refine leastL_eq { len := rfl, rng := fun v hv => ?_, ok := fun v hv => ?_, low := fun l' h v hv => ?_ }
  · have hv : v < 1 := hv
    obtain rfl : v = 0 := by omega
    decide
  · have hv : v < 1 := hv
    obtain rfl : v = 0 := by omega
    decide
  · have hv : v < 1 := hv
    obtain rfl : v = 0 := by omega
    have h3 := h.ok 0 (by decide)
    have hr := h.rng 0 (by decide)
    have e : bestV exG2 [3] [1] l' 0 = progV [3] [1] (l'.getD 0 0) 3 := rfl
    rw [e] at h3
    have hr2 : l'.getD 0 0 ≤ 2 := hr.2
    show 2 ≤ l'.getD 0 0
    generalize l'.getD 0 0 = V at *
    have : V = 0 ∨ V = 1 ∨ V = 2 := by have := hr.1; omega
    rcases this with rfl | rfl | rfl
    · exact absurd h3 (by decide)
    · exact absurd h3 (by decide)
    · exact Int.le_refl _
theorem ex1_F0 : meaF exG1 0 = (false, [1]) := by
  show deM (mnN [1, 2] 61) ((leastL exG1 (odN [1, 2] 61) (mnN [1, 2] 61)).getD 0 0) = _
  rw [ex1_od, ex1_mn, ex1_least]; decide
theorem ex1_F1 : meaF exG1 1 = (false, [0]) := by
  show deM (mnN [1, 2] 61) ((leastL exG1 (odN [1, 2] 61) (mnN [1, 2] 61)).getD 1 0) = _
  rw [ex1_od, ex1_mn, ex1_least]; decide
theorem ex2_F0 : meaF exG2 0 = (true, []) := by
  show deM (mnN [3] 61) ((leastL exG2 (odN [3] 61) (mnN [3] 61)).getD 0 0) = _
  rw [ex2_od, ex2_mn, ex2_least]; decide
theorem ex1_N : meaN exG1 = 2 := by unfold meaN; rw [validB_true ex1_valid]; rfl
theorem ex1_E : meaE exG1 = 0 := by unfold meaE; rw [validB_true ex1_valid]; rfl
theorem ex2_N : meaN exG2 = 1 := by unfold meaN; rw [validB_true ex2_valid]; rfl
theorem ex2_E : meaE exG2 = 0 := by unfold meaE; rw [validB_true ex2_valid]; rfl
def exS : Spec
  | [] => some ⟨True, .agg (.cons (.roI [0, 1]) (.cons (.roI [1, 2]) (.cons (.roII [[0, 1], [0, 1]]) .nil))), none⟩
  | _ => none
set_option maxRecDepth 4000 in
set_option maxHeartbeats 4000000 in
theorem ex_ok : FSpec Try.prog 28 exS := by
  refine fspec_of htb (fn := Try.f28) (by kernel_rfl) (by kernel_rfl) rfl (fun args r hS => ?_) (fun args r hS hob hl => ?_)
  · unfold exS at hS; split at hS <;> first | (cases hS; done) | (cases hS; exact Nat.le_of_ble_eq_true rfl)
  unfold exS at hS
  split at hS
  case h_2 => cases hS
  simp only [Option.some.injEq] at hS
  subst hS
  repeat' first
    | with_reducible first | refine awp_seq ?_ | refine awp_block ?_ | refine next_then ?_ | refine next_block ?_ | refine exit_then ?_ | refine ret_then ?_ | refine ret_block ?_ | refine exit_here ?_ | refine awp_exit ?_ | refine awp_ret ?_ | refine awp_skip ?_ | refine awp_label ?_ | refine next_noGoto ?_ | refine ret_noGoto ?_ | refine exit_noGoto ?_ | refine awp_scope ?_
    | ((with_reducible refine exit_past ?_ ?_); exact rfl)
    | ((with_reducible refine isCond ?_); refine awp_condO rfl ?_ ?_ <;> intro hb <;> (try simp only [zH] at hb))
    | ((with_reducible refine isReg ?_); (first | refine awp_textM htb hmz noSp (fun _ => false) rfl rfl ?_ | refine awp_drawM hmo htb hmz noSp (fun _ => false) rfl rfl (by kernel_rfl) ?_); intro m' e' l' ob h; simp only [zE0, zE1, zE2, zE3, zE4, zE5, evp, evx, ev1, evLoad, evStore, evBin, isBoolK, forall_const, z38, tb, Nat.reduceAdd, Nat.reduceSub, Nat.reduceMul, Nat.reduceEqDiff, Nat.reduceLeDiff, Nat.reduceLT, Nat.reduceBEq, Nat.reduceBNe, ↓reduceIte, reduceIte] at h; obtain ⟨rfl, rfl, rfl, rfl⟩ := h; refine ⟨?_, ?_⟩)
    | ((with_reducible refine Ob.mk ?_); first | exact trivial | (intros; omega) | ((repeat' first | apply And.intro | (intro hg; have hg' := hg; try simp only [zH] at hg')) <;> first | assumption | omega | (simp only [zH]; omega)))
  refine fin_ret rfl rfl (spec_flat rfl ?_ rfl)
  rfl
def awkS : Spec
  | [] => some ⟨True, .bool true, none⟩
  | _ => none
noncomputable def spAw : Nat → Option Spec
  | 28 => some exS
  | 9 => some meaS
  | 17 => some listS
  | _ => none
theorem spAw_ok : SpOK Try.prog spAw := by
  intro f S h
  unfold spAw at h
  split at h
  · cases h; exact ex_ok
  · cases h; exact mea_ok
  · cases h; exact list_ok
  · cases h
set_option maxRecDepth 4000 in
set_option maxHeartbeats 4000000 in
theorem awk_ok : FSpec Try.prog 8 awkS := by
  refine fspec_of htb (fn := Try.f8) (by kernel_rfl) (by kernel_rfl) rfl (fun args r hS => ?_) (fun args r hS hob hl => ?_)
  · unfold awkS at hS; split at hS <;> first | (cases hS; done) | (cases hS; exact Nat.le_of_ble_eq_true rfl)
  unfold awkS at hS
  split at hS
  case h_2 => cases hS
  simp only [Option.some.injEq] at hS
  subst hS
  repeat' first
    | with_reducible first | refine awp_seq ?_ | refine awp_block ?_ | refine next_then ?_ | refine next_block ?_ | refine exit_then ?_ | refine ret_then ?_ | refine ret_block ?_ | refine exit_here ?_ | refine awp_exit ?_ | refine awp_ret ?_ | refine awp_skip ?_ | refine awp_label ?_ | refine next_noGoto ?_ | refine ret_noGoto ?_ | refine exit_noGoto ?_ | refine awp_scope ?_
    | ((with_reducible refine exit_past ?_ ?_); exact rfl)
    | ((with_reducible refine isCond ?_); refine awp_condO rfl ?_ ?_ <;> intro hb <;> (try simp only [zH] at hb))
    | ((with_reducible refine isReg ?_); (first | refine awp_textM htb hmz spAw_ok (fun _ => false) rfl rfl ?_ | refine awp_drawM hmo htb hmz spAw_ok (fun _ => false) rfl rfl (by kernel_rfl) ?_); intro m' e' l' ob h; simp only [zE0, zE1, zE2, zE3, zE4, zE5, evp, evx, ev1, evLoad, evStore, evBin, isBoolK, forall_const, z38, tb, Nat.reduceAdd, Nat.reduceSub, Nat.reduceMul, Nat.reduceEqDiff, Nat.reduceLeDiff, Nat.reduceLT, Nat.reduceBEq, Nat.reduceBNe, ↓reduceIte, reduceIte, spAw, exS, meaS, listS, msA, show meaN ⟨[0, 1], [1, 2], [[0, 1], [0, 1]]⟩ = 2 from ex1_N, show meaE ⟨[0, 1], [1, 2], [[0, 1], [0, 1]]⟩ = 0 from ex1_E, show meaN ⟨[1], [3], [[0]]⟩ = 1 from ex2_N, show meaE ⟨[1], [3], [[0]]⟩ = 0 from ex2_E, show meaF ⟨[0, 1], [1, 2], [[0, 1], [0, 1]]⟩ 0 = (false, [1]) from ex1_F0, show meaF ⟨[0, 1], [1, 2], [[0, 1], [0, 1]]⟩ 1 = (false, [0]) from ex1_F1, show meaF ⟨[1], [3], [[0]]⟩ 0 = (true, []) from ex2_F0] at h; obtain ⟨rfl, rfl, rfl, rfl⟩ := h; refine ⟨?_, ?_⟩)
    | ((with_reducible refine Ob.mk ?_); first | exact trivial | (intros; omega) | ((repeat' first | apply And.intro | (intro hg; have hg' := hg; try simp only [zH] at hg')) <;> first | assumption | omega | (simp only [zH]; omega)))
  refine fin_ret rfl rfl (spec_flat rfl ?_ rfl)
  rfl
end Go.Proofs.Ytgminhedbeblpaa.Cal
namespace Go.Proofs.Ytgminhedbeblpaa.Cal
open Go Pl
set_option maxRecDepth 4000 in
set_option maxHeartbeats 4000000 in
theorem has13_ok : FSpec Try.prog 45 hasS := by
  refine fspec_of htb (fn := Try.f45) (by kernel_rfl) (by kernel_rfl) rfl (fun args r hS => ?_) (fun args r hS hob hl => ?_)
  · unfold hasS at hS; split at hS <;> first | (cases hS; done) | (cases hS; exact Nat.le_of_ble_eq_true rfl)
  unfold hasS at hS
  split at hS
  case h_2 => cases hS
  rename_i a v
  simp only [Option.some.injEq] at hS
  subst hS
  simp only [lenP, mkL, lim] at hl
  dsimp only at hob
  repeat' first
    | with_reducible first | refine awp_seq ?_ | refine awp_block ?_ | refine next_then ?_ | refine next_block ?_ | refine exit_then ?_ | refine ret_then ?_ | refine ret_block ?_ | refine exit_here ?_ | refine awp_exit ?_ | refine awp_ret ?_ | refine awp_skip ?_ | refine awp_label ?_ | refine next_noGoto ?_ | refine ret_noGoto ?_ | refine exit_noGoto ?_ | refine awp_scope ?_
    | ((with_reducible refine exit_past ?_ ?_); exact rfl)
    | ((with_reducible refine isCond ?_); refine awp_condO rfl ?_ ?_ <;> intro hb <;> (try simp only [zH] at hb))
    | ((with_reducible refine isReg ?_); (first | refine awp_textM htb hmz noSp (fun _ => false) rfl rfl ?_ | refine awp_drawM hmo htb hmz noSp (fun _ => false) rfl rfl (by kernel_rfl) ?_); intro m' e' l' ob h; simp only [zE0, zE1, zE2, zE3, zE4, zE5, evp, evx, ev1, evLoad, evStore, evBin, isBoolK, forall_const, z38, tb, Nat.reduceAdd, Nat.reduceSub, Nat.reduceMul, Nat.reduceEqDiff, Nat.reduceLeDiff, Nat.reduceLT, Nat.reduceBEq, Nat.reduceBNe, ↓reduceIte, reduceIte] at h; obtain ⟨rfl, rfl, rfl, rfl⟩ := h; refine ⟨?_, ?_⟩)
    | ((with_reducible refine Ob.mk ?_); first | exact trivial | (intros; omega) | ((repeat' first | apply And.intro | (intro hg; have hg' := hg; try simp only [zH] at hg')) <;> first | assumption | omega | (simp only [zH]; omega)))
  refine awp_loopC (τ := Nat) (fun i => i ≤ a.length ∧ ∀ j, j < i → ¬ v = a.getD j 0) (fun i => ⟨4, [(9, .int .i64 i), (8, .int .i64 a.length), (7, .roI a), (0, .roI a), (1, .int .i64 v)], [], []⟩) (fun i => a.length - i) 0 [] ⟨rfl, by simp [zE0, zE1, zE2, zE3, zE4, zE5, evp, evx, ev1, evLoad, evStore, evBin, isBoolK, forall_const, z38, tb, Nat.reduceAdd, Nat.reduceSub, Nat.reduceMul, Nat.reduceEqDiff, Nat.reduceLeDiff, Nat.reduceLT, Nat.reduceBEq, Nat.reduceBNe, ↓reduceIte, reduceIte], by simp only [zE0, zE1, zE2, zE3, zE4, zE5, evp, evx, ev1, evLoad, evStore, evBin, isBoolK, forall_const, z38, tb, Nat.reduceAdd, Nat.reduceSub, Nat.reduceMul, Nat.reduceEqDiff, Nat.reduceLeDiff, Nat.reduceLT, Nat.reduceBEq, Nat.reduceBNe, ↓reduceIte, reduceIte]⟩ ⟨by omega, by omega⟩ ?_
  rintro i ⟨hi, hj⟩
  repeat' first
    | with_reducible first | refine awp_seq ?_ | refine awp_block ?_ | refine next_then ?_ | refine next_block ?_ | refine exit_then ?_ | refine ret_then ?_ | refine ret_block ?_ | refine exit_here ?_ | refine awp_exit ?_ | refine awp_ret ?_ | refine awp_skip ?_ | refine awp_label ?_ | refine next_noGoto ?_ | refine ret_noGoto ?_ | refine exit_noGoto ?_ | refine awp_scope ?_
    | ((with_reducible refine exit_past ?_ ?_); exact rfl)
    | ((with_reducible refine isCond ?_); refine awp_condO rfl ?_ ?_ <;> intro hb <;> (try simp only [zH] at hb))
    | ((with_reducible refine isReg ?_); (first | refine awp_textM htb hmz noSp (fun _ => false) rfl rfl ?_ | refine awp_drawM hmo htb hmz noSp (fun _ => false) rfl rfl (by kernel_rfl) ?_); intro m' e' l' ob h; simp only [zE0, zE1, zE2, zE3, zE4, zE5, evp, evx, ev1, evLoad, evStore, evBin, isBoolK, forall_const, z38, tb, Nat.reduceAdd, Nat.reduceSub, Nat.reduceMul, Nat.reduceEqDiff, Nat.reduceLeDiff, Nat.reduceLT, Nat.reduceBEq, Nat.reduceBNe, ↓reduceIte, reduceIte] at h; obtain ⟨rfl, rfl, rfl, rfl⟩ := h; refine ⟨?_, ?_⟩)
    | ((with_reducible refine Ob.mk ?_); first | exact trivial | (intros; omega) | ((repeat' first | apply And.intro | (intro hg; have hg' := hg; try simp only [zH] at hg')) <;> first | assumption | omega | (simp only [zH]; omega)))
  · refine fin_ret rfl rfl (spec_flat rfl ?_ rfl)
    show AV.bool true = AV.bool (decide (v ∈ a))
    rw [decide_eq_true (hb ▸ getD_mem (by omega))]
  · refine back (i + 1) [] ?_ ⟨by omega, fun j hj' => ?_⟩ (by omega)
    · (refine ⟨rfl, ?_, ?_⟩ <;> simp only [zE0, zE1, zE2, zE3, zE4, zE5, evp, evx, ev1, evLoad, evStore, evBin, isBoolK, forall_const, z38, tb, Nat.reduceAdd, Nat.reduceSub, Nat.reduceMul, Nat.reduceEqDiff, Nat.reduceLeDiff, Nat.reduceLT, Nat.reduceBEq, Nat.reduceBNe, ↓reduceIte, reduceIte, zI])
    · rcases Nat.lt_succ_iff_lt_or_eq.1 hj' with h | rfl
      · exact hj j h
      · exact fun e => hb e.symm
  · refine fin_ret rfl rfl (spec_flat rfl ?_ rfl)
    show AV.bool false = AV.bool (decide (v ∈ a))
    rw [decide_eq_false (not_mem_of fun j hj' => hj j (by omega))]
end Go.Proofs.Ytgminhedbeblpaa.Cal
namespace Go.Proofs.Ytgminhedbeblpaa.Cal
section
theorem nv_le : ∀ {ms a b : List Int}, wfL ms a → wfL ms b → (∀ i, i < ms.length → a.getD i 0 ≤ b.getD i 0) → nvl ms a ≤ nvl ms b
  | [], [], [], _, _, _ => Int.le_refl _
  | [], _ :: _, _, h, _, _ => h.elim
  | [], _, _ :: _, _, h, _ => h.elim
  | _ :: _, [], _, h, _, _ => h.elim
  | _ :: _, _, [], _, h, _ => h.elim
  | m :: ms, a :: r, b :: s, h, h', hi => by
    have h1 := nv_le h.2 h'.2 fun i h2 => hi (i + 1) (by simpa using h2)
    have h2 : a ≤ b := hi 0 (by simp)
    have h3 := Int.mul_le_mul_of_nonneg_right h2 (Int.le_of_lt (rpr_pos (wfL_pos h.2)))
    show a * rpr ms + nvl ms r ≤ b * rpr ms + nvl ms s
    omega
theorem pad_getD {l : List Int} {j k i : Nat} : (l.take j ++ List.replicate k 0).getD i 0 = if i < j ∧ i < l.length then l.getD i 0 else 0 := by
  simp only [List.getD_eq_getElem?_getD, List.getElem?_append, List.length_take, List.getElem?_take, List.getElem?_replicate]
  by_cases h : i < j ∧ i < l.length
  · rw [if_pos h, if_pos (by omega), if_pos h.1]
  · rw [if_neg h]
    split
    · omega
    · split <;> rfl
/-- Digits that are at least as great, and greater where the priority is odd. -/
theorem prog_le {odd many D D' : List Int} {q : Int} (hp : posL many) (hlen : odd.length = many.length) (h : wfL many D) (h' : wfL many D') (hle : ∀ i, i < abv odd q → D.getD i 0 ≤ D'.getD i 0)
    (hlt : q % 2 ≠ 0 → 0 < abv odd q ∧ D.getD (abv odd q - 1) 0 + 1 ≤ D'.getD (abv odd q - 1) 0) : progV odd many (nvl many D) q ≤ nvl many D' := by
  have hj : abv odd q ≤ many.length := by have := abv_le (odd := odd) (q := q); omega
  obtain ⟨h1, h2⟩ := pad_nv h hj
  have h3 := (nvl_bd h).2
  have hDl := wfL_len h
  have hD'0 : ∀ i, i < many.length → 0 ≤ D'.getD i 0 := fun i hi => (wfL_get h' hi).1
  unfold progV
  rw [if_neg (by omega), ← h2]
  split
  · refine nv_le h1 h' fun i hi => ?_
    rw [pad_getD]
    split
    · rename_i h4; exact hle i h4.1
    · exact hD'0 i hi
  · rename_i hq
    obtain ⟨h4, h5⟩ := hlt hq
    have hjl : abv odd q - 1 < many.length := by omega
    have hget : (D.take (abv odd q) ++ List.replicate (many.length - abv odd q) 0).getD (abv odd q - 1) 0 = D.getD (abv odd q - 1) 0 := by rw [pad_getD, if_pos (by omega)]
    have h6 := (wfL_get h' hjl).2
    have h7 := (wfL_get h hjl).1
    have h8 := nvl_set (i := abv odd q - 1) (x := D.getD (abv odd q - 1) 0 + 1) h1 hjl
    rw [hget, show abv odd q - 1 + 1 = abv odd q by omega, show D.getD (abv odd q - 1) 0 + 1 - D.getD (abv odd q - 1) 0 = 1 by omega, Int.one_mul] at h8
    rw [← h8]
    have hlen2 : (D.take (abv odd q) ++ List.replicate (many.length - abv odd q) 0).length = many.length := wfL_len h1
    refine nv_le (wfL_set h1 (by omega) (by omega)) h' fun i hi => ?_
    by_cases e : i = abv odd q - 1
    · subst e
      rw [List.getD_eq_getElem?_getD, List.getElem?_set_self (by omega)]
      exact h5
    · rw [List.getD_eq_getElem?_getD, List.getElem?_set_ne (fun h => e h.symm), ← List.getD_eq_getElem?_getD, pad_getD]
      split
      · rename_i h9; exact hle i h9.1
      · exact hD'0 i hi
theorem abv_mono {odd : List Int} {q q' : Int} (h : q' ≤ q) : abv odd q ≤ abv odd q' := by
  induction odd with
  | nil => exact Nat.le_refl _
  | cons o odd ih =>
    unfold abv at ih ⊢
    simp only [List.takeWhile_cons]
    by_cases e : q ≤ o
    · rw [if_pos (decide_eq_true e), if_pos (decide_eq_true (show q' ≤ o by omega))]
      simpa using ih
    · rw [if_neg (by simpa using e)]; exact Nat.zero_le _
theorem drop_dvd {ms : List Int} {j k : Nat} (h : j ≤ k) : ∃ t, rpr (ms.drop j) = t * rpr (ms.drop k) ∧ (posL ms → 0 < t) := by
  obtain ⟨t, h1, h2⟩ := rpr_dvd (ms := ms.drop j) (j := k - j)
  rw [List.drop_drop, show j + (k - j) = k by omega] at h1
  exact ⟨t, h1, fun hp => h2 (drop_pos hp)⟩
/-- What is at least prog is, in the first digits, at least what it is of. -/
theorem prog_step {odd many : List Int} {V V' q q' : Int} (hp : posL many) (h0 : 0 ≤ V) (hV : V ≠ rpr many) (hq : q' ≤ q) (h : progV odd many V q' ≤ V') : V / rpr (many.drop (abv odd q)) ≤ V' / rpr (many.drop (abv odd q)) := by
  obtain ⟨t, ht, htp⟩ := drop_dvd (ms := many) (abv_mono (odd := odd) hq)
  have hR := rpr_pos (drop_pos (j := abv odd q') hp)
  have ht0 := htp hp
  have h1 : V / rpr (many.drop (abv odd q')) * rpr (many.drop (abv odd q')) ≤ V' := by
    unfold progV at h
    rw [if_neg hV] at h
    split at h <;> omega
  rw [ht, Int.mul_comm, ← Int.ediv_ediv_of_nonneg (by omega), ← Int.ediv_ediv_of_nonneg (by omega)]
  refine Int.ediv_le_ediv ht0 ?_
  have h2 : (V / rpr (many.drop (abv odd q')) * rpr (many.drop (abv odd q'))) / rpr (many.drop (abv odd q')) ≤ V' / rpr (many.drop (abv odd q')) := Int.ediv_le_ediv hR h1
  rwa [Int.mul_ediv_cancel _ (by omega)] at h2
theorem prog_up {odd many : List Int} {V V' q : Int} (hp : posL many) (h0 : 0 ≤ V) (hV : V ≠ rpr many) (hq : q % 2 ≠ 0) (h : progV odd many V q ≤ V') : V / rpr (many.drop (abv odd q)) + 1 ≤ V' / rpr (many.drop (abv odd q)) := by
  have hR := rpr_pos (drop_pos (j := abv odd q) hp)
  unfold progV at h
  rw [if_neg hV, if_neg hq] at h
  have h2 : (V / rpr (many.drop (abv odd q)) + 1) * rpr (many.drop (abv odd q)) ≤ V' := by rw [Int.add_mul, Int.one_mul]; exact h
  have h3 := Int.ediv_le_ediv hR h2
  rwa [Int.mul_ediv_cancel _ (by omega)] at h3
/-- Measures below top that are at least prog along the steps: no cycle has an odd greatest priority. -/
theorem meas_cyc {E : Nat → Nat → Prop} {pri l : Nat → Int} {odd many : List Int} {D : Nat → Prop} (hp : posL many) (hD : ∀ a b, E a b → D a ∧ D b) (hl : ∀ a, D a → 0 ≤ l a ∧ l a ≠ rpr many) (hE : ∀ a b, E a b → progV odd many (l b) (pri a) ≤ l a) {w : Nat} (hw : pri w % 2 ≠ 0) : ¬ Cyc E pri w := by
  rintro ⟨t, ht, htw⟩
  have h1 := prog_up hp (hl t (hD _ _ ht.1).2).1 (hl t (hD _ _ ht.1).2).2 hw (hE _ _ ht.1)
  have h2 : ∀ b, Rch (Low E pri w) t b → pri b ≤ pri w ∧ l b / rpr (many.drop (abv odd (pri w))) ≤ l t / rpr (many.drop (abv odd (pri w))) := fun b hb => by
    induction hb with
    | refl => exact ⟨ht.2, Int.le_refl _⟩
    | step _ e ih =>
      have h3 := prog_step (q := pri w) hp (hl _ (hD _ _ e.1).2).1 (hl _ (hD _ _ e.1).2).2 ih.1 (hE _ _ e.1)
      exact ⟨e.2, by omega⟩
  have h3 := (h2 w htw).2
  omega
/-! ### The most visits on a way -/
/-- A way from v through priorities up to q, and the positions of priority q on it. -/
inductive Vis (E : Nat → Nat → Prop) (pri : Nat → Int) (q : Int) : Nat → List Nat → Prop
  | one {v : Nat} : pri v ≤ q → Vis E pri q v (if pri v = q then [v] else [])
  | step {v w : Nat} {l : List Nat} : pri v ≤ q → E v w → Vis E pri q w l → Vis E pri q v (if pri v = q then v :: l else l)
/-- The steps that end at a priority of at most q. -/
def LowQ (E : Nat → Nat → Prop) (pri : Nat → Int) (q : Int) (a b : Nat) : Prop := E a b ∧ pri b ≤ q
theorem Vis.low {E : Nat → Nat → Prop} {pri : Nat → Int} {q : Int} {v : Nat} {l : List Nat} (h : Vis E pri q v l) : pri v ≤ q := by cases h <;> assumption
theorem Vis.mem {E : Nat → Nat → Prop} {pri : Nat → Int} {q : Int} {v : Nat} {l : List Nat} (h : Vis E pri q v l) : ∀ x, x ∈ l → pri x = q ∧ Rch (LowQ E pri q) v x := by
  induction h with
  | one h =>
    intro x hx
    split at hx
    · rename_i e; rw [List.mem_singleton.1 hx]; exact ⟨e, .refl _⟩
    · exact absurd hx List.not_mem_nil
  | @step v w l h e h2 ih =>
    intro x hx
    have hin : x ∈ l → pri x = q ∧ Rch (LowQ E pri q) v x := fun h3 => ⟨(ih x h3).1, Rch.cons ⟨e, h2.low⟩ (ih x h3).2⟩
    split at hx
    · rename_i e2
      rcases List.mem_cons.1 hx with rfl | h3
      · exact ⟨e2, .refl _⟩
      · exact hin h3
    · exact hin hx
theorem Vis.nodup {E : Nat → Nat → Prop} {pri : Nat → Int} {q : Int} {v : Nat} {l : List Nat} (h : Vis E pri q v l) (hE : ∀ a b, E a b → pri a = q → ¬ Cyc E pri a) : l.Nodup := by
  induction h with
  | one h => split <;> simp
  | @step v w l h e h2 ih =>
    split
    · rename_i e2
      refine List.nodup_cons.2 ⟨fun hx => hE v w e e2 ?_, ih⟩
      obtain ⟨_, h3⟩ := h2.mem v hx
      exact ⟨w, ⟨e, by rw [e2]; exact h2.low⟩, Rch.mono (fun a b hab => ⟨hab.1, by rw [e2]; exact hab.2⟩) h3⟩
    · exact ih
theorem nodup_sub : ∀ {l m : List Nat}, l.Nodup → (∀ x, x ∈ l → x ∈ m) → l.length ≤ m.length
  | [], _, _, _ => Nat.zero_le _
  | x :: l, m, hn, hs => by
    obtain ⟨h1, h2⟩ := List.nodup_cons.1 hn
    have h3 : x ∈ m := hs x List.mem_cons_self
    have h4 := nodup_sub (l := l) (m := m.erase x) h2 fun y hy => (List.mem_erase_of_ne (fun e : y = x => h1 (e ▸ hy))).2 (hs y (List.mem_cons_of_mem _ hy))
    rw [List.length_erase_of_mem h3] at h4
    have := List.length_pos_of_mem h3
    rw [List.length_cons]; omega
theorem count_pos_at {p : List Int} {q : Int} : ((List.range p.length).filter fun v => decide (p.getD v 0 = q)).length = p.count q := by
  have h : p = (List.range p.length).map fun v => p.getD v 0 := by
    refine List.ext_getElem (by simp) fun j h1 h2 => ?_
    simp [List.getD_eq_getElem?_getD, h1]
  conv => rhs; rw [h]
  rw [List.count_eq_countP, List.countP_map, List.countP_eq_length_filter]
  congr 1
/-- The greatest length up to B of such lists. -/
noncomputable def mvN (Q : Nat → Prop) : Nat → Nat
  | 0 => 0
  | B + 1 => open Classical in if Q (B + 1) then B + 1 else mvN Q B
theorem mvN_le {Q : Nat → Prop} : ∀ {B : Nat}, mvN Q B ≤ B
  | 0 => Nat.le_refl _
  | B + 1 => by
    unfold mvN
    split
    · exact Nat.le_refl _
    · exact Nat.le_succ_of_le mvN_le
theorem mvN_ge {Q : Nat → Prop} {k : Nat} (hk : Q k) : ∀ {B : Nat}, k ≤ B → k ≤ mvN Q B
  | 0, h => by rw [Nat.le_zero.1 h]; exact Nat.zero_le _
  | B + 1, h => by
    unfold mvN
    split
    · exact h
    · rename_i h2
      by_cases e : k = B + 1
      · exact absurd (e ▸ hk) h2
      · exact mvN_ge hk (by omega)
theorem mvN_is {Q : Nat → Prop} : ∀ {B : Nat}, mvN Q B = 0 ∨ Q (mvN Q B)
  | 0 => .inl rfl
  | B + 1 => by
    unfold mvN
    split
    · rename_i h; exact .inr h
    · exact mvN_is
section
variable {E : Nat → Nat → Prop} {pri : Nat → Int} {p : List Int} {o : Int}
/-- How often the priority o can be met from v on, through none greater. -/
noncomputable def mvV (E : Nat → Nat → Prop) (pri : Nat → Int) (p : List Int) (o : Int) (v : Nat) : Nat := mvN (fun k => ∃ l, Vis E pri o v l ∧ l.length = k) (p.count o)
theorem vis_bound (hp : ∀ v, pri v = p.getD v 0) (hE : ∀ a b, E a b → b < p.length) (hc : ∀ a b, E a b → pri a = o → ¬ Cyc E pri a) {v : Nat} {l : List Nat} (hv : v < p.length) (h : Vis E pri o v l) : l.length ≤ p.count o := by
  rw [← count_pos_at]
  refine nodup_sub (h.nodup hc) fun x hx => ?_
  obtain ⟨h1, h2⟩ := h.mem x hx
  refine List.mem_filter.2 ⟨List.mem_range.2 ?_, by rw [← hp]; simpa using h1⟩
  exact Rch.closed (C := fun x => x < p.length) (fun a b _ e => hE a b e.1) h2 hv
theorem vis_edge (hp : ∀ v, pri v = p.getD v 0) (hE : ∀ a b, E a b → b < p.length) (hc : ∀ a b, E a b → pri a = o → ¬ Cyc E pri a) {v w : Nat} (hv : v < p.length) (e : E v w) (h : pri v ≤ o) : mvV E pri p o w + (if pri v = o then 1 else 0) ≤ mvV E pri p o v := by
  have key : ∀ l, Vis E pri o v l → l.length ≤ mvV E pri p o v := fun l hl => mvN_ge (Q := fun k => ∃ l, Vis E pri o v l ∧ l.length = k) ⟨l, hl, rfl⟩ (vis_bound hp hE hc hv hl)
  rcases mvN_is (Q := fun k => ∃ l, Vis E pri o w l ∧ l.length = k) (B := p.count o) with h0 | ⟨l, hl, hk⟩
  · have h1 := key _ (.one h)
    have h2 : mvV E pri p o w = 0 := h0
    rw [h2]
    split
    · rename_i e2; rw [if_pos e2] at h1; simpa using h1
    · omega
  · have h1 := key _ (.step h e hl)
    have h2 : mvV E pri p o w = l.length := hk.symm
    rw [h2]
    split
    · rename_i e2; rw [if_pos e2] at h1; simpa using h1
    · rename_i e2; rw [if_neg e2] at h1; simpa using h1
end
/-- Scales that belong to the priorities p. -/
structure OddS (p odd many : List Int) : Prop where
  dec : odd.Pairwise (· > ·)
  all : ∀ v, v < p.length → p.getD v 0 % 2 ≠ 0 → p.getD v 0 ∈ odd
  cnt : many = odd.map fun o => ((p.count o : Nat) : Int)
theorem abv_cons {o : Int} {odd : List Int} {q : Int} : abv (o :: odd) q = if q ≤ o then abv odd q + 1 else 0 := by
  unfold abv
  by_cases e : q ≤ o
  · rw [if_pos e, List.takeWhile_cons, if_pos (decide_eq_true e)]; rfl
  · rw [if_neg e, List.takeWhile_cons, if_neg (by simpa using e)]; rfl
theorem abv_at {odd : List Int} {q : Int} (hd : odd.Pairwise (· > ·)) (hq : q ∈ odd) : 0 < abv odd q ∧ odd.getD (abv odd q - 1) 0 = q := by
  induction odd with
  | nil => exact absurd hq List.not_mem_nil
  | cons o odd ih =>
    obtain ⟨h1, h2⟩ := List.pairwise_cons.1 hd
    rw [abv_cons]
    rcases List.mem_cons.1 hq with rfl | hq
    · rw [if_pos (Int.le_refl _)]
      have h0 : abv odd q = 0 := by
        cases odd with
        | nil => rfl
        | cons b t =>
          have := h1 b List.mem_cons_self
          rw [abv_cons, if_neg (by omega)]
      rw [h0]; exact ⟨by omega, rfl⟩
    · have h3 := h1 q hq
      obtain ⟨h4, h5⟩ := ih h2 hq
      rw [if_pos (by omega)]
      refine ⟨by omega, ?_⟩
      rw [show abv odd q + 1 - 1 = (abv odd q - 1) + 1 by omega]
      exact h5
theorem abv_lt {odd : List Int} {q : Int} {i : Nat} (h : i < abv odd q) : i < odd.length ∧ q ≤ odd.getD i 0 := (abv_step (Nat.le_of_lt h)).2 h
theorem wf_map {α : Type} {f m : α → Int} : ∀ {l : List α}, (∀ x, x ∈ l → 0 ≤ f x ∧ f x ≤ m x) → wfL (l.map m) (l.map f)
  | [], _ => trivial
  | x :: l, h => ⟨h x List.mem_cons_self, wf_map fun y hy => h y (List.mem_cons_of_mem _ hy)⟩
theorem getD_mapI {f : Int → Int} {l : List Int} {i : Nat} (h : i < l.length) : (l.map f).getD i 0 = f (l.getD i 0) := by
  simp [List.getD_eq_getElem?_getD, h]
/-- The digits of a position. -/
noncomputable def digV (E : Nat → Nat → Prop) (pri : Nat → Int) (p odd : List Int) (v : Nat) : List Int := odd.map fun o => ((mvV E pri p o v : Nat) : Int)
theorem digV_wf {E : Nat → Nat → Prop} {pri : Nat → Int} {p odd many : List Int} (hO : OddS p odd many) {v : Nat} : wfL many (digV E pri p odd v) := by
  rw [hO.cnt]
  refine wf_map fun x _ => ⟨by omega, ?_⟩
  have : mvV E pri p x v ≤ p.count x := mvN_le
  omega
/-- Along a step the digits are at least prog. -/
theorem digV_prog {E : Nat → Nat → Prop} {pri : Nat → Int} {p odd many : List Int} (hO : OddS p odd many) (hp : ∀ v, pri v = p.getD v 0) (hE : ∀ a b, E a b → a < p.length ∧ b < p.length) (hc : ∀ a b, E a b → pri a % 2 ≠ 0 → ¬ Cyc E pri a) (hod : ∀ o, o ∈ odd → o % 2 ≠ 0) {v w : Nat} (e : E v w) :
    progV odd many (nvl many (digV E pri p odd w)) (pri v) ≤ nvl many (digV E pri p odd v) := by
  have hlen : odd.length = many.length := by rw [hO.cnt, List.length_map]
  have hpos : posL many := wfL_pos (digV_wf (E := E) (pri := pri) (v := v) hO)
  have hst : ∀ i, i < abv odd (pri v) → mvV E pri p (odd.getD i 0) w + (if pri v = odd.getD i 0 then 1 else 0) ≤ mvV E pri p (odd.getD i 0) v := fun i hi => by
    obtain ⟨h1, h2⟩ := abv_lt hi
    have hm : odd.getD i 0 ∈ odd := by rw [List.getD_eq_getElem?_getD, List.getElem?_eq_getElem h1]; exact List.getElem_mem h1
    exact vis_edge hp (fun a b h => (hE a b h).2) (fun a b h h3 => hc a b h (by rw [h3]; exact hod _ hm)) (hE v w e).1 e h2
  refine prog_le hpos hlen (digV_wf hO) (digV_wf hO) (fun i hi => ?_) fun hq => ?_
  · obtain ⟨h1, _⟩ := abv_lt hi
    have := hst i hi
    unfold digV
    rw [getD_mapI h1, getD_mapI h1]
    omega
  · have hm : pri v ∈ odd := by rw [hp]; exact hO.all v (hE v w e).1 (by rw [← hp]; exact hq)
    obtain ⟨h1, h2⟩ := abv_at hO.dec hm
    have h3 := hst (abv odd (pri v) - 1) (by omega)
    rw [h2, if_pos rfl] at h3
    obtain ⟨h4, _⟩ := abv_lt (odd := odd) (q := pri v) (i := abv odd (pri v) - 1) (by omega)
    refine ⟨h1, ?_⟩
    unfold digV
    rw [getD_mapI h4, getD_mapI h4, h2]
    omega
end
section
open Go Pl
/-- From choices by which 0 wins its positions: measures below top there. -/
theorem pre_of_sol {g : Gm} {odd many : List Int} {W : Nat → Int} {c : Nat → Nat} (hO : OddS g.pri odd many) (hod : ∀ o, o ∈ odd → o % 2 ≠ 0) (hpl : g.pri.length = g.own.length) (hrow : ∀ v, v < g.own.length → ∀ t, t ∈ rws g.nxt v → t < g.own.length) (hr : ∀ v, v < g.own.length → 0 < (g.nxt.getD v []).length)
    (hS : Sol (fun v => g.own.getD v 0) (fun v => g.pri.getD v 0) (rws g.nxt) (fun v => v < g.own.length) W c 0) : ∃ l, Pre g odd many l ∧ ∀ v, v < g.own.length → W v = 0 → l.getD v 0 < rpr many := by
  have hpos : posL many := wfL_pos (digV_wf (E := fun _ _ => False) (pri := fun v => g.pri.getD v 0) (v := 0) hO)
  have hR := rpr_pos hpos
  let E := Stp (fun v => g.own.getD v 0) (rws g.nxt) (fun v => v < g.own.length) W c 0
  let f : Nat → Int := fun v => if W v = 0 then nvl many (digV E (fun v => g.pri.getD v 0) g.pri odd v) else rpr many
  have hf : ∀ v, 0 ≤ f v ∧ f v ≤ rpr many ∧ (W v = 0 → f v < rpr many) := fun v => by
    have h := nvl_bd (digV_wf (E := E) (pri := fun v => g.pri.getD v 0) (v := v) hO)
    dsimp only [f]
    split
    · exact ⟨h.1, by omega, fun _ => h.2⟩
    · rename_i h2; exact ⟨by omega, by omega, fun h3 => absurd h3 h2⟩
  have hE : ∀ a b, E a b → a < g.pri.length ∧ b < g.pri.length := fun a b e => ⟨by rw [hpl]; exact e.1.1, by rw [hpl]; exact e.2.1⟩
  have hcy : ∀ a b, E a b → g.pri.getD a 0 % 2 ≠ 0 → ¬ Cyc E (fun v => g.pri.getD v 0) a := fun a b e h => hS.cyc a e.1.1 e.1.2 h
  have hg : ∀ v, v < g.own.length → ((List.range g.own.length).map f).getD v 0 = f v := fun v hv => by simp [List.getD_eq_getElem?_getD, hv]
  have hask : ∀ v r, v < g.own.length → r < (g.nxt.getD v []).length → askV g odd many ((List.range g.own.length).map f) v r = progV odd many (f ((rws g.nxt v).getD r 0)) (g.pri.getD v 0) := fun v r hv hr' => by
    unfold askV
    rw [← rws_getD, hg]
    refine hrow v hv _ ?_
    rw [List.getD_eq_getElem?_getD, List.getElem?_eq_getElem (by rw [rws_len]; exact hr')]
    exact List.getElem_mem _
  have hstep : ∀ v t, W v = 0 → W t = 0 → E v t → progV odd many (f t) (g.pri.getD v 0) ≤ f v := fun v t h1 h2 e => by
    have := digV_prog (pri := fun v => g.pri.getD v 0) hO (fun _ => rfl) hE hcy hod e
    dsimp only [f]
    rw [if_pos h1, if_pos h2]
    exact this
  refine ⟨(List.range g.own.length).map f, ⟨⟨by simp, fun v hv => ?_⟩, fun v hv => ?_⟩, fun v hv h => by rw [hg v hv]; exact (hf v).2.2 h⟩
  · rw [hg v hv]; exact ⟨(hf v).1, (hf v).2.1⟩
  · rw [hg v hv]
    have hm : ∀ t, t ∈ rws g.nxt v → ∃ r, r < (g.nxt.getD v []).length ∧ (rws g.nxt v).getD r 0 = t := fun t ht => by
      obtain ⟨r, h1, h2⟩ := List.getElem_of_mem ht
      refine ⟨r, by rw [rws_len] at h1; exact h1, ?_⟩
      rw [List.getD_eq_getElem?_getD, List.getElem?_eq_getElem h1]; exact h2
    by_cases hw : W v = 0
    · by_cases ho : g.own.getD v 0 = 0
      · obtain ⟨h1, h2, h3⟩ := hS.mine v hv hw ho
        obtain ⟨r, h4, h5⟩ := hm _ h1
        have h6 := (bB_min (g := g) (odd := odd) (many := many) (l := (List.range g.own.length).map f) ho (Nat.lt_of_le_of_lt (Nat.zero_le _) h4)).1 r h4
        rw [hask v r hv h4, h5] at h6
        exact Int.le_trans h6 (hstep v _ hw h3 ⟨⟨hv, hw⟩, h2, fun _ => rfl, fun h => absurd ho h⟩)
      · obtain ⟨_, r, h4, h5⟩ := bB_max (g := g) (odd := odd) (many := many) (l := (List.range g.own.length).map f) ho (hr v hv)
        show bB g odd many _ v _ ≤ _
        rw [h5, hask v r hv h4]
        have hmem : (rws g.nxt v).getD r 0 ∈ rws g.nxt v := by
          rw [List.getD_eq_getElem?_getD, List.getElem?_eq_getElem (by rw [rws_len]; exact h4)]
          exact List.getElem_mem _
        have hlt := hrow v hv _ hmem
        exact hstep v _ hw (hS.his v hv hw ho _ hmem hlt) ⟨⟨hv, hw⟩, hlt, fun h => absurd h ho, fun _ => hmem⟩
    · have : f v = rpr many := if_neg hw
      rw [this]
      obtain ⟨r, h4, h5⟩ := best_ask (odd := odd) (many := many) (l := (List.range g.own.length).map f) (hr v hv)
      rw [h5, hask v r hv h4]
      exact (progV_bd hpos (hf _).1 (hf _).2.1).2
/-- There is a least measure. -/
theorem least_ex {g : Gm} {odd many : List Int} (hp : posL many) (hrow : ∀ v, v < g.own.length → ∀ t, t ∈ rws g.nxt v → t < g.own.length) (hr : ∀ v, v < g.own.length → 0 < (g.nxt.getD v []).length) : Least g odd many (leastL g odd many) := by
  have hR := rpr_pos hp
  have htop : Pre g odd many (List.replicate g.own.length (rpr many)) := by
    have hg : ∀ v, v < g.own.length → (List.replicate g.own.length (rpr many)).getD v 0 = rpr many := fun v hv => by simp [List.getD_eq_getElem?_getD, hv]
    have hLR : LR g many (List.replicate g.own.length (rpr many)) := ⟨by simp, fun v hv => by rw [hg v hv]; omega⟩
    exact { hLR with ok := fun v hv => by rw [hg v hv]; exact (best_bd hp hLR (hr v hv) (hrow v hv)).2 }
  have hmin : ∀ v, ∃ l, Pre g odd many l ∧ ∀ l', Pre g odd many l' → v < g.own.length → l.getD v 0 ≤ l'.getD v 0 := fun v => by
    have key : ∀ (k : Nat) (l : List Int), Pre g odd many l → (l.getD v 0).toNat ≤ k → ∃ l, Pre g odd many l ∧ ∀ l', Pre g odd many l' → v < g.own.length → l.getD v 0 ≤ l'.getD v 0 := fun k => by
      induction k with
      | zero => intro l hl hk; exact ⟨l, hl, fun l' hl' hv => by have := (hl'.rng v hv).1; omega⟩
      | succ k ih =>
        intro l hl hk
        by_cases h : ∃ l', Pre g odd many l' ∧ v < g.own.length ∧ l'.getD v 0 < l.getD v 0
        · obtain ⟨l', h1, h2, h3⟩ := h
          have := (h1.rng v h2).1
          exact ih l' h1 (by omega)
        · exact ⟨l, hl, fun l' hl' hv => Int.not_lt.1 fun h3 => h ⟨l', hl', hv, h3⟩⟩
    exact key _ _ htop (Nat.le_refl _)
  obtain ⟨F, hF⟩ : ∃ F : Nat → List Int, ∀ v, Pre g odd many (F v) ∧ ∀ l', Pre g odd many l' → v < g.own.length → (F v).getD v 0 ≤ l'.getD v 0 := ⟨fun v => Classical.choose (hmin v), fun v => Classical.choose_spec (hmin v)⟩
  have hg : ∀ v, v < g.own.length → ((List.range g.own.length).map fun v => (F v).getD v 0).getD v 0 = (F v).getD v 0 := fun v hv => by simp [List.getD_eq_getElem?_getD, hv]
  have hLR : LR g many ((List.range g.own.length).map fun v => (F v).getD v 0) := ⟨by simp, fun v hv => by rw [hg v hv]; exact (hF v).1.rng v hv⟩
  have hL : Least g odd many ((List.range g.own.length).map fun v => (F v).getD v 0) := { hLR with
    ok := fun v hv => by
      rw [hg v hv]
      refine Int.le_trans (best_mono hp hLR (hF v).1.toLR (hr v hv) (hrow v hv) fun t ht => ?_) ((hF v).1.ok v hv)
      rw [hg t (hrow v hv t ht)]
      exact (hF t).2 _ (hF v).1 (hrow v hv t ht)
    low := fun l' hl' v hv => by rw [hg v hv]; exact (hF v).2 l' hl' hv }
  rw [leastL_eq hL]; exact hL
theorem prog_top {odd many : List Int} {q : Int} : progV odd many (rpr many) q = rpr many := by unfold progV; rw [if_pos rfl]
/-- Choices that hold the measures win for 0 wherever these are below top. -/
theorem sol_of_pre {g : Gm} {odd many l : List Int} {c : Nat → Nat} (hp : posL many) (hrow : ∀ v, v < g.own.length → ∀ t, t ∈ rws g.nxt v → t < g.own.length) (hr : ∀ v, v < g.own.length → 0 < (g.nxt.getD v []).length) (hl : Pre g odd many l)
    (hc : ∀ v, v < g.own.length → g.own.getD v 0 = 0 → l.getD v 0 < rpr many → c v ∈ rws g.nxt v ∧ progV odd many (l.getD (c v) 0) (g.pri.getD v 0) ≤ l.getD v 0) :
    Sol (fun v => g.own.getD v 0) (fun v => g.pri.getD v 0) (rws g.nxt) (fun v => v < g.own.length) (fun v => if l.getD v 0 < rpr many then 0 else 1) c 0 := by
  have hW : ∀ v, (if l.getD v 0 < rpr many then (0 : Int) else 1) = 0 → l.getD v 0 < rpr many := fun v h => by
    by_cases e : l.getD v 0 < rpr many
    · exact e
    · rw [if_neg e] at h; cases h
  have hlow : ∀ v t, t < g.own.length → l.getD v 0 < rpr many → progV odd many (l.getD t 0) (g.pri.getD v 0) ≤ l.getD v 0 → l.getD t 0 < rpr many := fun v t ht h1 h2 => by
    have h3 := (hl.rng t ht).2
    rcases Int.lt_or_eq_of_le h3 with h4 | h4
    · exact h4
    · rw [h4, prog_top] at h2; omega
  have hhis : ∀ v, v < g.own.length → g.own.getD v 0 ≠ 0 → ∀ t, t ∈ rws g.nxt v → progV odd many (l.getD t 0) (g.pri.getD v 0) ≤ l.getD v 0 := fun v hv ho t ht => by
    obtain ⟨r, h1, h2⟩ := List.getElem_of_mem ht
    rw [rws_len] at h1
    have h3 := (bB_max (g := g) (odd := odd) (many := many) (l := l) ho (hr v hv)).1 r h1
    have h4 := hl.ok v hv
    have h5 : askV g odd many l v r = progV odd many (l.getD t 0) (g.pri.getD v 0) := by
      have h6 : (rws g.nxt v).getD r 0 = t := by rw [List.getD_eq_getElem?_getD, List.getElem?_eq_getElem (by rw [rws_len]; exact h1)]; exact h2
      unfold askV
      rw [← rws_getD, h6]
    rw [h5] at h3
    exact Int.le_trans h3 h4
  refine ⟨fun v hv h ho => ?_, fun v hv h ho t ht hk => ?_, fun w hw h hpar => ?_⟩
  · obtain ⟨h1, h2⟩ := hc v hv ho (hW v h)
    have h3 := hrow v hv _ h1
    exact ⟨h1, h3, if_pos (hlow v _ h3 (hW v h) h2)⟩
  · exact if_pos (hlow v t hk (hW v h) (hhis v hv ho t ht))
  · refine meas_cyc (l := fun v => l.getD v 0) (odd := odd) (many := many) (D := fun v => v < g.own.length ∧ l.getD v 0 < rpr many) hp (fun a b e => ?_) (fun a ha => ⟨(hl.rng a ha.1).1, by omega⟩) (fun a b e => ?_) hpar
    · obtain ⟨⟨e1, e2⟩, e3, e4, e5⟩ := e
      refine ⟨⟨e1, hW a e2⟩, e3, ?_⟩
      by_cases ho : g.own.getD a 0 = 0
      · obtain ⟨h1, h2⟩ := hc a e1 ho (hW a e2)
        rw [e4 ho]; exact hlow a _ (hrow a e1 _ h1) (hW a e2) h2
      · exact hlow a b e3 (hW a e2) (hhis a e1 ho b (e5 ho))
    · obtain ⟨⟨e1, e2⟩, e3, e4, e5⟩ := e
      by_cases ho : g.own.getD a 0 = 0
      · rw [e4 ho]; exact (hc a e1 ho (hW a e2)).2
      · exact hhis a e1 ho b (e5 ho)
/-- The least measure is below top exactly where 0 wins. -/
theorem least_win {g : Gm} {odd many : List Int} (hO : OddS g.pri odd many) (hod : ∀ o, o ∈ odd → o % 2 ≠ 0) (hpl : g.pri.length = g.own.length) (hrow : ∀ v, v < g.own.length → ∀ t, t ∈ rws g.nxt v → t < g.own.length) (hr : ∀ v, v < g.own.length → 0 < (g.nxt.getD v []).length)
    (hown : ∀ v, v < g.own.length → g.own.getD v 0 = 0 ∨ g.own.getD v 0 = 1) (hpri : ∀ v, v < g.own.length → 0 ≤ g.pri.getD v 0) {W : Nat → Int} {c d : Nat → Nat} (hW : ∀ v, v < g.own.length → W v = 0 ∨ W v = 1)
    (h0 : Sol (fun v => g.own.getD v 0) (fun v => g.pri.getD v 0) (rws g.nxt) (fun v => v < g.own.length) W c 0) (h1 : Sol (fun v => g.own.getD v 0) (fun v => g.pri.getD v 0) (rws g.nxt) (fun v => v < g.own.length) W d 1)
    {v : Nat} (hv : v < g.own.length) : (leastL g odd many).getD v 0 < rpr many ↔ W v = 0 := by
  have hpos : posL many := wfL_pos (digV_wf (E := fun _ _ => False) (pri := fun v => g.pri.getD v 0) (v := 0) hO)
  have hL := least_ex (odd := odd) hpos hrow hr
  constructor
  · intro h
    have hc : ∀ v, ∃ t, v < g.own.length → g.own.getD v 0 = 0 → t ∈ rws g.nxt v ∧ progV odd many ((leastL g odd many).getD t 0) (g.pri.getD v 0) ≤ (leastL g odd many).getD v 0 := fun v => by
      by_cases h : v < g.own.length ∧ g.own.getD v 0 = 0
      · obtain ⟨r, h4, h5⟩ := best_ask (odd := odd) (many := many) (l := leastL g odd many) (hr v h.1)
        refine ⟨(rws g.nxt v).getD r 0, fun _ _ => ⟨?_, ?_⟩⟩
        · rw [List.getD_eq_getElem?_getD, List.getElem?_eq_getElem (by rw [rws_len]; exact h4)]
          exact List.getElem_mem _
        · have h6 := hL.ok v h.1
          rw [h5] at h6
          unfold askV at h6
          rw [rws_getD]; exact h6
      · exact ⟨0, fun a b => absurd ⟨a, b⟩ h⟩
    have hs := sol_of_pre (c := fun v => Classical.choose (hc v)) hpos hrow hr hL.toPre fun v hv ho _ => Classical.choose_spec (hc v) hv ho
    exact (hW v hv).resolve_right (sol_apart (n := g.own.length) (fun _ h => h) hs h1 hown hv (if_pos h))
  · intro h
    obtain ⟨l, hl, hlt⟩ := pre_of_sol (odd := odd) (many := many) hO hod hpl hrow hr h0
    exact Int.lt_of_le_of_lt (hL.low l hl v hv) (hlt v hv h)
end
end Go.Proofs.Ytgminhedbeblpaa.Cal
