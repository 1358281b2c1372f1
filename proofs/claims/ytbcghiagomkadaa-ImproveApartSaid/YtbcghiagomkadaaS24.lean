/- Own texts of the proof, merged, in order. -/
import Derived.Deep.Slices
import Derived.Lib.SmallJoins
import Derived.ProofKit
import Derived.OpenShut
import Derived.ShutString
import Derived.ChangeOld
import Derived.Below
import Derived.SizedLaws
import Derived.Test.YtbcghiagomkadaaS23
set_option linter.unusedVariables false
set_option linter.unusedSimpArgs false
namespace Go.Proofs.Ytbcghiagomkadaa.Cal
open Go Pl
def exS : Spec
  | [] => some ⟨True, .agg (.cons (.roI [0, 1]) (.cons (.roI [1, 2]) (.cons (.roII [[0, 1], [0, 1]]) .nil))), none⟩
  | _ => none
set_option maxRecDepth 4000 in
set_option maxHeartbeats 4000000 in
theorem ex_ok : FSpec Try.prog 28 exS := by
  refine fspec_of htb (fn := Try.f28) (by kernel_rfl) (by kernel_rfl) rfl (fun args r hS => ?_) (fun args r hS hob hl => ?_)
  · unfold exS at hS; split at hS <;> first | (cases hS; done) | (cases hS; exact Nat.le_of_ble_eq_true rfl)
  unfold exS at hS
  split at hS
  case h_2 => cases hS
  simp only [Option.some.injEq] at hS
  subst hS
  repeat' first
    | with_reducible first | refine awp_seq ?_ | refine awp_block ?_ | refine next_then ?_ | refine next_block ?_ | refine exit_then ?_ | refine ret_then ?_ | refine ret_block ?_ | refine exit_here ?_ | refine awp_exit ?_ | refine awp_ret ?_ | refine awp_skip ?_ | refine awp_label ?_ | refine next_noGoto ?_ | refine ret_noGoto ?_ | refine exit_noGoto ?_ | refine awp_scope ?_
    | ((with_reducible refine exit_past ?_ ?_); exact rfl)
    | ((with_reducible refine isCond ?_); refine awp_condO rfl ?_ ?_ <;> intro hb <;> (try simp only [zH] at hb))
    | ((with_reducible refine isReg ?_); (first | refine awp_textM htb hmz noSp (fun _ => false) rfl rfl ?_ | refine awp_drawM hmo htb hmz noSp (fun _ => false) rfl rfl (by kernel_rfl) ?_); intro m' e' l' ob h; simp only [zE0, zE1, zE2, zE3, zE4, zE5, evp, evx, ev1, evLoad, evStore, evBin, isBoolK, forall_const, z38, tb, Nat.reduceAdd, Nat.reduceSub, Nat.reduceMul, Nat.reduceEqDiff, Nat.reduceLeDiff, Nat.reduceLT, Nat.reduceBEq, Nat.reduceBNe, ↓reduceIte, reduceIte] at h; obtain ⟨rfl, rfl, rfl, rfl⟩ := h; refine ⟨?_, ?_⟩)
    | ((with_reducible refine Ob.mk ?_); first | exact trivial | (intros; omega) | ((repeat' first | apply And.intro | (intro hg; have hg' := hg; try simp only [zH] at hg')) <;> first | assumption | omega | (simp only [zH]; omega)))
  refine fin_ret rfl rfl (spec_flat rfl ?_ rfl)
  rfl
theorem exA_f0 : fromL ⟨[0, 1], [1, 2], [[0, 1], [0, 1]]⟩ 0 [0, -1] = [false, false] := exA_from0
theorem exA_f1 : fromL ⟨[0, 1], [1, 2], [[0, 1], [0, 1]]⟩ 0 [1, -1] = [true, true] := exA_from1
theorem exA_a0 : asksR ⟨[0, 1], [1, 2], [[0, 1], [0, 1]]⟩ 0 [0, -1] = 0 := exA_asks 0 (.inl rfl)
theorem exA_a1 : asksR ⟨[0, 1], [1, 2], [[0, 1], [0, 1]]⟩ 0 [1, -1] = 0 := exA_asks 1 (.inr rfl)
theorem exA_btr : FG Try.prog 11 [.agg (.cons (.roI [0, 1]) (.cons (.roI [1, 2]) (.cons (.roII [[0, 1], [0, 1]]) .nil))), .roI [0, -1]] [] 0 fun g => g = ⟨0, .tup (.cons (.roI [1, -1]) (.cons (.bool true) (.cons (.int .i64 0) .nil))), []⟩ := by
  have h := btr_fg (o := [0, 1]) (p := [1, 2]) (x := [[0, 1], [0, 1]]) (c := [0, -1]) exA_valid (exA_asks 0 (.inl rfl)) (by rw [exA_im]; exact exA_run)
  have h1 : fromL ⟨[0, 1], [1, 2], [[0, 1], [0, 1]]⟩ 0 [0, -1] = [false, false] := exA_from0
  have h2 : (List.range [(0 : Int), 1].length).map (fun v => (vIt exH [1, -1] 0 v).e) = [true, true] := exA_won
  rw [h1, h2] at h
  exact h
def awk15S : Spec
  | [] => some ⟨True, .bool true, none⟩
  | _ => none
noncomputable def spAz : Nat → Option Spec
  | 28 => some exS
  | 16 => some rwinS
  | 20 => some bitsS
  | _ => none
theorem spAz_ok : SpOK Try.prog spAz := by
  intro f S h
  unfold spAz at h
  split at h
  · cases h; exact ex_ok
  · cases h; exact iwin_ok
  · cases h; exact bits_ok
  · cases h
set_option maxRecDepth 4000 in
set_option maxHeartbeats 4000000 in
theorem awk15_ok : FSpec Try.prog 9 awk15S := by
  refine fspec_of htb (fn := Try.f9) (by kernel_rfl) (by kernel_rfl) rfl (fun args r hS => ?_) (fun args r hS hob hl => ?_)
  · unfold awk15S at hS; split at hS <;> first | (cases hS; done) | (cases hS; exact Nat.le_of_ble_eq_true rfl)
  unfold awk15S at hS
  split at hS
  case h_2 => cases hS
  simp only [Option.some.injEq] at hS
  subst hS
  repeat' first
    | with_reducible first | refine awp_seq ?_ | refine awp_block ?_ | refine next_then ?_ | refine next_block ?_ | refine exit_then ?_ | refine ret_then ?_ | refine ret_block ?_ | refine exit_here ?_ | refine awp_exit ?_ | refine awp_ret ?_ | refine awp_skip ?_ | refine awp_label ?_ | refine next_noGoto ?_ | refine ret_noGoto ?_ | refine exit_noGoto ?_ | refine awp_scope ?_
    | ((with_reducible refine exit_past ?_ ?_); exact rfl)
    | ((with_reducible refine isCond ?_); refine awp_condO rfl ?_ ?_ <;> intro hb <;> (try simp only [zH] at hb))
    | ((with_reducible refine isRegS 3 ?_ ?_); (· exact rfl); (first | refine awp_textM htb hmz spAz_ok (fun _ => false) rfl rfl ?_ | refine awp_drawM hmo htb hmz spAz_ok (fun _ => false) rfl rfl (by kernel_rfl) ?_); intro m' e' l' ob h; simp only [zE0, zE1, zE2, zE3, zE4, zE5, evp, evx, ev1, evLoad, evStore, evBin, isBoolK, forall_const, z38, tb, Nat.reduceAdd, Nat.reduceSub, Nat.reduceMul, Nat.reduceEqDiff, Nat.reduceLeDiff, Nat.reduceLT, Nat.reduceBEq, Nat.reduceBNe, ↓reduceIte, reduceIte, spAz, exS, rwinS, bitsS, exA_f0, exA_f1, exA_a0, exA_a1] at h; obtain ⟨rfl, rfl, rfl, rfl⟩ := h; refine ⟨?_, ?_⟩)
    | ((with_reducible refine Ob.mk ?_); first | exact trivial | (intros; omega) | ((repeat' first | apply And.intro | (intro hg; have hg' := hg; try simp only [zH] at hg')) <;> first | assumption | omega | (simp only [zH]; omega)))
  refine awp_cut ([_, _]) ([_, _, _, _, _, _, _]) rfl rfl ?_
  refine awpL_text htb hmz spAz_ok (fun _ => false) rfl rfl rfl ?_; intro m' e' l' ob h; simp only [zE0, zE1, zE2, zE3, zE4, zE5, evp, evx, ev1, evLoad, evStore, evBin, isBoolK, forall_const, z38, tb, Nat.reduceAdd, Nat.reduceSub, Nat.reduceMul, Nat.reduceEqDiff, Nat.reduceLeDiff, Nat.reduceLT, Nat.reduceBEq, Nat.reduceBNe, ↓reduceIte, reduceIte, spAz, exS, rwinS, bitsS, exA_f0, exA_f1, exA_a0, exA_a1] at h; obtain ⟨rfl, rfl, rfl, rfl⟩ := h; refine ⟨?_, next_then ?_⟩
  · first | ((with_reducible refine Ob.mk ?_); first | exact trivial | (intros; omega) | ((repeat' first | apply And.intro | (intro hg; have hg' := hg; try simp only [zH] at hg')) <;> first | assumption | omega | (simp only [zH]; omega))) | skip
  refine awpL_callG ([]) (exA_btr) rfl rfl rfl rfl rfl rfl rfl rfl rfl (by simp only [rinR, rhoC, zE0, zE1, zE2, zE3, zE4, zE5, evp, evx, ev1, evLoad, evStore, evBin, isBoolK, forall_const, z38, tb, Nat.reduceAdd, Nat.reduceSub, Nat.reduceMul, Nat.reduceEqDiff, Nat.reduceLeDiff, Nat.reduceLT, Nat.reduceBEq, Nat.reduceBNe, ↓reduceIte, reduceIte, spAz, exS, rwinS, bitsS, exA_f0, exA_f1, exA_a0, exA_a1]) ?_; intro gm gv gr hq m' e' l' h; simp only [GR.mk.injEq] at hq; obtain ⟨rfl, rfl, rfl⟩ := hq; simp only [rhoC, outR, renR, dels, zE0, zE1, zE2, zE3, zE4, zE5, evp, evx, ev1, evLoad, evStore, evBin, isBoolK, forall_const, z38, tb, Nat.reduceAdd, Nat.reduceSub, Nat.reduceMul, Nat.reduceEqDiff, Nat.reduceLeDiff, Nat.reduceLT, Nat.reduceBEq, Nat.reduceBNe, ↓reduceIte, reduceIte, spAz, exS, rwinS, bitsS, exA_f0, exA_f1, exA_a0, exA_a1] at h; obtain ⟨rfl, rfl, rfl⟩ := h; refine next_then ?_
  refine awpL_text htb hmz spAz_ok (fun _ => false) rfl rfl rfl ?_; intro m' e' l' ob h; simp only [zE0, zE1, zE2, zE3, zE4, zE5, evp, evx, ev1, evLoad, evStore, evBin, isBoolK, forall_const, z38, tb, Nat.reduceAdd, Nat.reduceSub, Nat.reduceMul, Nat.reduceEqDiff, Nat.reduceLeDiff, Nat.reduceLT, Nat.reduceBEq, Nat.reduceBNe, ↓reduceIte, reduceIte, spAz, exS, rwinS, bitsS, exA_f0, exA_f1, exA_a0, exA_a1] at h; obtain ⟨rfl, rfl, rfl, rfl⟩ := h; refine ⟨?_, ?_⟩
  · first | ((with_reducible refine Ob.mk ?_); first | exact trivial | (intros; omega) | ((repeat' first | apply And.intro | (intro hg; have hg' := hg; try simp only [zH] at hg')) <;> first | assumption | omega | (simp only [zH]; omega))) | skip
  refine next_then ?_
  repeat' first
    | with_reducible first | refine awp_seq ?_ | refine awp_block ?_ | refine next_then ?_ | refine next_block ?_ | refine exit_then ?_ | refine ret_then ?_ | refine ret_block ?_ | refine exit_here ?_ | refine awp_exit ?_ | refine awp_ret ?_ | refine awp_skip ?_ | refine awp_label ?_ | refine next_noGoto ?_ | refine ret_noGoto ?_ | refine exit_noGoto ?_ | refine awp_scope ?_
    | ((with_reducible refine exit_past ?_ ?_); exact rfl)
    | ((with_reducible refine isCond ?_); refine awp_condO rfl ?_ ?_ <;> intro hb <;> (try simp only [zH] at hb))
    | ((with_reducible refine isReg ?_); (first | refine awp_textM htb hmz spAz_ok (fun _ => false) rfl rfl ?_ | refine awp_drawM hmo htb hmz spAz_ok (fun _ => false) rfl rfl (by kernel_rfl) ?_); intro m' e' l' ob h; simp only [zE0, zE1, zE2, zE3, zE4, zE5, evp, evx, ev1, evLoad, evStore, evBin, isBoolK, forall_const, z38, tb, Nat.reduceAdd, Nat.reduceSub, Nat.reduceMul, Nat.reduceEqDiff, Nat.reduceLeDiff, Nat.reduceLT, Nat.reduceBEq, Nat.reduceBNe, ↓reduceIte, reduceIte, spAz, exS, rwinS, bitsS, exA_f0, exA_f1, exA_a0, exA_a1] at h; obtain ⟨rfl, rfl, rfl, rfl⟩ := h; refine ⟨?_, ?_⟩)
    | ((with_reducible refine Ob.mk ?_); first | exact trivial | (intros; omega) | ((repeat' first | apply And.intro | (intro hg; have hg' := hg; try simp only [zH] at hg')) <;> first | assumption | omega | (simp only [zH]; omega)))
  refine fin_ret rfl rfl (spec_flat rfl ?_ rfl)
  rfl
end Go.Proofs.Ytbcghiagomkadaa.Cal
namespace Go.Proofs.Ytbcghiagomkadaa.Cal
open Go Pl
theorem from_iff {g : Gm} {pl : Int} {c : List Int} {v : Nat} (hv : v < g.own.length) : (fromL g pl c).getD v false = true ↔ ¬ alone (fromG g pl c) (1 - pl) v := by
  have e : (fromL g pl c).getD v false = !(aloneL (fromG g pl c) (1 - pl)).getD v false := by simp [fromL, List.getD_eq_getElem?_getD, hv]
  have h := aloneL_getD (g := fromG g pl c) (pl := 1 - pl) (v := v) hv
  rw [e]
  cases h2 : (aloneL (fromG g pl c) (1 - pl)).getD v false with
  | true => exact ⟨fun h3 => (by cases h3), fun h3 => absurd (h.1 h2) h3⟩
  | false => exact ⟨fun _ h3 => (by rw [h.2 h3] at h2; cases h2), fun _ => rfl⟩
theorem alone_step {g : Gm} {pl : Int} {v w : Nat} (h : alone g pl w) (he : w ∈ rws g.nxt v) : alone g pl v := by
  obtain ⟨z, h1, h2, h3⟩ := h
  exact ⟨z, h1, h2, (Rch.one he).trans h3⟩
theorem fromG_at {g : Gm} {pl : Int} {c : List Int} {v : Nat} (hv : v < g.own.length) : rws (fromG g pl c).nxt v = if g.own.getD v 0 = pl then [(c.getD v 0).toNat] else rws g.nxt v := by
  unfold rws
  rw [fromG_x hv]
  split <;> rfl
theorem from_apart {g : Gm} (hv : validB g = true) {a b : List Int} (ha : fullB g 0 a = true) (hb : fullB g 1 b = true) {v : Nat} (hvn : v < g.own.length) (h0 : (fromL g 0 a).getD v false = true) (h1 : (fromL g 1 b).getD v false = true) : False := by
  have hG := gok (validB_iff.1 hv)
  obtain ⟨_, ha2⟩ := of_decide_eq_true ha
  obtain ⟨_, hb2⟩ := of_decide_eq_true hb
  have hF : ∀ u, u < g.own.length → (if g.own.getD u 0 = 0 then (a.getD u 0).toNat else (b.getD u 0).toNat) ∈ rws g.nxt u := by
    intro u hu
    by_cases ho : g.own.getD u 0 = 0
    · rw [if_pos ho]
      exact List.mem_map.2 ⟨_, (ha2 u hu).1 ho, rfl⟩
    · rw [if_neg ho]
      exact List.mem_map.2 ⟨_, (hb2 u hu).1 (by rcases hG.own u hu with h | h; exact absurd h ho; exact h), rfl⟩
  have e0 : ∀ u, u < g.own.length → (if g.own.getD u 0 = 0 then (a.getD u 0).toNat else (b.getD u 0).toNat) ∈ rws (fromG g 0 a).nxt u := by
    intro u hu
    have := hF u hu
    rw [fromG_at hu]
    by_cases ho : g.own.getD u 0 = 0
    · rw [if_pos ho, if_pos ho]; exact List.mem_singleton.2 rfl
    · rw [if_neg ho, if_neg ho]; rw [if_neg ho] at this; exact this
  have e1 : ∀ u, u < g.own.length → (if g.own.getD u 0 = 0 then (a.getD u 0).toNat else (b.getD u 0).toNat) ∈ rws (fromG g 1 b).nxt u := by
    intro u hu
    have := hF u hu
    rw [fromG_at hu]
    by_cases ho : g.own.getD u 0 = 0
    · rw [if_pos ho, if_neg (by omega)]; rw [if_pos ho] at this; exact this
    · rw [if_neg ho, if_pos (by rcases hG.own u hu with h | h; exact absurd h ho; exact h)]; exact List.mem_singleton.2 rfl
  obtain ⟨w, ⟨hw, w0, w1⟩, hc⟩ := cyc_of (pri := fun v => g.pri.getD v 0) (F := fun u => if g.own.getD u 0 = 0 then (a.getD u 0).toNat else (b.getD u 0).toNat) (D := fun u => u < g.own.length ∧ ¬ alone (fromG g 0 a) 1 u ∧ ¬ alone (fromG g 1 b) 0 u) (n := g.own.length) (s := v) (fun u hu => ⟨hu.1, hG.row u hu.1 _ (hF u hu.1), fun h => hu.2.1 (alone_step h (e0 u hu.1)), fun h => hu.2.2 (alone_step h (e1 u hu.1))⟩) ⟨hvn, (from_iff hvn).1 h0, (from_iff hvn).1 h1⟩
  rcases Int.emod_two_eq (g.pri.getD w 0) with hp | hp
  · exact w1 ⟨w, hw, ⟨hp, hc (fun a' b' => b' ∈ rws (fromG g 1 b).nxt a') fun u hu => e1 u hu.1⟩, .refl _⟩
  · exact w0 ⟨w, hw, ⟨hp, hc (fun a' b' => b' ∈ rws (fromG g 0 a).nxt a') fun u hu => e0 u hu.1⟩, .refl _⟩
end Go.Proofs.Ytbcghiagomkadaa.Cal
namespace Go.Proofs.Ytbcghiagomkadaa.Cal
open Go Pl
noncomputable def spIa : Nat → Option Spec
  | 8 => some fewS
  | 9 => some awk15S
  | 16 => some rwinS
  | _ => none
theorem spIa_ok : SpOK Try.prog spIa := by
  intro f S h
  unfold spIa at h
  split at h
  · cases h; exact few_ok
  · cases h; exact awk15_ok
  · cases h; exact iwin_ok
  · cases h
def gnnS : Spec
  | [.agg (.cons (.roI o) (.cons (.roI p) (.cons (.roII x) .nil))), .roI _, .roI _] => some ⟨True, .bool true, none⟩
  | _ => none
set_option maxRecDepth 4000 in
set_option maxHeartbeats 4000000 in
theorem ial_ok : FSpec Try.prog 4 gnnS := by
  refine fspec_of htb (fn := Try.f4) (by kernel_rfl) (by kernel_rfl) rfl (fun args r hS => ?_) (fun args r hS hob hl => ?_)
  · unfold gnnS at hS; split at hS <;> first | (cases hS; done) | (cases hS; exact Nat.le_of_ble_eq_true rfl)
  unfold gnnS at hS
  split at hS
  case h_2 => cases hS
  rename_i o p x a b
  simp only [Option.some.injEq] at hS
  subst hS
  simp only [lenP, mkL, lim] at hl
  dsimp only at hob
  repeat' first
    | with_reducible first | refine awp_seq ?_ | refine awp_block ?_ | refine next_then ?_ | refine next_block ?_ | refine exit_then ?_ | refine ret_then ?_ | refine ret_block ?_ | refine exit_here ?_ | refine awp_exit ?_ | refine awp_ret ?_ | refine awp_skip ?_ | refine awp_label ?_ | refine next_noGoto ?_ | refine ret_noGoto ?_ | refine exit_noGoto ?_ | refine awp_scope ?_
    | ((with_reducible refine exit_past ?_ ?_); exact rfl)
    | ((with_reducible refine isCond ?_); refine awp_condO rfl ?_ ?_ <;> intro hb <;> (try simp only [zH] at hb))
    | ((with_reducible refine isRegS 3 ?_ ?_); (· exact rfl); (first | refine awp_textM htb hmz spIa_ok (fun _ => false) rfl rfl ?_ | refine awp_drawM hmo htb hmz spIa_ok (fun _ => false) rfl rfl (by kernel_rfl) ?_); intro m' e' l' ob h; simp only [zE0, zE1, zE2, zE3, zE4, zE5, evp, evx, ev1, evLoad, evStore, evBin, isBoolK, forall_const, z38, tb, Nat.reduceAdd, Nat.reduceSub, Nat.reduceMul, Nat.reduceEqDiff, Nat.reduceLeDiff, Nat.reduceLT, Nat.reduceBEq, Nat.reduceBNe, ↓reduceIte, reduceIte, spIa, fewS, awk15S, rwinS] at h; obtain ⟨rfl, rfl, rfl, rfl⟩ := h; refine ⟨?_, ?_⟩)
    | ((with_reducible refine Ob.mk ?_); first | exact trivial | (intros; omega) | ((repeat' first | apply And.intro | (intro hg; have hg' := hg; try simp only [zH] at hg')) <;> first | assumption | omega | (simp only [zH]; omega)))
  · repeat' first
      | with_reducible first | refine awp_seq ?_ | refine awp_block ?_ | refine next_then ?_ | refine next_block ?_ | refine exit_then ?_ | refine ret_then ?_ | refine ret_block ?_ | refine exit_here ?_ | refine awp_exit ?_ | refine awp_ret ?_ | refine awp_skip ?_ | refine awp_label ?_ | refine next_noGoto ?_ | refine ret_noGoto ?_ | refine exit_noGoto ?_ | refine awp_scope ?_
      | ((with_reducible refine exit_past ?_ ?_); exact rfl)
      | ((with_reducible refine isCond ?_); refine awp_condO rfl ?_ ?_ <;> intro hb <;> (try simp only [zH] at hb))
      | ((with_reducible refine isReg ?_); (first | refine awp_textM htb hmz spIa_ok (fun _ => false) rfl rfl ?_ | refine awp_drawM hmo htb hmz spIa_ok (fun _ => false) rfl rfl (by kernel_rfl) ?_); intro m' e' l' ob h; simp only [zE0, zE1, zE2, zE3, zE4, zE5, evp, evx, ev1, evLoad, evStore, evBin, isBoolK, forall_const, z38, tb, Nat.reduceAdd, Nat.reduceSub, Nat.reduceMul, Nat.reduceEqDiff, Nat.reduceLeDiff, Nat.reduceLT, Nat.reduceBEq, Nat.reduceBNe, ↓reduceIte, reduceIte, spIa, fewS, awk15S, rwinS] at h; obtain ⟨rfl, rfl, rfl, rfl⟩ := h; refine ⟨?_, ?_⟩)
      | ((with_reducible refine Ob.mk ?_); first | exact trivial | (intros; omega) | ((repeat' first | apply And.intro | (intro hg; have hg' := hg; try simp only [zH] at hg')) <;> first | assumption | omega | (simp only [zH]; omega)))
    refine fin_ret rfl rfl (spec_flat rfl ?_ rfl)
    rfl
  clear hb
  repeat' first
    | with_reducible first | refine awp_seq ?_ | refine awp_block ?_ | refine next_then ?_ | refine next_block ?_ | refine exit_then ?_ | refine ret_then ?_ | refine ret_block ?_ | refine exit_here ?_ | refine awp_exit ?_ | refine awp_ret ?_ | refine awp_skip ?_ | refine awp_label ?_ | refine next_noGoto ?_ | refine ret_noGoto ?_ | refine exit_noGoto ?_ | refine awp_scope ?_
    | ((with_reducible refine exit_past ?_ ?_); exact rfl)
    | ((with_reducible refine isCond ?_); refine awp_condO rfl ?_ ?_ <;> intro hb <;> (try simp only [zH] at hb))
    | ((with_reducible refine isRegS 5 ?_ ?_); (· exact rfl); (first | refine awp_textM htb hmz spIa_ok (fun _ => false) rfl rfl ?_ | refine awp_drawM hmo htb hmz spIa_ok (fun _ => false) rfl rfl (by kernel_rfl) ?_); intro m' e' l' ob h; simp only [zE0, zE1, zE2, zE3, zE4, zE5, evp, evx, ev1, evLoad, evStore, evBin, isBoolK, forall_const, z38, tb, Nat.reduceAdd, Nat.reduceSub, Nat.reduceMul, Nat.reduceEqDiff, Nat.reduceLeDiff, Nat.reduceLT, Nat.reduceBEq, Nat.reduceBNe, ↓reduceIte, reduceIte, spIa, fewS, awk15S, rwinS] at h; obtain ⟨rfl, rfl, rfl, rfl⟩ := h; refine ⟨?_, ?_⟩)
    | ((with_reducible refine Ob.mk ?_); first | exact trivial | (intros; omega) | ((repeat' first | apply And.intro | (intro hg; have hg' := hg; try simp only [zH] at hg')) <;> first | assumption | omega | (simp only [zH]; omega)))
  rcases asks_or ⟨o, p, x⟩ 0 a with ⟨hv, hp0, hf0, ha0⟩ | h
  · rcases asks_or ⟨o, p, x⟩ 1 b with ⟨_, hp1, hf1, ha1⟩ | h
    · have hap := fun v (hvn : v < o.length) => from_apart hv hf0 hf1 (v := v) hvn
      have hl0 : (fromL ⟨o, p, x⟩ 0 a).length = o.length := by simp [fromL]
      have hl1 : (fromL ⟨o, p, x⟩ 1 b).length = o.length := by simp [fromL]
      rw [if_pos ha0, if_pos ha1, ha0, ha1]
      generalize fromL ⟨o, p, x⟩ 0 a = A at *
      generalize fromL ⟨o, p, x⟩ 1 b = B at *
      repeat' first
        | with_reducible first | refine awp_seq ?_ | refine awp_block ?_ | refine next_then ?_ | refine next_block ?_ | refine exit_then ?_ | refine ret_then ?_ | refine ret_block ?_ | refine exit_here ?_ | refine awp_exit ?_ | refine awp_ret ?_ | refine awp_skip ?_ | refine awp_label ?_ | refine next_noGoto ?_ | refine ret_noGoto ?_ | refine exit_noGoto ?_ | refine awp_scope ?_
        | ((with_reducible refine exit_past ?_ ?_); exact rfl)
        | ((with_reducible refine isCond ?_); refine awp_condO rfl ?_ ?_ <;> intro hb <;> (try simp only [zH] at hb))
        | ((with_reducible refine isRegS 6 ?_ ?_); (· exact rfl); (with_reducible refine isRegS 7 ?_ ?_); (· exact rfl); (first | refine awp_textM htb hmz spIa_ok (fun _ => false) rfl rfl ?_ | refine awp_drawM hmo htb hmz spIa_ok (fun _ => false) rfl rfl (by kernel_rfl) ?_); intro m' e' l' ob h; simp only [zE0, zE1, zE2, zE3, zE4, zE5, evp, evx, ev1, evLoad, evStore, evBin, isBoolK, forall_const, z38, tb, Nat.reduceAdd, Nat.reduceSub, Nat.reduceMul, Nat.reduceEqDiff, Nat.reduceLeDiff, Nat.reduceLT, Nat.reduceBEq, Nat.reduceBNe, ↓reduceIte, reduceIte, spIa, fewS, awk15S, rwinS] at h; obtain ⟨rfl, rfl, rfl, rfl⟩ := h; refine ⟨?_, ?_⟩)
        | ((with_reducible refine Ob.mk ?_); first | exact trivial | (intros; omega) | ((repeat' first | apply And.intro | (intro hg; have hg' := hg; try simp only [zH] at hg')) <;> first | assumption | omega | (simp only [zH]; omega)))
      · exact absurd hb (by decide)
      clear hb
      repeat' first
        | with_reducible first | refine awp_seq ?_ | refine awp_block ?_ | refine next_then ?_ | refine next_block ?_ | refine exit_then ?_ | refine ret_then ?_ | refine ret_block ?_ | refine exit_here ?_ | refine awp_exit ?_ | refine awp_ret ?_ | refine awp_skip ?_ | refine awp_label ?_ | refine next_noGoto ?_ | refine ret_noGoto ?_ | refine exit_noGoto ?_ | refine awp_scope ?_
        | ((with_reducible refine exit_past ?_ ?_); exact rfl)
        | ((with_reducible refine isCond ?_); refine awp_condO rfl ?_ ?_ <;> intro hb <;> (try simp only [zH] at hb))
        | ((with_reducible refine isReg ?_); (first | refine awp_textM htb hmz spIa_ok (fun _ => false) rfl rfl ?_ | refine awp_drawM hmo htb hmz spIa_ok (fun _ => false) rfl rfl (by kernel_rfl) ?_); intro m' e' l' ob h; simp only [zE0, zE1, zE2, zE3, zE4, zE5, evp, evx, ev1, evLoad, evStore, evBin, isBoolK, forall_const, z38, tb, Nat.reduceAdd, Nat.reduceSub, Nat.reduceMul, Nat.reduceEqDiff, Nat.reduceLeDiff, Nat.reduceLT, Nat.reduceBEq, Nat.reduceBNe, ↓reduceIte, reduceIte, spIa, fewS, awk15S, rwinS] at h; obtain ⟨rfl, rfl, rfl, rfl⟩ := h; refine ⟨?_, ?_⟩)
        | ((with_reducible refine Ob.mk ?_); first | exact trivial | (intros; omega) | ((repeat' first | apply And.intro | (intro hg; have hg' := hg; try simp only [zH] at hg')) <;> first | assumption | omega | (simp only [zH]; omega)))
      refine awp_loopC (τ := Nat) (fun i => i ≤ A.length) (fun i => ⟨40, [(47, .int .i64 i), (46, .int .i64 A.length), (7, .roB A), (9, .roB B)], [], []⟩) (fun i => A.length - i) 0 [] ?_ (Nat.zero_le _) ?_
      · (refine ⟨rfl, ?_, ?_⟩ <;> simp only [zE0, zE1, zE2, zE3, zE4, zE5, evp, evx, ev1, evLoad, evStore, evBin, isBoolK, forall_const, z38, tb, Nat.reduceAdd, Nat.reduceSub, Nat.reduceMul, Nat.reduceEqDiff, Nat.reduceLeDiff, Nat.reduceLT, Nat.reduceBEq, Nat.reduceBNe, ↓reduceIte, reduceIte, spIa, fewS, awk15S, rwinS, zI])
      intro i hi
      have hap1 := hap i
      repeat' first
        | with_reducible first | refine awp_seq ?_ | refine awp_block ?_ | refine next_then ?_ | refine next_block ?_ | refine exit_then ?_ | refine ret_then ?_ | refine ret_block ?_ | refine exit_here ?_ | refine awp_exit ?_ | refine awp_ret ?_ | refine awp_skip ?_ | refine awp_label ?_ | refine next_noGoto ?_ | refine ret_noGoto ?_ | refine exit_noGoto ?_ | refine awp_scope ?_
        | ((with_reducible refine exit_past ?_ ?_); exact rfl)
        | ((with_reducible refine isCond ?_); refine awp_condO rfl ?_ ?_ <;> intro hb <;> (try simp only [zH] at hb))
        | ((with_reducible refine isRegS 9 ?_ ?_); (· exact rfl); (with_reducible refine isRegS 13 ?_ ?_); (· exact rfl); (first | refine awp_textM htb hmz spIa_ok (fun _ => false) rfl rfl ?_ | refine awp_drawM hmo htb hmz spIa_ok (fun _ => false) rfl rfl (by kernel_rfl) ?_); intro m' e' l' ob h; simp only [zE0, zE1, zE2, zE3, zE4, zE5, evp, evx, ev1, evLoad, evStore, evBin, isBoolK, forall_const, z38, tb, Nat.reduceAdd, Nat.reduceSub, Nat.reduceMul, Nat.reduceEqDiff, Nat.reduceLeDiff, Nat.reduceLT, Nat.reduceBEq, Nat.reduceBNe, ↓reduceIte, reduceIte, spIa, fewS, awk15S, rwinS] at h; obtain ⟨rfl, rfl, rfl, rfl⟩ := h; refine ⟨?_, ?_⟩)
        | ((with_reducible refine Ob.mk ?_); first | exact trivial | (intros; omega) | ((repeat' first | apply And.intro | (intro hg; have hg' := hg; try simp only [zH] at hg')) <;> first | assumption | omega | (simp only [zH]; omega)))
      · have hil : i < o.length := by omega
        have hap1 := hap1 hil
        repeat' first
          | with_reducible first | refine awp_seq ?_ | refine awp_block ?_ | refine next_then ?_ | refine next_block ?_ | refine exit_then ?_ | refine ret_then ?_ | refine ret_block ?_ | refine exit_here ?_ | refine awp_exit ?_ | refine awp_ret ?_ | refine awp_skip ?_ | refine awp_label ?_ | refine next_noGoto ?_ | refine ret_noGoto ?_ | refine exit_noGoto ?_ | refine awp_scope ?_
          | ((with_reducible refine exit_past ?_ ?_); exact rfl)
          | ((with_reducible refine isCond ?_); refine awp_condO rfl ?_ ?_ <;> intro hb <;> (try simp only [zH] at hb))
          | ((with_reducible refine isRegS 11 ?_ ?_); (· exact rfl); (with_reducible refine isRegS 12 ?_ ?_); (· exact rfl); (first | refine awp_textM htb hmz spIa_ok (fun _ => false) rfl rfl ?_ | refine awp_drawM hmo htb hmz spIa_ok (fun _ => false) rfl rfl (by kernel_rfl) ?_); intro m' e' l' ob h; simp only [zE0, zE1, zE2, zE3, zE4, zE5, evp, evx, ev1, evLoad, evStore, evBin, isBoolK, forall_const, z38, tb, Nat.reduceAdd, Nat.reduceSub, Nat.reduceMul, Nat.reduceEqDiff, Nat.reduceLeDiff, Nat.reduceLT, Nat.reduceBEq, Nat.reduceBNe, ↓reduceIte, reduceIte, spIa, fewS, awk15S, rwinS] at h; obtain ⟨rfl, rfl, rfl, rfl⟩ := h; refine ⟨?_, ?_⟩)
          | ((with_reducible refine Ob.mk ?_); first | exact trivial | (intros; omega) | ((repeat' first | apply And.intro | (intro hg; have hg' := hg; try simp only [zH] at hg')) <;> first | assumption | omega | (simp only [zH]; omega)))
        · exact (hap1 hb.1 hb.2).elim
        · repeat' first
            | with_reducible first | refine awp_seq ?_ | refine awp_block ?_ | refine next_then ?_ | refine next_block ?_ | refine exit_then ?_ | refine ret_then ?_ | refine ret_block ?_ | refine exit_here ?_ | refine awp_exit ?_ | refine awp_ret ?_ | refine awp_skip ?_ | refine awp_label ?_ | refine next_noGoto ?_ | refine ret_noGoto ?_ | refine exit_noGoto ?_ | refine awp_scope ?_
            | ((with_reducible refine exit_past ?_ ?_); exact rfl)
            | ((with_reducible refine isCond ?_); refine awp_condO rfl ?_ ?_ <;> intro hb <;> (try simp only [zH] at hb))
            | ((with_reducible refine isReg ?_); (first | refine awp_textM htb hmz spIa_ok (fun _ => false) rfl rfl ?_ | refine awp_drawM hmo htb hmz spIa_ok (fun _ => false) rfl rfl (by kernel_rfl) ?_); intro m' e' l' ob h; simp only [zE0, zE1, zE2, zE3, zE4, zE5, evp, evx, ev1, evLoad, evStore, evBin, isBoolK, forall_const, z38, tb, Nat.reduceAdd, Nat.reduceSub, Nat.reduceMul, Nat.reduceEqDiff, Nat.reduceLeDiff, Nat.reduceLT, Nat.reduceBEq, Nat.reduceBNe, ↓reduceIte, reduceIte, spIa, fewS, awk15S, rwinS] at h; obtain ⟨rfl, rfl, rfl, rfl⟩ := h; refine ⟨?_, ?_⟩)
            | ((with_reducible refine Ob.mk ?_); first | exact trivial | (intros; omega) | ((repeat' first | apply And.intro | (intro hg; have hg' := hg; try simp only [zH] at hg')) <;> first | assumption | omega | (simp only [zH]; omega)))
          refine back (i + 1) [] ?_ (by omega) (by omega)
          (refine ⟨rfl, ?_, ?_⟩ <;> simp only [zE0, zE1, zE2, zE3, zE4, zE5, evp, evx, ev1, evLoad, evStore, evBin, isBoolK, forall_const, z38, tb, Nat.reduceAdd, Nat.reduceSub, Nat.reduceMul, Nat.reduceEqDiff, Nat.reduceLeDiff, Nat.reduceLT, Nat.reduceBEq, Nat.reduceBNe, ↓reduceIte, reduceIte, spIa, fewS, awk15S, rwinS, zI])
      have hie : i = A.length := by omega
      subst hie
      repeat' first
        | with_reducible first | refine awp_seq ?_ | refine awp_block ?_ | refine next_then ?_ | refine next_block ?_ | refine exit_then ?_ | refine ret_then ?_ | refine ret_block ?_ | refine exit_here ?_ | refine awp_exit ?_ | refine awp_ret ?_ | refine awp_skip ?_ | refine awp_label ?_ | refine next_noGoto ?_ | refine ret_noGoto ?_ | refine exit_noGoto ?_ | refine awp_scope ?_
        | ((with_reducible refine exit_past ?_ ?_); exact rfl)
        | ((with_reducible refine isCond ?_); refine awp_condO rfl ?_ ?_ <;> intro hb <;> (try simp only [zH] at hb))
        | ((with_reducible refine isReg ?_); (first | refine awp_textM htb hmz spIa_ok (fun _ => false) rfl rfl ?_ | refine awp_drawM hmo htb hmz spIa_ok (fun _ => false) rfl rfl (by kernel_rfl) ?_); intro m' e' l' ob h; simp only [zE0, zE1, zE2, zE3, zE4, zE5, evp, evx, ev1, evLoad, evStore, evBin, isBoolK, forall_const, z38, tb, Nat.reduceAdd, Nat.reduceSub, Nat.reduceMul, Nat.reduceEqDiff, Nat.reduceLeDiff, Nat.reduceLT, Nat.reduceBEq, Nat.reduceBNe, ↓reduceIte, reduceIte, spIa, fewS, awk15S, rwinS] at h; obtain ⟨rfl, rfl, rfl, rfl⟩ := h; refine ⟨?_, ?_⟩)
        | ((with_reducible refine Ob.mk ?_); first | exact trivial | (intros; omega) | ((repeat' first | apply And.intro | (intro hg; have hg' := hg; try simp only [zH] at hg')) <;> first | assumption | omega | (simp only [zH]; omega)))
      refine fin_ret rfl rfl (spec_flat rfl ?_ rfl)
      rfl
    · repeat' first
        | with_reducible first | refine awp_seq ?_ | refine awp_block ?_ | refine next_then ?_ | refine next_block ?_ | refine exit_then ?_ | refine ret_then ?_ | refine ret_block ?_ | refine exit_here ?_ | refine awp_exit ?_ | refine awp_ret ?_ | refine awp_skip ?_ | refine awp_label ?_ | refine next_noGoto ?_ | refine ret_noGoto ?_ | refine exit_noGoto ?_ | refine awp_scope ?_
        | ((with_reducible refine exit_past ?_ ?_); exact rfl)
        | ((with_reducible refine isCond ?_); refine awp_condO rfl ?_ ?_ <;> intro hb <;> (try simp only [zH] at hb))
        | ((with_reducible refine isRegS 6 ?_ ?_); (· exact rfl); (with_reducible refine isRegS 7 ?_ ?_); (· exact rfl); (first | refine awp_textM htb hmz spIa_ok (fun _ => false) rfl rfl ?_ | refine awp_drawM hmo htb hmz spIa_ok (fun _ => false) rfl rfl (by kernel_rfl) ?_); intro m' e' l' ob h; simp only [zE0, zE1, zE2, zE3, zE4, zE5, evp, evx, ev1, evLoad, evStore, evBin, isBoolK, forall_const, z38, tb, Nat.reduceAdd, Nat.reduceSub, Nat.reduceMul, Nat.reduceEqDiff, Nat.reduceLeDiff, Nat.reduceLT, Nat.reduceBEq, Nat.reduceBNe, ↓reduceIte, reduceIte, spIa, fewS, awk15S, rwinS] at h; obtain ⟨rfl, rfl, rfl, rfl⟩ := h; refine ⟨?_, ?_⟩)
        | ((with_reducible refine Ob.mk ?_); first | exact trivial | (intros; omega) | ((repeat' first | apply And.intro | (intro hg; have hg' := hg; try simp only [zH] at hg')) <;> first | assumption | omega | (simp only [zH]; omega)))
      · repeat' first
          | with_reducible first | refine awp_seq ?_ | refine awp_block ?_ | refine next_then ?_ | refine next_block ?_ | refine exit_then ?_ | refine ret_then ?_ | refine ret_block ?_ | refine exit_here ?_ | refine awp_exit ?_ | refine awp_ret ?_ | refine awp_skip ?_ | refine awp_label ?_ | refine next_noGoto ?_ | refine ret_noGoto ?_ | refine exit_noGoto ?_ | refine awp_scope ?_
          | ((with_reducible refine exit_past ?_ ?_); exact rfl)
          | ((with_reducible refine isCond ?_); refine awp_condO rfl ?_ ?_ <;> intro hb <;> (try simp only [zH] at hb))
          | ((with_reducible refine isReg ?_); (first | refine awp_textM htb hmz spIa_ok (fun _ => false) rfl rfl ?_ | refine awp_drawM hmo htb hmz spIa_ok (fun _ => false) rfl rfl (by kernel_rfl) ?_); intro m' e' l' ob h; simp only [zE0, zE1, zE2, zE3, zE4, zE5, evp, evx, ev1, evLoad, evStore, evBin, isBoolK, forall_const, z38, tb, Nat.reduceAdd, Nat.reduceSub, Nat.reduceMul, Nat.reduceEqDiff, Nat.reduceLeDiff, Nat.reduceLT, Nat.reduceBEq, Nat.reduceBNe, ↓reduceIte, reduceIte, spIa, fewS, awk15S, rwinS] at h; obtain ⟨rfl, rfl, rfl, rfl⟩ := h; refine ⟨?_, ?_⟩)
          | ((with_reducible refine Ob.mk ?_); first | exact trivial | (intros; omega) | ((repeat' first | apply And.intro | (intro hg; have hg' := hg; try simp only [zH] at hg')) <;> first | assumption | omega | (simp only [zH]; omega)))
        refine fin_ret rfl rfl (spec_flat rfl ?_ rfl)
        rfl
      exfalso
      simp [h] at hb
  · repeat' first
      | with_reducible first | refine awp_seq ?_ | refine awp_block ?_ | refine next_then ?_ | refine next_block ?_ | refine exit_then ?_ | refine ret_then ?_ | refine ret_block ?_ | refine exit_here ?_ | refine awp_exit ?_ | refine awp_ret ?_ | refine awp_skip ?_ | refine awp_label ?_ | refine next_noGoto ?_ | refine ret_noGoto ?_ | refine exit_noGoto ?_ | refine awp_scope ?_
      | ((with_reducible refine exit_past ?_ ?_); exact rfl)
      | ((with_reducible refine isCond ?_); refine awp_condO rfl ?_ ?_ <;> intro hb <;> (try simp only [zH] at hb))
      | ((with_reducible refine isRegS 6 ?_ ?_); (· exact rfl); (with_reducible refine isRegS 7 ?_ ?_); (· exact rfl); (first | refine awp_textM htb hmz spIa_ok (fun _ => false) rfl rfl ?_ | refine awp_drawM hmo htb hmz spIa_ok (fun _ => false) rfl rfl (by kernel_rfl) ?_); intro m' e' l' ob h; simp only [zE0, zE1, zE2, zE3, zE4, zE5, evp, evx, ev1, evLoad, evStore, evBin, isBoolK, forall_const, z38, tb, Nat.reduceAdd, Nat.reduceSub, Nat.reduceMul, Nat.reduceEqDiff, Nat.reduceLeDiff, Nat.reduceLT, Nat.reduceBEq, Nat.reduceBNe, ↓reduceIte, reduceIte, spIa, fewS, awk15S, rwinS] at h; obtain ⟨rfl, rfl, rfl, rfl⟩ := h; refine ⟨?_, ?_⟩)
      | ((with_reducible refine Ob.mk ?_); first | exact trivial | (intros; omega) | ((repeat' first | apply And.intro | (intro hg; have hg' := hg; try simp only [zH] at hg')) <;> first | assumption | omega | (simp only [zH]; omega)))
    · repeat' first
        | with_reducible first | refine awp_seq ?_ | refine awp_block ?_ | refine next_then ?_ | refine next_block ?_ | refine exit_then ?_ | refine ret_then ?_ | refine ret_block ?_ | refine exit_here ?_ | refine awp_exit ?_ | refine awp_ret ?_ | refine awp_skip ?_ | refine awp_label ?_ | refine next_noGoto ?_ | refine ret_noGoto ?_ | refine exit_noGoto ?_ | refine awp_scope ?_
        | ((with_reducible refine exit_past ?_ ?_); exact rfl)
        | ((with_reducible refine isCond ?_); refine awp_condO rfl ?_ ?_ <;> intro hb <;> (try simp only [zH] at hb))
        | ((with_reducible refine isReg ?_); (first | refine awp_textM htb hmz spIa_ok (fun _ => false) rfl rfl ?_ | refine awp_drawM hmo htb hmz spIa_ok (fun _ => false) rfl rfl (by kernel_rfl) ?_); intro m' e' l' ob h; simp only [zE0, zE1, zE2, zE3, zE4, zE5, evp, evx, ev1, evLoad, evStore, evBin, isBoolK, forall_const, z38, tb, Nat.reduceAdd, Nat.reduceSub, Nat.reduceMul, Nat.reduceEqDiff, Nat.reduceLeDiff, Nat.reduceLT, Nat.reduceBEq, Nat.reduceBNe, ↓reduceIte, reduceIte, spIa, fewS, awk15S, rwinS] at h; obtain ⟨rfl, rfl, rfl, rfl⟩ := h; refine ⟨?_, ?_⟩)
        | ((with_reducible refine Ob.mk ?_); first | exact trivial | (intros; omega) | ((repeat' first | apply And.intro | (intro hg; have hg' := hg; try simp only [zH] at hg')) <;> first | assumption | omega | (simp only [zH]; omega)))
      refine fin_ret rfl rfl (spec_flat rfl ?_ rfl)
      rfl
    exfalso
    simp [h] at hb
end Go.Proofs.Ytbcghiagomkadaa.Cal
namespace Go.Proofs.Ytbcghiagomkadaa.Cal
open Go Go.ChangeShapes Go.WideShapes Go.ChangeAt Go.RowKit Go.Deep
/-- The memory that was there at the call. -/
def old (w : World) : Nat → Prop := fun b => b < w.heap.size
def light {H : Type} (P : Program) (t : Nat) (d : DataW H) : Prop := ∀ n, n ∈ d.weights P t → n ≤ 140737488351232
section
variable {H : Type} {enc : TypeId × Value → H} {P : Program} {w : World} {base : Nat} {spare : Nat → Bool} {held : Bool}
theorem weights_all {e : TypeId} {d : DataW H} : ∀ {l : List (DataW H)}, d ∈ l → ∀ n, n ∈ d.weights P e → n ∈ DataW.weightsAll P e l
  | [], h, _, _ => absurd h List.not_mem_nil
  | x :: l, h, n, hn => by
    simp only [DataW.weightsAll, List.mem_append]
    rcases List.mem_cons.1 h with rfl | h
    · exact .inl hn
    · exact .inr (weights_all h n hn)
theorem cell_lt {a : Addr} {v : Value} (h : w.cell? a = some v) : a.spot = none ∧ a.block < w.heap.size := by
  unfold World.cell? at h
  cases hb : w.heap[a.block]? with
  | none => rw [hb] at h; cases h
  | some o =>
    rw [hb] at h
    refine ⟨?_, (Array.getElem?_eq_some_iff.1 hb).1⟩
    cases o <;> first | (cases h; done) | skip
    dsimp only at h
    split at h
    · cases h
    · rename_i hs; simpa using hs
/-- A slice that is read, whatever its elements are: of one cell each. -/
theorem rd_slice {α : Type} {t e fuel : Nat} {v : Value} {x : DataW H × List MemPlace} (d0 : α) (G : α → List Value → Prop) (ht : P.underlying t = some (.slice e)) (hc : P.cellsOf e = 1) (hB : 8 ≤ P.bytesOf e ∨ 1 ≤ P.bytesOf e)
    (hel : ∀ n c y, DataW.trod enc P w base spare held n e [c] = some y → light P e y.1 → ∃ a, G a [c])
    (h : DataW.trod enc P w base spare held fuel t [v] = some x) (hl : light P t x.1) : ∃ l : List α, roRow (old w) w 1 l.length (fun j es => G (l.getD j d0) es) [v] := by
  rcases open_slice1 ht hc h with ⟨hcs, _⟩ | ⟨a, len, cap, m, n, V, D, Pl, hcs, hba, hle, hcap, hm, hx, hel2⟩
  · cases hcs
    exact ⟨[], none, 0, rfl, Nat.le_refl _, Nat.zero_le _, fun h => absurd h (Nat.lt_irrefl 0)⟩
  · cases hcs
    subst hx
    have hlm : len ≤ m := by rw [hm]; split <;> omega
    have hex : ∀ i, i < len → ∃ a, G a [V i] := fun i hi => by
      obtain ⟨h1, h2⟩ := hel2 i (by omega)
      refine hel _ _ _ h2 fun k hk => hl k ?_
      simp only [DataW.weights, ht, List.mem_cons, List.mem_append]
      exact .inr (.inl (weights_all (List.mem_map.2 ⟨i, List.mem_range.2 hi, rfl⟩) k hk))
    obtain ⟨F, hF⟩ : ∃ F : Nat → α, ∀ i, i < len → G (F i) [V i] := by
      refine ⟨fun i => if h : i < len then Classical.choose (hex i h) else d0, fun i hi => ?_⟩
      simp only [dif_pos hi]
      exact Classical.choose_spec (hex i hi)
    refine ⟨(List.range len).map F, some a, cap, by simp, by simpa using hle, ?_, fun hn => ?_⟩
    · have := hl ((((List.range len).map D).length + ((List.range (m - len)).map fun j => D (len + j)).length) * P.bytesOf e) (by simp only [DataW.weights, ht]; exact List.mem_cons_self)
      simp only [List.length_map, List.length_range] at this ⊢
      have hb1 : 1 ≤ P.bytesOf e := by omega
      have h3 : len ≤ (len + (m - len)) * P.bytesOf e := Nat.le_trans (Nat.le_add_right _ _) (Nat.le_mul_of_pos_right _ hb1)
      unfold lim; omega
    · simp only [List.length_map, List.length_range] at hn ⊢
      obtain ⟨h0, _⟩ := hel2 0 (by omega)
      obtain ⟨s1, s2⟩ := cell_lt h0
      obtain ⟨b, off, spot⟩ := a
      obtain rfl : spot = none := by simpa [Addr.add] using s1
      refine ⟨b, off, rfl, by simpa [Addr.add, old] using s2, fun j hj => ⟨[V j], ?_, rfl, fun i c hi => ?_⟩⟩
      · have : ((List.range len).map F).getD j d0 = F j := by simp [List.getD_eq_getElem?_getD, hj]
        rw [this]; exact hF j hj
      · cases i with
        | succ i => simp at hi
        | zero =>
          simp only [List.getElem?_cons_zero, Option.some.injEq] at hi
          subst hi
          obtain ⟨h1, _⟩ := hel2 j (by omega)
          rw [← Go.WideShapes.add_plain, Nat.mul_one, Nat.add_zero]; exact h1
theorem rd_ints {t e fuel : Nat} {v : Value} {x : DataW H × List MemPlace} (ht : P.underlying t = some (.slice e)) (he : P.underlying e = some (.int .i64)) (hc : P.cellsOf e = 1) (hB : 1 ≤ P.bytesOf e)
    (h : DataW.trod enc P w base spare held fuel t [v] = some x) (hl : light P t x.1) (ν : Nat → Value) (m : Bool) : ∃ l : List Int, R (old w) w (.roI l) ν m [v] :=
  rd_slice 0 (fun n es => es = [.int .i64 n]) ht hc (.inr hB) (fun n c y hy _ => by
    obtain ⟨k, hk, _⟩ := DataW.trod_int he hy
    exact ⟨k, hk⟩) h hl
theorem rd_intss {t e e2 fuel : Nat} {v : Value} {x : DataW H × List MemPlace} (ht : P.underlying t = some (.slice e)) (hc : P.cellsOf e = 1) (hB : 1 ≤ P.bytesOf e) (he : P.underlying e = some (.slice e2)) (he2 : P.underlying e2 = some (.int .i64)) (hc2 : P.cellsOf e2 = 1) (hB2 : 1 ≤ P.bytesOf e2)
    (h : DataW.trod enc P w base spare held fuel t [v] = some x) (hl : light P t x.1) (ν : Nat → Value) (m : Bool) : ∃ l : List (List Int), R (old w) w (.roII l) ν m [v] :=
  rd_slice [] (fun l es => R (old w) w (.roI l) ν m es) ht hc (.inr hB) (fun n c y hy hl => rd_ints he he2 hc2 hB2 hy hl ν m) h hl
/-- A game among the arguments. -/
theorem rd_game {r : Reach} {b0 t : Nat} {f0 f1 f2 : Field} {v : Value} {d : DataW H} {p : List MemPlace} (hs : P.underlying t = some (.struct #[f0, f1, f2])) (hone : oneCellFields P #[f0, f1, f2] = true) (hC : P.cellsOf t = 3) (hv : Value.okWide P w r b0 t v) (h : DataW.Trod enc P w base spare held t v d p) (hl : light P t d)
    {e1 e2 : Nat} (h0 : P.underlying f0.type = some (.slice e1)) (h1 : P.underlying f1.type = some (.slice e1)) (h2 : P.underlying f2.type = some (.slice e2)) (he1 : P.underlying e1 = some (.int .i64)) (he2 : P.underlying e2 = some (.slice e1)) (hc1 : P.cellsOf e1 = 1) (hc2 : P.cellsOf e2 = 1) (hB1 : 1 ≤ P.bytesOf e1) (hB2 : 1 ≤ P.bytesOf e2) (ν : Nat → Value) :
    ∃ g : Gm, R (old w) w (gmA g) ν true [v] := by
  obtain ⟨v0, v1, v2, y0, y1, y2, n, rfl, rfl, rfl, t0, t1, t2⟩ := Go.Joins.open_agg3 hs hone hC hv h
  have hw : ∀ k, k ∈ y0.1.weights P f0.type ∨ k ∈ y1.1.weights P f1.type ∨ k ∈ y2.1.weights P f2.type → k ≤ 140737488351232 := fun k hk => hl k (by
    simp only [DataW.weights, hs, DataW.weightsEach, List.mem_append, List.map_cons, List.map_nil, List.not_mem_nil, or_false]
    exact hk)
  obtain ⟨o, ho⟩ := rd_ints h0 he1 hc1 hB1 t0 (fun k hk => hw k (.inl hk)) ν true
  obtain ⟨q, hq⟩ := rd_ints h1 he1 hc1 hB1 t1 (fun k hk => hw k (.inr (.inl hk))) ν true
  obtain ⟨x, hx⟩ := rd_intss h2 hc2 hB2 he2 he1 hc1 hB1 t2 (fun k hk => hw k (.inr (.inr hk))) ν true
  exact ⟨⟨o, q, x⟩, [v0, v1, v2], rfl, v0, [v1, v2], rfl, ho, v1, [v2], rfl, hq, v2, [], rfl, hx, rfl⟩
theorem light_of {ts : List TypeId} {ds : List (DataW H)} (hsz : (DataW.weightsEach P ts ds).all (· ≤ reachBytes) = true) {j t : Nat} {d : DataW H} (ht : ts[j]? = some t) (hd : ds[j]? = some d) : light P t d := fun n hn => by
  have := List.all_eq_true.1 hsz _ (DataW.weights_mem_each ht hd n hn)
  exact of_decide_eq_true this
end
/-- A law's contract, as its row asks for it. -/
theorem law_calls {P : Program} {f : Nat} {S : Spec} (hS : FSpec P f S) {args : List AV} {W : World} {vals : Array Value} (hs : S args = some ⟨True, .bool true, none⟩) (hm : men noK (mkL args) = true) (hr : R (old W) W (mkL args) nu0 true vals.toList) :
    Calls P f vals W fun e W' => e = .returned (.bool true) ∧ Below W.heap.size W W' := by
  have := hS.2 args _ hs trivial hm (old W) (old W) nu0 W vals (fun _ => rfl) hr (men_free hm) ⟨fun _ _ => False, fun k b h => by cases h⟩ (fun _ h => h) (fun _ h => h)
  refine CallsIn.calls (F := FF none) (n := 0) (CallsIn.mono (ff_calls this) ?_) (fun k d hd => by cases hd)
  rintro e W' ⟨y, Z', ν', v, μ', rs', rfl, hst, _, _, _, hr', _, _, _, rfl, _⟩
  have : y = .bool true := one1 hr'
  subst this
  exact ⟨rfl, hst.ext.os, hst.ext.tape, hst.ext.output, hst.ext.size, fun k hk => hst.ext.block k hk⟩
end Go.Proofs.Ytbcghiagomkadaa.Cal
