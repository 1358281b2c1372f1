/- Own texts, merged. -/
import Derived.Deep.Slices
import Derived.Lib.SmallJoins
import Derived.ProofKit
import Derived.OpenShut
import Derived.ShutString
import Derived.ChangeOld
import Derived.Below
import Derived.SizedLaws
import Derived.Test.YtbcghiagomkadaaS16
set_option linter.unusedVariables false
set_option linter.unusedSimpArgs false
open Nat (reduceAdd reduceSub reduceMul reduceEqDiff reduceLeDiff reduceLT)
namespace Go.Proofs.Ytbcghiagomkadaa.Cal
open Go Pl
def exA : Gm := ⟨[0, 1], [1, 2], [[0, 1], [0, 1]]⟩
theorem exA_valid : Zbc exA = true := by
  refine validB_iff.2 ⟨by decide, rfl, rfl, fun v hv => ?_⟩
  have hv : v < 2 := hv
  have : v = 0 ∨ v = 1 := by omega
  rcases this with rfl | rfl
  · refine ⟨by decide, fun i hi => ?_⟩
    have hi : i < 2 := hi
    have : i = 0 ∨ i = 1 := by omega
    rcases this with rfl | rfl <;> exact ⟨by decide, by decide, by decide⟩
  · refine ⟨by decide, fun i hi => ?_⟩
    have hi : i < 2 := hi
    have : i = 0 ∨ i = 1 := by omega
    rcases this with rfl | rfl <;> exact ⟨by decide, by decide, by decide⟩
theorem exA_full (a : Int) (h : a = 0 ∨ a = 1) : Zdg exA 0 [a, -1] = true := by
  refine decide_eq_true ⟨rfl, fun v hv => ?_⟩
  have hv : v < 2 := hv
  have : v = 0 ∨ v = 1 := by omega
  rcases this with rfl | rfl
  · refine ⟨fun _ => ?_, fun h => absurd rfl h⟩
    show a ∈ [(0 : Int), 1]
    rcases h with rfl | rfl <;> decide
  · exact ⟨fun h => absurd h (by decide), fun _ => rfl⟩
theorem Zib (a : Int) (h : a = 0 ∨ a = 1) : Zcp exA 0 [a, -1] = 0 := Zjs exA_valid (by decide) (exA_full a h)
theorem exA_lost : alLs [0, 1] [1, 2] [[0, 1], [0, 1]] 0 = [false, false] := by
  have hb : ∀ u, u < 2 → ¬ alBs [0, 1] [1, 2] [[0, 1], [0, 1]] 0 u := fun u hu h => by
    have : u = 0 ∨ u = 1 := by omega
    rcases this with rfl | rfl
    · exact absurd rfl h.1.1
    · exact absurd rfl h.1.2
  have hf : ∀ v, v < 2 → (alLs [0, 1] [1, 2] [[0, 1], [0, 1]] 0).getD v false = false := fun v hv => by
    cases h : (alLs [0, 1] [1, 2] [[0, 1], [0, 1]] 0).getD v false with
    | false => rfl
    | true =>
      obtain ⟨u, h1, h2, _⟩ := (Zez (o := [0, 1]) hv).1 h
      exact absurd h2 (hb u h1)
  refine Zkz Zfv fun j hj => ?_
  rw [Zfv] at hj
  have hj : j < 2 := hj
  rw [hf j hj]
  have : j = 0 ∨ j = 1 := by omega
  rcases this with rfl | rfl <;> rfl
def exH : Im := ⟨[0, 1], [1, 2], [[0, 1], [0, 1]], 0, ⟨false, false, [0, 0, 0]⟩, [false, false]⟩
theorem exA_im : imB [0, 1] [1, 2] [[0, 1], [0, 1]] 0 = exH := by
  unfold imB
  rw [exA_lost]; rfl
theorem exA_run : BRun exH 1 [-1, -1] 1 (vIt exH [1, -1] 0) [1, -1] := by
  have h1 : VEnd exH [-1, -1] 1 := by
    refine ⟨by decide, fun j hj => ?_, by decide⟩
    obtain rfl : j = 0 := by omega
    decide
  have h2 : VEnd exH [1, -1] 0 := by
    refine ⟨by decide, fun j hj => absurd hj (Nat.not_lt_zero _), by decide⟩
  have h3 : bNx exH [-1, -1] 1 = ([1, -1], true) := by decide
  have h4 : bNx exH [1, -1] 0 = ([1, -1], false) := by decide
  have h5 := BRun.stop h2 (by rw [h4])
  rw [h4] at h5
  exact .more h1 (by rw [h3]) (by rw [h3]; exact h5)
theorem exA_won : (List.range 2).map (fun v => (vIt exH [1, -1] 0 v).e) = [true, true] := by decide
theorem exA_from0 : Za7 exA 0 [0, -1] = [false, false] := by
  have ha : Zkp (Zbw exA 0 [0, -1]) 1 0 := ⟨rfl, 0, ⟨by decide, (by decide : (1 : Int) ≤ 1)⟩, .refl _⟩
  have h0 : Zga (Zbw exA 0 [0, -1]) 1 0 := ⟨0, by decide, ha, .refl _⟩
  have h1 : Zga (Zbw exA 0 [0, -1]) 1 1 := ⟨0, by decide, ha, Rch.one (by decide)⟩
  show [!(Zcl (Zbw exA 0 [0, -1]) 1).getD 0 false, !(Zcl (Zbw exA 0 [0, -1]) 1).getD 1 false] = _
  rw [(Zc6 (by decide)).2 h0, (Zc6 (by decide)).2 h1]; rfl
theorem exA_from1 : Za7 exA 0 [1, -1] = [true, true] := by
  have hn : ∀ v, ¬ Zga (Zbw exA 0 [1, -1]) 1 v := by
    rintro v ⟨w, hw, ⟨hp, t, ht, _⟩, _⟩
    have hw : w < 2 := hw
    have : w = 0 ∨ w = 1 := by omega
    rcases this with rfl | rfl
    · obtain ⟨h1, h2⟩ := ht
      have h1 : t ∈ [1] := h1
      rw [List.mem_singleton.1 h1] at h2
      have h2 : (2 : Int) ≤ 1 := h2
      exact absurd h2 (by decide)
    · exact absurd hp (by decide)
  have hf : ∀ v, v < 2 → (Zcl (Zbw exA 0 [1, -1]) 1).getD v false = false := fun v hv => by
    cases h : (Zcl (Zbw exA 0 [1, -1]) 1).getD v false with
    | false => rfl
    | true => exact absurd ((Zc6 hv).1 h) (hn v)
  show [!(Zcl (Zbw exA 0 [1, -1]) 1).getD 0 false, !(Zcl (Zbw exA 0 [1, -1]) 1).getD 1 false] = _
  rw [hf 0 (by decide), hf 1 (by decide)]; rfl
open Go Pl
def exS : Spec
  | [] => some ⟨True, .agg (.cons (.roI [0, 1]) (.cons (.roI [1, 2]) (.cons (.roII [[0, 1], [0, 1]]) .nil))), none⟩
  | _ => none
set_option maxRecDepth 4000 in
set_option maxHeartbeats 4000000 in
theorem ex_ok : Zb2 Try.prog 28 exS := by
  refine Za3 htb (fn := Try.f28) (by kernel_rfl) (by kernel_rfl) rfl (fun args r hS => ?_) (fun args r hS hob hl => ?_)
  · unfold exS at hS; split at hS <;> first | (cases hS; done) | (cases hS; exact Nat.le_of_ble_eq_true rfl)
  unfold exS at hS
  split at hS
  case h_2 => cases hS
  simp only [Option.some.injEq] at hS
  subst hS
  repeat' first
    | with_reducible first | apply Zan | apply Zaj | apply Zab | apply Zac | apply Zag | apply Zal | apply Zaf | apply Zah | apply Zam | apply Zao | apply Zak
    | ((with_reducible refine Zap ?_); refine Zai rfl ?_ ?_ <;> intro hb <;> (try simp only [zH] at hb)) | ((with_reducible refine Zax ?_); (first | refine Zad htb hmz noSp fF rfl rfl ?_ | refine Zae hmo htb hmz noSp fF rfl rfl (by kernel_rfl) ?_); intro _ _ _ _ h; simp only [zE, evp, evx, ev1, evLoad, evStore, evBin, Zaa, forall_const, z38, tb, reduceAdd, reduceSub, reduceMul, reduceEqDiff, reduceLeDiff, reduceLT, Nat.reduceBEq, Nat.reduceBNe, ↓reduceIte, reduceIte] at h; obtain ⟨rfl, rfl, rfl, rfl⟩ := h; refine ⟨?_, ?_⟩) | ((with_reducible refine Ob.mk ?_); first | exact trivial | (intros; omega) | ((repeat' first | apply And.intro | (intro a; have b := a; try simp only [zH] at b)) <;> first | assumption | omega | (simp only [zH]; omega)))
  refine Zav rfl rfl (Zas rfl ?_ rfl)
  rfl
theorem Zhi : Za7 ⟨[0, 1], [1, 2], [[0, 1], [0, 1]]⟩ 0 [0, -1] = [false, false] := exA_from0
theorem Zhh : Za7 ⟨[0, 1], [1, 2], [[0, 1], [0, 1]]⟩ 0 [1, -1] = [true, true] := exA_from1
theorem Zhk : Zcp ⟨[0, 1], [1, 2], [[0, 1], [0, 1]]⟩ 0 [0, -1] = 0 := Zib 0 (.inl rfl)
theorem Zhj : Zcp ⟨[0, 1], [1, 2], [[0, 1], [0, 1]]⟩ 0 [1, -1] = 0 := Zib 1 (.inr rfl)
theorem exA_btr : FG Try.prog 11 [.agg (.cons (.roI [0, 1]) (.cons (.roI [1, 2]) (.cons (.roII [[0, 1], [0, 1]]) .nil))), .roI [0, -1]] [] 0 fun g => g = ⟨0, .tup (.cons (.roI [1, -1]) (.cons (.bool true) (.cons (.int .i64 0) .nil))), []⟩ := by
  have h := btr_fg (o := [0, 1]) (p := [1, 2]) (x := [[0, 1], [0, 1]]) (c := [0, -1]) exA_valid (Zib 0 (.inl rfl)) (by rw [exA_im]; exact exA_run)
  have h1 : Za7 ⟨[0, 1], [1, 2], [[0, 1], [0, 1]]⟩ 0 [0, -1] = [false, false] := exA_from0
  have h2 : (List.range [(0 : Int), 1].length).map (fun v => (vIt exH [1, -1] 0 v).e) = [true, true] := exA_won
  rw [h1, h2] at h
  exact h
def Zba : Spec
  | [] => some ⟨True, .bool true, none⟩
  | _ => none
noncomputable def spAz : Nat → Option Spec
  | 28 => some exS
  | 16 => some Zhc
  | 20 => some Zbv
  | _ => none
theorem Zf0 : SpOK Try.prog spAz := by
  intro f S h
  unfold spAz at h
  split at h
  · cases h; exact ex_ok
  · cases h; exact iwin_ok
  · cases h; exact bits_ok
  · cases h
set_option maxRecDepth 4000 in
set_option maxHeartbeats 4000000 in
theorem awk15_ok : Zb2 Try.prog 9 Zba := by
  refine Za3 htb (fn := Try.f9) (by kernel_rfl) (by kernel_rfl) rfl (fun args r hS => ?_) (fun args r hS hob hl => ?_)
  · unfold Zba at hS; split at hS <;> first | (cases hS; done) | (cases hS; exact Nat.le_of_ble_eq_true rfl)
  unfold Zba at hS
  split at hS
  case h_2 => cases hS
  simp only [Option.some.injEq] at hS
  subst hS
  repeat' first
    | with_reducible first | apply Zan | apply Zaj | apply Zab | apply Zac | apply Zag | apply Zal | apply Zaf | apply Zah | apply Zam | apply Zao | apply Zak
    | ((with_reducible refine Zap ?_); refine Zai rfl ?_ ?_ <;> intro hb <;> (try simp only [zH] at hb)) | ((with_reducible refine Zaq 3 ?_ ?_); (· exact rfl); (first | refine Zad htb hmz Zf0 fF rfl rfl ?_ | refine Zae hmo htb hmz Zf0 fF rfl rfl (by kernel_rfl) ?_); intro _ _ _ _ h; simp only [zE, evp, evx, ev1, evLoad, evStore, evBin, Zaa, forall_const, z38, tb, reduceAdd, reduceSub, reduceMul, reduceEqDiff, reduceLeDiff, reduceLT, Nat.reduceBEq, Nat.reduceBNe, ↓reduceIte, reduceIte, spAz, exS, Zhc, Zbv, Zhi, Zhh, Zhk, Zhj] at h; obtain ⟨rfl, rfl, rfl, rfl⟩ := h; refine ⟨?_, ?_⟩) | ((with_reducible refine Ob.mk ?_); first | exact trivial | (intros; omega) | ((repeat' first | apply And.intro | (intro a; have b := a; try simp only [zH] at b)) <;> first | assumption | omega | (simp only [zH]; omega)))
  refine Zcy ([_, _]) ([_, _, _, _, _, _, _]) rfl rfl ?_
  refine Zay htb hmz Zf0 fF rfl rfl rfl ?_; intro _ _ _ _ h; simp only [zE, evp, evx, ev1, evLoad, evStore, evBin, Zaa, forall_const, z38, tb, reduceAdd, reduceSub, reduceMul, reduceEqDiff, reduceLeDiff, reduceLT, Nat.reduceBEq, Nat.reduceBNe, ↓reduceIte, reduceIte, spAz, exS, Zhc, Zbv, Zhi, Zhh, Zhk, Zhj] at h; obtain ⟨rfl, rfl, rfl, rfl⟩ := h; refine ⟨?_, Zab ?_⟩
  · first | ((with_reducible refine Ob.mk ?_); first | exact trivial | (intros; omega) | ((repeat' first | apply And.intro | (intro a; have b := a; try simp only [zH] at b)) <;> first | assumption | omega | (simp only [zH]; omega))) | skip
  refine Zbg ([]) (exA_btr) rfl rfl rfl rfl rfl rfl rfl rfl rfl (by simp only [rinR, rhoC, zE, evp, evx, ev1, evLoad, evStore, evBin, Zaa, forall_const, z38, tb, reduceAdd, reduceSub, reduceMul, reduceEqDiff, reduceLeDiff, reduceLT, Nat.reduceBEq, Nat.reduceBNe, ↓reduceIte, reduceIte, spAz, exS, Zhc, Zbv, Zhi, Zhh, Zhk, Zhj]) ?_; intro gm gv gr hq m' e' l' h; simp only [GR.mk.injEq] at hq; obtain ⟨rfl, rfl, rfl⟩ := hq; simp only [rhoC, outR, renR, dels, zE, evp, evx, ev1, evLoad, evStore, evBin, Zaa, forall_const, z38, tb, reduceAdd, reduceSub, reduceMul, reduceEqDiff, reduceLeDiff, reduceLT, Nat.reduceBEq, Nat.reduceBNe, ↓reduceIte, reduceIte, spAz, exS, Zhc, Zbv, Zhi, Zhh, Zhk, Zhj] at h; obtain ⟨rfl, rfl, rfl⟩ := h; refine Zab ?_
  refine Zay htb hmz Zf0 fF rfl rfl rfl ?_; intro _ _ _ _ h; simp only [zE, evp, evx, ev1, evLoad, evStore, evBin, Zaa, forall_const, z38, tb, reduceAdd, reduceSub, reduceMul, reduceEqDiff, reduceLeDiff, reduceLT, Nat.reduceBEq, Nat.reduceBNe, ↓reduceIte, reduceIte, spAz, exS, Zhc, Zbv, Zhi, Zhh, Zhk, Zhj] at h; obtain ⟨rfl, rfl, rfl, rfl⟩ := h; refine ⟨?_, ?_⟩
  · first | ((with_reducible refine Ob.mk ?_); first | exact trivial | (intros; omega) | ((repeat' first | apply And.intro | (intro a; have b := a; try simp only [zH] at b)) <;> first | assumption | omega | (simp only [zH]; omega))) | skip
  refine Zab ?_
  repeat' first
    | with_reducible first | apply Zan | apply Zaj | apply Zab | apply Zac | apply Zag | apply Zal | apply Zaf | apply Zah | apply Zam | apply Zao | apply Zak
    | ((with_reducible refine Zap ?_); refine Zai rfl ?_ ?_ <;> intro hb <;> (try simp only [zH] at hb)) | ((with_reducible refine Zax ?_); (first | refine Zad htb hmz Zf0 fF rfl rfl ?_ | refine Zae hmo htb hmz Zf0 fF rfl rfl (by kernel_rfl) ?_); intro _ _ _ _ h; simp only [zE, evp, evx, ev1, evLoad, evStore, evBin, Zaa, forall_const, z38, tb, reduceAdd, reduceSub, reduceMul, reduceEqDiff, reduceLeDiff, reduceLT, Nat.reduceBEq, Nat.reduceBNe, ↓reduceIte, reduceIte, spAz, exS, Zhc, Zbv, Zhi, Zhh, Zhk, Zhj] at h; obtain ⟨rfl, rfl, rfl, rfl⟩ := h; refine ⟨?_, ?_⟩) | ((with_reducible refine Ob.mk ?_); first | exact trivial | (intros; omega) | ((repeat' first | apply And.intro | (intro a; have b := a; try simp only [zH] at b)) <;> first | assumption | omega | (simp only [zH]; omega)))
  refine Zav rfl rfl (Zas rfl ?_ rfl)
  rfl
open Go Pl
noncomputable def spIt : Nat → Option Spec
  | 8 => some fewS
  | 9 => some Zba
  | 10 => some Zbq
  | 12 => some Zbp
  | 14 => some Zbj
  | 15 => some Zbk
  | 13 => some Zbo
  | _ => none
theorem Za1 : SpOK Try.prog spIt := by
  intro f S h
  unfold spIt at h
  split at h
  · cases h; exact few_ok
  · cases h; exact awk15_ok
  · cases h; exact asks_ok
  · cases h; exact best_ok
  · cases h; exact full_ok
  · cases h; exact from_ok
  · cases h; exact list_ok
  · cases h
def gnS : Spec
  | [.agg (.cons (.roI o) (.cons (.roI p) (.cons (.roII x) .nil))), .roI _] => some ⟨True, .bool true, none⟩
  | _ => none
set_option maxRecDepth 4000 in
set_option maxHeartbeats 4000000 in
theorem itl_ok : Zb2 Try.prog 3 gnS := by
  refine Za3 htb (fn := Try.f3) (by kernel_rfl) (by kernel_rfl) rfl (fun args r hS => ?_) (fun args r hS hob hl => ?_)
  · unfold gnS at hS; split at hS <;> first | (cases hS; done) | (cases hS; exact Nat.le_of_ble_eq_true rfl)
  unfold gnS at hS
  split at hS
  case h_2 => cases hS
  rename_i o p x c
  simp only [Option.some.injEq] at hS
  subst hS
  simp only [lenP, mkL, lim] at hl
  dsimp only at hob
  repeat' first
    | with_reducible first | apply Zan | apply Zaj | apply Zab | apply Zac | apply Zag | apply Zal | apply Zaf | apply Zah | apply Zam | apply Zao | apply Zak
    | ((with_reducible refine Zap ?_); refine Zai rfl ?_ ?_ <;> intro hb <;> (try simp only [zH] at hb)) | ((with_reducible refine Zaq 3 ?_ ?_); (· exact rfl); (first | refine Zad htb hmz Za1 fF rfl rfl ?_ | refine Zae hmo htb hmz Za1 fF rfl rfl (by kernel_rfl) ?_); intro _ _ _ _ h; simp only [zE, evp, evx, ev1, evLoad, evStore, evBin, Zaa, forall_const, z38, tb, reduceAdd, reduceSub, reduceMul, reduceEqDiff, reduceLeDiff, reduceLT, Nat.reduceBEq, Nat.reduceBNe, ↓reduceIte, reduceIte, spIt, fewS, Zba, Zbq, Zbp, Zbj, Zbk, Zbo] at h; obtain ⟨rfl, rfl, rfl, rfl⟩ := h; refine ⟨?_, ?_⟩) | ((with_reducible refine Ob.mk ?_); first | exact trivial | (intros; omega) | ((repeat' first | apply And.intro | (intro a; have b := a; try simp only [zH] at b)) <;> first | assumption | omega | (simp only [zH]; omega)))
  · repeat' first
      | with_reducible first | apply Zan | apply Zaj | apply Zab | apply Zac | apply Zag | apply Zal | apply Zaf | apply Zah | apply Zam | apply Zao | apply Zak
      | ((with_reducible refine Zap ?_); refine Zai rfl ?_ ?_ <;> intro hb <;> (try simp only [zH] at hb)) | ((with_reducible refine Zax ?_); (first | refine Zad htb hmz Za1 fF rfl rfl ?_ | refine Zae hmo htb hmz Za1 fF rfl rfl (by kernel_rfl) ?_); intro _ _ _ _ h; simp only [zE, evp, evx, ev1, evLoad, evStore, evBin, Zaa, forall_const, z38, tb, reduceAdd, reduceSub, reduceMul, reduceEqDiff, reduceLeDiff, reduceLT, Nat.reduceBEq, Nat.reduceBNe, ↓reduceIte, reduceIte, spIt, fewS, Zba, Zbq, Zbp, Zbj, Zbk, Zbo] at h; obtain ⟨rfl, rfl, rfl, rfl⟩ := h; refine ⟨?_, ?_⟩) | ((with_reducible refine Ob.mk ?_); first | exact trivial | (intros; omega) | ((repeat' first | apply And.intro | (intro a; have b := a; try simp only [zH] at b)) <;> first | assumption | omega | (simp only [zH]; omega)))
    refine Zav rfl rfl (Zas rfl ?_ rfl)
    rfl
  clear hb
  rcases Zjg ⟨o, p, x⟩ 0 c with ⟨hv, hp, hf, ha⟩ | ha
  · repeat' first
      | with_reducible first | apply Zan | apply Zaj | apply Zab | apply Zac | apply Zag | apply Zal | apply Zaf | apply Zah | apply Zam | apply Zao | apply Zak
      | ((with_reducible refine Zap ?_); refine Zai rfl ?_ ?_ <;> intro hb <;> (try simp only [zH] at hb)) | ((with_reducible refine Zaq 5 ?_ ?_); (· exact rfl); (with_reducible refine Zaq 7 ?_ ?_); (· exact rfl); (first | refine Zad htb hmz Za1 fF rfl rfl ?_ | refine Zae hmo htb hmz Za1 fF rfl rfl (by kernel_rfl) ?_); intro _ _ _ _ h; simp only [zE, evp, evx, ev1, evLoad, evStore, evBin, Zaa, forall_const, z38, tb, reduceAdd, reduceSub, reduceMul, reduceEqDiff, reduceLeDiff, reduceLT, Nat.reduceBEq, Nat.reduceBNe, ↓reduceIte, reduceIte, spIt, fewS, Zba, Zbq, Zbp, Zbj, Zbk, Zbo] at h; obtain ⟨rfl, rfl, rfl, rfl⟩ := h; refine ⟨?_, ?_⟩) | ((with_reducible refine Ob.mk ?_); first | exact trivial | (intros; omega) | ((repeat' first | apply And.intro | (intro a; have b := a; try simp only [zH] at b)) <;> first | assumption | omega | (simp only [zH]; omega)))
    · exact absurd ha hb
    clear hb
    obtain ⟨C, hC, _, R, k, L, hR, hWL⟩ := best_win hv (.inl rfl)
    have hG := gok (validB_iff.1 hv)
    have hn : o.length ≤ 20000 := hG.n
    obtain ⟨hfn, hwn⟩ := btr_all hv hf hC
    have hbi := fun cc (hfc : Zdg ⟨o, p, x⟩ 0 cc = true) => best_iff hv hfc
    have hfr := fun cc (hfc : Zdg ⟨o, p, x⟩ 0 cc = true) => Zia hv hfc
    have hasks := fun cc (hfc : Zdg ⟨o, p, x⟩ 0 cc = true) => Zjs (pl := 0) (c := cc) hv (by decide) hfc
    have hbf := fun cc (hac : Zcp ⟨o, p, x⟩ 0 cc = 0) => btr_fg (c := cc) hv hac hR
    rw [hWL] at hbf
    have hmw : ∀ v, v < o.length → (Za7 ⟨o, p, x⟩ 0 c).getD v false = true → (Za7 ⟨o, p, x⟩ 0 (btO o c (Za7 ⟨o, p, x⟩ 0 c) (wonL ⟨o, p, x⟩ 0) C)).getD v false = true := fun v hvn h => by
      have e : Za7 ⟨o, p, x⟩ 0 (btO o c (Za7 ⟨o, p, x⟩ 0 c) (wonL ⟨o, p, x⟩ 0) C) = wonL ⟨o, p, x⟩ 0 := hwn
      rw [e]
      exact (Zfd hvn).2 (Zgk hv hf hvn h)
    repeat' first
      | with_reducible first | apply Zan | apply Zaj | apply Zab | apply Zac | apply Zag | apply Zal | apply Zaf | apply Zah | apply Zam | apply Zao | apply Zak
      | ((with_reducible refine Zap ?_); refine Zai rfl ?_ ?_ <;> intro hb <;> (try simp only [zH] at hb)) | ((with_reducible refine Zaq 8 ?_ ?_); (· exact rfl); (first | refine Zad htb hmz Za1 fF rfl rfl ?_ | refine Zae hmo htb hmz Za1 fF rfl rfl (by kernel_rfl) ?_); intro _ _ _ _ h; simp only [zE, evp, evx, ev1, evLoad, evStore, evBin, Zaa, forall_const, z38, tb, reduceAdd, reduceSub, reduceMul, reduceEqDiff, reduceLeDiff, reduceLT, Nat.reduceBEq, Nat.reduceBNe, ↓reduceIte, reduceIte, spIt, fewS, Zba, Zbq, Zbp, Zbj, Zbk, Zbo] at h; obtain ⟨rfl, rfl, rfl, rfl⟩ := h; refine ⟨?_, ?_⟩) | ((with_reducible refine Ob.mk ?_); first | exact trivial | (intros; omega) | ((repeat' first | apply And.intro | (intro a; have b := a; try simp only [zH] at b)) <;> first | assumption | omega | (simp only [zH]; omega)))
    rw [ha]
    refine Zat (τ := Nat) (fun j => j ≤ 1 ∧ (j = 1 → 0 < o.length)) (fun j => ⟨21, [(46, .int .i64 j), (45, .int .i64 (o.length + 1)), (2, .rop (.agg (.cons (.roI o) (.cons (.roI p) (.cons (.roII x) .nil))))), (1, .roI (if j = 0 then c else btO o c (Za7 ⟨o, p, x⟩ 0 c) (wonL ⟨o, p, x⟩ 0) C))], [], []⟩) (fun j => 2 - j) 0 [] ?_ ⟨by decide, fun h => by cases h⟩ ?_
    · (refine ⟨rfl, ?_, ?_⟩ <;> simp only [zE, evp, evx, ev1, evLoad, evStore, evBin, Zaa, forall_const, z38, tb, reduceAdd, reduceSub, reduceMul, reduceEqDiff, reduceLeDiff, reduceLT, Nat.reduceBEq, Nat.reduceBNe, ↓reduceIte, reduceIte, spIt, fewS, Zba, Zbq, Zbp, Zbj, Zbk, Zbo, zI])
    rintro j ⟨hj, hj1⟩
    have hjj : j = 0 ∨ j = 1 := by omega
    rcases hjj with rfl | rfl
    · rw [if_pos rfl]
      have hb1 := hbf c ha
      have hb2 := hbi c hf
      by_cases hw0 : Za7 ⟨o, p, x⟩ 0 c = wonL ⟨o, p, x⟩ 0
      · rw [if_pos hw0, decide_eq_false (fun h => h hw0)] at hb1
        rw [decide_eq_true hw0] at hb2
        repeat' first
          | with_reducible first | apply Zan | apply Zaj | apply Zab | apply Zac | apply Zag | apply Zal | apply Zaf | apply Zah | apply Zam | apply Zao | apply Zak
          | ((with_reducible refine Zap ?_); refine Zai rfl ?_ ?_ <;> intro hb <;> (try simp only [zH] at hb)) | ((with_reducible refine Zaq 9 ?_ ?_); (· exact rfl); (with_reducible refine Zaq 25 ?_ ?_); (· exact rfl); (first | refine Zad htb hmz Za1 fF rfl rfl ?_ | refine Zae hmo htb hmz Za1 fF rfl rfl (by kernel_rfl) ?_); intro _ _ _ _ h; simp only [zE, evp, evx, ev1, evLoad, evStore, evBin, Zaa, forall_const, z38, tb, reduceAdd, reduceSub, reduceMul, reduceEqDiff, reduceLeDiff, reduceLT, Nat.reduceBEq, Nat.reduceBNe, ↓reduceIte, reduceIte, spIt, fewS, Zba, Zbq, Zbp, Zbj, Zbk, Zbo] at h; obtain ⟨rfl, rfl, rfl, rfl⟩ := h; refine ⟨?_, ?_⟩) | ((with_reducible refine Ob.mk ?_); first | exact trivial | (intros; omega) | ((repeat' first | apply And.intro | (intro a; have b := a; try simp only [zH] at b)) <;> first | assumption | omega | (simp only [zH]; omega)))
        · refine Zcy ([_, _]) ([_, _, _, _, _, _, _]) rfl rfl ?_
          refine Zay htb hmz Za1 fF rfl rfl rfl ?_; intro _ _ _ _ h; simp only [zE, evp, evx, ev1, evLoad, evStore, evBin, Zaa, forall_const, z38, tb, reduceAdd, reduceSub, reduceMul, reduceEqDiff, reduceLeDiff, reduceLT, Nat.reduceBEq, Nat.reduceBNe, ↓reduceIte, reduceIte, spIt, fewS, Zba, Zbq, Zbp, Zbj, Zbk, Zbo] at h; obtain ⟨rfl, rfl, rfl, rfl⟩ := h; refine ⟨?_, Zab ?_⟩
          · first | ((with_reducible refine Ob.mk ?_); first | exact trivial | (intros; omega) | ((repeat' first | apply And.intro | (intro a; have b := a; try simp only [zH] at b)) <;> first | assumption | omega | (simp only [zH]; omega))) | skip
          refine Zbg ([]) (hb1) rfl rfl rfl rfl rfl rfl rfl rfl rfl (by simp only [rinR, rhoC, zE, evp, evx, ev1, evLoad, evStore, evBin, Zaa, forall_const, z38, tb, reduceAdd, reduceSub, reduceMul, reduceEqDiff, reduceLeDiff, reduceLT, Nat.reduceBEq, Nat.reduceBNe, ↓reduceIte, reduceIte, spIt, fewS, Zba, Zbq, Zbp, Zbj, Zbk, Zbo]) ?_; intro gm gv gr hq m' e' l' h; simp only [GR.mk.injEq] at hq; obtain ⟨rfl, rfl, rfl⟩ := hq; simp only [rhoC, outR, renR, dels, zE, evp, evx, ev1, evLoad, evStore, evBin, Zaa, forall_const, z38, tb, reduceAdd, reduceSub, reduceMul, reduceEqDiff, reduceLeDiff, reduceLT, Nat.reduceBEq, Nat.reduceBNe, ↓reduceIte, reduceIte, spIt, fewS, Zba, Zbq, Zbp, Zbj, Zbk, Zbo] at h; obtain ⟨rfl, rfl, rfl⟩ := h; refine Zab ?_
          refine Zay htb hmz Za1 fF rfl rfl rfl ?_; intro _ _ _ _ h; simp only [zE, evp, evx, ev1, evLoad, evStore, evBin, Zaa, forall_const, z38, tb, reduceAdd, reduceSub, reduceMul, reduceEqDiff, reduceLeDiff, reduceLT, Nat.reduceBEq, Nat.reduceBNe, ↓reduceIte, reduceIte, spIt, fewS, Zba, Zbq, Zbp, Zbj, Zbk, Zbo] at h; obtain ⟨rfl, rfl, rfl, rfl⟩ := h; refine ⟨?_, ?_⟩
          · first | ((with_reducible refine Ob.mk ?_); first | exact trivial | (intros; omega) | ((repeat' first | apply And.intro | (intro a; have b := a; try simp only [zH] at b)) <;> first | assumption | omega | (simp only [zH]; omega))) | skip
          repeat' first | with_reducible refine Zac ?_ | with_reducible refine Zab ?_ | with_reducible refine Zan ?_
          repeat' first
            | with_reducible first | apply Zan | apply Zaj | apply Zab | apply Zac | apply Zag | apply Zal | apply Zaf | apply Zah | apply Zam | apply Zao | apply Zak
            | ((with_reducible refine Zap ?_); refine Zai rfl ?_ ?_ <;> intro hb <;> (try simp only [zH] at hb)) | ((with_reducible refine Zaq 11 ?_ ?_); (· exact rfl); (with_reducible refine Zaq 12 ?_ ?_); (· exact rfl); (first | refine Zad htb hmz Za1 fF rfl rfl ?_ | refine Zae hmo htb hmz Za1 fF rfl rfl (by kernel_rfl) ?_); intro _ _ _ _ h; simp only [zE, evp, evx, ev1, evLoad, evStore, evBin, Zaa, forall_const, z38, tb, reduceAdd, reduceSub, reduceMul, reduceEqDiff, reduceLeDiff, reduceLT, Nat.reduceBEq, Nat.reduceBNe, ↓reduceIte, reduceIte, spIt, fewS, Zba, Zbq, Zbp, Zbj, Zbk, Zbo] at h; obtain ⟨rfl, rfl, rfl, rfl⟩ := h; refine ⟨?_, ?_⟩) | ((with_reducible refine Ob.mk ?_); first | exact trivial | (intros; omega) | ((repeat' first | apply And.intro | (intro a; have b := a; try simp only [zH] at b)) <;> first | assumption | omega | (simp only [zH]; omega)))
          · rw [hb2] at hb
            exact absurd hb (by decide)
          · clear hb
            repeat' first
              | with_reducible first | apply Zan | apply Zaj | apply Zab | apply Zac | apply Zag | apply Zal | apply Zaf | apply Zah | apply Zam | apply Zao | apply Zak
              | ((with_reducible refine Zap ?_); refine Zai rfl ?_ ?_ <;> intro hb <;> (try simp only [zH] at hb)) | ((with_reducible refine Zaq 13 ?_ ?_); (· exact rfl); (with_reducible refine Zaq 14 ?_ ?_); (· exact rfl); (first | refine Zad htb hmz Za1 fF rfl rfl ?_ | refine Zae hmo htb hmz Za1 fF rfl rfl (by kernel_rfl) ?_); intro _ _ _ _ h; simp only [zE, evp, evx, ev1, evLoad, evStore, evBin, Zaa, forall_const, z38, tb, reduceAdd, reduceSub, reduceMul, reduceEqDiff, reduceLeDiff, reduceLT, Nat.reduceBEq, Nat.reduceBNe, ↓reduceIte, reduceIte, spIt, fewS, Zba, Zbq, Zbp, Zbj, Zbk, Zbo] at h; obtain ⟨rfl, rfl, rfl, rfl⟩ := h; refine ⟨?_, ?_⟩) | ((with_reducible refine Ob.mk ?_); first | exact trivial | (intros; omega) | ((repeat' first | apply And.intro | (intro a; have b := a; try simp only [zH] at b)) <;> first | assumption | omega | (simp only [zH]; omega)))
            · repeat' first
                | with_reducible first | apply Zan | apply Zaj | apply Zab | apply Zac | apply Zag | apply Zal | apply Zaf | apply Zah | apply Zam | apply Zao | apply Zak
                | ((with_reducible refine Zap ?_); refine Zai rfl ?_ ?_ <;> intro hb <;> (try simp only [zH] at hb)) | ((with_reducible refine Zax ?_); (first | refine Zad htb hmz Za1 fF rfl rfl ?_ | refine Zae hmo htb hmz Za1 fF rfl rfl (by kernel_rfl) ?_); intro _ _ _ _ h; simp only [zE, evp, evx, ev1, evLoad, evStore, evBin, Zaa, forall_const, z38, tb, reduceAdd, reduceSub, reduceMul, reduceEqDiff, reduceLeDiff, reduceLT, Nat.reduceBEq, Nat.reduceBNe, ↓reduceIte, reduceIte, spIt, fewS, Zba, Zbq, Zbp, Zbj, Zbk, Zbo] at h; obtain ⟨rfl, rfl, rfl, rfl⟩ := h; refine ⟨?_, ?_⟩) | ((with_reducible refine Ob.mk ?_); first | exact trivial | (intros; omega) | ((repeat' first | apply And.intro | (intro a; have b := a; try simp only [zH] at b)) <;> first | assumption | omega | (simp only [zH]; omega)))
              refine Zav rfl rfl (Zas rfl ?_ rfl)
              rfl
            cases hb
        exfalso; omega
      · rw [if_neg hw0, decide_eq_true (show Za7 ⟨o, p, x⟩ 0 c ≠ wonL ⟨o, p, x⟩ 0 from hw0)] at hb1
        rw [decide_eq_false hw0] at hb2
        have hn0 : 0 < o.length := by
          rcases Nat.lt_or_ge 0 o.length with h | h
          · exact h
          · exfalso
            refine hw0 ?_
            have l1 : (Za7 ⟨o, p, x⟩ 0 c).length = o.length := Zeo
            have l2 : (wonL ⟨o, p, x⟩ 0).length = o.length := wonL_len
            rw [List.length_eq_zero_iff.1 (show (Za7 ⟨o, p, x⟩ 0 c).length = 0 by omega), List.length_eq_zero_iff.1 (show (wonL ⟨o, p, x⟩ 0).length = 0 by omega)]
        have hnx : btO o c (Za7 ⟨o, p, x⟩ 0 c) (wonL ⟨o, p, x⟩ 0) C = (if 1 = 0 then c else btO o c (Za7 ⟨o, p, x⟩ 0 c) (wonL ⟨o, p, x⟩ 0) C) := (if_neg (by decide)).symm
        obtain ⟨nx, hnxd⟩ : ∃ nx, nx = btO o c (Za7 ⟨o, p, x⟩ 0 c) (wonL ⟨o, p, x⟩ 0) C := ⟨_, rfl⟩
        have hfn : Zdg ⟨o, p, x⟩ 0 nx = true := by rw [hnxd]; exact hfn
        have hmw : ∀ v, v < o.length → (Za7 ⟨o, p, x⟩ 0 c).getD v false = true → (Za7 ⟨o, p, x⟩ 0 nx).getD v false = true := by rw [hnxd]; exact hmw
        rw [← hnxd] at hb1 hnx
        obtain ⟨fr1, fr2⟩ := hfr c hf
        obtain ⟨fq1, fq2⟩ := hfr nx hfn
        have hl1 : (Za7 ⟨o, p, x⟩ 0 c).length = o.length := Zeo
        have hl2 : (Za7 ⟨o, p, x⟩ 0 nx).length = o.length := Zeo
        repeat' first
          | with_reducible first | apply Zan | apply Zaj | apply Zab | apply Zac | apply Zag | apply Zal | apply Zaf | apply Zah | apply Zam | apply Zao | apply Zak
          | ((with_reducible refine Zap ?_); refine Zai rfl ?_ ?_ <;> intro hb <;> (try simp only [zH] at hb)) | ((with_reducible refine Zaq 9 ?_ ?_); (· exact rfl); (with_reducible refine Zaq 25 ?_ ?_); (· exact rfl); (first | refine Zad htb hmz Za1 fF rfl rfl ?_ | refine Zae hmo htb hmz Za1 fF rfl rfl (by kernel_rfl) ?_); intro _ _ _ _ h; simp only [zE, evp, evx, ev1, evLoad, evStore, evBin, Zaa, forall_const, z38, tb, reduceAdd, reduceSub, reduceMul, reduceEqDiff, reduceLeDiff, reduceLT, Nat.reduceBEq, Nat.reduceBNe, ↓reduceIte, reduceIte, spIt, fewS, Zba, Zbq, Zbp, Zbj, Zbk, Zbo] at h; obtain ⟨rfl, rfl, rfl, rfl⟩ := h; refine ⟨?_, ?_⟩) | ((with_reducible refine Ob.mk ?_); first | exact trivial | (intros; omega) | ((repeat' first | apply And.intro | (intro a; have b := a; try simp only [zH] at b)) <;> first | assumption | omega | (simp only [zH]; omega)))
        · refine Zcy ([_, _]) ([_, _, _, _, _, _, _]) rfl rfl ?_
          refine Zay htb hmz Za1 fF rfl rfl rfl ?_; intro _ _ _ _ h; simp only [zE, evp, evx, ev1, evLoad, evStore, evBin, Zaa, forall_const, z38, tb, reduceAdd, reduceSub, reduceMul, reduceEqDiff, reduceLeDiff, reduceLT, Nat.reduceBEq, Nat.reduceBNe, ↓reduceIte, reduceIte, spIt, fewS, Zba, Zbq, Zbp, Zbj, Zbk, Zbo] at h; obtain ⟨rfl, rfl, rfl, rfl⟩ := h; refine ⟨?_, Zab ?_⟩
          · first | ((with_reducible refine Ob.mk ?_); first | exact trivial | (intros; omega) | ((repeat' first | apply And.intro | (intro a; have b := a; try simp only [zH] at b)) <;> first | assumption | omega | (simp only [zH]; omega))) | skip
          refine Zbg ([]) (hb1) rfl rfl rfl rfl rfl rfl rfl rfl rfl (by simp only [rinR, rhoC, zE, evp, evx, ev1, evLoad, evStore, evBin, Zaa, forall_const, z38, tb, reduceAdd, reduceSub, reduceMul, reduceEqDiff, reduceLeDiff, reduceLT, Nat.reduceBEq, Nat.reduceBNe, ↓reduceIte, reduceIte, spIt, fewS, Zba, Zbq, Zbp, Zbj, Zbk, Zbo]) ?_; intro gm gv gr hq m' e' l' h; simp only [GR.mk.injEq] at hq; obtain ⟨rfl, rfl, rfl⟩ := hq; simp only [rhoC, outR, renR, dels, zE, evp, evx, ev1, evLoad, evStore, evBin, Zaa, forall_const, z38, tb, reduceAdd, reduceSub, reduceMul, reduceEqDiff, reduceLeDiff, reduceLT, Nat.reduceBEq, Nat.reduceBNe, ↓reduceIte, reduceIte, spIt, fewS, Zba, Zbq, Zbp, Zbj, Zbk, Zbo] at h; obtain ⟨rfl, rfl, rfl⟩ := h; refine Zab ?_
          refine Zay htb hmz Za1 fF rfl rfl rfl ?_; intro _ _ _ _ h; simp only [zE, evp, evx, ev1, evLoad, evStore, evBin, Zaa, forall_const, z38, tb, reduceAdd, reduceSub, reduceMul, reduceEqDiff, reduceLeDiff, reduceLT, Nat.reduceBEq, Nat.reduceBNe, ↓reduceIte, reduceIte, spIt, fewS, Zba, Zbq, Zbp, Zbj, Zbk, Zbo] at h; obtain ⟨rfl, rfl, rfl, rfl⟩ := h; refine ⟨?_, ?_⟩
          · first | ((with_reducible refine Ob.mk ?_); first | exact trivial | (intros; omega) | ((repeat' first | apply And.intro | (intro a; have b := a; try simp only [zH] at b)) <;> first | assumption | omega | (simp only [zH]; omega))) | skip
          repeat' first | with_reducible refine Zac ?_ | with_reducible refine Zab ?_ | with_reducible refine Zan ?_
          repeat' first
            | with_reducible first | apply Zan | apply Zaj | apply Zab | apply Zac | apply Zag | apply Zal | apply Zaf | apply Zah | apply Zam | apply Zao | apply Zak
            | ((with_reducible refine Zap ?_); refine Zai rfl ?_ ?_ <;> intro hb <;> (try simp only [zH] at hb)) | ((with_reducible refine Zaq 11 ?_ ?_); (· exact rfl); (with_reducible refine Zaq 12 ?_ ?_); (· exact rfl); (first | refine Zad htb hmz Za1 fF rfl rfl ?_ | refine Zae hmo htb hmz Za1 fF rfl rfl (by kernel_rfl) ?_); intro _ _ _ _ h; simp only [zE, evp, evx, ev1, evLoad, evStore, evBin, Zaa, forall_const, z38, tb, reduceAdd, reduceSub, reduceMul, reduceEqDiff, reduceLeDiff, reduceLT, Nat.reduceBEq, Nat.reduceBNe, ↓reduceIte, reduceIte, spIt, fewS, Zba, Zbq, Zbp, Zbj, Zbk, Zbo] at h; obtain ⟨rfl, rfl, rfl, rfl⟩ := h; refine ⟨?_, ?_⟩) | ((with_reducible refine Ob.mk ?_); first | exact trivial | (intros; omega) | ((repeat' first | apply And.intro | (intro a; have b := a; try simp only [zH] at b)) <;> first | assumption | omega | (simp only [zH]; omega)))
          · rw [hb2] at hb
            exact absurd hb (by decide)
          clear hb
          repeat' first
            | with_reducible first | apply Zan | apply Zaj | apply Zab | apply Zac | apply Zag | apply Zal | apply Zaf | apply Zah | apply Zam | apply Zao | apply Zak
            | ((with_reducible refine Zap ?_); refine Zai rfl ?_ ?_ <;> intro hb <;> (try simp only [zH] at hb)) | ((with_reducible refine Zaq 13 ?_ ?_); (· exact rfl); (with_reducible refine Zaq 14 ?_ ?_); (· exact rfl); (first | refine Zad htb hmz Za1 fF rfl rfl ?_ | refine Zae hmo htb hmz Za1 fF rfl rfl (by kernel_rfl) ?_); intro _ _ _ _ h; simp only [zE, evp, evx, ev1, evLoad, evStore, evBin, Zaa, forall_const, z38, tb, reduceAdd, reduceSub, reduceMul, reduceEqDiff, reduceLeDiff, reduceLT, Nat.reduceBEq, Nat.reduceBNe, ↓reduceIte, reduceIte, spIt, fewS, Zba, Zbq, Zbp, Zbj, Zbk, Zbo] at h; obtain ⟨rfl, rfl, rfl, rfl⟩ := h; refine ⟨?_, ?_⟩) | ((with_reducible refine Ob.mk ?_); first | exact trivial | (intros; omega) | ((repeat' first | apply And.intro | (intro a; have b := a; try simp only [zH] at b)) <;> first | assumption | omega | (simp only [zH]; omega)))
          · cases hb
          clear hb
          repeat' first
            | with_reducible first | apply Zan | apply Zaj | apply Zab | apply Zac | apply Zag | apply Zal | apply Zaf | apply Zah | apply Zam | apply Zao | apply Zak
            | ((with_reducible refine Zap ?_); refine Zai rfl ?_ ?_ <;> intro hb <;> (try simp only [zH] at hb)) | ((with_reducible refine Zaq 15 ?_ ?_); (· exact rfl); (with_reducible refine Zaq 16 ?_ ?_); (· exact rfl); (first | refine Zad htb hmz Za1 fF rfl rfl ?_ | refine Zae hmo htb hmz Za1 fF rfl rfl (by kernel_rfl) ?_); intro _ _ _ _ h; simp only [zE, evp, evx, ev1, evLoad, evStore, evBin, Zaa, forall_const, z38, tb, reduceAdd, reduceSub, reduceMul, reduceEqDiff, reduceLeDiff, reduceLT, Nat.reduceBEq, Nat.reduceBNe, ↓reduceIte, reduceIte, spIt, fewS, Zba, Zbq, Zbp, Zbj, Zbk, Zbo] at h; obtain ⟨rfl, rfl, rfl, rfl⟩ := h; refine ⟨?_, ?_⟩) | ((with_reducible refine Ob.mk ?_); first | exact trivial | (intros; omega) | ((repeat' first | apply And.intro | (intro a; have b := a; try simp only [zH] at b)) <;> first | assumption | omega | (simp only [zH]; omega)))
          · rw [hfn] at hb; cases hb
          clear hb
          repeat' first
            | with_reducible first | apply Zan | apply Zaj | apply Zab | apply Zac | apply Zag | apply Zal | apply Zaf | apply Zah | apply Zam | apply Zao | apply Zak
            | ((with_reducible refine Zap ?_); refine Zai rfl ?_ ?_ <;> intro hb <;> (try simp only [zH] at hb)) | ((with_reducible refine Zaq 17 ?_ ?_); (· exact rfl); (first | refine Zad htb hmz Za1 fF rfl rfl ?_ | refine Zae hmo htb hmz Za1 fF rfl rfl (by kernel_rfl) ?_); intro _ _ _ _ h; simp only [zE, evp, evx, ev1, evLoad, evStore, evBin, Zaa, forall_const, z38, tb, reduceAdd, reduceSub, reduceMul, reduceEqDiff, reduceLeDiff, reduceLT, Nat.reduceBEq, Nat.reduceBNe, ↓reduceIte, reduceIte, spIt, fewS, Zba, Zbq, Zbp, Zbj, Zbk, Zbo] at h; obtain ⟨rfl, rfl, rfl, rfl⟩ := h; refine ⟨?_, ?_⟩) | ((with_reducible refine Ob.mk ?_); first | exact trivial | (intros; omega) | ((repeat' first | apply And.intro | (intro a; have b := a; try simp only [zH] at b)) <;> first | assumption | omega | (simp only [zH]; omega)))
          · exact Ob.mk ⟨⟨hv, ⟨by decide, by decide⟩, fr1, fr2⟩, hv, ⟨by decide, by decide⟩, fq1, fq2⟩
          repeat' first
            | with_reducible first | apply Zan | apply Zaj | apply Zab | apply Zac | apply Zag | apply Zal | apply Zaf | apply Zah | apply Zam | apply Zao | apply Zak
            | ((with_reducible refine Zap ?_); refine Zai rfl ?_ ?_ <;> intro hb <;> (try simp only [zH] at hb)) | ((with_reducible refine Zax ?_); (first | refine Zad htb hmz Za1 fF rfl rfl ?_ | refine Zae hmo htb hmz Za1 fF rfl rfl (by kernel_rfl) ?_); intro _ _ _ _ h; simp only [zE, evp, evx, ev1, evLoad, evStore, evBin, Zaa, forall_const, z38, tb, reduceAdd, reduceSub, reduceMul, reduceEqDiff, reduceLeDiff, reduceLT, Nat.reduceBEq, Nat.reduceBNe, ↓reduceIte, reduceIte, spIt, fewS, Zba, Zbq, Zbp, Zbj, Zbk, Zbo] at h; obtain ⟨rfl, rfl, rfl, rfl⟩ := h; refine ⟨?_, ?_⟩) | ((with_reducible refine Ob.mk ?_); first | exact trivial | (intros; omega) | ((repeat' first | apply And.intro | (intro a; have b := a; try simp only [zH] at b)) <;> first | assumption | omega | (simp only [zH]; omega)))
          refine Zat (τ := Nat) (fun i => i ≤ o.length) (fun i => ⟨57, [(84, .int .i64 i), (83, .int .i64 o.length), (12, .roB (Za7 ⟨o, p, x⟩ 0 c)), (13, .roB (Za7 ⟨o, p, x⟩ 0 nx)), (9, .roI nx), (46, .int .i64 0), (45, .int .i64 (o.length + 1)), (2, .rop (.agg (.cons (.roI o) (.cons (.roI p) (.cons (.roII x) .nil))))), (1, .roI c)], [], []⟩) (fun i => o.length - i) 0 [] ?_ (Nat.zero_le _) ?_
          · (refine ⟨rfl, ?_, ?_⟩ <;> simp only [zE, evp, evx, ev1, evLoad, evStore, evBin, Zaa, forall_const, z38, tb, reduceAdd, reduceSub, reduceMul, reduceEqDiff, reduceLeDiff, reduceLT, Nat.reduceBEq, Nat.reduceBNe, ↓reduceIte, reduceIte, spIt, fewS, Zba, Zbq, Zbp, Zbj, Zbk, Zbo, zI])
            rw [hl1]
          intro i hi
          have hmw1 := hmw i
          repeat' first
            | with_reducible first | apply Zan | apply Zaj | apply Zab | apply Zac | apply Zag | apply Zal | apply Zaf | apply Zah | apply Zam | apply Zao | apply Zak
            | ((with_reducible refine Zap ?_); refine Zai rfl ?_ ?_ <;> intro hb <;> (try simp only [zH] at hb)) | ((with_reducible refine Zaq 19 ?_ ?_); (· exact rfl); (with_reducible refine Zaq 23 ?_ ?_); (· exact rfl); (first | refine Zad htb hmz Za1 fF rfl rfl ?_ | refine Zae hmo htb hmz Za1 fF rfl rfl (by kernel_rfl) ?_); intro _ _ _ _ h; simp only [zE, evp, evx, ev1, evLoad, evStore, evBin, Zaa, forall_const, z38, tb, reduceAdd, reduceSub, reduceMul, reduceEqDiff, reduceLeDiff, reduceLT, Nat.reduceBEq, Nat.reduceBNe, ↓reduceIte, reduceIte, spIt, fewS, Zba, Zbq, Zbp, Zbj, Zbk, Zbo] at h; obtain ⟨rfl, rfl, rfl, rfl⟩ := h; refine ⟨?_, ?_⟩) | ((with_reducible refine Ob.mk ?_); first | exact trivial | (intros; omega) | ((repeat' first | apply And.intro | (intro a; have b := a; try simp only [zH] at b)) <;> first | assumption | omega | (simp only [zH]; omega)))
          · have hil : i < o.length := by omega
            have hmw1 := hmw1 hil
            repeat' first
              | with_reducible first | apply Zan | apply Zaj | apply Zab | apply Zac | apply Zag | apply Zal | apply Zaf | apply Zah | apply Zam | apply Zao | apply Zak
              | ((with_reducible refine Zap ?_); refine Zai rfl ?_ ?_ <;> intro hb <;> (try simp only [zH] at hb)) | ((with_reducible refine Zaq 21 ?_ ?_); (· exact rfl); (with_reducible refine Zaq 22 ?_ ?_); (· exact rfl); (first | refine Zad htb hmz Za1 fF rfl rfl ?_ | refine Zae hmo htb hmz Za1 fF rfl rfl (by kernel_rfl) ?_); intro _ _ _ _ h; simp only [zE, evp, evx, ev1, evLoad, evStore, evBin, Zaa, forall_const, z38, tb, reduceAdd, reduceSub, reduceMul, reduceEqDiff, reduceLeDiff, reduceLT, Nat.reduceBEq, Nat.reduceBNe, ↓reduceIte, reduceIte, spIt, fewS, Zba, Zbq, Zbp, Zbj, Zbk, Zbo] at h; obtain ⟨rfl, rfl, rfl, rfl⟩ := h; refine ⟨?_, ?_⟩) | ((with_reducible refine Ob.mk ?_); first | exact trivial | (intros; omega) | ((repeat' first | apply And.intro | (intro a; have b := a; try simp only [zH] at b)) <;> first | assumption | omega | (simp only [zH]; omega)))
            · exfalso
              rw [hmw1 hb.1] at hb
              exact absurd hb.2 (by decide)
            · repeat' first
                | with_reducible first | apply Zan | apply Zaj | apply Zab | apply Zac | apply Zag | apply Zal | apply Zaf | apply Zah | apply Zam | apply Zao | apply Zak
                | ((with_reducible refine Zap ?_); refine Zai rfl ?_ ?_ <;> intro hb <;> (try simp only [zH] at hb)) | ((with_reducible refine Zax ?_); (first | refine Zad htb hmz Za1 fF rfl rfl ?_ | refine Zae hmo htb hmz Za1 fF rfl rfl (by kernel_rfl) ?_); intro _ _ _ _ h; simp only [zE, evp, evx, ev1, evLoad, evStore, evBin, Zaa, forall_const, z38, tb, reduceAdd, reduceSub, reduceMul, reduceEqDiff, reduceLeDiff, reduceLT, Nat.reduceBEq, Nat.reduceBNe, ↓reduceIte, reduceIte, spIt, fewS, Zba, Zbq, Zbp, Zbj, Zbk, Zbo] at h; obtain ⟨rfl, rfl, rfl, rfl⟩ := h; refine ⟨?_, ?_⟩) | ((with_reducible refine Ob.mk ?_); first | exact trivial | (intros; omega) | ((repeat' first | apply And.intro | (intro a; have b := a; try simp only [zH] at b)) <;> first | assumption | omega | (simp only [zH]; omega)))
              refine back (i + 1) [] ?_ (by omega) (by omega)
              (refine ⟨rfl, ?_, ?_⟩ <;> simp only [zE, evp, evx, ev1, evLoad, evStore, evBin, Zaa, forall_const, z38, tb, reduceAdd, reduceSub, reduceMul, reduceEqDiff, reduceLeDiff, reduceLT, Nat.reduceBEq, Nat.reduceBNe, ↓reduceIte, reduceIte, spIt, fewS, Zba, Zbq, Zbp, Zbj, Zbk, Zbo, zI])
          have hie : i = o.length := by omega
          subst hie
          repeat' first
            | with_reducible first | apply Zan | apply Zaj | apply Zab | apply Zac | apply Zag | apply Zal | apply Zaf | apply Zah | apply Zam | apply Zao | apply Zak
            | ((with_reducible refine Zap ?_); refine Zai rfl ?_ ?_ <;> intro hb <;> (try simp only [zH] at hb)) | ((with_reducible refine Zax ?_); (first | refine Zad htb hmz Za1 fF rfl rfl ?_ | refine Zae hmo htb hmz Za1 fF rfl rfl (by kernel_rfl) ?_); intro _ _ _ _ h; simp only [zE, evp, evx, ev1, evLoad, evStore, evBin, Zaa, forall_const, z38, tb, reduceAdd, reduceSub, reduceMul, reduceEqDiff, reduceLeDiff, reduceLT, Nat.reduceBEq, Nat.reduceBNe, ↓reduceIte, reduceIte, spIt, fewS, Zba, Zbq, Zbp, Zbj, Zbk, Zbo] at h; obtain ⟨rfl, rfl, rfl, rfl⟩ := h; refine ⟨?_, ?_⟩) | ((with_reducible refine Ob.mk ?_); first | exact trivial | (intros; omega) | ((repeat' first | apply And.intro | (intro a; have b := a; try simp only [zH] at b)) <;> first | assumption | omega | (simp only [zH]; omega)))
          refine back 1 [] ?_ ⟨by decide, fun _ => hn0⟩ (by decide)
          (refine ⟨rfl, ?_, ?_⟩ <;> simp only [zE, evp, evx, ev1, evLoad, evStore, evBin, Zaa, forall_const, z38, tb, reduceAdd, reduceSub, reduceMul, reduceEqDiff, reduceLeDiff, reduceLT, Nat.reduceBEq, Nat.reduceBNe, ↓reduceIte, reduceIte, spIt, fewS, Zba, Zbq, Zbp, Zbj, Zbk, Zbo, zI])
          exact ⟨rfl, hnxd.symm⟩
        exfalso; omega
    · rw [if_neg (by decide)]
      generalize btO o c (Za7 ⟨o, p, x⟩ 0 c) (wonL ⟨o, p, x⟩ 0) C = nx at *
      have hb1 := hbf nx (hasks nx hfn)
      have hb2 := hbi nx hfn
      have hwn : Za7 ⟨o, p, x⟩ 0 nx = wonL ⟨o, p, x⟩ 0 := hwn
      rw [if_pos hwn, decide_eq_false (fun h => h hwn)] at hb1
      rw [decide_eq_true hwn] at hb2
      repeat' first
        | with_reducible first | apply Zan | apply Zaj | apply Zab | apply Zac | apply Zag | apply Zal | apply Zaf | apply Zah | apply Zam | apply Zao | apply Zak
        | ((with_reducible refine Zap ?_); refine Zai rfl ?_ ?_ <;> intro hb <;> (try simp only [zH] at hb)) | ((with_reducible refine Zaq 9 ?_ ?_); (· exact rfl); (with_reducible refine Zaq 25 ?_ ?_); (· exact rfl); (first | refine Zad htb hmz Za1 fF rfl rfl ?_ | refine Zae hmo htb hmz Za1 fF rfl rfl (by kernel_rfl) ?_); intro _ _ _ _ h; simp only [zE, evp, evx, ev1, evLoad, evStore, evBin, Zaa, forall_const, z38, tb, reduceAdd, reduceSub, reduceMul, reduceEqDiff, reduceLeDiff, reduceLT, Nat.reduceBEq, Nat.reduceBNe, ↓reduceIte, reduceIte, spIt, fewS, Zba, Zbq, Zbp, Zbj, Zbk, Zbo] at h; obtain ⟨rfl, rfl, rfl, rfl⟩ := h; refine ⟨?_, ?_⟩) | ((with_reducible refine Ob.mk ?_); first | exact trivial | (intros; omega) | ((repeat' first | apply And.intro | (intro a; have b := a; try simp only [zH] at b)) <;> first | assumption | omega | (simp only [zH]; omega)))
      · refine Zcy ([_, _]) ([_, _, _, _, _, _, _]) rfl rfl ?_
        refine Zay htb hmz Za1 fF rfl rfl rfl ?_; intro _ _ _ _ h; simp only [zE, evp, evx, ev1, evLoad, evStore, evBin, Zaa, forall_const, z38, tb, reduceAdd, reduceSub, reduceMul, reduceEqDiff, reduceLeDiff, reduceLT, Nat.reduceBEq, Nat.reduceBNe, ↓reduceIte, reduceIte, spIt, fewS, Zba, Zbq, Zbp, Zbj, Zbk, Zbo] at h; obtain ⟨rfl, rfl, rfl, rfl⟩ := h; refine ⟨?_, Zab ?_⟩
        · first | ((with_reducible refine Ob.mk ?_); first | exact trivial | (intros; omega) | ((repeat' first | apply And.intro | (intro a; have b := a; try simp only [zH] at b)) <;> first | assumption | omega | (simp only [zH]; omega))) | skip
        refine Zbg ([]) (hb1) rfl rfl rfl rfl rfl rfl rfl rfl rfl (by simp only [rinR, rhoC, zE, evp, evx, ev1, evLoad, evStore, evBin, Zaa, forall_const, z38, tb, reduceAdd, reduceSub, reduceMul, reduceEqDiff, reduceLeDiff, reduceLT, Nat.reduceBEq, Nat.reduceBNe, ↓reduceIte, reduceIte, spIt, fewS, Zba, Zbq, Zbp, Zbj, Zbk, Zbo]) ?_; intro gm gv gr hq m' e' l' h; simp only [GR.mk.injEq] at hq; obtain ⟨rfl, rfl, rfl⟩ := hq; simp only [rhoC, outR, renR, dels, zE, evp, evx, ev1, evLoad, evStore, evBin, Zaa, forall_const, z38, tb, reduceAdd, reduceSub, reduceMul, reduceEqDiff, reduceLeDiff, reduceLT, Nat.reduceBEq, Nat.reduceBNe, ↓reduceIte, reduceIte, spIt, fewS, Zba, Zbq, Zbp, Zbj, Zbk, Zbo] at h; obtain ⟨rfl, rfl, rfl⟩ := h; refine Zab ?_
        refine Zay htb hmz Za1 fF rfl rfl rfl ?_; intro _ _ _ _ h; simp only [zE, evp, evx, ev1, evLoad, evStore, evBin, Zaa, forall_const, z38, tb, reduceAdd, reduceSub, reduceMul, reduceEqDiff, reduceLeDiff, reduceLT, Nat.reduceBEq, Nat.reduceBNe, ↓reduceIte, reduceIte, spIt, fewS, Zba, Zbq, Zbp, Zbj, Zbk, Zbo] at h; obtain ⟨rfl, rfl, rfl, rfl⟩ := h; refine ⟨?_, ?_⟩
        · first | ((with_reducible refine Ob.mk ?_); first | exact trivial | (intros; omega) | ((repeat' first | apply And.intro | (intro a; have b := a; try simp only [zH] at b)) <;> first | assumption | omega | (simp only [zH]; omega))) | skip
        repeat' first | with_reducible refine Zac ?_ | with_reducible refine Zab ?_ | with_reducible refine Zan ?_
        repeat' first
          | with_reducible first | apply Zan | apply Zaj | apply Zab | apply Zac | apply Zag | apply Zal | apply Zaf | apply Zah | apply Zam | apply Zao | apply Zak
          | ((with_reducible refine Zap ?_); refine Zai rfl ?_ ?_ <;> intro hb <;> (try simp only [zH] at hb)) | ((with_reducible refine Zaq 11 ?_ ?_); (· exact rfl); (with_reducible refine Zaq 12 ?_ ?_); (· exact rfl); (first | refine Zad htb hmz Za1 fF rfl rfl ?_ | refine Zae hmo htb hmz Za1 fF rfl rfl (by kernel_rfl) ?_); intro _ _ _ _ h; simp only [zE, evp, evx, ev1, evLoad, evStore, evBin, Zaa, forall_const, z38, tb, reduceAdd, reduceSub, reduceMul, reduceEqDiff, reduceLeDiff, reduceLT, Nat.reduceBEq, Nat.reduceBNe, ↓reduceIte, reduceIte, spIt, fewS, Zba, Zbq, Zbp, Zbj, Zbk, Zbo] at h; obtain ⟨rfl, rfl, rfl, rfl⟩ := h; refine ⟨?_, ?_⟩) | ((with_reducible refine Ob.mk ?_); first | exact trivial | (intros; omega) | ((repeat' first | apply And.intro | (intro a; have b := a; try simp only [zH] at b)) <;> first | assumption | omega | (simp only [zH]; omega)))
        · rw [hb2] at hb
          exact absurd hb (by decide)
        · clear hb
          repeat' first
            | with_reducible first | apply Zan | apply Zaj | apply Zab | apply Zac | apply Zag | apply Zal | apply Zaf | apply Zah | apply Zam | apply Zao | apply Zak
            | ((with_reducible refine Zap ?_); refine Zai rfl ?_ ?_ <;> intro hb <;> (try simp only [zH] at hb)) | ((with_reducible refine Zaq 13 ?_ ?_); (· exact rfl); (with_reducible refine Zaq 14 ?_ ?_); (· exact rfl); (first | refine Zad htb hmz Za1 fF rfl rfl ?_ | refine Zae hmo htb hmz Za1 fF rfl rfl (by kernel_rfl) ?_); intro _ _ _ _ h; simp only [zE, evp, evx, ev1, evLoad, evStore, evBin, Zaa, forall_const, z38, tb, reduceAdd, reduceSub, reduceMul, reduceEqDiff, reduceLeDiff, reduceLT, Nat.reduceBEq, Nat.reduceBNe, ↓reduceIte, reduceIte, spIt, fewS, Zba, Zbq, Zbp, Zbj, Zbk, Zbo] at h; obtain ⟨rfl, rfl, rfl, rfl⟩ := h; refine ⟨?_, ?_⟩) | ((with_reducible refine Ob.mk ?_); first | exact trivial | (intros; omega) | ((repeat' first | apply And.intro | (intro a; have b := a; try simp only [zH] at b)) <;> first | assumption | omega | (simp only [zH]; omega)))
          · repeat' first
              | with_reducible first | apply Zan | apply Zaj | apply Zab | apply Zac | apply Zag | apply Zal | apply Zaf | apply Zah | apply Zam | apply Zao | apply Zak
              | ((with_reducible refine Zap ?_); refine Zai rfl ?_ ?_ <;> intro hb <;> (try simp only [zH] at hb)) | ((with_reducible refine Zax ?_); (first | refine Zad htb hmz Za1 fF rfl rfl ?_ | refine Zae hmo htb hmz Za1 fF rfl rfl (by kernel_rfl) ?_); intro _ _ _ _ h; simp only [zE, evp, evx, ev1, evLoad, evStore, evBin, Zaa, forall_const, z38, tb, reduceAdd, reduceSub, reduceMul, reduceEqDiff, reduceLeDiff, reduceLT, Nat.reduceBEq, Nat.reduceBNe, ↓reduceIte, reduceIte, spIt, fewS, Zba, Zbq, Zbp, Zbj, Zbk, Zbo] at h; obtain ⟨rfl, rfl, rfl, rfl⟩ := h; refine ⟨?_, ?_⟩) | ((with_reducible refine Ob.mk ?_); first | exact trivial | (intros; omega) | ((repeat' first | apply And.intro | (intro a; have b := a; try simp only [zH] at b)) <;> first | assumption | omega | (simp only [zH]; omega)))
            refine Zav rfl rfl (Zas rfl ?_ rfl)
            rfl
          cases hb
      exfalso; omega
  · repeat' first
      | with_reducible first | apply Zan | apply Zaj | apply Zab | apply Zac | apply Zag | apply Zal | apply Zaf | apply Zah | apply Zam | apply Zao | apply Zak
      | ((with_reducible refine Zap ?_); refine Zai rfl ?_ ?_ <;> intro hb <;> (try simp only [zH] at hb)) | ((with_reducible refine Zaq 5 ?_ ?_); (· exact rfl); (with_reducible refine Zaq 7 ?_ ?_); (· exact rfl); (first | refine Zad htb hmz Za1 fF rfl rfl ?_ | refine Zae hmo htb hmz Za1 fF rfl rfl (by kernel_rfl) ?_); intro _ _ _ _ h; simp only [zE, evp, evx, ev1, evLoad, evStore, evBin, Zaa, forall_const, z38, tb, reduceAdd, reduceSub, reduceMul, reduceEqDiff, reduceLeDiff, reduceLT, Nat.reduceBEq, Nat.reduceBNe, ↓reduceIte, reduceIte, spIt, fewS, Zba, Zbq, Zbp, Zbj, Zbk, Zbo] at h; obtain ⟨rfl, rfl, rfl, rfl⟩ := h; refine ⟨?_, ?_⟩) | ((with_reducible refine Ob.mk ?_); first | exact trivial | (intros; omega) | ((repeat' first | apply And.intro | (intro a; have b := a; try simp only [zH] at b)) <;> first | assumption | omega | (simp only [zH]; omega)))
    · refine Zcy ([_, _]) ([_, _, _, _, _, _, _]) rfl rfl ?_
      refine Zay htb hmz Za1 fF rfl rfl rfl ?_; intro _ _ _ _ h; simp only [zE, evp, evx, ev1, evLoad, evStore, evBin, Zaa, forall_const, z38, tb, reduceAdd, reduceSub, reduceMul, reduceEqDiff, reduceLeDiff, reduceLT, Nat.reduceBEq, Nat.reduceBNe, ↓reduceIte, reduceIte, spIt, fewS, Zba, Zbq, Zbp, Zbj, Zbk, Zbo] at h; obtain ⟨rfl, rfl, rfl, rfl⟩ := h; refine ⟨?_, Zab ?_⟩
      · first | ((with_reducible refine Ob.mk ?_); first | exact trivial | (intros; omega) | ((repeat' first | apply And.intro | (intro a; have b := a; try simp only [zH] at b)) <;> first | assumption | omega | (simp only [zH]; omega))) | skip
      refine Zbg ([]) (btr0_fg ha) rfl rfl rfl rfl rfl rfl rfl rfl rfl (by simp only [rinR, rhoC, zE, evp, evx, ev1, evLoad, evStore, evBin, Zaa, forall_const, z38, tb, reduceAdd, reduceSub, reduceMul, reduceEqDiff, reduceLeDiff, reduceLT, Nat.reduceBEq, Nat.reduceBNe, ↓reduceIte, reduceIte, spIt, fewS, Zba, Zbq, Zbp, Zbj, Zbk, Zbo]) ?_; intro gm gv gr hq m' e' l' h; simp only [GR.mk.injEq] at hq; obtain ⟨rfl, rfl, rfl⟩ := hq; simp only [rhoC, outR, renR, dels, zE, evp, evx, ev1, evLoad, evStore, evBin, Zaa, forall_const, z38, tb, reduceAdd, reduceSub, reduceMul, reduceEqDiff, reduceLeDiff, reduceLT, Nat.reduceBEq, Nat.reduceBNe, ↓reduceIte, reduceIte, spIt, fewS, Zba, Zbq, Zbp, Zbj, Zbk, Zbo] at h; obtain ⟨rfl, rfl, rfl⟩ := h; refine Zab ?_
      refine Zay htb hmz Za1 fF rfl rfl rfl ?_; intro _ _ _ _ h; simp only [zE, evp, evx, ev1, evLoad, evStore, evBin, Zaa, forall_const, z38, tb, reduceAdd, reduceSub, reduceMul, reduceEqDiff, reduceLeDiff, reduceLT, Nat.reduceBEq, Nat.reduceBNe, ↓reduceIte, reduceIte, spIt, fewS, Zba, Zbq, Zbp, Zbj, Zbk, Zbo] at h; obtain ⟨rfl, rfl, rfl, rfl⟩ := h; refine ⟨?_, ?_⟩
      · first | ((with_reducible refine Ob.mk ?_); first | exact trivial | (intros; omega) | ((repeat' first | apply And.intro | (intro a; have b := a; try simp only [zH] at b)) <;> first | assumption | omega | (simp only [zH]; omega))) | skip
      refine Zab ?_
      repeat' first
        | with_reducible first | apply Zan | apply Zaj | apply Zab | apply Zac | apply Zag | apply Zal | apply Zaf | apply Zah | apply Zam | apply Zao | apply Zak
        | ((with_reducible refine Zap ?_); refine Zai rfl ?_ ?_ <;> intro hb <;> (try simp only [zH] at hb)) | ((with_reducible refine Zax ?_); (first | refine Zad htb hmz Za1 fF rfl rfl ?_ | refine Zae hmo htb hmz Za1 fF rfl rfl (by kernel_rfl) ?_); intro _ _ _ _ h; simp only [zE, evp, evx, ev1, evLoad, evStore, evBin, Zaa, forall_const, z38, tb, reduceAdd, reduceSub, reduceMul, reduceEqDiff, reduceLeDiff, reduceLT, Nat.reduceBEq, Nat.reduceBNe, ↓reduceIte, reduceIte, spIt, fewS, Zba, Zbq, Zbp, Zbj, Zbk, Zbo] at h; obtain ⟨rfl, rfl, rfl, rfl⟩ := h; refine ⟨?_, ?_⟩) | ((with_reducible refine Ob.mk ?_); first | exact trivial | (intros; omega) | ((repeat' first | apply And.intro | (intro a; have b := a; try simp only [zH] at b)) <;> first | assumption | omega | (simp only [zH]; omega)))
      refine Zav rfl rfl (Zas rfl ?_ rfl)
      rfl
    exact absurd hb ha
open Go Go.ChangeShapes Go.WideShapes Go.ChangeAt Go.RowKit Go.Deep
def old (w : World) : Nat → Prop := fun b => b < w.heap.size
def Zjz {H : Type} (P : Program) (t : Nat) (d : DataW H) : Prop := ∀ n, n ∈ d.weights P t → n ≤ 140737488351232
section
variable {H : Type} {enc : TypeId × Value → H} {P : Program} {w : World} {base : Nat} {spare : Nat → Bool} {held : Bool}
theorem weights_all {e : TypeId} {d : DataW H} : ∀ {l : List (DataW H)}, d ∈ l → ∀ n, n ∈ d.weights P e → n ∈ DataW.weightsAll P e l
  | [], h, _, _ => absurd h List.not_mem_nil
  | x :: l, h, n, hn => by
    simp only [DataW.weightsAll, List.mem_append]
    rcases List.mem_cons.1 h with rfl | h
    · exact .inl hn
    · exact .inr (weights_all h n hn)
theorem cell_lt {a : Addr} {v : Value} (h : w.cell? a = some v) : a.spot = none ∧ a.block < w.heap.size := by
  unfold World.cell? at h
  cases hb : w.heap[a.block]? with
  | none => rw [hb] at h; cases h
  | some o =>
    rw [hb] at h
    refine ⟨?_, (Array.getElem?_eq_some_iff.1 hb).1⟩
    cases o <;> first | (cases h; done) | skip
    dsimp only at h
    split at h
    · cases h
    · rename_i hs; simpa using hs
theorem rd_slice {α : Type} {t e fuel : Nat} {v : Value} {x : DataW H × List MemPlace} (d0 : α) (G : α → List Value → Prop) (ht : P.underlying t = some (.slice e)) (hc : P.cellsOf e = 1) (hB : 8 ≤ P.bytesOf e ∨ 1 ≤ P.bytesOf e)
    (hel : ∀ n c y, DataW.trod enc P w base spare held n e [c] = some y → Zjz P e y.1 → ∃ a, G a [c])
    (h : DataW.trod enc P w base spare held fuel t [v] = some x) (hl : Zjz P t x.1) : ∃ l : List α, Zd2 (old w) w 1 l.length (fun j es => G (l.getD j d0) es) [v] := by
  rcases open_slice1 ht hc h with ⟨hcs, _⟩ | ⟨a, len, cap, m, n, V, D, Pl, hcs, hba, hle, hcap, hm, hx, hel2⟩
  · cases hcs
    exact ⟨[], none, 0, rfl, Nat.le_refl _, Nat.zero_le _, fun h => absurd h (Nat.lt_irrefl 0)⟩
  · cases hcs
    subst hx
    have hlm : len ≤ m := by rw [hm]; split <;> omega
    have hex : ∀ i, i < len → ∃ a, G a [V i] := fun i hi => by
      obtain ⟨h1, h2⟩ := hel2 i (by omega)
      refine hel _ _ _ h2 fun k hk => hl k ?_
      simp only [DataW.weights, ht, List.mem_cons, List.mem_append]
      exact .inr (.inl (weights_all (List.mem_map.2 ⟨i, List.mem_range.2 hi, rfl⟩) k hk))
    obtain ⟨F, hF⟩ : ∃ F : Nat → α, ∀ i, i < len → G (F i) [V i] := by
      refine ⟨fun i => if h : i < len then Classical.choose (hex i h) else d0, fun i hi => ?_⟩
      simp only [dif_pos hi]
      exact Classical.choose_spec (hex i hi)
    refine ⟨(List.range len).map F, some a, cap, by simp, by simpa using hle, ?_, fun hn => ?_⟩
    · have := hl ((((List.range len).map D).length + ((List.range (m - len)).map fun j => D (len + j)).length) * P.bytesOf e) (by simp only [DataW.weights, ht]; exact List.mem_cons_self)
      simp only [List.length_map, List.length_range] at this ⊢
      have hb1 : 1 ≤ P.bytesOf e := by omega
      have h3 : len ≤ (len + (m - len)) * P.bytesOf e := Nat.le_trans (Nat.le_add_right _ _) (Nat.le_mul_of_pos_right _ hb1)
      unfold lim; omega
    · simp only [List.length_map, List.length_range] at hn ⊢
      obtain ⟨h0, _⟩ := hel2 0 (by omega)
      obtain ⟨s1, s2⟩ := cell_lt h0
      obtain ⟨b, off, spot⟩ := a
      obtain rfl : spot = none := by simpa [Addr.add] using s1
      refine ⟨b, off, rfl, by simpa [Addr.add, old] using s2, fun j hj => ⟨[V j], ?_, rfl, fun i c hi => ?_⟩⟩
      · have : ((List.range len).map F).getD j d0 = F j := by simp [List.getD_eq_getElem?_getD, hj]
        rw [this]; exact hF j hj
      · cases i with
        | succ i => simp at hi
        | zero =>
          simp only [List.getElem?_cons_zero, Option.some.injEq] at hi
          subst hi
          obtain ⟨h1, _⟩ := hel2 j (by omega)
          rw [← Go.WideShapes.add_plain, Nat.mul_one, Nat.add_zero]; exact h1
theorem Zhv {t e fuel : Nat} {v : Value} {x : DataW H × List MemPlace} (ht : P.underlying t = some (.slice e)) (he : P.underlying e = some (.int .i64)) (hc : P.cellsOf e = 1) (hB : 1 ≤ P.bytesOf e)
    (h : DataW.trod enc P w base spare held fuel t [v] = some x) (hl : Zjz P t x.1) (ν : Nat → Value) (m : Bool) : ∃ l : List Int, R (old w) w (.roI l) ν m [v] :=
  rd_slice 0 (fun n es => es = [.int .i64 n]) ht hc (.inr hB) (fun n c y hy _ => by
    obtain ⟨k, hk, _⟩ := DataW.trod_int he hy
    exact ⟨k, hk⟩) h hl
theorem rd_intss {t e e2 fuel : Nat} {v : Value} {x : DataW H × List MemPlace} (ht : P.underlying t = some (.slice e)) (hc : P.cellsOf e = 1) (hB : 1 ≤ P.bytesOf e) (he : P.underlying e = some (.slice e2)) (he2 : P.underlying e2 = some (.int .i64)) (hc2 : P.cellsOf e2 = 1) (hB2 : 1 ≤ P.bytesOf e2)
    (h : DataW.trod enc P w base spare held fuel t [v] = some x) (hl : Zjz P t x.1) (ν : Nat → Value) (m : Bool) : ∃ l : List (List Int), R (old w) w (.roII l) ν m [v] :=
  rd_slice [] (fun l es => R (old w) w (.roI l) ν m es) ht hc (.inr hB) (fun n c y hy hl => Zhv he he2 hc2 hB2 hy hl ν m) h hl
theorem rd_game {r : Reach} {b0 t : Nat} {f0 f1 f2 : Field} {v : Value} {d : DataW H} {p : List MemPlace} (hs : P.underlying t = some (.struct #[f0, f1, f2])) (hone : oneCellFields P #[f0, f1, f2] = true) (hC : P.cellsOf t = 3) (hv : Value.okWide P w r b0 t v) (h : DataW.Trod enc P w base spare held t v d p) (hl : Zjz P t d)
    {e1 e2 : Nat} (h0 : P.underlying f0.type = some (.slice e1)) (h1 : P.underlying f1.type = some (.slice e1)) (h2 : P.underlying f2.type = some (.slice e2)) (he1 : P.underlying e1 = some (.int .i64)) (he2 : P.underlying e2 = some (.slice e1)) (hc1 : P.cellsOf e1 = 1) (hc2 : P.cellsOf e2 = 1) (hB1 : 1 ≤ P.bytesOf e1) (hB2 : 1 ≤ P.bytesOf e2) (ν : Nat → Value) :
    ∃ g : Gm, R (old w) w (gmA g) ν true [v] := by
  obtain ⟨v0, v1, v2, y0, y1, y2, n, rfl, rfl, rfl, t0, t1, t2⟩ := Go.Joins.open_agg3 hs hone hC hv h
  have hw : ∀ k, k ∈ y0.1.weights P f0.type ∨ k ∈ y1.1.weights P f1.type ∨ k ∈ y2.1.weights P f2.type → k ≤ 140737488351232 := fun k hk => hl k (by
    simp only [DataW.weights, hs, DataW.weightsEach, List.mem_append, List.map_cons, List.map_nil, List.not_mem_nil, or_false]
    exact hk)
  obtain ⟨o, ho⟩ := Zhv h0 he1 hc1 hB1 t0 (fun k hk => hw k (.inl hk)) ν true
  obtain ⟨q, hq⟩ := Zhv h1 he1 hc1 hB1 t1 (fun k hk => hw k (.inr (.inl hk))) ν true
  obtain ⟨x, hx⟩ := rd_intss h2 hc2 hB2 he2 he1 hc1 hB1 t2 (fun k hk => hw k (.inr (.inr hk))) ν true
  exact ⟨⟨o, q, x⟩, [v0, v1, v2], rfl, v0, [v1, v2], rfl, ho, v1, [v2], rfl, hq, v2, [], rfl, hx, rfl⟩
theorem light_of {ts : List TypeId} {ds : List (DataW H)} (hsz : (DataW.weightsEach P ts ds).all (· ≤ reachBytes) = true) {j t : Nat} {d : DataW H} (ht : ts[j]? = some t) (hd : ds[j]? = some d) : Zjz P t d := fun n hn => by
  have := List.all_eq_true.1 hsz _ (DataW.weights_mem_each ht hd n hn)
  exact of_decide_eq_true this
end
theorem law_calls {P : Program} {f : Nat} {S : Spec} (hS : Zb2 P f S) {args : List AV} {W : World} {vals : Array Value} (hs : S args = some ⟨True, .bool true, none⟩) (hm : men noK (mkL args) = true) (hr : R (old W) W (mkL args) nu0 true vals.toList) :
    Calls P f vals W fun e W' => e = .returned (.bool true) ∧ Below W.heap.size W W' := by
  have := hS.2 args _ hs trivial hm (old W) (old W) nu0 W vals (fun _ => rfl) hr (Zb5 hm) ⟨fun _ _ => False, fun k b h => by cases h⟩ (fun _ h => h) (fun _ h => h)
  refine CallsIn.calls (F := FF none) (n := 0) (CallsIn.mono (Zdt this) ?_) (fun k d hd => by cases hd)
  rintro e W' ⟨y, Z', ν', v, μ', rs', rfl, hst, _, _, _, hr', _, _, _, rfl, _⟩
  have : y = .bool true := one1 hr'
  subst this
  exact ⟨rfl, hst.ext.os, hst.ext.tape, hst.ext.output, hst.ext.size, fun k hk => hst.ext.block k hk⟩
end Go.Proofs.Ytbcghiagomkadaa.Cal
