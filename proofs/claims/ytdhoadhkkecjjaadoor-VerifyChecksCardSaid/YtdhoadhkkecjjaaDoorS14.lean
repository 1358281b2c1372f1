/- Own texts, merged. -/
import Derived.Test.YtdhoadhkkecjjaaDoorRows
import Derived.ChangeSame
import Derived.ChangeVars
import Derived.JoinedOf
import Derived.LaidLaws
import Derived.LaidHandle
import Derived.Stop.Joined
import Derived.Test.YtdhoadhkkecjjaaDoorS13
set_option linter.unusedVariables false
set_option linter.unusedSimpArgs false
open Nat (reduceAdd reduceSub reduceMul reduceEqDiff reduceLeDiff reduceLT)
namespace Go.Proofs.YtdhoadhkkecjjaaDoor.Cal
open Go Pl
theorem exV : Zbh ⟨[0, 1], [1, 2], [[0, 1], [0, 1]]⟩ = true := by
  refine Zdr ⟨by decide, rfl, rfl, fun v hv => ?_⟩
  have hv : v < 2 := hv
  have : v = 0 ∨ v = 1 := by omega
  rcases this with rfl | rfl
  · refine ⟨by decide, fun i hi => ?_⟩
    have hi : i < 2 := hi
    have : i = 0 ∨ i = 1 := by omega
    rcases this with rfl | rfl <;> exact ⟨by decide, by decide, by decide⟩
  · refine ⟨by decide, fun i hi => ?_⟩
    have hi : i < 2 := hi
    have : i = 0 ∨ i = 1 := by omega
    rcases this with rfl | rfl <;> exact ⟨by decide, by decide, by decide⟩
theorem exC : Zb0 ⟨[0, 1], [1, 2], [[0, 1], [0, 1]]⟩ [1, 1] [-1, 0] = true := by
  refine decide_eq_true ⟨rfl, rfl, fun v hv => ?_⟩
  have hv : v < 2 := hv
  have : v = 0 ∨ v = 1 := by omega
  rcases this with rfl | rfl
  · exact ⟨.inr rfl, fun h => absurd h (by decide), fun _ => rfl⟩
  · exact ⟨.inr rfl, fun _ => by decide, fun h => absurd rfl h⟩
theorem exNo : solB ⟨[0, 1], [1, 2], [[0, 1], [0, 1]]⟩ [1, 1] [-1, 0] = false := by
  rw [Bool.eq_false_iff]
  intro h
  have hi : isP ⟨[0, 1], [1, 2], [[0, 1], [0, 1]]⟩ [] [0, 1] = true := by decide
  have h1 := sol_no exV h hi
  have h2 : Zcn ⟨[0, 1], [1, 2], [[0, 1], [0, 1]]⟩ [1, 1] [-1, 0] [] [0, 1] = true := by
    refine against_iff.2 ⟨fun i hi => ?_, .inr (by decide)⟩
    have hi : i < 2 := hi
    have : i = 0 ∨ i = 1 := by omega
    rcases this with rfl | rfl
    · exact fun h => absurd h.1 (by decide)
    · exact fun _ => by decide
  rw [h1] at h2; cases h2
theorem Zjd {s l : List Int} {e : Int} (h : chkQ ⟨[0, 1], [1, 2], [[0, 1], [0, 1]]⟩ [1, 1] [-1, 0] s l e) : e = 8 ∧ (s.length ≤ 4 ∧ l.length ≤ 4) ∧ ctrR ⟨[0, 1], [1, 2], [[0, 1], [0, 1]]⟩ [1, 1] [-1, 0] s l = (true, 0) := by
  rcases h with ⟨h, _⟩ | ⟨_, h, _⟩ | ⟨_, _, h, _⟩ | ⟨_, _, h, e⟩
  · rw [exV] at h; cases h
  · rw [exC] at h; cases h
  · rw [exNo] at h; cases h
  · have hl : s.length + l.length ≤ 2 * 2 := h.len
    refine ⟨e, ⟨by omega, by omega⟩, ?_⟩
    unfold ctrR
    rw [if_pos exV, if_pos ⟨exC, h.is⟩, h.ag]
noncomputable def spAx : Nat → Option Spec
  | 27 => some exS
  | 17 => some ctrS
  | _ => none
theorem Zca : SpOK Tryd.prog spAx := by
  intro f S h
  unfold spAx at h
  split at h
  · cases h; exact ex_ok
  · cases h; exact vctr_ok
  · cases h
set_option maxRecDepth 4000 in
set_option maxHeartbeats 4000000 in
theorem Zdq : FG Tryd.prog 8 [] [(0, some glB)] 1 fun g => g = ⟨1, .bool true, [(0, some glB)]⟩ := by
  refine Zho htb (fn := Tryd.f8) (by kernel_rfl) (by kernel_rfl) rfl (Nat.le_of_ble_eq_true rfl) fun hl => ?_
  simp only [lenP, mkL, lim] at hl
  repeat' first
    | with_reducible first | apply Zar | apply Zan | apply Zaa | apply Zad | apply Zah | apply Zao | apply Zag | apply Zaj | apply Zaq | apply Zas | apply Zap | apply Zal | apply Zac | apply Zak
    | ((with_reducible refine Zai ?_ ?_); exact rfl) | ((with_reducible refine Zat ?_); refine Zam rfl ?_ ?_ <;> intro hb <;> (try simp only [zH] at hb)) | ((with_reducible refine Zau 2 ?_ ?_); (· exact rfl); (first | refine Zaf htb hmz Zca fF rfl rfl ?_ | refine Zae hmo htb hmz Zca fF rfl rfl (by kernel_rfl) ?_); intro _ _ _ _ h; simp only [zE, evp, evx, ev1, evLoad, evStore, evBin, evIf, Zab, forall_const, z38, tb, reduceAdd, reduceSub, reduceMul, reduceEqDiff, reduceLeDiff, reduceLT, Nat.reduceBEq, Nat.reduceBNe, ↓reduceIte, reduceIte, spAx, exS, ctrS, Zaw, Zay, Zax, true_and, and_true] at h; obtain ⟨rfl, rfl, rfl, rfl⟩ := h; refine ⟨?_, ?_⟩) | ((with_reducible refine Ob.mk ?_); first | exact trivial | (intros; omega) | ((repeat' first | apply And.intro | (intro a; have b := a; try simp only [zH] at b)) <;> first | assumption | omega | (simp only [zH]; omega)))
  refine awp_drawS hmo ?_
  refine Zfx (m := 7) htb hmz Zca (fun _ => false) 0 [0, 1] [6] (os := [_, _]) (wos := [_]) rfl rfl (Nat.le_of_ble_eq_true rfl) rfl rfl rfl (by kernel_rfl) ?_; intro _ _ _ _ h; simp only [zE, evp, evx, ev1, evLoad, evStore, evBin, evIf, Zab, forall_const, z38, tb, reduceAdd, reduceSub, reduceMul, reduceEqDiff, reduceLeDiff, reduceLT, Nat.reduceBEq, Nat.reduceBNe, ↓reduceIte, reduceIte, spAx, exS, ctrS, Zaw, Zay, Zax, true_and, and_true] at h; obtain ⟨rfl, rfl, rfl, rfl⟩ := h; refine ⟨?_, ?_, ?_⟩
  · first | ((with_reducible refine Ob.mk ?_); first | exact trivial | (intros; omega) | ((repeat' first | apply And.intro | (intro a; have b := a; try simp only [zH] at b)) <;> first | (with_reducible exact True.intro) | assumption | omega | (simp only [zH]; omega))) | skip
  · refine Zet [2, 6] (by kernel_rfl) fun i hi => ?_
    simp only [List.mem_cons, List.not_mem_nil, or_false] at hi
    rcases hi with rfl | rfl
    · refine ⟨_, rfl, rfl, ?_⟩
      refine Zbp ([0]) (Zfw) rfl rfl rfl rfl rfl rfl rfl rfl rfl (by simp only [rinR, rhoC, zE, evp, evx, ev1, evLoad, evStore, evBin, evIf, Zab, forall_const, z38, tb, reduceAdd, reduceSub, reduceMul, reduceEqDiff, reduceLeDiff, reduceLT, Nat.reduceBEq, Nat.reduceBNe, ↓reduceIte, reduceIte, spAx, exS, ctrS, Zaw, Zay, Zax, true_and, and_true]) ?_; intro gm gv gr hq m' e' l' h
      obtain ⟨s, l, e, hQ, hq⟩ := hq
      unfold rsA at hq
      simp only [GR.mk.injEq] at hq; obtain ⟨rfl, rfl, rfl⟩ := hq; simp only [rhoC, outR, renR, dels, zE, evp, evx, ev1, evLoad, evStore, evBin, evIf, Zab, forall_const, z38, tb, reduceAdd, reduceSub, reduceMul, reduceEqDiff, reduceLeDiff, reduceLT, Nat.reduceBEq, Nat.reduceBNe, ↓reduceIte, reduceIte, spAx, exS, ctrS, Zaw, Zay, Zax, true_and, and_true] at h; obtain ⟨rfl, rfl, rfl⟩ := h; refine Zaa ?_
      obtain ⟨rfl, ⟨hs4, hl4⟩, hcr⟩ := Zjd hQ
      refine Zfx (m := 6) htb hmz Zca (fun _ => false) 3 [3, 4, 5, 6, 7, 8] [] (os := [_, _, _, _, _, _]) (wos := []) rfl rfl (Nat.le_of_ble_eq_true rfl) rfl rfl rfl (by kernel_rfl) ?_; intro _ _ _ _ h; simp only [zE, evp, evx, ev1, evLoad, evStore, evBin, evIf, Zab, forall_const, z38, tb, reduceAdd, reduceSub, reduceMul, reduceEqDiff, reduceLeDiff, reduceLT, Nat.reduceBEq, Nat.reduceBNe, ↓reduceIte, reduceIte, spAx, exS, ctrS, Zaw, Zay, Zax, true_and, and_true] at h; obtain ⟨rfl, rfl, rfl, rfl⟩ := h; refine ⟨?_, ?_, ?_⟩
      · first | ((with_reducible refine Ob.mk ?_); first | exact trivial | (intros; omega) | ((repeat' first | apply And.intro | (intro a; have b := a; try simp only [zH] at b)) <;> first | (with_reducible exact True.intro) | assumption | omega | (simp only [zH]; omega))) | skip
      · refine Zhg (by kernel_rfl) ?_
        refine Zaa ?_
        repeat' first
          | with_reducible first | apply Zar | apply Zan | apply Zaa | apply Zad | apply Zah | apply Zao | apply Zag | apply Zaj | apply Zaq | apply Zas | apply Zap | apply Zal | apply Zac | apply Zak
          | ((with_reducible refine Zai ?_ ?_); exact rfl) | ((with_reducible refine Zat ?_); refine Zam rfl ?_ ?_ <;> intro hb <;> (try simp only [zH] at hb)) | ((with_reducible refine Zau 4 ?_ ?_); (· exact rfl); (first | refine Zaf htb hmz Zca fF rfl rfl ?_ | refine Zae hmo htb hmz Zca fF rfl rfl (by kernel_rfl) ?_); intro _ _ _ _ h; simp only [zE, evp, evx, ev1, evLoad, evStore, evBin, evIf, Zab, forall_const, z38, tb, reduceAdd, reduceSub, reduceMul, reduceEqDiff, reduceLeDiff, reduceLT, Nat.reduceBEq, Nat.reduceBNe, ↓reduceIte, reduceIte, spAx, exS, ctrS, Zaw, Zay, Zax, true_and, and_true] at h; obtain ⟨rfl, rfl, rfl, rfl⟩ := h; refine ⟨?_, ?_⟩) | ((with_reducible refine Ob.mk ?_); first | exact trivial | (intros; omega) | ((repeat' first | apply And.intro | (intro a; have b := a; try simp only [zH] at b)) <;> first | assumption | omega | (simp only [zH]; omega)))
        rw [hcr]
        repeat' first
          | with_reducible first | apply Zar | apply Zan | apply Zaa | apply Zad | apply Zah | apply Zao | apply Zag | apply Zaj | apply Zaq | apply Zas | apply Zap | apply Zal | apply Zac | apply Zak
          | ((with_reducible refine Zai ?_ ?_); exact rfl) | ((with_reducible refine Zat ?_); refine Zam rfl ?_ ?_ <;> intro hb <;> (try simp only [zH] at hb)) | ((with_reducible refine Za3 ?_); (first | refine Zaf htb hmz Zca fF rfl rfl ?_ | refine Zae hmo htb hmz Zca fF rfl rfl (by kernel_rfl) ?_); intro _ _ _ _ h; simp only [zE, evp, evx, ev1, evLoad, evStore, evBin, evIf, Zab, forall_const, z38, tb, reduceAdd, reduceSub, reduceMul, reduceEqDiff, reduceLeDiff, reduceLT, Nat.reduceBEq, Nat.reduceBNe, ↓reduceIte, reduceIte, spAx, exS, ctrS, Zaw, Zay, Zax, true_and, and_true] at h; obtain ⟨rfl, rfl, rfl, rfl⟩ := h; refine ⟨?_, ?_⟩) | ((with_reducible refine Ob.mk ?_); first | exact trivial | (intros; omega) | ((repeat' first | apply And.intro | (intro a; have b := a; try simp only [zH] at b)) <;> first | assumption | omega | (simp only [zH]; omega)))
        refine Zaz rfl rfl (Zdc ⟨1, .bool true, [(0, some glB)]⟩ [] rfl rfl (Zbz rfl) ?_)
        simp only [grR, zE, evp, evx, ev1, evLoad, evStore, evBin, evIf, Zab, forall_const, z38, tb, reduceAdd, reduceSub, reduceMul, reduceEqDiff, reduceLeDiff, reduceLT, Nat.reduceBEq, Nat.reduceBNe, ↓reduceIte, reduceIte, spAx, exS, ctrS, Zaw, Zay, Zax, true_and, and_true]
      · exact fun h => absurd rfl h
    · refine ⟨_, rfl, rfl, ?_⟩
      refine Zbb htb hmz Zca fF rfl rfl rfl ?_; intro _ _ _ _ h; simp only [zE, evp, evx, ev1, evLoad, evStore, evBin, evIf, Zab, forall_const, z38, tb, reduceAdd, reduceSub, reduceMul, reduceEqDiff, reduceLeDiff, reduceLT, Nat.reduceBEq, Nat.reduceBNe, ↓reduceIte, reduceIte, spAx, exS, ctrS, Zaw, Zay, Zax, true_and, and_true] at h; obtain ⟨rfl, rfl, rfl, rfl⟩ := h; refine ⟨?_, Zaa ?_⟩
      · first | ((with_reducible refine Ob.mk ?_); first | exact trivial | (intros; omega) | ((repeat' first | apply And.intro | (intro a; have b := a; try simp only [zH] at b)) <;> first | (with_reducible exact True.intro) | assumption | omega | (simp only [zH]; omega))) | skip
      refine Zet [2] (by kernel_rfl) fun i hi => ?_
      obtain rfl := List.mem_singleton.1 hi
      refine ⟨_, rfl, rfl, ?_⟩
      refine Zbp ([0]) (Zfw) rfl rfl rfl rfl rfl rfl rfl rfl rfl (by simp only [rinR, rhoC, zE, evp, evx, ev1, evLoad, evStore, evBin, evIf, Zab, forall_const, z38, tb, reduceAdd, reduceSub, reduceMul, reduceEqDiff, reduceLeDiff, reduceLT, Nat.reduceBEq, Nat.reduceBNe, ↓reduceIte, reduceIte, spAx, exS, ctrS, Zaw, Zay, Zax, true_and, and_true]) ?_; intro gm gv gr hq m' e' l' h
      obtain ⟨s, l, e, hQ, hq⟩ := hq
      unfold rsA at hq
      simp only [GR.mk.injEq] at hq; obtain ⟨rfl, rfl, rfl⟩ := hq; simp only [rhoC, outR, renR, dels, zE, evp, evx, ev1, evLoad, evStore, evBin, evIf, Zab, forall_const, z38, tb, reduceAdd, reduceSub, reduceMul, reduceEqDiff, reduceLeDiff, reduceLT, Nat.reduceBEq, Nat.reduceBNe, ↓reduceIte, reduceIte, spAx, exS, ctrS, Zaw, Zay, Zax, true_and, and_true] at h; obtain ⟨rfl, rfl, rfl⟩ := h; refine Zaa ?_
      obtain ⟨rfl, ⟨hs4, hl4⟩, hcr⟩ := Zjd hQ
      refine Zfx (m := 6) htb hmz Zca (fun _ => false) 4 [3, 4, 5, 7, 8] [] (os := [_, _, _, _, _]) (wos := []) rfl rfl (Nat.le_of_ble_eq_true rfl) rfl rfl rfl (by kernel_rfl) ?_; intro _ _ _ _ h; simp only [zE, evp, evx, ev1, evLoad, evStore, evBin, evIf, Zab, forall_const, z38, tb, reduceAdd, reduceSub, reduceMul, reduceEqDiff, reduceLeDiff, reduceLT, Nat.reduceBEq, Nat.reduceBNe, ↓reduceIte, reduceIte, spAx, exS, ctrS, Zaw, Zay, Zax, true_and, and_true] at h; obtain ⟨rfl, rfl, rfl, rfl⟩ := h; refine ⟨?_, ?_, ?_⟩
      · first | ((with_reducible refine Ob.mk ?_); first | exact trivial | (intros; omega) | ((repeat' first | apply And.intro | (intro a; have b := a; try simp only [zH] at b)) <;> first | (with_reducible exact True.intro) | assumption | omega | (simp only [zH]; omega))) | skip
      · refine Zhg (by kernel_rfl) ?_
        refine Zaa ?_
        repeat' first
          | with_reducible first | apply Zar | apply Zan | apply Zaa | apply Zad | apply Zah | apply Zao | apply Zag | apply Zaj | apply Zaq | apply Zas | apply Zap | apply Zal | apply Zac | apply Zak
          | ((with_reducible refine Zai ?_ ?_); exact rfl) | ((with_reducible refine Zat ?_); refine Zam rfl ?_ ?_ <;> intro hb <;> (try simp only [zH] at hb)) | ((with_reducible refine Zau 4 ?_ ?_); (· exact rfl); (first | refine Zaf htb hmz Zca fF rfl rfl ?_ | refine Zae hmo htb hmz Zca fF rfl rfl (by kernel_rfl) ?_); intro _ _ _ _ h; simp only [zE, evp, evx, ev1, evLoad, evStore, evBin, evIf, Zab, forall_const, z38, tb, reduceAdd, reduceSub, reduceMul, reduceEqDiff, reduceLeDiff, reduceLT, Nat.reduceBEq, Nat.reduceBNe, ↓reduceIte, reduceIte, spAx, exS, ctrS, Zaw, Zay, Zax, true_and, and_true] at h; obtain ⟨rfl, rfl, rfl, rfl⟩ := h; refine ⟨?_, ?_⟩) | ((with_reducible refine Ob.mk ?_); first | exact trivial | (intros; omega) | ((repeat' first | apply And.intro | (intro a; have b := a; try simp only [zH] at b)) <;> first | assumption | omega | (simp only [zH]; omega)))
        rw [hcr]
        repeat' first
          | with_reducible first | apply Zar | apply Zan | apply Zaa | apply Zad | apply Zah | apply Zao | apply Zag | apply Zaj | apply Zaq | apply Zas | apply Zap | apply Zal | apply Zac | apply Zak
          | ((with_reducible refine Zai ?_ ?_); exact rfl) | ((with_reducible refine Zat ?_); refine Zam rfl ?_ ?_ <;> intro hb <;> (try simp only [zH] at hb)) | ((with_reducible refine Za3 ?_); (first | refine Zaf htb hmz Zca fF rfl rfl ?_ | refine Zae hmo htb hmz Zca fF rfl rfl (by kernel_rfl) ?_); intro _ _ _ _ h; simp only [zE, evp, evx, ev1, evLoad, evStore, evBin, evIf, Zab, forall_const, z38, tb, reduceAdd, reduceSub, reduceMul, reduceEqDiff, reduceLeDiff, reduceLT, Nat.reduceBEq, Nat.reduceBNe, ↓reduceIte, reduceIte, spAx, exS, ctrS, Zaw, Zay, Zax, true_and, and_true] at h; obtain ⟨rfl, rfl, rfl, rfl⟩ := h; refine ⟨?_, ?_⟩) | ((with_reducible refine Ob.mk ?_); first | exact trivial | (intros; omega) | ((repeat' first | apply And.intro | (intro a; have b := a; try simp only [zH] at b)) <;> first | assumption | omega | (simp only [zH]; omega)))
        refine Zaz rfl rfl (Zdc ⟨1, .bool true, [(0, some glB)]⟩ [] rfl rfl (Zbz rfl) ?_)
        simp only [grR, zE, evp, evx, ev1, evLoad, evStore, evBin, evIf, Zab, forall_const, z38, tb, reduceAdd, reduceSub, reduceMul, reduceEqDiff, reduceLeDiff, reduceLT, Nat.reduceBEq, Nat.reduceBNe, ↓reduceIte, reduceIte, spAx, exS, ctrS, Zaw, Zay, Zax, true_and, and_true]
      · exact fun h => absurd rfl h
  · intro _ m2 e2 l2 ob2 h; simp only [zE, evp, evx, ev1, evLoad, evStore, evBin, evIf, Zab, forall_const, z38, tb, reduceAdd, reduceSub, reduceMul, reduceEqDiff, reduceLeDiff, reduceLT, Nat.reduceBEq, Nat.reduceBNe, ↓reduceIte, reduceIte, spAx, exS, ctrS, Zaw, Zay, Zax, true_and, and_true] at h; obtain ⟨rfl, rfl, rfl, rfl⟩ := h; refine ⟨?_, ?_⟩
    · first | ((with_reducible refine Ob.mk ?_); first | exact trivial | (intros; omega) | ((repeat' first | apply And.intro | (intro a; have b := a; try simp only [zH] at b)) <;> first | (with_reducible exact True.intro) | assumption | omega | (simp only [zH]; omega))) | skip
    refine Zet [2] (by kernel_rfl) fun i hi => ?_
    obtain rfl := List.mem_singleton.1 hi
    refine ⟨_, rfl, rfl, ?_⟩
    refine Zbp ([0]) (Zfw) rfl rfl rfl rfl rfl rfl rfl rfl rfl (by simp only [rinR, rhoC, zE, evp, evx, ev1, evLoad, evStore, evBin, evIf, Zab, forall_const, z38, tb, reduceAdd, reduceSub, reduceMul, reduceEqDiff, reduceLeDiff, reduceLT, Nat.reduceBEq, Nat.reduceBNe, ↓reduceIte, reduceIte, spAx, exS, ctrS, Zaw, Zay, Zax, true_and, and_true]) ?_; intro gm gv gr hq m' e' l' h
    obtain ⟨s, l, e, hQ, hq⟩ := hq
    unfold rsA at hq
    simp only [GR.mk.injEq] at hq; obtain ⟨rfl, rfl, rfl⟩ := hq; simp only [rhoC, outR, renR, dels, zE, evp, evx, ev1, evLoad, evStore, evBin, evIf, Zab, forall_const, z38, tb, reduceAdd, reduceSub, reduceMul, reduceEqDiff, reduceLeDiff, reduceLT, Nat.reduceBEq, Nat.reduceBNe, ↓reduceIte, reduceIte, spAx, exS, ctrS, Zaw, Zay, Zax, true_and, and_true] at h; obtain ⟨rfl, rfl, rfl⟩ := h; refine Zaa ?_
    obtain ⟨rfl, ⟨hs4, hl4⟩, hcr⟩ := Zjd hQ
    refine Zfx (m := 6) htb hmz Zca (fun _ => false) 4 [3, 4, 5, 7, 8] [] (os := [_, _, _, _, _]) (wos := []) rfl rfl (Nat.le_of_ble_eq_true rfl) rfl rfl rfl (by kernel_rfl) ?_; intro _ _ _ _ h; simp only [zE, evp, evx, ev1, evLoad, evStore, evBin, evIf, Zab, forall_const, z38, tb, reduceAdd, reduceSub, reduceMul, reduceEqDiff, reduceLeDiff, reduceLT, Nat.reduceBEq, Nat.reduceBNe, ↓reduceIte, reduceIte, spAx, exS, ctrS, Zaw, Zay, Zax, true_and, and_true] at h; obtain ⟨rfl, rfl, rfl, rfl⟩ := h; refine ⟨?_, ?_, ?_⟩
    · first | ((with_reducible refine Ob.mk ?_); first | exact trivial | (intros; omega) | ((repeat' first | apply And.intro | (intro a; have b := a; try simp only [zH] at b)) <;> first | (with_reducible exact True.intro) | assumption | omega | (simp only [zH]; omega))) | skip
    · refine Zhg (by kernel_rfl) ?_
      refine Zaa ?_
      repeat' first
        | with_reducible first | apply Zar | apply Zan | apply Zaa | apply Zad | apply Zah | apply Zao | apply Zag | apply Zaj | apply Zaq | apply Zas | apply Zap | apply Zal | apply Zac | apply Zak
        | ((with_reducible refine Zai ?_ ?_); exact rfl) | ((with_reducible refine Zat ?_); refine Zam rfl ?_ ?_ <;> intro hb <;> (try simp only [zH] at hb)) | ((with_reducible refine Zau 4 ?_ ?_); (· exact rfl); (first | refine Zaf htb hmz Zca fF rfl rfl ?_ | refine Zae hmo htb hmz Zca fF rfl rfl (by kernel_rfl) ?_); intro _ _ _ _ h; simp only [zE, evp, evx, ev1, evLoad, evStore, evBin, evIf, Zab, forall_const, z38, tb, reduceAdd, reduceSub, reduceMul, reduceEqDiff, reduceLeDiff, reduceLT, Nat.reduceBEq, Nat.reduceBNe, ↓reduceIte, reduceIte, spAx, exS, ctrS, Zaw, Zay, Zax, true_and, and_true] at h; obtain ⟨rfl, rfl, rfl, rfl⟩ := h; refine ⟨?_, ?_⟩) | ((with_reducible refine Ob.mk ?_); first | exact trivial | (intros; omega) | ((repeat' first | apply And.intro | (intro a; have b := a; try simp only [zH] at b)) <;> first | assumption | omega | (simp only [zH]; omega)))
      rw [hcr]
      repeat' first
        | with_reducible first | apply Zar | apply Zan | apply Zaa | apply Zad | apply Zah | apply Zao | apply Zag | apply Zaj | apply Zaq | apply Zas | apply Zap | apply Zal | apply Zac | apply Zak
        | ((with_reducible refine Zai ?_ ?_); exact rfl) | ((with_reducible refine Zat ?_); refine Zam rfl ?_ ?_ <;> intro hb <;> (try simp only [zH] at hb)) | ((with_reducible refine Za3 ?_); (first | refine Zaf htb hmz Zca fF rfl rfl ?_ | refine Zae hmo htb hmz Zca fF rfl rfl (by kernel_rfl) ?_); intro _ _ _ _ h; simp only [zE, evp, evx, ev1, evLoad, evStore, evBin, evIf, Zab, forall_const, z38, tb, reduceAdd, reduceSub, reduceMul, reduceEqDiff, reduceLeDiff, reduceLT, Nat.reduceBEq, Nat.reduceBNe, ↓reduceIte, reduceIte, spAx, exS, ctrS, Zaw, Zay, Zax, true_and, and_true] at h; obtain ⟨rfl, rfl, rfl, rfl⟩ := h; refine ⟨?_, ?_⟩) | ((with_reducible refine Ob.mk ?_); first | exact trivial | (intros; omega) | ((repeat' first | apply And.intro | (intro a; have b := a; try simp only [zH] at b)) <;> first | assumption | omega | (simp only [zH]; omega)))
      refine Zaz rfl rfl (Zdc ⟨1, .bool true, [(0, some glB)]⟩ [] rfl rfl (Zbz rfl) ?_)
      simp only [grR, zE, evp, evx, ev1, evLoad, evStore, evBin, evIf, Zab, forall_const, z38, tb, reduceAdd, reduceSub, reduceMul, reduceEqDiff, reduceLeDiff, reduceLT, Nat.reduceBEq, Nat.reduceBNe, ↓reduceIte, reduceIte, spAx, exS, ctrS, Zaw, Zay, Zax, true_and, and_true]
    · exact fun h => absurd rfl h
def gvnS : Spec
  | [.agg (.cons (.roI s) (.cons (.roI l) .nil))] => some ⟨True, .agg (.cons (.roI s) (.cons (.roI l) .nil)), none⟩
  | _ => none
def smpS : Spec
  | [.agg (.cons (.roI s) (.cons (.roI l) .nil)), .agg (.cons (.roI s2) (.cons (.roI l2) .nil))] => some ⟨True, .bool (decide (s = s2) && decide (l = l2)), none⟩
  | _ => none
set_option maxRecDepth 4000 in
set_option maxHeartbeats 4000000 in
theorem gtp_ok : Zcm Tryd.prog 14 gvnS := by
  refine Zbe htb (fn := Tryd.f14) (by kernel_rfl) (by kernel_rfl) rfl (fun args r hS => ?_) (fun args r hS hob hl => ?_)
  · unfold gvnS at hS; split at hS <;> first | (cases hS; done) | (cases hS; exact Nat.le_of_ble_eq_true rfl)
  unfold gvnS at hS
  split at hS
  case h_2 => cases hS
  rename_i s l
  simp only [Option.some.injEq] at hS
  subst hS
  simp only [lenP, mkL, lim] at hl
  dsimp only at hob
  repeat' first
    | with_reducible first | apply Zar | apply Zan | apply Zaa | apply Zad | apply Zah | apply Zao | apply Zag | apply Zaj | apply Zaq | apply Zas | apply Zap | apply Zal | apply Zac | apply Zak
    | ((with_reducible refine Zai ?_ ?_); exact rfl) | ((with_reducible refine Zat ?_); refine Zam rfl ?_ ?_ <;> intro hb <;> (try simp only [zH] at hb)) | ((with_reducible refine Za3 ?_); (first | refine Zaf htb hmz noSp fF rfl rfl ?_ | refine Zae hmo htb hmz noSp fF rfl rfl (by kernel_rfl) ?_); intro _ _ _ _ h; simp only [zE, evp, evx, ev1, evLoad, evStore, evBin, evIf, Zab, forall_const, z38, tb, reduceAdd, reduceSub, reduceMul, reduceEqDiff, reduceLeDiff, reduceLT, Nat.reduceBEq, Nat.reduceBNe, ↓reduceIte, reduceIte] at h; obtain ⟨rfl, rfl, rfl, rfl⟩ := h; refine ⟨?_, ?_⟩) | ((with_reducible refine Ob.mk ?_); first | exact trivial | (intros; omega) | ((repeat' first | apply And.intro | (intro a; have b := a; try simp only [zH] at b)) <;> first | assumption | omega | (simp only [zH]; omega)))
  refine Zaz rfl rfl (Zav rfl ?_ rfl)
  rfl
noncomputable def spSp : Nat → Option Spec
  | 34 => some Zis
  | _ => none
theorem spSp_ok : SpOK Tryd.prog spSp := by
  intro f S h
  unfold spSp at h
  split at h
  · cases h; exact list_ok
  · cases h
set_option maxRecDepth 4000 in
set_option maxHeartbeats 4000000 in
theorem smp_ok : Zcm Tryd.prog 13 smpS := by
  refine Zbe htb (fn := Tryd.f13) (by kernel_rfl) (by kernel_rfl) rfl (fun args r hS => ?_) (fun args r hS hob hl => ?_)
  · unfold smpS at hS; split at hS <;> first | (cases hS; done) | (cases hS; exact Nat.le_of_ble_eq_true rfl)
  unfold smpS at hS
  split at hS
  case h_2 => cases hS
  rename_i s l s2 l2
  simp only [Option.some.injEq] at hS
  subst hS
  simp only [lenP, mkL, lim] at hl
  dsimp only at hob
  repeat' first
    | with_reducible first | apply Zar | apply Zan | apply Zaa | apply Zad | apply Zah | apply Zao | apply Zag | apply Zaj | apply Zaq | apply Zas | apply Zap | apply Zal | apply Zac | apply Zak
    | ((with_reducible refine Zai ?_ ?_); exact rfl) | ((with_reducible refine Zat ?_); refine Zam rfl ?_ ?_ <;> intro hb <;> (try simp only [zH] at hb)) | ((with_reducible refine Za3 ?_); (first | refine Zaf htb hmz spSp_ok fF rfl rfl ?_ | refine Zae hmo htb hmz spSp_ok fF rfl rfl (by kernel_rfl) ?_); intro _ _ _ _ h; simp only [zE, evp, evx, ev1, evLoad, evStore, evBin, evIf, Zab, forall_const, z38, tb, reduceAdd, reduceSub, reduceMul, reduceEqDiff, reduceLeDiff, reduceLT, Nat.reduceBEq, Nat.reduceBNe, ↓reduceIte, reduceIte, spSp, Zis] at h; obtain ⟨rfl, rfl, rfl, rfl⟩ := h; refine ⟨?_, ?_⟩) | ((with_reducible refine Ob.mk ?_); first | exact trivial | (intros; omega) | ((repeat' first | apply And.intro | (intro a; have b := a; try simp only [zH] at b)) <;> first | assumption | omega | (simp only [zH]; omega)))
  refine Zaz rfl rfl (Zav rfl ?_ rfl)
  rfl
open Go
section
variable {P : Program} {ro : Option Nat} {N κ : Nat} {tb : Nat → Option TI} {sp : Nat → Option Spec}
theorem wpOps_seg {F : Fence} {n : Nat} {ops : Array Oper} {Q : Exit → Act → World → Prop} (l : List Oper) : ∀ k, (∀ j, j < l.length → l[j]? = ops[k + j]?) → wpOpsIn F n P ops Q (List.range' k l.length) = wpListIn F n P ops Q l := by
  induction l with
  | nil => intro k _; funext a w; simp [wpOpsIn, wpListIn]
  | cons o l ih =>
    intro k h
    have h0 : ops[k]? = some o := by simpa using (h 0 (by simp)).symm
    have ih' := ih (k + 1) (fun j hj => by have := h (j + 1) (by simpa using hj); simpa [Nat.add_assoc, Nat.add_comm 1 j] using this)
    funext a w
    simp only [List.length_cons, List.range'_succ, wpOpsIn, h0, wpListIn, ih']
theorem awpG_text (htb : Zc1 P tb) (hmz : ∀ t i, tb t = some i → men noK i.zero = true) (hsp : SpOK P sp) (ch : Nat → Bool) (k : Nat) {m : Nat} {all os post : List Oper} (pre : List Oper) {env : List (Nat × AV)} {l : List (Nat × Option Blk)} {ms : List Nat} {Q : Exit → St → Prop} (hall : all = pre ++ (os ++ post)) (hk : pre.length = k) (hN : Zdh N os = true) (hκ : Nat.ble κ (m + k) = true)
    (h : ∀ m' e' l' ob, evOut tb sp ch m all os k ⟨m + k, env, l, True⟩ = ⟨m', e', l', ob⟩ → Ob ob ∧ awpG P ro N κ all.toArray post (CS.st ⟨m', e', l', ms⟩) Q) : awpG P ro N κ all.toArray (os ++ post) (CS.st ⟨m + k, env, l, ms⟩) Q := by
  obtain ⟨hob, hq⟩ := h _ _ _ _ rfl
  obtain ⟨h1, h2, h3, h4⟩ := Zeh ch m all os k (m + k) env l True hob
  rw [h1, h2, h4] at hq
  obtain ⟨g1, g2, μ', g3, g4, g5⟩ := Zei (ro := ro) (N := N) htb hmz hsp ch m all ms os k env l (ltK (m + k)) hN (fun j hj => by show Nat.blt j (m + k) = false; cases hb : Nat.blt j (m + k) with | false => rfl | true => rw [Nat.blt_eq] at hb; omega) h3
  intro n K Z ν w a hg
  refine Zec (Zb6 (Q := Post N κ K Z w ν fun e s => e = .normal ∧ s = ⟨μ', lke (Zbv tb sp ch m all os k env l).env, lkr (Zbv tb sp ch m all os k env l).l, ms⟩) ?_ ?_)
  · rintro e a' w' ⟨Z', ν', s', q1, q2, q3, rfl, rfl⟩
    have := hq n _ _ ν' w' a' (q3.widen fun j hj => by
      show Nat.blt j (m + k + os.length) = true
      rw [Nat.blt_eq]
      rcases Nat.lt_or_ge j (m + k + os.length) with h | h
      · exact h
      · rw [g3 j h] at hj; cases hj)
    exact Zb6 (fun e a2 w2 hp => hp.trans q1 q2) this
  · rw [← wpOps_seg os k fun j hj => by rw [List.getElem?_toArray, hall, List.getElem?_append_right (by omega), hk, show k + j - k = j from by omega, List.getElem?_append_left hj]]
    refine Zgv (its := fun x => Zb7 (Zbv tb sp ch m all os k env l).its (x - k)) (σ' := ⟨μ', lke (Zbv tb sp ch m all os k env l).env, lkr (Zbv tb sp ch m all os k env l).l, ms⟩) ⟨rfl, rfl⟩ (List.range' k os.length) (CS.st ⟨m + k, env, l, ms⟩) (fun i hi => ?_) (fun j hj => ?_) g5 n K Z ν w a hg
    · rw [List.mem_range'] at hi
      obtain ⟨q, hq, rfl⟩ := hi
      refine ⟨os[q], ?_, ?_⟩
      · rw [List.getElem?_toArray, hall, List.getElem?_append_right (by omega), hk, show k + 1 * q - k = q from by omega, List.getElem?_append_left hq, List.getElem?_eq_getElem hq]
      · have := g2 q _ (List.getElem?_eq_getElem hq)
        rw [show k + 1 * q - k = q by omega]
        exact this
    · show Nat.blt j (m + k) = true
      rw [Nat.blt_eq]
      have := Nat.le_of_ble_eq_true hκ
      omega
theorem Zb3 (htb : Zc1 P tb) (hmz : ∀ t i, tb t = some i → men noK i.zero = true) (hsp : SpOK P sp) (ch : Nat → Bool) (k : Nat) {m : Nat} {all os post : List Oper} (pre : List Oper) {env : List (Nat × AV)} {l : List (Nat × Option Blk)} {ms : List Nat} {Q : Exit → St → Prop} (hall : all = pre ++ (os ++ post)) (hk : pre.length = k) (hN : Zdh N os = true) (hκ : Nat.ble κ m = true) (hle : Nat.ble k m = true)
    (h : ∀ m' e' l' ob, evOut tb sp ch (m - k) all os k ⟨m, env, l, True⟩ = ⟨m', e', l', ob⟩ → Ob ob ∧ awpG P ro N κ all.toArray post (CS.st ⟨m', e', l', ms⟩) Q) : awpG P ro N κ all.toArray (os ++ post) (CS.st ⟨m, env, l, ms⟩) Q := by
  have e : m - k + k = m := Nat.sub_add_cancel (Nat.le_of_ble_eq_true hle)
  have := awpG_text (ms := ms) (Q := Q) htb hmz hsp ch k (m := m - k) pre (env := env) (l := l) hall hk hN (by rw [e]; exact hκ) (by rw [e]; exact h)
  rw [e] at this
  exact this
theorem imp_whn {g : Bool} {u v : AV} (h : Imp u v) : Imp (.whn g u) (.whn g v) := fun Z w ν cs hr => ⟨fun hg => h _ _ _ _ (hr.1 hg), hr.2⟩
theorem good_slot {K Z : Nat → Prop} {w : World} {ν : Nat → Value} {m : Nat} {env : List (Nat × AV)} {l : List (Nat × Option Blk)} {ms : List Nat} {a : Act} {s : Nat} {v : AV} (hi : Imp (lke env s) v) (hm : men (ltK m) v = true) (hg : Good K Z N w ν (CS.st ⟨m, env, l, ms⟩) a) : Good K Z N w ν (CS.st ⟨m, (s, v) :: env, l, ms⟩) a := by
  refine ⟨hg.size, hg.one, fun t => ?_, hg.rs, hg.zk, hg.kl, hg.ds, hg.ml⟩
  have := hg.env t
  show men (ltK m) (lke ((s, v) :: env) t) = true ∧ R Z w (lke ((s, v) :: env) t) ν true _
  have e : lke ((s, v) :: env) t = if t = s then v else lke env t := by
    show (match Nat.beq t s with | true => v | false => lke env t) = _
    by_cases h : t = s
    · subst h; simp [Nat.beq_refl]
    · simp only [beqN h, if_neg h]
  rw [e]
  by_cases h : t = s
  · subst h
    rw [if_pos rfl]
    exact ⟨hm, hi _ _ _ _ this.2⟩
  · rw [if_neg h]; exact this
theorem awpL_slot {c : List Oper} {m : Nat} {env : List (Nat × AV)} {l : List (Nat × Option Blk)} {ms : List Nat} {Q : Exit → St → Prop} (s : Nat) (v : AV) (hi : Imp (lke env s) v) (hm : men (ltK m) v = true) (h : awpL P ro N κ c (CS.st ⟨m, (s, v) :: env, l, ms⟩) Q) : awpL P ro N κ c (CS.st ⟨m, env, l, ms⟩) Q :=
  fun n K Z ν w a hg => h n K Z ν w a (good_slot hi hm hg)
theorem awpG_slot {ops : Array Oper} {c : List Oper} {m : Nat} {env : List (Nat × AV)} {l : List (Nat × Option Blk)} {ms : List Nat} {Q : Exit → St → Prop} (s : Nat) (v : AV) (hi : Imp (lke env s) v) (hm : men (ltK m) v = true) (h : awpG P ro N κ ops c (CS.st ⟨m, (s, v) :: env, l, ms⟩) Q) : awpG P ro N κ ops c (CS.st ⟨m, env, l, ms⟩) Q :=
  fun n K Z ν w a hg => h n K Z ν w a (good_slot hi hm hg)
end
open Go Pl
def rgA (q : List Int × List Int) : AV := .agg (.cons (.roI q.1) (.cons (.roI q.2) .nil))
def rgO : AV → List Int × List Int
  | .agg (.cons (.roI w) (.cons (.roI c) .nil)) => (w, c)
  | _ => ([], [])
def Zin (q : List Int × List Int) : Bool := decide (400 < (q.1.length : Int)) || decide (400 < (q.2.length : Int))
def Zio (F : Nat → List Int × List Int) (n : Nat) : Bool := (List.range n).any fun j => Zin (F j)
def fwB (g : Gm) (s l : List Int) : Bool := (few 60 300 g && decide ((s.length : Int) ≤ 400)) && decide ((l.length : Int) ≤ 400)
def Zbo : Spec
  | [.agg (.cons (.roI o) (.cons (.roI p) (.cons (.roII x) .nil))), .agg (.cons (.roI s) (.cons (.roI l) .nil)), .ro 2 n f] => some ⟨f = fun j => rgA (rgO (f j)), .bool (!Zio (fun j => rgO (f j)) n && fwB ⟨o, p, x⟩ s l), none⟩
  | _ => none
noncomputable def spFw : Nat → Option Spec
  | 26 => some fewS
  | _ => none
theorem Zgs : SpOK Tryd.prog spFw := by
  intro f S h
  unfold spFw at h
  split at h
  · cases h; exact few_ok
  · cases h
set_option maxRecDepth 4000 in
set_option maxHeartbeats 4000000 in
theorem fw16_ok : Zcm Tryd.prog 7 Zbo := by
  refine Zbe htb (fn := Tryd.f7) (by kernel_rfl) (by kernel_rfl) rfl (fun args r hS => ?_) (fun args r hS hob hl => ?_)
  · unfold Zbo at hS; split at hS <;> first | (cases hS; done) | (cases hS; exact Nat.le_of_ble_eq_true rfl)
  unfold Zbo at hS
  split at hS
  case h_2 => cases hS
  rename_i o p x s l n f
  simp only [Option.some.injEq] at hS
  subst hS
  simp only [lenP, mkL, lim] at hl
  dsimp only at hob
  obtain ⟨F, hF⟩ : ∃ F : Nat → List Int × List Int, ∀ j, rgO (f j) = F j := ⟨_, fun _ => rfl⟩
  have hf : f = fun j => rgA (F j) := by rw [hob]; funext j; rw [hF]
  have hF' : (fun j => rgO (f j)) = F := funext hF
  rw [hF']
  clear hob hF hF'
  subst hf
  have hany : ∀ i, i < n → Zin (F i) = true → Zio F n = true := fun i hi h => List.any_eq_true.2 ⟨i, List.mem_range.2 hi, h⟩
  repeat' first
    | with_reducible first | apply Zar | apply Zan | apply Zaa | apply Zad | apply Zah | apply Zao | apply Zag | apply Zaj | apply Zaq | apply Zas | apply Zap | apply Zal | apply Zac | apply Zak
    | ((with_reducible refine Zai ?_ ?_); exact rfl) | ((with_reducible refine Zat ?_); refine Zam rfl ?_ ?_ <;> intro hb <;> (try simp only [zH] at hb)) | ((with_reducible refine Za3 ?_); (first | refine Zaf htb hmz Zgs fF rfl rfl ?_ | refine Zae hmo htb hmz Zgs fF rfl rfl (by kernel_rfl) ?_); intro _ _ _ _ h; simp only [zE, evp, evx, ev1, evLoad, evStore, evBin, evIf, Zab, forall_const, z38, tb, reduceAdd, reduceSub, reduceMul, reduceEqDiff, reduceLeDiff, reduceLT, Nat.reduceBEq, Nat.reduceBNe, ↓reduceIte, reduceIte, spFw, fewS, rgA] at h; obtain ⟨rfl, rfl, rfl, rfl⟩ := h; refine ⟨?_, ?_⟩) | ((with_reducible refine Ob.mk ?_); first | exact trivial | (intros; omega) | ((repeat' first | apply And.intro | (intro a; have b := a; try simp only [zH] at b)) <;> first | assumption | omega | (simp only [zH]; omega)))
  refine Za6 (τ := Nat) (fun i => i ≤ n ∧ ∀ j, j < i → Zin (F j) = false) (fun i => ⟨5, [(11, .int .i64 i), (10, .int .i64 n), (9, .ro 2 n (fun j => rgA (F j))), (4, .rop (.agg (.cons (.roI s) (.cons (.roI l) .nil)))), (3, .rop (.agg (.cons (.roI o) (.cons (.roI p) (.cons (.roII x) .nil)))))], [], []⟩) (fun i => n - i) 0 [] ?_ ⟨Nat.zero_le _, fun j hj => absurd hj (Nat.not_lt_zero j)⟩ ?_
  · (refine ⟨rfl, ?_, ?_⟩ <;> simp only [zE, evp, evx, ev1, evLoad, evStore, evBin, evIf, Zab, forall_const, z38, tb, reduceAdd, reduceSub, reduceMul, reduceEqDiff, reduceLeDiff, reduceLT, Nat.reduceBEq, Nat.reduceBNe, ↓reduceIte, reduceIte, spFw, fewS, rgA, zI])
  rintro i ⟨hi, hk⟩
  repeat' first
    | with_reducible first | apply Zar | apply Zan | apply Zaa | apply Zad | apply Zah | apply Zao | apply Zag | apply Zaj | apply Zaq | apply Zas | apply Zap | apply Zal | apply Zac | apply Zak
    | ((with_reducible refine Zai ?_ ?_); exact rfl) | ((with_reducible refine Zat ?_); refine Zam rfl ?_ ?_ <;> intro hb <;> (try simp only [zH] at hb)) | ((with_reducible refine Za3 ?_); (first | refine Zaf htb hmz Zgs fF rfl rfl ?_ | refine Zae hmo htb hmz Zgs fF rfl rfl (by kernel_rfl) ?_); intro _ _ _ _ h; simp only [zE, evp, evx, ev1, evLoad, evStore, evBin, evIf, Zab, forall_const, z38, tb, reduceAdd, reduceSub, reduceMul, reduceEqDiff, reduceLeDiff, reduceLT, Nat.reduceBEq, Nat.reduceBNe, ↓reduceIte, reduceIte, spFw, fewS, rgA] at h; obtain ⟨rfl, rfl, rfl, rfl⟩ := h; refine ⟨?_, ?_⟩) | ((with_reducible refine Ob.mk ?_); first | exact trivial | (intros; omega) | ((repeat' first | apply And.intro | (intro a; have b := a; try simp only [zH] at b)) <;> first | assumption | omega | (simp only [zH]; omega)))
  · refine Zaz rfl rfl (Zav rfl ?_ rfl)
    have : Zio F n = true := hany i (by omega) (by
      unfold Zin
      rw [Bool.or_eq_true, decide_eq_true_eq, decide_eq_true_eq]
      exact hb)
    rw [this]
    rfl
  · refine back (i + 1) [] ?_ ⟨by omega, fun j hj => ?_⟩ (by omega)
    · (refine ⟨rfl, ?_, ?_⟩ <;> simp only [zE, evp, evx, ev1, evLoad, evStore, evBin, evIf, Zab, forall_const, z38, tb, reduceAdd, reduceSub, reduceMul, reduceEqDiff, reduceLeDiff, reduceLT, Nat.reduceBEq, Nat.reduceBNe, ↓reduceIte, reduceIte, spFw, fewS, rgA, zI])
    · rcases Nat.lt_succ_iff_lt_or_eq.1 hj with h | rfl
      · exact hk j h
      · unfold Zin
        rw [Bool.or_eq_false_iff, decide_eq_false_iff_not, decide_eq_false_iff_not]
        omega
  · refine Zaz rfl rfl (Zav rfl ?_ rfl)
    have hin : i = n := by omega
    have : Zio F n = false := by
      unfold Zio
      rw [List.any_eq_false]
      intro j hj
      rw [hk j (by rw [hin]; exact List.mem_range.1 hj)]
      decide
    rw [this]
    rfl
theorem imp_nilP : Imp (.agg (.cons (.cst (.slice none 0 0)) (.cons (.cst (.slice none 0 0)) .nil))) (.agg (.cons (.roI []) (.cons (.roI []) .nil))) := Zgf (Zb5 Zcy (Zb5 Zcy (Zbz rfl)))
open Go Pl
noncomputable def spVk : Nat → Option Spec
  | 7 => some Zbo
  | 10 => some Za1
  | 11 => some Za7
  | 12 => some solS
  | 14 => some gvnS
  | 13 => some smpS
  | 15 => some isS
  | 16 => some agnS
  | _ => none
theorem Za8 : SpOK Tryd.prog spVk := by
  intro f S h
  unfold spVk at h
  split at h
  · cases h; exact fw16_ok
  · cases h; exact valid12_ok
  · cases h; exact claim_ok
  · cases h; exact solution_ok
  · cases h; exact gtp_ok
  · cases h; exact smp_ok
  · cases h; exact is_ok
  · cases h; exact agn_ok
  · cases h
set_option maxRecDepth 4000 in
set_option maxHeartbeats 4000000 in
theorem vck_fg {o p w c : List Int} {x : List (List Int)} : FG Tryd.prog 3 [.agg (.cons (.roI o) (.cons (.roI p) (.cons (.roII x) .nil))), .agg (.cons (.roI w) (.cons (.roI c) .nil))] [(0, some glB)] 1 fun g => g = ⟨1, .bool true, [(0, some glB)]⟩ := by
  refine Zho htb (fn := Tryd.f3) (by kernel_rfl) (by kernel_rfl) rfl (Nat.le_of_ble_eq_true rfl) fun hl => ?_
  simp only [lenP, mkL, lim] at hl
  repeat' first
    | with_reducible first | apply Zar | apply Zan | apply Zaa | apply Zad | apply Zah | apply Zao | apply Zag | apply Zaj | apply Zaq | apply Zas | apply Zap | apply Zal | apply Zac | apply Zak
    | ((with_reducible refine Zai ?_ ?_); exact rfl) | ((with_reducible refine Zat ?_); refine Zam rfl ?_ ?_ <;> intro hb <;> (try simp only [zH] at hb)) | ((with_reducible refine Zau 1 ?_ ?_); (· exact rfl); (first | refine Zaf htb hmz Za8 fF rfl rfl ?_ | refine Zae hmo htb hmz Za8 fF rfl rfl (by kernel_rfl) ?_); intro _ _ _ _ h; simp only [zE, evp, evx, ev1, evLoad, evStore, evBin, evIf, Zab, forall_const, z38, tb, reduceAdd, reduceSub, reduceMul, reduceEqDiff, reduceLeDiff, reduceLT, Nat.reduceBEq, Nat.reduceBNe, ↓reduceIte, reduceIte, spVk, Zbo, Za1, Za7, solS, gvnS, smpS, isS, agnS, Zaw, Zay, Zax, true_and, and_true] at h; obtain ⟨rfl, rfl, rfl, rfl⟩ := h; refine ⟨?_, ?_⟩) | ((with_reducible refine Ob.mk ?_); first | exact trivial | (intros; omega) | ((repeat' first | apply And.intro | (intro a; have b := a; try simp only [zH] at b)) <;> first | assumption | omega | (simp only [zH]; omega)))
  refine Zc5 rfl ?_
  refine Zcc (l1 := [_, _, _, _]) (l2 := [_, _]) ?_
  refine Zbb htb hmz Za8 fF rfl rfl rfl ?_; intro _ _ _ _ h; simp only [zE, evp, evx, ev1, evLoad, evStore, evBin, evIf, Zab, forall_const, z38, tb, reduceAdd, reduceSub, reduceMul, reduceEqDiff, reduceLeDiff, reduceLT, Nat.reduceBEq, Nat.reduceBNe, ↓reduceIte, reduceIte, spVk, Zbo, Za1, Za7, solS, gvnS, smpS, isS, agnS, Zaw, Zay, Zax, true_and, and_true] at h; obtain ⟨rfl, rfl, rfl, rfl⟩ := h; refine ⟨?_, Zaa ?_⟩
  · first | ((with_reducible refine Ob.mk ?_); first | exact trivial | (intros; omega) | ((repeat' first | apply And.intro | (intro a; have b := a; try simp only [zH] at b)) <;> first | assumption | omega | (simp only [zH]; omega))) | skip
  refine awpL_slot 9 _ imp_nilP rfl ?_
  refine Zbb htb hmz Za8 fF rfl rfl rfl ?_; intro _ _ _ _ h; simp only [zE, evp, evx, ev1, evLoad, evStore, evBin, evIf, Zab, forall_const, z38, tb, reduceAdd, reduceSub, reduceMul, reduceEqDiff, reduceLeDiff, reduceLT, Nat.reduceBEq, Nat.reduceBNe, ↓reduceIte, reduceIte, spVk, Zbo, Za1, Za7, solS, gvnS, smpS, isS, agnS, Zaw, Zay, Zax, true_and, and_true] at h; obtain ⟨rfl, rfl, rfl, rfl⟩ := h; refine ⟨?_, ?_⟩
  · exact Ob.mk rfl
  refine Zaa ?_
  repeat' first
    | with_reducible first | apply Zar | apply Zan | apply Zaa | apply Zad | apply Zah | apply Zao | apply Zag | apply Zaj | apply Zaq | apply Zas | apply Zap | apply Zal | apply Zac | apply Zak
    | ((with_reducible refine Zai ?_ ?_); exact rfl) | ((with_reducible refine Zat ?_); refine Zam rfl ?_ ?_ <;> intro hb <;> (try simp only [zH] at hb)) | ((with_reducible refine Zau 2 ?_ ?_); (· exact rfl); (with_reducible refine Zau 3 ?_ ?_); (· exact rfl); (first | refine Zaf htb hmz Za8 fF rfl rfl ?_ | refine Zae hmo htb hmz Za8 fF rfl rfl (by kernel_rfl) ?_); intro _ _ _ _ h; simp only [zE, evp, evx, ev1, evLoad, evStore, evBin, evIf, Zab, forall_const, z38, tb, reduceAdd, reduceSub, reduceMul, reduceEqDiff, reduceLeDiff, reduceLT, Nat.reduceBEq, Nat.reduceBNe, ↓reduceIte, reduceIte, spVk, Zbo, Za1, Za7, solS, gvnS, smpS, isS, agnS, Zaw, Zay, Zax, true_and, and_true] at h; obtain ⟨rfl, rfl, rfl, rfl⟩ := h; refine ⟨?_, ?_⟩) | ((with_reducible refine Ob.mk ?_); first | exact trivial | (intros; omega) | ((repeat' first | apply And.intro | (intro a; have b := a; try simp only [zH] at b)) <;> first | assumption | omega | (simp only [zH]; omega)))
  · refine Zc5 rfl ?_
    refine Zcc (l1 := [_]) (l2 := [_]) ?_
    refine Zbp ([0]) (Zdq) rfl rfl rfl rfl rfl rfl rfl rfl rfl (by simp only [rinR, rhoC, zE, evp, evx, ev1, evLoad, evStore, evBin, evIf, Zab, forall_const, z38, tb, reduceAdd, reduceSub, reduceMul, reduceEqDiff, reduceLeDiff, reduceLT, Nat.reduceBEq, Nat.reduceBNe, ↓reduceIte, reduceIte, spVk, Zbo, Za1, Za7, solS, gvnS, smpS, isS, agnS, Zaw, Zay, Zax, true_and, and_true]) ?_; intro gm gv gr hq m' e' l' h; simp only [GR.mk.injEq] at hq; obtain ⟨rfl, rfl, rfl⟩ := hq; simp only [rhoC, outR, renR, dels, zE, evp, evx, ev1, evLoad, evStore, evBin, evIf, Zab, forall_const, z38, tb, reduceAdd, reduceSub, reduceMul, reduceEqDiff, reduceLeDiff, reduceLT, Nat.reduceBEq, Nat.reduceBNe, ↓reduceIte, reduceIte, spVk, Zbo, Za1, Za7, solS, gvnS, smpS, isS, agnS, Zaw, Zay, Zax, true_and, and_true] at h; obtain ⟨rfl, rfl, rfl⟩ := h; refine Zaa ?_
    refine Zbb htb hmz Za8 fF rfl rfl rfl ?_; intro _ _ _ _ h; simp only [zE, evp, evx, ev1, evLoad, evStore, evBin, evIf, Zab, forall_const, z38, tb, reduceAdd, reduceSub, reduceMul, reduceEqDiff, reduceLeDiff, reduceLT, Nat.reduceBEq, Nat.reduceBNe, ↓reduceIte, reduceIte, spVk, Zbo, Za1, Za7, solS, gvnS, smpS, isS, agnS, Zaw, Zay, Zax, true_and, and_true] at h; obtain ⟨rfl, rfl, rfl, rfl⟩ := h; refine ⟨?_, ?_⟩
    · first | ((with_reducible refine Ob.mk ?_); first | exact trivial | (intros; omega) | ((repeat' first | apply And.intro | (intro a; have b := a; try simp only [zH] at b)) <;> first | assumption | omega | (simp only [zH]; omega))) | skip
    refine Zaa ?_
    repeat' first
      | with_reducible first | apply Zar | apply Zan | apply Zaa | apply Zad | apply Zah | apply Zao | apply Zag | apply Zaj | apply Zaq | apply Zas | apply Zap | apply Zal | apply Zac | apply Zak
      | ((with_reducible refine Zai ?_ ?_); exact rfl) | ((with_reducible refine Zat ?_); refine Zam rfl ?_ ?_ <;> intro hb <;> (try simp only [zH] at hb)) | ((with_reducible refine Za3 ?_); (first | refine Zaf htb hmz Za8 fF rfl rfl ?_ | refine Zae hmo htb hmz Za8 fF rfl rfl (by kernel_rfl) ?_); intro _ _ _ _ h; simp only [zE, evp, evx, ev1, evLoad, evStore, evBin, evIf, Zab, forall_const, z38, tb, reduceAdd, reduceSub, reduceMul, reduceEqDiff, reduceLeDiff, reduceLT, Nat.reduceBEq, Nat.reduceBNe, ↓reduceIte, reduceIte, spVk, Zbo, Za1, Za7, solS, gvnS, smpS, isS, agnS, Zaw, Zay, Zax, true_and, and_true] at h; obtain ⟨rfl, rfl, rfl, rfl⟩ := h; refine ⟨?_, ?_⟩) | ((with_reducible refine Ob.mk ?_); first | exact trivial | (intros; omega) | ((repeat' first | apply And.intro | (intro a; have b := a; try simp only [zH] at b)) <;> first | assumption | omega | (simp only [zH]; omega)))
    refine Zaz rfl rfl (Zdc ⟨1, .bool true, [(0, some glB)]⟩ [] rfl rfl (Zbz rfl) ?_)
    simp only [grR, zE, evp, evx, ev1, evLoad, evStore, evBin, evIf, Zab, forall_const, z38, tb, reduceAdd, reduceSub, reduceMul, reduceEqDiff, reduceLeDiff, reduceLT, Nat.reduceBEq, Nat.reduceBNe, ↓reduceIte, reduceIte, spVk, Zbo, Za1, Za7, solS, gvnS, smpS, isS, agnS, Zaw, Zay, Zax, true_and, and_true]
  clear hb
  refine Zc5 rfl ?_
  refine Zcc (l1 := [_, _]) (l2 := [_, _, _, _, _, _, _]) ?_
  refine Zbb htb hmz Za8 fF rfl rfl rfl ?_; intro _ _ _ _ h; simp only [zE, evp, evx, ev1, evLoad, evStore, evBin, evIf, Zab, forall_const, z38, tb, reduceAdd, reduceSub, reduceMul, reduceEqDiff, reduceLeDiff, reduceLT, Nat.reduceBEq, Nat.reduceBNe, ↓reduceIte, reduceIte, spVk, Zbo, Za1, Za7, solS, gvnS, smpS, isS, agnS, Zaw, Zay, Zax, true_and, and_true] at h; obtain ⟨rfl, rfl, rfl, rfl⟩ := h; refine ⟨?_, Zaa ?_⟩
  · first | ((with_reducible refine Ob.mk ?_); first | exact trivial | (intros; omega) | ((repeat' first | apply And.intro | (intro a; have b := a; try simp only [zH] at b)) <;> first | assumption | omega | (simp only [zH]; omega))) | skip
  refine Zcc (l1 := [_]) (l2 := [_, _, _, _, _, _]) ?_
  refine Zbp ([0]) (Zfw) rfl rfl rfl rfl rfl rfl rfl rfl rfl (by simp only [rinR, rhoC, zE, evp, evx, ev1, evLoad, evStore, evBin, evIf, Zab, forall_const, z38, tb, reduceAdd, reduceSub, reduceMul, reduceEqDiff, reduceLeDiff, reduceLT, Nat.reduceBEq, Nat.reduceBNe, ↓reduceIte, reduceIte, spVk, Zbo, Za1, Za7, solS, gvnS, smpS, isS, agnS, Zaw, Zay, Zax, true_and, and_true]) ?_; intro gm gv gr hq m' e' l' h
  obtain ⟨s, l, e, hQ, hq⟩ := hq
  unfold rsA at hq
  simp only [GR.mk.injEq] at hq; obtain ⟨rfl, rfl, rfl⟩ := hq; simp only [rhoC, outR, renR, dels, zE, evp, evx, ev1, evLoad, evStore, evBin, evIf, Zab, forall_const, z38, tb, reduceAdd, reduceSub, reduceMul, reduceEqDiff, reduceLeDiff, reduceLT, Nat.reduceBEq, Nat.reduceBNe, ↓reduceIte, reduceIte, spVk, Zbo, Za1, Za7, solS, gvnS, smpS, isS, agnS, Zaw, Zay, Zax, true_and, and_true] at h; obtain ⟨rfl, rfl, rfl⟩ := h; refine Zaa ?_
  refine Zbb htb hmz Za8 fF rfl rfl rfl ?_; intro _ _ _ _ h; simp only [zE, evp, evx, ev1, evLoad, evStore, evBin, evIf, Zab, forall_const, z38, tb, reduceAdd, reduceSub, reduceMul, reduceEqDiff, reduceLeDiff, reduceLT, Nat.reduceBEq, Nat.reduceBNe, ↓reduceIte, reduceIte, spVk, Zbo, Za1, Za7, solS, gvnS, smpS, isS, agnS, Zaw, Zay, Zax, true_and, and_true] at h; obtain ⟨rfl, rfl, rfl, rfl⟩ := h; refine ⟨?_, ?_⟩
  · first | ((with_reducible refine Ob.mk ?_); first | exact trivial | (intros; omega) | ((repeat' first | apply And.intro | (intro a; have b := a; try simp only [zH] at b)) <;> first | assumption | omega | (simp only [zH]; omega))) | skip
  refine Zaa ?_
  rcases hQ with ⟨hv, rfl, rfl, rfl⟩ | ⟨hv, hc, rfl, rfl, rfl⟩ | ⟨hv, hc, hs, rfl, rfl, rfl⟩ | ⟨hv, hc, hcp, rfl⟩
  · repeat' first
      | with_reducible first | apply Zar | apply Zan | apply Zaa | apply Zad | apply Zah | apply Zao | apply Zag | apply Zaj | apply Zaq | apply Zas | apply Zap | apply Zal | apply Zac | apply Zak
      | ((with_reducible refine Zai ?_ ?_); exact rfl) | ((with_reducible refine Zat ?_); refine Zam rfl ?_ ?_ <;> intro hb <;> (try simp only [zH] at hb)) | ((with_reducible refine Zau 5 ?_ ?_); (· exact rfl); (with_reducible refine Zau 6 ?_ ?_); (· exact rfl); (first | refine Zaf htb hmz Za8 fF rfl rfl ?_ | refine Zae hmo htb hmz Za8 fF rfl rfl (by kernel_rfl) ?_); intro _ _ _ _ h; simp only [zE, evp, evx, ev1, evLoad, evStore, evBin, evIf, Zab, forall_const, z38, tb, reduceAdd, reduceSub, reduceMul, reduceEqDiff, reduceLeDiff, reduceLT, Nat.reduceBEq, Nat.reduceBNe, ↓reduceIte, reduceIte, spVk, Zbo, Za1, Za7, solS, gvnS, smpS, isS, agnS, Zaw, Zay, Zax, true_and, and_true] at h; obtain ⟨rfl, rfl, rfl, rfl⟩ := h; refine ⟨?_, ?_⟩) | ((with_reducible refine Ob.mk ?_); first | exact trivial | (intros; omega) | ((repeat' first | apply And.intro | (intro a; have b := a; try simp only [zH] at b)) <;> first | assumption | omega | (simp only [zH]; omega)))
    · refine Zfc ?_
      refine Zb3 htb hmz Za8 (fun _ => false) 0 [] (os := [_, _, _]) (post := [_, _, _]) rfl rfl rfl rfl rfl ?_; intro _ _ _ _ h; simp only [zE, evp, evx, ev1, evLoad, evStore, evBin, evIf, Zab, forall_const, z38, tb, reduceAdd, reduceSub, reduceMul, reduceEqDiff, reduceLeDiff, reduceLT, Nat.reduceBEq, Nat.reduceBNe, ↓reduceIte, reduceIte, spVk, Zbo, Za1, Za7, solS, gvnS, smpS, isS, agnS, Zaw, Zay, Zax, true_and, and_true] at h; obtain ⟨rfl, rfl, rfl, rfl⟩ := h; refine ⟨?_, ?_⟩
      · first | ((with_reducible refine Ob.mk ?_); first | exact trivial | (intros; omega) | ((repeat' first | apply And.intro | (intro a; have b := a; try simp only [zH] at b)) <;> first | assumption | omega | (simp only [zH]; omega))) | skip
      refine Zfy rfl rfl rfl rfl ?_
      dsimp only [noGd]
      refine Zbp ([0]) (Zdq) rfl rfl rfl rfl rfl rfl rfl rfl rfl (by simp only [rinR, rhoC, zE, evp, evx, ev1, evLoad, evStore, evBin, evIf, Zab, forall_const, z38, tb, reduceAdd, reduceSub, reduceMul, reduceEqDiff, reduceLeDiff, reduceLT, Nat.reduceBEq, Nat.reduceBNe, ↓reduceIte, reduceIte, spVk, Zbo, Za1, Za7, solS, gvnS, smpS, isS, agnS, Zaw, Zay, Zax, true_and, and_true]) ?_; intro gm gv gr hq m' e' l' h; simp only [GR.mk.injEq] at hq; obtain ⟨rfl, rfl, rfl⟩ := hq; simp only [rhoC, outR, renR, dels, zE, evp, evx, ev1, evLoad, evStore, evBin, evIf, Zab, forall_const, z38, tb, reduceAdd, reduceSub, reduceMul, reduceEqDiff, reduceLeDiff, reduceLT, Nat.reduceBEq, Nat.reduceBNe, ↓reduceIte, reduceIte, spVk, Zbo, Za1, Za7, solS, gvnS, smpS, isS, agnS, Zaw, Zay, Zax, true_and, and_true] at h; obtain ⟨rfl, rfl, rfl⟩ := h; refine Zaa ?_
      refine Zb3 htb hmz Za8 (fun _ => false) 4 [_, _, _, _] (os := [_, _]) (post := []) rfl rfl rfl rfl rfl ?_; intro _ _ _ _ h; simp only [zE, evp, evx, ev1, evLoad, evStore, evBin, evIf, Zab, forall_const, z38, tb, reduceAdd, reduceSub, reduceMul, reduceEqDiff, reduceLeDiff, reduceLT, Nat.reduceBEq, Nat.reduceBNe, ↓reduceIte, reduceIte, spVk, Zbo, Za1, Za7, solS, gvnS, smpS, isS, agnS, Zaw, Zay, Zax, true_and, and_true] at h; obtain ⟨rfl, rfl, rfl, rfl⟩ := h; refine ⟨?_, ?_⟩
      · first | ((with_reducible refine Ob.mk ?_); first | exact trivial | (intros; omega) | ((repeat' first | apply And.intro | (intro a; have b := a; try simp only [zH] at b)) <;> first | assumption | omega | (simp only [zH]; omega))) | skip
      refine Zfz ?_
      refine Zaa ?_
      repeat' first
        | with_reducible first | apply Zar | apply Zan | apply Zaa | apply Zad | apply Zah | apply Zao | apply Zag | apply Zaj | apply Zaq | apply Zas | apply Zap | apply Zal | apply Zac | apply Zak
        | ((with_reducible refine Zai ?_ ?_); exact rfl) | ((with_reducible refine Zat ?_); refine Zam rfl ?_ ?_ <;> intro hb <;> (try simp only [zH] at hb)) | ((with_reducible refine Za3 ?_); (first | refine Zaf htb hmz Za8 fF rfl rfl ?_ | refine Zae hmo htb hmz Za8 fF rfl rfl (by kernel_rfl) ?_); intro _ _ _ _ h; simp only [zE, evp, evx, ev1, evLoad, evStore, evBin, evIf, Zab, forall_const, z38, tb, reduceAdd, reduceSub, reduceMul, reduceEqDiff, reduceLeDiff, reduceLT, Nat.reduceBEq, Nat.reduceBNe, ↓reduceIte, reduceIte, spVk, Zbo, Za1, Za7, solS, gvnS, smpS, isS, agnS, Zaw, Zay, Zax, true_and, and_true] at h; obtain ⟨rfl, rfl, rfl, rfl⟩ := h; refine ⟨?_, ?_⟩) | ((with_reducible refine Ob.mk ?_); first | exact trivial | (intros; omega) | ((repeat' first | apply And.intro | (intro a; have b := a; try simp only [zH] at b)) <;> first | assumption | omega | (simp only [zH]; omega)))
      refine Zaz rfl rfl (Zdc ⟨1, .bool true, [(0, some glB)]⟩ [] rfl rfl (Zbz rfl) ?_)
      simp only [grR, zE, evp, evx, ev1, evLoad, evStore, evBin, evIf, Zab, forall_const, z38, tb, reduceAdd, reduceSub, reduceMul, reduceEqDiff, reduceLeDiff, reduceLT, Nat.reduceBEq, Nat.reduceBNe, ↓reduceIte, reduceIte, spVk, Zbo, Za1, Za7, solS, gvnS, smpS, isS, agnS, Zaw, Zay, Zax, true_and, and_true]
    · rw [hv] at hb; cases hb
  · have hxl : x.length = o.length := (gok (validB_iff.1 hv)).xl
    repeat' first
      | with_reducible first | apply Zar | apply Zan | apply Zaa | apply Zad | apply Zah | apply Zao | apply Zag | apply Zaj | apply Zaq | apply Zas | apply Zap | apply Zal | apply Zac | apply Zak
      | ((with_reducible refine Zai ?_ ?_); exact rfl) | ((with_reducible refine Zat ?_); refine Zam rfl ?_ ?_ <;> intro hb <;> (try simp only [zH] at hb)) | ((with_reducible refine Zau 5 ?_ ?_); (· exact rfl); (with_reducible refine Zau 6 ?_ ?_); (· exact rfl); (first | refine Zaf htb hmz Za8 fF rfl rfl ?_ | refine Zae hmo htb hmz Za8 fF rfl rfl (by kernel_rfl) ?_); intro _ _ _ _ h; simp only [zE, evp, evx, ev1, evLoad, evStore, evBin, evIf, Zab, forall_const, z38, tb, reduceAdd, reduceSub, reduceMul, reduceEqDiff, reduceLeDiff, reduceLT, Nat.reduceBEq, Nat.reduceBNe, ↓reduceIte, reduceIte, spVk, Zbo, Za1, Za7, solS, gvnS, smpS, isS, agnS, Zaw, Zay, Zax, true_and, and_true] at h; obtain ⟨rfl, rfl, rfl, rfl⟩ := h; refine ⟨?_, ?_⟩) | ((with_reducible refine Ob.mk ?_); first | exact trivial | (intros; omega) | ((repeat' first | apply And.intro | (intro a; have b := a; try simp only [zH] at b)) <;> first | assumption | omega | (simp only [zH]; omega)))
    · rw [hv] at hb; cases hb
    clear hb
    repeat' first
      | with_reducible first | apply Zar | apply Zan | apply Zaa | apply Zad | apply Zah | apply Zao | apply Zag | apply Zaj | apply Zaq | apply Zas | apply Zap | apply Zal | apply Zac | apply Zak
      | ((with_reducible refine Zai ?_ ?_); exact rfl) | ((with_reducible refine Zat ?_); refine Zam rfl ?_ ?_ <;> intro hb <;> (try simp only [zH] at hb)) | ((with_reducible refine Zau 7 ?_ ?_); (· exact rfl); (with_reducible refine Zau 8 ?_ ?_); (· exact rfl); (first | refine Zaf htb hmz Za8 fF rfl rfl ?_ | refine Zae hmo htb hmz Za8 fF rfl rfl (by kernel_rfl) ?_); intro _ _ _ _ h; simp only [zE, evp, evx, ev1, evLoad, evStore, evBin, evIf, Zab, forall_const, z38, tb, reduceAdd, reduceSub, reduceMul, reduceEqDiff, reduceLeDiff, reduceLT, Nat.reduceBEq, Nat.reduceBNe, ↓reduceIte, reduceIte, spVk, Zbo, Za1, Za7, solS, gvnS, smpS, isS, agnS, Zaw, Zay, Zax, true_and, and_true] at h; obtain ⟨rfl, rfl, rfl, rfl⟩ := h; refine ⟨?_, ?_⟩) | ((with_reducible refine Ob.mk ?_); first | exact trivial | (intros; omega) | ((repeat' first | apply And.intro | (intro a; have b := a; try simp only [zH] at b)) <;> first | assumption | omega | (simp only [zH]; omega)))
    · refine Zfc ?_
      refine Zb3 htb hmz Za8 (fun _ => false) 0 [] (os := [_, _, _]) (post := [_, _, _]) rfl rfl rfl rfl rfl ?_; intro _ _ _ _ h; simp only [zE, evp, evx, ev1, evLoad, evStore, evBin, evIf, Zab, forall_const, z38, tb, reduceAdd, reduceSub, reduceMul, reduceEqDiff, reduceLeDiff, reduceLT, Nat.reduceBEq, Nat.reduceBNe, ↓reduceIte, reduceIte, spVk, Zbo, Za1, Za7, solS, gvnS, smpS, isS, agnS, Zaw, Zay, Zax, true_and, and_true] at h; obtain ⟨rfl, rfl, rfl, rfl⟩ := h; refine ⟨?_, ?_⟩
      · first | ((with_reducible refine Ob.mk ?_); first | exact trivial | (intros; omega) | ((repeat' first | apply And.intro | (intro a; have b := a; try simp only [zH] at b)) <;> first | assumption | omega | (simp only [zH]; omega))) | skip
      refine Zfy rfl rfl rfl rfl ?_
      dsimp only [noGd]
      refine Zbp ([0]) (Zdq) rfl rfl rfl rfl rfl rfl rfl rfl rfl (by simp only [rinR, rhoC, zE, evp, evx, ev1, evLoad, evStore, evBin, evIf, Zab, forall_const, z38, tb, reduceAdd, reduceSub, reduceMul, reduceEqDiff, reduceLeDiff, reduceLT, Nat.reduceBEq, Nat.reduceBNe, ↓reduceIte, reduceIte, spVk, Zbo, Za1, Za7, solS, gvnS, smpS, isS, agnS, Zaw, Zay, Zax, true_and, and_true]) ?_; intro gm gv gr hq m' e' l' h; simp only [GR.mk.injEq] at hq; obtain ⟨rfl, rfl, rfl⟩ := hq; simp only [rhoC, outR, renR, dels, zE, evp, evx, ev1, evLoad, evStore, evBin, evIf, Zab, forall_const, z38, tb, reduceAdd, reduceSub, reduceMul, reduceEqDiff, reduceLeDiff, reduceLT, Nat.reduceBEq, Nat.reduceBNe, ↓reduceIte, reduceIte, spVk, Zbo, Za1, Za7, solS, gvnS, smpS, isS, agnS, Zaw, Zay, Zax, true_and, and_true] at h; obtain ⟨rfl, rfl, rfl⟩ := h; refine Zaa ?_
      refine Zb3 htb hmz Za8 (fun _ => false) 4 [_, _, _, _] (os := [_, _]) (post := []) rfl rfl rfl rfl rfl ?_; intro _ _ _ _ h; simp only [zE, evp, evx, ev1, evLoad, evStore, evBin, evIf, Zab, forall_const, z38, tb, reduceAdd, reduceSub, reduceMul, reduceEqDiff, reduceLeDiff, reduceLT, Nat.reduceBEq, Nat.reduceBNe, ↓reduceIte, reduceIte, spVk, Zbo, Za1, Za7, solS, gvnS, smpS, isS, agnS, Zaw, Zay, Zax, true_and, and_true] at h; obtain ⟨rfl, rfl, rfl, rfl⟩ := h; refine ⟨?_, ?_⟩
      · first | ((with_reducible refine Ob.mk ?_); first | exact trivial | (intros; omega) | ((repeat' first | apply And.intro | (intro a; have b := a; try simp only [zH] at b)) <;> first | assumption | omega | (simp only [zH]; omega))) | skip
      refine Zfz ?_
      refine Zaa ?_
      repeat' first
        | with_reducible first | apply Zar | apply Zan | apply Zaa | apply Zad | apply Zah | apply Zao | apply Zag | apply Zaj | apply Zaq | apply Zas | apply Zap | apply Zal | apply Zac | apply Zak
        | ((with_reducible refine Zai ?_ ?_); exact rfl) | ((with_reducible refine Zat ?_); refine Zam rfl ?_ ?_ <;> intro hb <;> (try simp only [zH] at hb)) | ((with_reducible refine Za3 ?_); (first | refine Zaf htb hmz Za8 fF rfl rfl ?_ | refine Zae hmo htb hmz Za8 fF rfl rfl (by kernel_rfl) ?_); intro _ _ _ _ h; simp only [zE, evp, evx, ev1, evLoad, evStore, evBin, evIf, Zab, forall_const, z38, tb, reduceAdd, reduceSub, reduceMul, reduceEqDiff, reduceLeDiff, reduceLT, Nat.reduceBEq, Nat.reduceBNe, ↓reduceIte, reduceIte, spVk, Zbo, Za1, Za7, solS, gvnS, smpS, isS, agnS, Zaw, Zay, Zax, true_and, and_true] at h; obtain ⟨rfl, rfl, rfl, rfl⟩ := h; refine ⟨?_, ?_⟩) | ((with_reducible refine Ob.mk ?_); first | exact trivial | (intros; omega) | ((repeat' first | apply And.intro | (intro a; have b := a; try simp only [zH] at b)) <;> first | assumption | omega | (simp only [zH]; omega)))
      refine Zaz rfl rfl (Zdc ⟨1, .bool true, [(0, some glB)]⟩ [] rfl rfl (Zbz rfl) ?_)
      simp only [grR, zE, evp, evx, ev1, evLoad, evStore, evBin, evIf, Zab, forall_const, z38, tb, reduceAdd, reduceSub, reduceMul, reduceEqDiff, reduceLeDiff, reduceLT, Nat.reduceBEq, Nat.reduceBNe, ↓reduceIte, reduceIte, spVk, Zbo, Za1, Za7, solS, gvnS, smpS, isS, agnS, Zaw, Zay, Zax, true_and, and_true]
    · rw [hc] at hb; cases hb
  · have hxl : x.length = o.length := (gok (validB_iff.1 hv)).xl
    repeat' first
      | with_reducible first | apply Zar | apply Zan | apply Zaa | apply Zad | apply Zah | apply Zao | apply Zag | apply Zaj | apply Zaq | apply Zas | apply Zap | apply Zal | apply Zac | apply Zak
      | ((with_reducible refine Zai ?_ ?_); exact rfl) | ((with_reducible refine Zat ?_); refine Zam rfl ?_ ?_ <;> intro hb <;> (try simp only [zH] at hb)) | ((with_reducible refine Zau 5 ?_ ?_); (· exact rfl); (with_reducible refine Zau 6 ?_ ?_); (· exact rfl); (first | refine Zaf htb hmz Za8 fF rfl rfl ?_ | refine Zae hmo htb hmz Za8 fF rfl rfl (by kernel_rfl) ?_); intro _ _ _ _ h; simp only [zE, evp, evx, ev1, evLoad, evStore, evBin, evIf, Zab, forall_const, z38, tb, reduceAdd, reduceSub, reduceMul, reduceEqDiff, reduceLeDiff, reduceLT, Nat.reduceBEq, Nat.reduceBNe, ↓reduceIte, reduceIte, spVk, Zbo, Za1, Za7, solS, gvnS, smpS, isS, agnS, Zaw, Zay, Zax, true_and, and_true] at h; obtain ⟨rfl, rfl, rfl, rfl⟩ := h; refine ⟨?_, ?_⟩) | ((with_reducible refine Ob.mk ?_); first | exact trivial | (intros; omega) | ((repeat' first | apply And.intro | (intro a; have b := a; try simp only [zH] at b)) <;> first | assumption | omega | (simp only [zH]; omega)))
    · rw [hv] at hb; cases hb
    clear hb
    repeat' first
      | with_reducible first | apply Zar | apply Zan | apply Zaa | apply Zad | apply Zah | apply Zao | apply Zag | apply Zaj | apply Zaq | apply Zas | apply Zap | apply Zal | apply Zac | apply Zak
      | ((with_reducible refine Zai ?_ ?_); exact rfl) | ((with_reducible refine Zat ?_); refine Zam rfl ?_ ?_ <;> intro hb <;> (try simp only [zH] at hb)) | ((with_reducible refine Zau 7 ?_ ?_); (· exact rfl); (with_reducible refine Zau 8 ?_ ?_); (· exact rfl); (first | refine Zaf htb hmz Za8 fF rfl rfl ?_ | refine Zae hmo htb hmz Za8 fF rfl rfl (by kernel_rfl) ?_); intro _ _ _ _ h; simp only [zE, evp, evx, ev1, evLoad, evStore, evBin, evIf, Zab, forall_const, z38, tb, reduceAdd, reduceSub, reduceMul, reduceEqDiff, reduceLeDiff, reduceLT, Nat.reduceBEq, Nat.reduceBNe, ↓reduceIte, reduceIte, spVk, Zbo, Za1, Za7, solS, gvnS, smpS, isS, agnS, Zaw, Zay, Zax, true_and, and_true] at h; obtain ⟨rfl, rfl, rfl, rfl⟩ := h; refine ⟨?_, ?_⟩) | ((with_reducible refine Ob.mk ?_); first | exact trivial | (intros; omega) | ((repeat' first | apply And.intro | (intro a; have b := a; try simp only [zH] at b)) <;> first | assumption | omega | (simp only [zH]; omega)))
    · rw [hc] at hb; cases hb
    clear hb
    repeat' first
      | with_reducible first | apply Zar | apply Zan | apply Zaa | apply Zad | apply Zah | apply Zao | apply Zag | apply Zaj | apply Zaq | apply Zas | apply Zap | apply Zal | apply Zac | apply Zak
      | ((with_reducible refine Zai ?_ ?_); exact rfl) | ((with_reducible refine Zat ?_); refine Zam rfl ?_ ?_ <;> intro hb <;> (try simp only [zH] at hb)) | ((with_reducible refine Zau 9 ?_ ?_); (· exact rfl); (with_reducible refine Zau 10 ?_ ?_); (· exact rfl); (first | refine Zaf htb hmz Za8 fF rfl rfl ?_ | refine Zae hmo htb hmz Za8 fF rfl rfl (by kernel_rfl) ?_); intro _ _ _ _ h; simp only [zE, evp, evx, ev1, evLoad, evStore, evBin, evIf, Zab, forall_const, z38, tb, reduceAdd, reduceSub, reduceMul, reduceEqDiff, reduceLeDiff, reduceLT, Nat.reduceBEq, Nat.reduceBNe, ↓reduceIte, reduceIte, spVk, Zbo, Za1, Za7, solS, gvnS, smpS, isS, agnS, Zaw, Zay, Zax, true_and, and_true] at h; obtain ⟨rfl, rfl, rfl, rfl⟩ := h; refine ⟨?_, ?_⟩) | ((with_reducible refine Ob.mk ?_); first | exact trivial | (intros; omega) | ((repeat' first | apply And.intro | (intro a; have b := a; try simp only [zH] at b)) <;> first | assumption | omega | (simp only [zH]; omega)))
    · refine Zfc ?_
      refine Zb3 htb hmz Za8 (fun _ => false) 0 [] (os := [_, _, _, _, _, _]) (post := [_, _, _, _, _, _]) rfl rfl rfl rfl rfl ?_; intro _ _ _ _ h; simp only [zE, evp, evx, ev1, evLoad, evStore, evBin, evIf, Zab, forall_const, z38, tb, reduceAdd, reduceSub, reduceMul, reduceEqDiff, reduceLeDiff, reduceLT, Nat.reduceBEq, Nat.reduceBNe, ↓reduceIte, reduceIte, spVk, Zbo, Za1, Za7, solS, gvnS, smpS, isS, agnS, Zaw, Zay, Zax, true_and, and_true] at h; obtain ⟨rfl, rfl, rfl, rfl⟩ := h; refine ⟨?_, ?_⟩
      · first | ((with_reducible refine Ob.mk ?_); first | exact trivial | (intros; omega) | ((repeat' first | apply And.intro | (intro a; have b := a; try simp only [zH] at b)) <;> first | assumption | omega | (simp only [zH]; omega))) | skip
      refine awpG_slot 49 (.whn true (.agg (.cons (.roI []) (.cons (.roI []) .nil)))) (imp_whn imp_nilP) rfl ?_
      refine Zb3 htb hmz Za8 (fun _ => false) 6 [_, _, _, _, _, _] (os := [_, _, _]) (post := [_, _, _]) rfl rfl rfl rfl rfl ?_; intro _ _ _ _ h; simp only [zE, evp, evx, ev1, evLoad, evStore, evBin, evIf, Zab, forall_const, z38, tb, reduceAdd, reduceSub, reduceMul, reduceEqDiff, reduceLeDiff, reduceLT, Nat.reduceBEq, Nat.reduceBNe, ↓reduceIte, reduceIte, spVk, Zbo, Za1, Za7, solS, gvnS, smpS, isS, agnS, Zaw, Zay, Zax, true_and, and_true] at h; obtain ⟨rfl, rfl, rfl, rfl⟩ := h; refine ⟨?_, ?_⟩
      · first | ((with_reducible refine Ob.mk ?_); first | exact trivial | (intros; omega) | ((repeat' first | apply And.intro | (intro a; have b := a; try simp only [zH] at b)) <;> first | assumption | omega | (simp only [zH]; omega))) | skip
      refine Zfy rfl rfl rfl rfl ?_
      dsimp only [noGd]
      refine Zbp ([0]) (Zdq) rfl rfl rfl rfl rfl rfl rfl rfl rfl (by simp only [rinR, rhoC, zE, evp, evx, ev1, evLoad, evStore, evBin, evIf, Zab, forall_const, z38, tb, reduceAdd, reduceSub, reduceMul, reduceEqDiff, reduceLeDiff, reduceLT, Nat.reduceBEq, Nat.reduceBNe, ↓reduceIte, reduceIte, spVk, Zbo, Za1, Za7, solS, gvnS, smpS, isS, agnS, Zaw, Zay, Zax, true_and, and_true]) ?_; intro gm gv gr hq m' e' l' h; simp only [GR.mk.injEq] at hq; obtain ⟨rfl, rfl, rfl⟩ := hq; simp only [rhoC, outR, renR, dels, zE, evp, evx, ev1, evLoad, evStore, evBin, evIf, Zab, forall_const, z38, tb, reduceAdd, reduceSub, reduceMul, reduceEqDiff, reduceLeDiff, reduceLT, Nat.reduceBEq, Nat.reduceBNe, ↓reduceIte, reduceIte, spVk, Zbo, Za1, Za7, solS, gvnS, smpS, isS, agnS, Zaw, Zay, Zax, true_and, and_true] at h; obtain ⟨rfl, rfl, rfl⟩ := h; refine Zaa ?_
      refine Zb3 htb hmz Za8 (fun _ => false) 10 [_, _, _, _, _, _, _, _, _, _] (os := [_, _]) (post := []) rfl rfl rfl rfl rfl ?_; intro _ _ _ _ h; simp only [zE, evp, evx, ev1, evLoad, evStore, evBin, evIf, Zab, forall_const, z38, tb, reduceAdd, reduceSub, reduceMul, reduceEqDiff, reduceLeDiff, reduceLT, Nat.reduceBEq, Nat.reduceBNe, ↓reduceIte, reduceIte, spVk, Zbo, Za1, Za7, solS, gvnS, smpS, isS, agnS, Zaw, Zay, Zax, true_and, and_true] at h; obtain ⟨rfl, rfl, rfl, rfl⟩ := h; refine ⟨?_, ?_⟩
      · first | ((with_reducible refine Ob.mk ?_); first | exact trivial | (intros; omega) | ((repeat' first | apply And.intro | (intro a; have b := a; try simp only [zH] at b)) <;> first | assumption | omega | (simp only [zH]; omega))) | skip
      refine Zfz ?_
      refine Zaa ?_
      repeat' first
        | with_reducible first | apply Zar | apply Zan | apply Zaa | apply Zad | apply Zah | apply Zao | apply Zag | apply Zaj | apply Zaq | apply Zas | apply Zap | apply Zal | apply Zac | apply Zak
        | ((with_reducible refine Zai ?_ ?_); exact rfl) | ((with_reducible refine Zat ?_); refine Zam rfl ?_ ?_ <;> intro hb <;> (try simp only [zH] at hb)) | ((with_reducible refine Za3 ?_); (first | refine Zaf htb hmz Za8 fF rfl rfl ?_ | refine Zae hmo htb hmz Za8 fF rfl rfl (by kernel_rfl) ?_); intro _ _ _ _ h; simp only [zE, evp, evx, ev1, evLoad, evStore, evBin, evIf, Zab, forall_const, z38, tb, reduceAdd, reduceSub, reduceMul, reduceEqDiff, reduceLeDiff, reduceLT, Nat.reduceBEq, Nat.reduceBNe, ↓reduceIte, reduceIte, spVk, Zbo, Za1, Za7, solS, gvnS, smpS, isS, agnS, Zaw, Zay, Zax, true_and, and_true] at h; obtain ⟨rfl, rfl, rfl, rfl⟩ := h; refine ⟨?_, ?_⟩) | ((with_reducible refine Ob.mk ?_); first | exact trivial | (intros; omega) | ((repeat' first | apply And.intro | (intro a; have b := a; try simp only [zH] at b)) <;> first | assumption | omega | (simp only [zH]; omega)))
      refine Zaz rfl rfl (Zdc ⟨1, .bool true, [(0, some glB)]⟩ [] rfl rfl (Zbz rfl) ?_)
      simp only [grR, zE, evp, evx, ev1, evLoad, evStore, evBin, evIf, Zab, forall_const, z38, tb, reduceAdd, reduceSub, reduceMul, reduceEqDiff, reduceLeDiff, reduceLT, Nat.reduceBEq, Nat.reduceBNe, ↓reduceIte, reduceIte, spVk, Zbo, Za1, Za7, solS, gvnS, smpS, isS, agnS, Zaw, Zay, Zax, true_and, and_true]
    · rw [hs] at hb; cases hb
  · have hxl : x.length = o.length := (gok (validB_iff.1 hv)).xl
    repeat' first
      | with_reducible first | apply Zar | apply Zan | apply Zaa | apply Zad | apply Zah | apply Zao | apply Zag | apply Zaj | apply Zaq | apply Zas | apply Zap | apply Zal | apply Zac | apply Zak
      | ((with_reducible refine Zai ?_ ?_); exact rfl) | ((with_reducible refine Zat ?_); refine Zam rfl ?_ ?_ <;> intro hb <;> (try simp only [zH] at hb)) | ((with_reducible refine Zau 5 ?_ ?_); (· exact rfl); (with_reducible refine Zau 6 ?_ ?_); (· exact rfl); (first | refine Zaf htb hmz Za8 fF rfl rfl ?_ | refine Zae hmo htb hmz Za8 fF rfl rfl (by kernel_rfl) ?_); intro _ _ _ _ h; simp only [zE, evp, evx, ev1, evLoad, evStore, evBin, evIf, Zab, forall_const, z38, tb, reduceAdd, reduceSub, reduceMul, reduceEqDiff, reduceLeDiff, reduceLT, Nat.reduceBEq, Nat.reduceBNe, ↓reduceIte, reduceIte, spVk, Zbo, Za1, Za7, solS, gvnS, smpS, isS, agnS, Zaw, Zay, Zax, true_and, and_true] at h; obtain ⟨rfl, rfl, rfl, rfl⟩ := h; refine ⟨?_, ?_⟩) | ((with_reducible refine Ob.mk ?_); first | exact trivial | (intros; omega) | ((repeat' first | apply And.intro | (intro a; have b := a; try simp only [zH] at b)) <;> first | assumption | omega | (simp only [zH]; omega)))
    · rw [hv] at hb; cases hb
    clear hb
    repeat' first
      | with_reducible first | apply Zar | apply Zan | apply Zaa | apply Zad | apply Zah | apply Zao | apply Zag | apply Zaj | apply Zaq | apply Zas | apply Zap | apply Zal | apply Zac | apply Zak
      | ((with_reducible refine Zai ?_ ?_); exact rfl) | ((with_reducible refine Zat ?_); refine Zam rfl ?_ ?_ <;> intro hb <;> (try simp only [zH] at hb)) | ((with_reducible refine Zau 7 ?_ ?_); (· exact rfl); (with_reducible refine Zau 8 ?_ ?_); (· exact rfl); (first | refine Zaf htb hmz Za8 fF rfl rfl ?_ | refine Zae hmo htb hmz Za8 fF rfl rfl (by kernel_rfl) ?_); intro _ _ _ _ h; simp only [zE, evp, evx, ev1, evLoad, evStore, evBin, evIf, Zab, forall_const, z38, tb, reduceAdd, reduceSub, reduceMul, reduceEqDiff, reduceLeDiff, reduceLT, Nat.reduceBEq, Nat.reduceBNe, ↓reduceIte, reduceIte, spVk, Zbo, Za1, Za7, solS, gvnS, smpS, isS, agnS, Zaw, Zay, Zax, true_and, and_true] at h; obtain ⟨rfl, rfl, rfl, rfl⟩ := h; refine ⟨?_, ?_⟩) | ((with_reducible refine Ob.mk ?_); first | exact trivial | (intros; omega) | ((repeat' first | apply And.intro | (intro a; have b := a; try simp only [zH] at b)) <;> first | assumption | omega | (simp only [zH]; omega)))
    · rw [hc] at hb; cases hb
    clear hb
    repeat' first
      | with_reducible first | apply Zar | apply Zan | apply Zaa | apply Zad | apply Zah | apply Zao | apply Zag | apply Zaj | apply Zaq | apply Zas | apply Zap | apply Zal | apply Zac | apply Zak
      | ((with_reducible refine Zai ?_ ?_); exact rfl) | ((with_reducible refine Zat ?_); refine Zam rfl ?_ ?_ <;> intro hb <;> (try simp only [zH] at hb)) | ((with_reducible refine Zau 9 ?_ ?_); (· exact rfl); (with_reducible refine Zau 10 ?_ ?_); (· exact rfl); (first | refine Zaf htb hmz Za8 fF rfl rfl ?_ | refine Zae hmo htb hmz Za8 fF rfl rfl (by kernel_rfl) ?_); intro _ _ _ _ h; simp only [zE, evp, evx, ev1, evLoad, evStore, evBin, evIf, Zab, forall_const, z38, tb, reduceAdd, reduceSub, reduceMul, reduceEqDiff, reduceLeDiff, reduceLT, Nat.reduceBEq, Nat.reduceBNe, ↓reduceIte, reduceIte, spVk, Zbo, Za1, Za7, solS, gvnS, smpS, isS, agnS, Zaw, Zay, Zax, true_and, and_true] at h; obtain ⟨rfl, rfl, rfl, rfl⟩ := h; refine ⟨?_, ?_⟩) | ((with_reducible refine Ob.mk ?_); first | exact trivial | (intros; omega) | ((repeat' first | apply And.intro | (intro a; have b := a; try simp only [zH] at b)) <;> first | assumption | omega | (simp only [zH]; omega)))
    · have := sol_no hv hb hcp.is
      rw [hcp.ag] at this; cases this
    repeat' first
      | with_reducible first | apply Zar | apply Zan | apply Zaa | apply Zad | apply Zah | apply Zao | apply Zag | apply Zaj | apply Zaq | apply Zas | apply Zap | apply Zal | apply Zac | apply Zak
      | ((with_reducible refine Zai ?_ ?_); exact rfl) | ((with_reducible refine Zat ?_); refine Zam rfl ?_ ?_ <;> intro hb <;> (try simp only [zH] at hb)) | ((with_reducible refine Zau 11 ?_ ?_); (· exact rfl); (first | refine Zaf htb hmz Za8 fF rfl rfl ?_ | refine Zae hmo htb hmz Za8 fF rfl rfl (by kernel_rfl) ?_); intro _ _ _ _ h; simp only [zE, evp, evx, ev1, evLoad, evStore, evBin, evIf, Zab, forall_const, z38, tb, reduceAdd, reduceSub, reduceMul, reduceEqDiff, reduceLeDiff, reduceLT, Nat.reduceBEq, Nat.reduceBNe, ↓reduceIte, reduceIte, spVk, Zbo, Za1, Za7, solS, gvnS, smpS, isS, agnS, Zaw, Zay, Zax, true_and, and_true] at h; obtain ⟨rfl, rfl, rfl, rfl⟩ := h; refine ⟨?_, ?_⟩) | ((with_reducible refine Ob.mk ?_); first | exact trivial | (intros; omega) | ((repeat' first | apply And.intro | (intro a; have b := a; try simp only [zH] at b)) <;> first | assumption | omega | (simp only [zH]; omega)))
    refine Zfc ?_
    have hn : o.length ≤ 20000 := (gok (validB_iff.1 hv)).n
    have hsl : s.length + l.length ≤ 2 * o.length := hcp.len
    have hsl2 : (s.length : Int) + l.length ≤ 2 * o.length := by omega
    have hag := hcp.ag
    have his := hcp.is
    refine Zb3 htb hmz Za8 (fun _ => false) 0 [] (os := [_, _, _, _, _, _, _]) (post := [_, _, _, _, _, _, _, _, _, _, _, _, _, _, _, _, _, _, _, _, _, _, _, _]) rfl rfl rfl rfl rfl ?_; intro _ _ _ _ h; simp only [zE, evp, evx, ev1, evLoad, evStore, evBin, evIf, Zab, forall_const, z38, tb, reduceAdd, reduceSub, reduceMul, reduceEqDiff, reduceLeDiff, reduceLT, Nat.reduceBEq, Nat.reduceBNe, ↓reduceIte, reduceIte, spVk, Zbo, Za1, Za7, solS, gvnS, smpS, isS, agnS, Zaw, Zay, Zax, true_and, and_true] at h; obtain ⟨rfl, rfl, rfl, rfl⟩ := h; refine ⟨?_, ?_⟩
    · first | ((with_reducible refine Ob.mk ?_); first | exact trivial | (intros; omega) | ((repeat' first | apply And.intro | (intro a; have b := a; try simp only [zH] at b)) <;> first | assumption | omega | (simp only [zH]; omega))) | skip
    rw [his]
    refine Zb3 htb hmz Za8 (fun _ => false) 7 [_, _, _, _, _, _, _] (os := [_, _, _, _, _, _, _, _, _, _, _, _, _, _]) (post := [_, _, _, _, _, _, _, _, _, _]) rfl rfl rfl rfl rfl ?_; intro _ _ _ _ h; simp only [zE, evp, evx, ev1, evLoad, evStore, evBin, evIf, Zab, forall_const, z38, tb, reduceAdd, reduceSub, reduceMul, reduceEqDiff, reduceLeDiff, reduceLT, Nat.reduceBEq, Nat.reduceBNe, ↓reduceIte, reduceIte, spVk, Zbo, Za1, Za7, solS, gvnS, smpS, isS, agnS, Zaw, Zay, Zax, true_and, and_true] at h; obtain ⟨rfl, rfl, rfl, rfl⟩ := h; refine ⟨?_, ?_⟩
    · first | ((with_reducible refine Ob.mk ?_); first | exact trivial | (intros; omega) | ((repeat' first | apply And.intro | (intro a; have b := a; try simp only [zH] at b)) <;> first | assumption | omega | (simp only [zH]; omega))) | skip
    rw [decide_eq_true hsl2]
    refine Zb3 htb hmz Za8 (fun _ => false) 21 [_, _, _, _, _, _, _, _, _, _, _, _, _, _, _, _, _, _, _, _, _] (os := [_, _, _, _, _, _]) (post := [_, _, _, _]) rfl rfl rfl rfl rfl ?_; intro _ _ _ _ h; simp only [zE, evp, evx, ev1, evLoad, evStore, evBin, evIf, Zab, forall_const, z38, tb, reduceAdd, reduceSub, reduceMul, reduceEqDiff, reduceLeDiff, reduceLT, Nat.reduceBEq, Nat.reduceBNe, ↓reduceIte, reduceIte, spVk, Zbo, Za1, Za7, solS, gvnS, smpS, isS, agnS, Zaw, Zay, Zax, true_and, and_true] at h; obtain ⟨rfl, rfl, rfl, rfl⟩ := h; refine ⟨?_, ?_⟩
    · first | ((with_reducible refine Ob.mk ?_); first | exact trivial | (intros; omega) | ((repeat' first | apply And.intro | (intro a; have b := a; try simp only [zH] at b)) <;> first | assumption | omega | (simp only [zH]; omega))) | skip
    rw [hag]
    refine Zb3 htb hmz Za8 (fun _ => false) 27 [_, _, _, _, _, _, _, _, _, _, _, _, _, _, _, _, _, _, _, _, _, _, _, _, _, _, _] (os := [_]) (post := [_, _, _]) rfl rfl rfl rfl rfl ?_; intro _ _ _ _ h; simp only [zE, evp, evx, ev1, evLoad, evStore, evBin, evIf, Zab, forall_const, z38, tb, reduceAdd, reduceSub, reduceMul, reduceEqDiff, reduceLeDiff, reduceLT, Nat.reduceBEq, Nat.reduceBNe, ↓reduceIte, reduceIte, spVk, Zbo, Za1, Za7, solS, gvnS, smpS, isS, agnS, Zaw, Zay, Zax, true_and, and_true] at h; obtain ⟨rfl, rfl, rfl, rfl⟩ := h; refine ⟨?_, ?_⟩
    · first | ((with_reducible refine Ob.mk ?_); first | exact trivial | (intros; omega) | ((repeat' first | apply And.intro | (intro a; have b := a; try simp only [zH] at b)) <;> first | assumption | omega | (simp only [zH]; omega))) | skip
    refine Zfy rfl rfl rfl rfl ?_
    dsimp only [noGd]
    refine Zbp ([0]) (Zdq) rfl rfl rfl rfl rfl rfl rfl rfl rfl (by simp only [rinR, rhoC, zE, evp, evx, ev1, evLoad, evStore, evBin, evIf, Zab, forall_const, z38, tb, reduceAdd, reduceSub, reduceMul, reduceEqDiff, reduceLeDiff, reduceLT, Nat.reduceBEq, Nat.reduceBNe, ↓reduceIte, reduceIte, spVk, Zbo, Za1, Za7, solS, gvnS, smpS, isS, agnS, Zaw, Zay, Zax, true_and, and_true]) ?_; intro gm gv gr hq m' e' l' h; simp only [GR.mk.injEq] at hq; obtain ⟨rfl, rfl, rfl⟩ := hq; simp only [rhoC, outR, renR, dels, zE, evp, evx, ev1, evLoad, evStore, evBin, evIf, Zab, forall_const, z38, tb, reduceAdd, reduceSub, reduceMul, reduceEqDiff, reduceLeDiff, reduceLT, Nat.reduceBEq, Nat.reduceBNe, ↓reduceIte, reduceIte, spVk, Zbo, Za1, Za7, solS, gvnS, smpS, isS, agnS, Zaw, Zay, Zax, true_and, and_true] at h; obtain ⟨rfl, rfl, rfl⟩ := h; refine Zaa ?_
    refine Zb3 htb hmz Za8 (fun _ => false) 29 [_, _, _, _, _, _, _, _, _, _, _, _, _, _, _, _, _, _, _, _, _, _, _, _, _, _, _, _, _] (os := [_, _]) (post := []) rfl rfl rfl rfl rfl ?_; intro _ _ _ _ h; simp only [zE, evp, evx, ev1, evLoad, evStore, evBin, evIf, Zab, forall_const, z38, tb, reduceAdd, reduceSub, reduceMul, reduceEqDiff, reduceLeDiff, reduceLT, Nat.reduceBEq, Nat.reduceBNe, ↓reduceIte, reduceIte, spVk, Zbo, Za1, Za7, solS, gvnS, smpS, isS, agnS, Zaw, Zay, Zax, true_and, and_true] at h; obtain ⟨rfl, rfl, rfl, rfl⟩ := h; refine ⟨?_, ?_⟩
    · first | ((with_reducible refine Ob.mk ?_); first | exact trivial | (intros; omega) | ((repeat' first | apply And.intro | (intro a; have b := a; try simp only [zH] at b)) <;> first | assumption | omega | (simp only [zH]; omega))) | skip
    refine Zfz ?_
    refine Zaa ?_
    repeat' first
      | with_reducible first | apply Zar | apply Zan | apply Zaa | apply Zad | apply Zah | apply Zao | apply Zag | apply Zaj | apply Zaq | apply Zas | apply Zap | apply Zal | apply Zac | apply Zak
      | ((with_reducible refine Zai ?_ ?_); exact rfl) | ((with_reducible refine Zat ?_); refine Zam rfl ?_ ?_ <;> intro hb <;> (try simp only [zH] at hb)) | ((with_reducible refine Za3 ?_); (first | refine Zaf htb hmz Za8 fF rfl rfl ?_ | refine Zae hmo htb hmz Za8 fF rfl rfl (by kernel_rfl) ?_); intro _ _ _ _ h; simp only [zE, evp, evx, ev1, evLoad, evStore, evBin, evIf, Zab, forall_const, z38, tb, reduceAdd, reduceSub, reduceMul, reduceEqDiff, reduceLeDiff, reduceLT, Nat.reduceBEq, Nat.reduceBNe, ↓reduceIte, reduceIte, spVk, Zbo, Za1, Za7, solS, gvnS, smpS, isS, agnS, Zaw, Zay, Zax, true_and, and_true] at h; obtain ⟨rfl, rfl, rfl, rfl⟩ := h; refine ⟨?_, ?_⟩) | ((with_reducible refine Ob.mk ?_); first | exact trivial | (intros; omega) | ((repeat' first | apply And.intro | (intro a; have b := a; try simp only [zH] at b)) <;> first | assumption | omega | (simp only [zH]; omega)))
    refine Zaz rfl rfl (Zdc ⟨1, .bool true, [(0, some glB)]⟩ [] rfl rfl (Zbz rfl) ?_)
    simp only [grR, zE, evp, evx, ev1, evLoad, evStore, evBin, evIf, Zab, forall_const, z38, tb, reduceAdd, reduceSub, reduceMul, reduceEqDiff, reduceLeDiff, reduceLT, Nat.reduceBEq, Nat.reduceBNe, ↓reduceIte, reduceIte, spVk, Zbo, Za1, Za7, solS, gvnS, smpS, isS, agnS, Zaw, Zay, Zax, true_and, and_true]
open Go Go.ChangeShapes Go.WideShapes Go.ChangeAt Go.RowKit Go.Deep
def ldL : List (String × DataW Unit) := [("errors.errorType", Rows.laid_errors_errorType)]
theorem etN : Tryd.prog.globalNamed "errors.errorType" = some 0 := by kernel_rfl
theorem rtN : (Tryd.prog.cutTypes.find? (·.1 == "internal/reflectlite.rtype")).map (·.2) = some 105 := by kernel_rfl
theorem tySize : Tryd.prog.types.size = 153 := by kernel_rfl
theorem oneRow : ((List.range 153).filter fun t => Tryd.prog.rowNamed t [101, 114, 114, 111, 114]) = [68] := by kernel_rfl
theorem handle_of_laid {W : World} (h : laidMetH Tryd.prog ldL W) : W.cell? ⟨0, 0, none⟩ = some (.iface 105 (.agg #[.pointer (some ⟨1, 68, none⟩)])) := by
  have h' : laidMet Tryd.prog [] W ∧ handlesMet Tryd.prog ldL W := h
  obtain ⟨name, u, ty, e1, e2, e3, e4, e5⟩ := h'.2 _ (List.mem_singleton.2 rfl)
  have en : name = [101, 114, 114, 111, 114] := (Option.some.inj e1).symm
  subst en
  obtain rfl := Option.some.inj (rtN.symm.trans e2)
  have hm : ty ∈ (List.range 153).filter fun t => Tryd.prog.rowNamed t [101, 114, 114, 111, 114] := List.mem_filter.2 ⟨List.mem_range.2 (by rw [← tySize]; exact e3), e4⟩
  rw [oneRow] at hm
  obtain rfl := List.mem_singleton.1 hm
  have hh : typeHandle Tryd.prog 68 = .pointer (some ⟨1, 68, none⟩) := by kernel_rfl
  rw [hh] at e5
  simpa using World.var?_cell etN e5 0
noncomputable def laidWorld (os : Os) : World :=
  let w0 := World.holding Tryd.prog os ⟨#[], #[], []⟩
  { w0 with heap := w0.heap.modify 0 fun
      | .cells _ t frozen => .cells #[.iface 105 (.agg #[.pointer (some ⟨1, 68, none⟩)])] t frozen
      | o => o }
theorem laidWorld_met (os : Os) (args : Array Value) : laidMetH Tryd.prog ldL ((laidWorld os).forCall (fun _ _ => 0) ⟨#[], args, []⟩).memory :=
  laidMetH_of_parts (laidMet_nil _ _) (by kernel_rfl)
def twA (q : List Int × List Int) : AV := .agg (.cons (.roI q.1) (.cons (.roI q.2) .nil))
theorem rd_two {H : Type} {enc : TypeId × Value → H} {P : Program} {w : World} {base : Nat} {spare : Nat → Bool} {held : Bool} {r : Reach} {b0 t : Nat} {f0 f1 : Field} {v : Value} {d : DataW H} {p : List MemPlace} (hs : P.underlying t = some (.struct #[f0, f1])) (hone : oneCellFields P #[f0, f1] = true) (hC : P.cellsOf t = 2) (hv : Value.okWide P w r b0 t v) (h : DataW.Trod enc P w base spare held t v d p) (hl : Zh3 P t d)
    {e1 : Nat} (h0 : P.underlying f0.type = some (.slice e1)) (h1 : P.underlying f1.type = some (.slice e1)) (he1 : P.underlying e1 = some (.int .i64)) (hc1 : P.cellsOf e1 = 1) (hB1 : 1 ≤ P.bytesOf e1) : ∃ m : List Int × List Int, R (old w) w (twA m) nu0 true [v] := by
  obtain ⟨v0, v1, y0, y1, n, rfl, rfl, rfl, t0, t1⟩ := Go.Joins.open_agg2 hs hone hC hv h
  have hw : ∀ k, k ∈ y0.1.weights P f0.type ∨ k ∈ y1.1.weights P f1.type → k ≤ 140737488351232 := fun k hk => hl k (by
    simp only [DataW.weights, hs, DataW.weightsEach, List.mem_append, List.map_cons, List.map_nil, List.not_mem_nil, or_false]
    exact hk)
  obtain ⟨o, ho⟩ := Zf8 h0 he1 hc1 hB1 t0 (fun k hk => hw k (.inl hk)) nu0 true
  obtain ⟨q, hq⟩ := Zf8 h1 he1 hc1 hB1 t1 (fun k hk => hw k (.inr hk)) nu0 true
  exact ⟨(o, q), [v0, v1], rfl, v0, [v1], rfl, ho, v1, [], rfl, hq, rfl⟩
theorem law_callsG {f : Nat} {args : List AV} {W : World} {vals : Array Value} (hS : FG Tryd.prog f args [(0, some glB)] 1 fun g => g = ⟨1, .bool true, [(0, some glB)]⟩) (hm : men noK (mkL args) = true) (hgl : W.cell? ⟨0, 0, none⟩ = some (.iface 105 (.agg #[.pointer (some ⟨1, 68, none⟩)]))) (hr : R (old W) W (mkL args) nu0 true vals.toList) :
    Calls Tryd.prog f vals W fun e W' => e = .returned (.bool true) ∧ Below W.heap.size W W' := by
  have h0 : 0 < W.heap.size := by
    unfold World.cell? at hgl
    rcases Nat.lt_or_ge 0 W.heap.size with h | h
    · exact h
    · rw [Array.getElem?_eq_none h] at hgl; cases hgl
  have := hS.2 (old W) (old W) nu0 W vals (fun _ => rfl) hr (Zb4 hm) ⟨fun _ _ => False, fun k b h => ?_⟩ (fun _ h => h) (fun _ h => h)
  · refine CallsIn.calls (F := FF none) (n := 0) (CallsIn.mono (Zdy this) ?_) (fun k d hd => by cases hd)
    rintro e W' ⟨y, Z', ν', v, μ', rs', rfl, hst, _, _, _, hr', _, _, _, g, rfl, rfl, _⟩
    have : y = .bool true := one1 hr'
    subst this
    exact ⟨rfl, hst.ext.os, hst.ext.tape, hst.ext.output, hst.ext.size, fun k hk => hst.ext.block k hk⟩
  · rw [Za4] at h
    by_cases e : k = 0
    · subst e
      rw [if_pos rfl] at h
      cases h
      refine ⟨rfl, (fun k hk => by cases hk), fun Z' w' hZ hw => ⟨fun y hy => hy, hZ 0 h0, ?_⟩, fun x hx => hx.elim, fun k' b' hne hk' x hx => hx.elim⟩
      exact (World.cell?_of_block (w := W) (hw 0 (.inl h0))).trans hgl
    · rw [if_neg e] at h; cases h
end Go.Proofs.YtdhoadhkkecjjaaDoor.Cal
