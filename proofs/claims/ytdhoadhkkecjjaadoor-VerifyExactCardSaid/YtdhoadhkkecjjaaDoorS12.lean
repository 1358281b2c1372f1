/- Own texts, merged. -/
import Derived.Test.YtdhoadhkkecjjaaDoorRows
import Derived.ChangeSame
import Derived.ChangeVars
import Derived.JoinedOf
import Derived.LaidLaws
import Derived.LaidHandle
import Derived.Stop.Joined
import Derived.Test.YtdhoadhkkecjjaaDoorS11
set_option linter.unusedVariables false
set_option linter.unusedSimpArgs false
open Nat (reduceAdd reduceSub reduceMul reduceEqDiff reduceLeDiff reduceLT)
namespace Go.Proofs.YtdhoadhkkecjjaaDoor.Cal
open Go Pl
noncomputable def spVe : Nat → Option Spec
  | 7 => some Zby
  | 18 => some gvnS
  | 17 => some ctrS
  | 19 => some agrS
  | _ => none
theorem Za9 : SpOK Tryd.prog spVe := by
  intro f S h
  unfold spVe at h
  split at h
  · cases h; exact fw16_ok
  · cases h; exact gvn_ok
  · cases h; exact vctr_ok
  · cases h; exact agr_ok
  · cases h
theorem fw_len {g : Gm} {s l : List Int} (h : fwB g s l = true) : s.length ≤ 400 ∧ l.length ≤ 400 := by
  unfold fwB at h
  simp only [Bool.and_eq_true, decide_eq_true_eq] at h
  omega
theorem chk_ok {g : Gm} {w c s l : List Int} {e : Int} (h : chkQ g w c s l e) : e = 0 ∧ (Zbd g = true ∧ Zbt g w c = true ∧ solB g w c = true ∧ s = [] ∧ l = []) ∨ e ≠ 0 := by
  rcases h with ⟨_, rfl, _⟩ | ⟨_, _, rfl, _⟩ | ⟨h1, h2, h3, rfl, h4⟩ | ⟨_, _, _, rfl⟩
  · exact .inr (by decide)
  · exact .inr (by decide)
  · exact .inl ⟨rfl, h1, h2, h3, h4⟩
  · exact .inr (by decide)
set_option maxRecDepth 4000 in
set_option maxHeartbeats 4000000 in
theorem vex_fg {o p w c w2 c2 s l : List Int} {x : List (List Int)} : FG Tryd.prog 4 [.agg (.cons (.roI o) (.cons (.roI p) (.cons (.roII x) .nil))), .agg (.cons (.roI w) (.cons (.roI c) .nil)), .agg (.cons (.roI w2) (.cons (.roI c2) .nil)), .agg (.cons (.roI s) (.cons (.roI l) .nil))] [(0, some glB)] 1 fun g => g = ⟨1, .bool true, [(0, some glB)]⟩ := by
  refine Zgv htb (fn := Tryd.f4) (by kernel_rfl) (by kernel_rfl) rfl (Nat.le_of_ble_eq_true rfl) fun hl => ?_
  simp only [lenP, mkL, lim] at hl
  repeat' first
    | with_reducible first | apply Zar | apply Zan | apply Zaa | apply Zad | apply Zah | apply Zao | apply Zag | apply Zaj | apply Zaq | apply Zas | apply Zap | apply Zal | apply Zac | apply Zak
    | ((with_reducible refine Zai ?_ ?_); exact rfl) | ((with_reducible refine Zat ?_); refine Zam rfl ?_ ?_ <;> intro hb <;> (try simp only [zH] at hb)) | ((with_reducible refine Zau 1 ?_ ?_); (· exact rfl); (first | refine Zae htb hmz Za9 fF rfl rfl ?_ | refine Zaf hmo htb hmz Za9 fF rfl rfl (by kernel_rfl) ?_); intro _ _ _ _ h; simp only [zE, evp, evx, ev1, evLoad, evStore, evBin, evIf, Zab, forall_const, z38, tb, reduceAdd, reduceSub, reduceMul, reduceEqDiff, reduceLeDiff, reduceLT, Nat.reduceBEq, Nat.reduceBNe, ↓reduceIte, reduceIte, spVe, Zby, gvnS, ctrS, agrS, Zaw, Zay, Zax, true_and, and_true] at h; obtain ⟨rfl, rfl, rfl, rfl⟩ := h; refine ⟨?_, ?_⟩) | ((with_reducible refine Ob.mk ?_); first | exact trivial | (intros; omega) | ((repeat' first | apply And.intro | (intro a; have b := a; try simp only [zH] at b)) <;> first | assumption | omega | (simp only [zH]; omega)))
  refine Zcb rfl ?_
  refine Zbs (l1 := [_, _, _, _, _]) (l2 := [_, _]) ?_
  refine Za4 htb hmz Za9 fF rfl rfl rfl ?_; intro _ _ _ _ h; simp only [zE, evp, evx, ev1, evLoad, evStore, evBin, evIf, Zab, forall_const, z38, tb, reduceAdd, reduceSub, reduceMul, reduceEqDiff, reduceLeDiff, reduceLT, Nat.reduceBEq, Nat.reduceBNe, ↓reduceIte, reduceIte, spVe, Zby, gvnS, ctrS, agrS, Zaw, Zay, Zax, true_and, and_true] at h; obtain ⟨rfl, rfl, rfl, rfl⟩ := h; refine ⟨?_, Zaa ?_⟩
  · first | ((with_reducible refine Ob.mk ?_); first | exact trivial | (intros; omega) | ((repeat' first | apply And.intro | (intro a; have b := a; try simp only [zH] at b)) <;> first | assumption | omega | (simp only [zH]; omega))) | skip
  refine awpL_slot 21 (.ro 2 2 fun j => rgA (if j = 0 then (w, c) else (w2, c2))) (imp_ro fun j hj => by
    have : j = 0 ∨ j = 1 := by omega
    rcases this with rfl | rfl <;> rfl) rfl ?_
  refine Za4 htb hmz Za9 fF rfl rfl rfl ?_; intro _ _ _ _ h; simp only [zE, evp, evx, ev1, evLoad, evStore, evBin, evIf, Zab, forall_const, z38, tb, reduceAdd, reduceSub, reduceMul, reduceEqDiff, reduceLeDiff, reduceLT, Nat.reduceBEq, Nat.reduceBNe, ↓reduceIte, reduceIte, spVe, Zby, gvnS, ctrS, agrS, Zaw, Zay, Zax, true_and, and_true] at h; obtain ⟨rfl, rfl, rfl, rfl⟩ := h; refine ⟨?_, ?_⟩
  · exact Ob.mk rfl
  refine Zaa ?_
  repeat' first
    | with_reducible first | apply Zar | apply Zan | apply Zaa | apply Zad | apply Zah | apply Zao | apply Zag | apply Zaj | apply Zaq | apply Zas | apply Zap | apply Zal | apply Zac | apply Zak
    | ((with_reducible refine Zai ?_ ?_); exact rfl) | ((with_reducible refine Zat ?_); refine Zam rfl ?_ ?_ <;> intro hb <;> (try simp only [zH] at hb)) | ((with_reducible refine Zau 2 ?_ ?_); (· exact rfl); (with_reducible refine Zau 3 ?_ ?_); (· exact rfl); (first | refine Zae htb hmz Za9 fF rfl rfl ?_ | refine Zaf hmo htb hmz Za9 fF rfl rfl (by kernel_rfl) ?_); intro _ _ _ _ h; simp only [zE, evp, evx, ev1, evLoad, evStore, evBin, evIf, Zab, forall_const, z38, tb, reduceAdd, reduceSub, reduceMul, reduceEqDiff, reduceLeDiff, reduceLT, Nat.reduceBEq, Nat.reduceBNe, ↓reduceIte, reduceIte, spVe, Zby, gvnS, ctrS, agrS, Zaw, Zay, Zax, true_and, and_true] at h; obtain ⟨rfl, rfl, rfl, rfl⟩ := h; refine ⟨?_, ?_⟩) | ((with_reducible refine Ob.mk ?_); first | exact trivial | (intros; omega) | ((repeat' first | apply And.intro | (intro a; have b := a; try simp only [zH] at b)) <;> first | assumption | omega | (simp only [zH]; omega)))
  · refine Zcb rfl ?_
    refine Zbs (l1 := [_]) (l2 := [_]) ?_
    refine Zbk ([0]) (Zd0) rfl rfl rfl rfl rfl rfl rfl rfl rfl (by simp only [rinR, rhoC, zE, evp, evx, ev1, evLoad, evStore, evBin, evIf, Zab, forall_const, z38, tb, reduceAdd, reduceSub, reduceMul, reduceEqDiff, reduceLeDiff, reduceLT, Nat.reduceBEq, Nat.reduceBNe, ↓reduceIte, reduceIte, spVe, Zby, gvnS, ctrS, agrS, Zaw, Zay, Zax, true_and, and_true]) ?_; intro gm gv gr hq m' e' l' h; simp only [GR.mk.injEq] at hq; obtain ⟨rfl, rfl, rfl⟩ := hq; simp only [rhoC, outR, renR, dels, zE, evp, evx, ev1, evLoad, evStore, evBin, evIf, Zab, forall_const, z38, tb, reduceAdd, reduceSub, reduceMul, reduceEqDiff, reduceLeDiff, reduceLT, Nat.reduceBEq, Nat.reduceBNe, ↓reduceIte, reduceIte, spVe, Zby, gvnS, ctrS, agrS, Zaw, Zay, Zax, true_and, and_true] at h; obtain ⟨rfl, rfl, rfl⟩ := h; refine Zaa ?_
    refine Za4 htb hmz Za9 fF rfl rfl rfl ?_; intro _ _ _ _ h; simp only [zE, evp, evx, ev1, evLoad, evStore, evBin, evIf, Zab, forall_const, z38, tb, reduceAdd, reduceSub, reduceMul, reduceEqDiff, reduceLeDiff, reduceLT, Nat.reduceBEq, Nat.reduceBNe, ↓reduceIte, reduceIte, spVe, Zby, gvnS, ctrS, agrS, Zaw, Zay, Zax, true_and, and_true] at h; obtain ⟨rfl, rfl, rfl, rfl⟩ := h; refine ⟨?_, ?_⟩
    · first | ((with_reducible refine Ob.mk ?_); first | exact trivial | (intros; omega) | ((repeat' first | apply And.intro | (intro a; have b := a; try simp only [zH] at b)) <;> first | assumption | omega | (simp only [zH]; omega))) | skip
    refine Zaa ?_
    repeat' first
      | with_reducible first | apply Zar | apply Zan | apply Zaa | apply Zad | apply Zah | apply Zao | apply Zag | apply Zaj | apply Zaq | apply Zas | apply Zap | apply Zal | apply Zac | apply Zak
      | ((with_reducible refine Zai ?_ ?_); exact rfl) | ((with_reducible refine Zat ?_); refine Zam rfl ?_ ?_ <;> intro hb <;> (try simp only [zH] at hb)) | ((with_reducible refine Za6 ?_); (first | refine Zae htb hmz Za9 fF rfl rfl ?_ | refine Zaf hmo htb hmz Za9 fF rfl rfl (by kernel_rfl) ?_); intro _ _ _ _ h; simp only [zE, evp, evx, ev1, evLoad, evStore, evBin, evIf, Zab, forall_const, z38, tb, reduceAdd, reduceSub, reduceMul, reduceEqDiff, reduceLeDiff, reduceLT, Nat.reduceBEq, Nat.reduceBNe, ↓reduceIte, reduceIte, spVe, Zby, gvnS, ctrS, agrS, Zaw, Zay, Zax, true_and, and_true] at h; obtain ⟨rfl, rfl, rfl, rfl⟩ := h; refine ⟨?_, ?_⟩) | ((with_reducible refine Ob.mk ?_); first | exact trivial | (intros; omega) | ((repeat' first | apply And.intro | (intro a; have b := a; try simp only [zH] at b)) <;> first | assumption | omega | (simp only [zH]; omega)))
    refine Za0 rfl rfl (Zc1 ⟨1, .bool true, [(0, some glB)]⟩ [] rfl rfl (Zb4 rfl) ?_)
    simp only [grR, zE, evp, evx, ev1, evLoad, evStore, evBin, evIf, Zab, forall_const, z38, tb, reduceAdd, reduceSub, reduceMul, reduceEqDiff, reduceLeDiff, reduceLT, Nat.reduceBEq, Nat.reduceBNe, ↓reduceIte, reduceIte, spVe, Zby, gvnS, ctrS, agrS, Zaw, Zay, Zax, true_and, and_true]
  have hfl := fw_len hb.2
  clear hb
  refine Zcb rfl ?_
  refine Zbs (l1 := [_, _]) (l2 := [_, _, _, _, _, _, _]) ?_
  refine Za4 htb hmz Za9 fF rfl rfl rfl ?_; intro _ _ _ _ h; simp only [zE, evp, evx, ev1, evLoad, evStore, evBin, evIf, Zab, forall_const, z38, tb, reduceAdd, reduceSub, reduceMul, reduceEqDiff, reduceLeDiff, reduceLT, Nat.reduceBEq, Nat.reduceBNe, ↓reduceIte, reduceIte, spVe, Zby, gvnS, ctrS, agrS, Zaw, Zay, Zax, true_and, and_true] at h; obtain ⟨rfl, rfl, rfl, rfl⟩ := h; refine ⟨?_, Zaa ?_⟩
  · first | ((with_reducible refine Ob.mk ?_); first | exact trivial | (intros; omega) | ((repeat' first | apply And.intro | (intro a; have b := a; try simp only [zH] at b)) <;> first | assumption | omega | (simp only [zH]; omega))) | skip
  refine Zbs (l1 := [_]) (l2 := [_, _, _, _, _, _]) ?_
  refine Zbk ([0]) (Zen) rfl rfl rfl rfl rfl rfl rfl rfl rfl (by simp only [rinR, rhoC, zE, evp, evx, ev1, evLoad, evStore, evBin, evIf, Zab, forall_const, z38, tb, reduceAdd, reduceSub, reduceMul, reduceEqDiff, reduceLeDiff, reduceLT, Nat.reduceBEq, Nat.reduceBNe, ↓reduceIte, reduceIte, spVe, Zby, gvnS, ctrS, agrS, Zaw, Zay, Zax, true_and, and_true]) ?_; intro gm gv gr hq m' e' l' h
  obtain ⟨s1, l1, e1, hQ, hq⟩ := hq
  unfold rsA at hq
  simp only [GR.mk.injEq] at hq; obtain ⟨rfl, rfl, rfl⟩ := hq; simp only [rhoC, outR, renR, dels, zE, evp, evx, ev1, evLoad, evStore, evBin, evIf, Zab, forall_const, z38, tb, reduceAdd, reduceSub, reduceMul, reduceEqDiff, reduceLeDiff, reduceLT, Nat.reduceBEq, Nat.reduceBNe, ↓reduceIte, reduceIte, spVe, Zby, gvnS, ctrS, agrS, Zaw, Zay, Zax, true_and, and_true] at h; obtain ⟨rfl, rfl, rfl⟩ := h; refine Zaa ?_
  refine Za4 htb hmz Za9 fF rfl rfl rfl ?_; intro _ _ _ _ h; simp only [zE, evp, evx, ev1, evLoad, evStore, evBin, evIf, Zab, forall_const, z38, tb, reduceAdd, reduceSub, reduceMul, reduceEqDiff, reduceLeDiff, reduceLT, Nat.reduceBEq, Nat.reduceBNe, ↓reduceIte, reduceIte, spVe, Zby, gvnS, ctrS, agrS, Zaw, Zay, Zax, true_and, and_true] at h; obtain ⟨rfl, rfl, rfl, rfl⟩ := h; refine ⟨?_, ?_⟩
  · first | ((with_reducible refine Ob.mk ?_); first | exact trivial | (intros; omega) | ((repeat' first | apply And.intro | (intro a; have b := a; try simp only [zH] at b)) <;> first | assumption | omega | (simp only [zH]; omega))) | skip
  refine Zaa ?_
  rcases chk_ok hQ with ⟨rfl, hv, hc, hs, rfl, rfl⟩ | he
  case inr =>
    clear hQ
    repeat' first
      | with_reducible first | apply Zar | apply Zan | apply Zaa | apply Zad | apply Zah | apply Zao | apply Zag | apply Zaj | apply Zaq | apply Zas | apply Zap | apply Zal | apply Zac | apply Zak
      | ((with_reducible refine Zai ?_ ?_); exact rfl) | ((with_reducible refine Zat ?_); refine Zam rfl ?_ ?_ <;> intro hb <;> (try simp only [zH] at hb)) | ((with_reducible refine Zau 5 ?_ ?_); (· exact rfl); (with_reducible refine Zau 6 ?_ ?_); (· exact rfl); (first | refine Zae htb hmz Za9 fF rfl rfl ?_ | refine Zaf hmo htb hmz Za9 fF rfl rfl (by kernel_rfl) ?_); intro _ _ _ _ h; simp only [zE, evp, evx, ev1, evLoad, evStore, evBin, evIf, Zab, forall_const, z38, tb, reduceAdd, reduceSub, reduceMul, reduceEqDiff, reduceLeDiff, reduceLT, Nat.reduceBEq, Nat.reduceBNe, ↓reduceIte, reduceIte, spVe, Zby, gvnS, ctrS, agrS, Zaw, Zay, Zax, true_and, and_true] at h; obtain ⟨rfl, rfl, rfl, rfl⟩ := h; refine ⟨?_, ?_⟩) | ((with_reducible refine Ob.mk ?_); first | exact trivial | (intros; omega) | ((repeat' first | apply And.intro | (intro a; have b := a; try simp only [zH] at b)) <;> first | assumption | omega | (simp only [zH]; omega)))
    · refine Zcb rfl ?_
      refine Zbs (l1 := [_]) (l2 := [_]) ?_
      refine Zbk ([0]) (Zd0) rfl rfl rfl rfl rfl rfl rfl rfl rfl (by simp only [rinR, rhoC, zE, evp, evx, ev1, evLoad, evStore, evBin, evIf, Zab, forall_const, z38, tb, reduceAdd, reduceSub, reduceMul, reduceEqDiff, reduceLeDiff, reduceLT, Nat.reduceBEq, Nat.reduceBNe, ↓reduceIte, reduceIte, spVe, Zby, gvnS, ctrS, agrS, Zaw, Zay, Zax, true_and, and_true]) ?_; intro gm gv gr hq m' e' l' h; simp only [GR.mk.injEq] at hq; obtain ⟨rfl, rfl, rfl⟩ := hq; simp only [rhoC, outR, renR, dels, zE, evp, evx, ev1, evLoad, evStore, evBin, evIf, Zab, forall_const, z38, tb, reduceAdd, reduceSub, reduceMul, reduceEqDiff, reduceLeDiff, reduceLT, Nat.reduceBEq, Nat.reduceBNe, ↓reduceIte, reduceIte, spVe, Zby, gvnS, ctrS, agrS, Zaw, Zay, Zax, true_and, and_true] at h; obtain ⟨rfl, rfl, rfl⟩ := h; refine Zaa ?_
      refine Za4 htb hmz Za9 fF rfl rfl rfl ?_; intro _ _ _ _ h; simp only [zE, evp, evx, ev1, evLoad, evStore, evBin, evIf, Zab, forall_const, z38, tb, reduceAdd, reduceSub, reduceMul, reduceEqDiff, reduceLeDiff, reduceLT, Nat.reduceBEq, Nat.reduceBNe, ↓reduceIte, reduceIte, spVe, Zby, gvnS, ctrS, agrS, Zaw, Zay, Zax, true_and, and_true] at h; obtain ⟨rfl, rfl, rfl, rfl⟩ := h; refine ⟨?_, ?_⟩
      · first | ((with_reducible refine Ob.mk ?_); first | exact trivial | (intros; omega) | ((repeat' first | apply And.intro | (intro a; have b := a; try simp only [zH] at b)) <;> first | assumption | omega | (simp only [zH]; omega))) | skip
      refine Zaa ?_
      repeat' first
        | with_reducible first | apply Zar | apply Zan | apply Zaa | apply Zad | apply Zah | apply Zao | apply Zag | apply Zaj | apply Zaq | apply Zas | apply Zap | apply Zal | apply Zac | apply Zak
        | ((with_reducible refine Zai ?_ ?_); exact rfl) | ((with_reducible refine Zat ?_); refine Zam rfl ?_ ?_ <;> intro hb <;> (try simp only [zH] at hb)) | ((with_reducible refine Za6 ?_); (first | refine Zae htb hmz Za9 fF rfl rfl ?_ | refine Zaf hmo htb hmz Za9 fF rfl rfl (by kernel_rfl) ?_); intro _ _ _ _ h; simp only [zE, evp, evx, ev1, evLoad, evStore, evBin, evIf, Zab, forall_const, z38, tb, reduceAdd, reduceSub, reduceMul, reduceEqDiff, reduceLeDiff, reduceLT, Nat.reduceBEq, Nat.reduceBNe, ↓reduceIte, reduceIte, spVe, Zby, gvnS, ctrS, agrS, Zaw, Zay, Zax, true_and, and_true] at h; obtain ⟨rfl, rfl, rfl, rfl⟩ := h; refine ⟨?_, ?_⟩) | ((with_reducible refine Ob.mk ?_); first | exact trivial | (intros; omega) | ((repeat' first | apply And.intro | (intro a; have b := a; try simp only [zH] at b)) <;> first | assumption | omega | (simp only [zH]; omega)))
      refine Za0 rfl rfl (Zc1 ⟨1, .bool true, [(0, some glB)]⟩ [] rfl rfl (Zb4 rfl) ?_)
      simp only [grR, zE, evp, evx, ev1, evLoad, evStore, evBin, evIf, Zab, forall_const, z38, tb, reduceAdd, reduceSub, reduceMul, reduceEqDiff, reduceLeDiff, reduceLT, Nat.reduceBEq, Nat.reduceBNe, ↓reduceIte, reduceIte, spVe, Zby, gvnS, ctrS, agrS, Zaw, Zay, Zax, true_and, and_true]
    · exact absurd hb he
  clear hQ
  have hno := sol_no (s := s) (l := l) hv hs
  have hctr : ctrR ⟨o, p, x⟩ w c s l = (Zco ⟨o, p, x⟩ w c s l, 0) ∧ isP ⟨o, p, x⟩ s l = true ∨ (ctrR ⟨o, p, x⟩ w c s l = (false, 4)) := by
    unfold ctrR
    rw [if_pos hv]
    by_cases h : isP ⟨o, p, x⟩ s l = true
    · rw [if_pos ⟨hc, h⟩]; exact .inl ⟨rfl, h⟩
    · rw [if_neg (fun h2 => h h2.2)]; exact .inr rfl
  have hct : (ctrR ⟨o, p, x⟩ w c s l).1 = false := by
    rcases hctr with ⟨h, h2⟩ | h
    · rw [h]; exact hno h2
    · rw [h]
  repeat' first
    | with_reducible first | apply Zar | apply Zan | apply Zaa | apply Zad | apply Zah | apply Zao | apply Zag | apply Zaj | apply Zaq | apply Zas | apply Zap | apply Zal | apply Zac | apply Zak
    | ((with_reducible refine Zai ?_ ?_); exact rfl) | ((with_reducible refine Zat ?_); refine Zam rfl ?_ ?_ <;> intro hb <;> (try simp only [zH] at hb)) | ((with_reducible refine Zau 5 ?_ ?_); (· exact rfl); (with_reducible refine Zau 6 ?_ ?_); (· exact rfl); (first | refine Zae htb hmz Za9 fF rfl rfl ?_ | refine Zaf hmo htb hmz Za9 fF rfl rfl (by kernel_rfl) ?_); intro _ _ _ _ h; simp only [zE, evp, evx, ev1, evLoad, evStore, evBin, evIf, Zab, forall_const, z38, tb, reduceAdd, reduceSub, reduceMul, reduceEqDiff, reduceLeDiff, reduceLT, Nat.reduceBEq, Nat.reduceBNe, ↓reduceIte, reduceIte, spVe, Zby, gvnS, ctrS, agrS, Zaw, Zay, Zax, true_and, and_true] at h; obtain ⟨rfl, rfl, rfl, rfl⟩ := h; refine ⟨?_, ?_⟩) | ((with_reducible refine Ob.mk ?_); first | exact trivial | (intros; omega) | ((repeat' first | apply And.intro | (intro a; have b := a; try simp only [zH] at b)) <;> first | assumption | omega | (simp only [zH]; omega)))
  · cases hb
  clear hb
  repeat' first
    | with_reducible first | apply Zar | apply Zan | apply Zaa | apply Zad | apply Zah | apply Zao | apply Zag | apply Zaj | apply Zaq | apply Zas | apply Zap | apply Zal | apply Zac | apply Zak
    | ((with_reducible refine Zai ?_ ?_); exact rfl) | ((with_reducible refine Zat ?_); refine Zam rfl ?_ ?_ <;> intro hb <;> (try simp only [zH] at hb)) | ((with_reducible refine Zau 8 ?_ ?_); (· exact rfl); (with_reducible refine Zau 9 ?_ ?_); (· exact rfl); (first | refine Zae htb hmz Za9 fF rfl rfl ?_ | refine Zaf hmo htb hmz Za9 fF rfl rfl (by kernel_rfl) ?_); intro _ _ _ _ h; simp only [zE, evp, evx, ev1, evLoad, evStore, evBin, evIf, Zab, forall_const, z38, tb, reduceAdd, reduceSub, reduceMul, reduceEqDiff, reduceLeDiff, reduceLT, Nat.reduceBEq, Nat.reduceBNe, ↓reduceIte, reduceIte, spVe, Zby, gvnS, ctrS, agrS, Zaw, Zay, Zax, true_and, and_true] at h; obtain ⟨rfl, rfl, rfl, rfl⟩ := h; refine ⟨?_, ?_⟩) | ((with_reducible refine Ob.mk ?_); first | exact trivial | (intros; omega) | ((repeat' first | apply And.intro | (intro a; have b := a; try simp only [zH] at b)) <;> first | assumption | omega | (simp only [zH]; omega)))
  · rw [hct] at hb
    exact absurd hb.2 (by decide)
  clear hb
  refine Zcb rfl ?_
  refine Zbs (l1 := [_, _]) (l2 := [_, _, _, _, _, _, _]) ?_
  refine Za4 htb hmz Za9 fF rfl rfl rfl ?_; intro _ _ _ _ h; simp only [zE, evp, evx, ev1, evLoad, evStore, evBin, evIf, Zab, forall_const, z38, tb, reduceAdd, reduceSub, reduceMul, reduceEqDiff, reduceLeDiff, reduceLT, Nat.reduceBEq, Nat.reduceBNe, ↓reduceIte, reduceIte, spVe, Zby, gvnS, ctrS, agrS, Zaw, Zay, Zax, true_and, and_true] at h; obtain ⟨rfl, rfl, rfl, rfl⟩ := h; refine ⟨?_, Zaa ?_⟩
  · first | ((with_reducible refine Ob.mk ?_); first | exact trivial | (intros; omega) | ((repeat' first | apply And.intro | (intro a; have b := a; try simp only [zH] at b)) <;> first | assumption | omega | (simp only [zH]; omega))) | skip
  refine Zbs (l1 := [_]) (l2 := [_, _, _, _, _, _]) ?_
  refine Zbk ([0]) (Zen) rfl rfl rfl rfl rfl rfl rfl rfl rfl (by simp only [rinR, rhoC, zE, evp, evx, ev1, evLoad, evStore, evBin, evIf, Zab, forall_const, z38, tb, reduceAdd, reduceSub, reduceMul, reduceEqDiff, reduceLeDiff, reduceLT, Nat.reduceBEq, Nat.reduceBNe, ↓reduceIte, reduceIte, spVe, Zby, gvnS, ctrS, agrS, Zaw, Zay, Zax, true_and, and_true]) ?_; intro gm gv gr hq m' e' l' h
  obtain ⟨s1, l1, e1, hQ, hq⟩ := hq
  unfold rsA at hq
  simp only [GR.mk.injEq] at hq; obtain ⟨rfl, rfl, rfl⟩ := hq; simp only [rhoC, outR, renR, dels, zE, evp, evx, ev1, evLoad, evStore, evBin, evIf, Zab, forall_const, z38, tb, reduceAdd, reduceSub, reduceMul, reduceEqDiff, reduceLeDiff, reduceLT, Nat.reduceBEq, Nat.reduceBNe, ↓reduceIte, reduceIte, spVe, Zby, gvnS, ctrS, agrS, Zaw, Zay, Zax, true_and, and_true] at h; obtain ⟨rfl, rfl, rfl⟩ := h; refine Zaa ?_
  refine Za4 htb hmz Za9 fF rfl rfl rfl ?_; intro _ _ _ _ h; simp only [zE, evp, evx, ev1, evLoad, evStore, evBin, evIf, Zab, forall_const, z38, tb, reduceAdd, reduceSub, reduceMul, reduceEqDiff, reduceLeDiff, reduceLT, Nat.reduceBEq, Nat.reduceBNe, ↓reduceIte, reduceIte, spVe, Zby, gvnS, ctrS, agrS, Zaw, Zay, Zax, true_and, and_true] at h; obtain ⟨rfl, rfl, rfl, rfl⟩ := h; refine ⟨?_, ?_⟩
  · first | ((with_reducible refine Ob.mk ?_); first | exact trivial | (intros; omega) | ((repeat' first | apply And.intro | (intro a; have b := a; try simp only [zH] at b)) <;> first | assumption | omega | (simp only [zH]; omega))) | skip
  refine Zaa ?_
  rcases chk_ok hQ with ⟨rfl, _, hc2, hs2, rfl, rfl⟩ | he
  case inr =>
    clear hQ
    repeat' first
      | with_reducible first | apply Zar | apply Zan | apply Zaa | apply Zad | apply Zah | apply Zao | apply Zag | apply Zaj | apply Zaq | apply Zas | apply Zap | apply Zal | apply Zac | apply Zak
      | ((with_reducible refine Zai ?_ ?_); exact rfl) | ((with_reducible refine Zat ?_); refine Zam rfl ?_ ?_ <;> intro hb <;> (try simp only [zH] at hb)) | ((with_reducible refine Zau 11 ?_ ?_); (· exact rfl); (with_reducible refine Zau 12 ?_ ?_); (· exact rfl); (first | refine Zae htb hmz Za9 fF rfl rfl ?_ | refine Zaf hmo htb hmz Za9 fF rfl rfl (by kernel_rfl) ?_); intro _ _ _ _ h; simp only [zE, evp, evx, ev1, evLoad, evStore, evBin, evIf, Zab, forall_const, z38, tb, reduceAdd, reduceSub, reduceMul, reduceEqDiff, reduceLeDiff, reduceLT, Nat.reduceBEq, Nat.reduceBNe, ↓reduceIte, reduceIte, spVe, Zby, gvnS, ctrS, agrS, Zaw, Zay, Zax, true_and, and_true] at h; obtain ⟨rfl, rfl, rfl, rfl⟩ := h; refine ⟨?_, ?_⟩) | ((with_reducible refine Ob.mk ?_); first | exact trivial | (intros; omega) | ((repeat' first | apply And.intro | (intro a; have b := a; try simp only [zH] at b)) <;> first | assumption | omega | (simp only [zH]; omega)))
    · refine Zcb rfl ?_
      refine Zbs (l1 := [_]) (l2 := [_]) ?_
      refine Zbk ([0]) (Zd0) rfl rfl rfl rfl rfl rfl rfl rfl rfl (by simp only [rinR, rhoC, zE, evp, evx, ev1, evLoad, evStore, evBin, evIf, Zab, forall_const, z38, tb, reduceAdd, reduceSub, reduceMul, reduceEqDiff, reduceLeDiff, reduceLT, Nat.reduceBEq, Nat.reduceBNe, ↓reduceIte, reduceIte, spVe, Zby, gvnS, ctrS, agrS, Zaw, Zay, Zax, true_and, and_true]) ?_; intro gm gv gr hq m' e' l' h; simp only [GR.mk.injEq] at hq; obtain ⟨rfl, rfl, rfl⟩ := hq; simp only [rhoC, outR, renR, dels, zE, evp, evx, ev1, evLoad, evStore, evBin, evIf, Zab, forall_const, z38, tb, reduceAdd, reduceSub, reduceMul, reduceEqDiff, reduceLeDiff, reduceLT, Nat.reduceBEq, Nat.reduceBNe, ↓reduceIte, reduceIte, spVe, Zby, gvnS, ctrS, agrS, Zaw, Zay, Zax, true_and, and_true] at h; obtain ⟨rfl, rfl, rfl⟩ := h; refine Zaa ?_
      refine Za4 htb hmz Za9 fF rfl rfl rfl ?_; intro _ _ _ _ h; simp only [zE, evp, evx, ev1, evLoad, evStore, evBin, evIf, Zab, forall_const, z38, tb, reduceAdd, reduceSub, reduceMul, reduceEqDiff, reduceLeDiff, reduceLT, Nat.reduceBEq, Nat.reduceBNe, ↓reduceIte, reduceIte, spVe, Zby, gvnS, ctrS, agrS, Zaw, Zay, Zax, true_and, and_true] at h; obtain ⟨rfl, rfl, rfl, rfl⟩ := h; refine ⟨?_, ?_⟩
      · first | ((with_reducible refine Ob.mk ?_); first | exact trivial | (intros; omega) | ((repeat' first | apply And.intro | (intro a; have b := a; try simp only [zH] at b)) <;> first | assumption | omega | (simp only [zH]; omega))) | skip
      refine Zaa ?_
      repeat' first
        | with_reducible first | apply Zar | apply Zan | apply Zaa | apply Zad | apply Zah | apply Zao | apply Zag | apply Zaj | apply Zaq | apply Zas | apply Zap | apply Zal | apply Zac | apply Zak
        | ((with_reducible refine Zai ?_ ?_); exact rfl) | ((with_reducible refine Zat ?_); refine Zam rfl ?_ ?_ <;> intro hb <;> (try simp only [zH] at hb)) | ((with_reducible refine Za6 ?_); (first | refine Zae htb hmz Za9 fF rfl rfl ?_ | refine Zaf hmo htb hmz Za9 fF rfl rfl (by kernel_rfl) ?_); intro _ _ _ _ h; simp only [zE, evp, evx, ev1, evLoad, evStore, evBin, evIf, Zab, forall_const, z38, tb, reduceAdd, reduceSub, reduceMul, reduceEqDiff, reduceLeDiff, reduceLT, Nat.reduceBEq, Nat.reduceBNe, ↓reduceIte, reduceIte, spVe, Zby, gvnS, ctrS, agrS, Zaw, Zay, Zax, true_and, and_true] at h; obtain ⟨rfl, rfl, rfl, rfl⟩ := h; refine ⟨?_, ?_⟩) | ((with_reducible refine Ob.mk ?_); first | exact trivial | (intros; omega) | ((repeat' first | apply And.intro | (intro a; have b := a; try simp only [zH] at b)) <;> first | assumption | omega | (simp only [zH]; omega)))
      refine Za0 rfl rfl (Zc1 ⟨1, .bool true, [(0, some glB)]⟩ [] rfl rfl (Zb4 rfl) ?_)
      simp only [grR, zE, evp, evx, ev1, evLoad, evStore, evBin, evIf, Zab, forall_const, z38, tb, reduceAdd, reduceSub, reduceMul, reduceEqDiff, reduceLeDiff, reduceLT, Nat.reduceBEq, Nat.reduceBNe, ↓reduceIte, reduceIte, spVe, Zby, gvnS, ctrS, agrS, Zaw, Zay, Zax, true_and, and_true]
    · exact absurd hb he
  clear hQ
  have hag : agrR ⟨o, p, x⟩ w c w2 c2 = (true, 0) := by
    unfold agrR
    rw [if_pos hv, if_pos ⟨hc, hc2⟩, decide_eq_true (sols_same hv hs hs2)]
  repeat' first
    | with_reducible first | apply Zar | apply Zan | apply Zaa | apply Zad | apply Zah | apply Zao | apply Zag | apply Zaj | apply Zaq | apply Zas | apply Zap | apply Zal | apply Zac | apply Zak
    | ((with_reducible refine Zai ?_ ?_); exact rfl) | ((with_reducible refine Zat ?_); refine Zam rfl ?_ ?_ <;> intro hb <;> (try simp only [zH] at hb)) | ((with_reducible refine Zau 11 ?_ ?_); (· exact rfl); (with_reducible refine Zau 12 ?_ ?_); (· exact rfl); (first | refine Zae htb hmz Za9 fF rfl rfl ?_ | refine Zaf hmo htb hmz Za9 fF rfl rfl (by kernel_rfl) ?_); intro _ _ _ _ h; simp only [zE, evp, evx, ev1, evLoad, evStore, evBin, evIf, Zab, forall_const, z38, tb, reduceAdd, reduceSub, reduceMul, reduceEqDiff, reduceLeDiff, reduceLT, Nat.reduceBEq, Nat.reduceBNe, ↓reduceIte, reduceIte, spVe, Zby, gvnS, ctrS, agrS, Zaw, Zay, Zax, true_and, and_true] at h; obtain ⟨rfl, rfl, rfl, rfl⟩ := h; refine ⟨?_, ?_⟩) | ((with_reducible refine Ob.mk ?_); first | exact trivial | (intros; omega) | ((repeat' first | apply And.intro | (intro a; have b := a; try simp only [zH] at b)) <;> first | assumption | omega | (simp only [zH]; omega)))
  · cases hb
  clear hb
  repeat' first
    | with_reducible first | apply Zar | apply Zan | apply Zaa | apply Zad | apply Zah | apply Zao | apply Zag | apply Zaj | apply Zaq | apply Zas | apply Zap | apply Zal | apply Zac | apply Zak
    | ((with_reducible refine Zai ?_ ?_); exact rfl) | ((with_reducible refine Zat ?_); refine Zam rfl ?_ ?_ <;> intro hb <;> (try simp only [zH] at hb)) | ((with_reducible refine Zau 13 ?_ ?_); (· exact rfl); (first | refine Zae htb hmz Za9 fF rfl rfl ?_ | refine Zaf hmo htb hmz Za9 fF rfl rfl (by kernel_rfl) ?_); intro _ _ _ _ h; simp only [zE, evp, evx, ev1, evLoad, evStore, evBin, evIf, Zab, forall_const, z38, tb, reduceAdd, reduceSub, reduceMul, reduceEqDiff, reduceLeDiff, reduceLT, Nat.reduceBEq, Nat.reduceBNe, ↓reduceIte, reduceIte, spVe, Zby, gvnS, ctrS, agrS, Zaw, Zay, Zax, true_and, and_true] at h; obtain ⟨rfl, rfl, rfl, rfl⟩ := h; refine ⟨?_, ?_⟩) | ((with_reducible refine Ob.mk ?_); first | exact trivial | (intros; omega) | ((repeat' first | apply And.intro | (intro a; have b := a; try simp only [zH] at b)) <;> first | assumption | omega | (simp only [zH]; omega)))
  rw [hag]
  refine awp_listG ?_
  refine awpG_textM htb hmz Za9 (fun _ => false) 0 [] (os := [_, _, _, _, _, _]) (post := [_, _, _]) rfl rfl rfl rfl rfl ?_; intro _ _ _ _ h; simp only [zE, evp, evx, ev1, evLoad, evStore, evBin, evIf, Zab, forall_const, z38, tb, reduceAdd, reduceSub, reduceMul, reduceEqDiff, reduceLeDiff, reduceLT, Nat.reduceBEq, Nat.reduceBNe, ↓reduceIte, reduceIte, spVe, Zby, gvnS, ctrS, agrS, Zaw, Zay, Zax, true_and, and_true] at h; obtain ⟨rfl, rfl, rfl, rfl⟩ := h; refine ⟨?_, ?_⟩
  · first | ((with_reducible refine Ob.mk ?_); first | exact trivial | (intros; omega) | ((repeat' first | apply And.intro | (intro a; have b := a; try simp only [zH] at b)) <;> first | assumption | omega | (simp only [zH]; omega))) | skip
  refine awpG_yes rfl rfl rfl rfl ?_
  dsimp only [noGd]
  refine Zbk ([0]) (Zd0) rfl rfl rfl rfl rfl rfl rfl rfl rfl (by simp only [rinR, rhoC, zE, evp, evx, ev1, evLoad, evStore, evBin, evIf, Zab, forall_const, z38, tb, reduceAdd, reduceSub, reduceMul, reduceEqDiff, reduceLeDiff, reduceLT, Nat.reduceBEq, Nat.reduceBNe, ↓reduceIte, reduceIte, spVe, Zby, gvnS, ctrS, agrS, Zaw, Zay, Zax, true_and, and_true]) ?_; intro gm gv gr hq m' e' l' h; simp only [GR.mk.injEq] at hq; obtain ⟨rfl, rfl, rfl⟩ := hq; simp only [rhoC, outR, renR, dels, zE, evp, evx, ev1, evLoad, evStore, evBin, evIf, Zab, forall_const, z38, tb, reduceAdd, reduceSub, reduceMul, reduceEqDiff, reduceLeDiff, reduceLT, Nat.reduceBEq, Nat.reduceBNe, ↓reduceIte, reduceIte, spVe, Zby, gvnS, ctrS, agrS, Zaw, Zay, Zax, true_and, and_true] at h; obtain ⟨rfl, rfl, rfl⟩ := h; refine Zaa ?_
  refine awpG_textM htb hmz Za9 (fun _ => false) 7 [_, _, _, _, _, _, _] (os := [_, _]) (post := []) rfl rfl rfl rfl rfl ?_; intro _ _ _ _ h; simp only [zE, evp, evx, ev1, evLoad, evStore, evBin, evIf, Zab, forall_const, z38, tb, reduceAdd, reduceSub, reduceMul, reduceEqDiff, reduceLeDiff, reduceLT, Nat.reduceBEq, Nat.reduceBNe, ↓reduceIte, reduceIte, spVe, Zby, gvnS, ctrS, agrS, Zaw, Zay, Zax, true_and, and_true] at h; obtain ⟨rfl, rfl, rfl, rfl⟩ := h; refine ⟨?_, ?_⟩
  · first | ((with_reducible refine Ob.mk ?_); first | exact trivial | (intros; omega) | ((repeat' first | apply And.intro | (intro a; have b := a; try simp only [zH] at b)) <;> first | assumption | omega | (simp only [zH]; omega))) | skip
  refine awpG_nil ?_
  refine Zaa ?_
  repeat' first
    | with_reducible first | apply Zar | apply Zan | apply Zaa | apply Zad | apply Zah | apply Zao | apply Zag | apply Zaj | apply Zaq | apply Zas | apply Zap | apply Zal | apply Zac | apply Zak
    | ((with_reducible refine Zai ?_ ?_); exact rfl) | ((with_reducible refine Zat ?_); refine Zam rfl ?_ ?_ <;> intro hb <;> (try simp only [zH] at hb)) | ((with_reducible refine Za6 ?_); (first | refine Zae htb hmz Za9 fF rfl rfl ?_ | refine Zaf hmo htb hmz Za9 fF rfl rfl (by kernel_rfl) ?_); intro _ _ _ _ h; simp only [zE, evp, evx, ev1, evLoad, evStore, evBin, evIf, Zab, forall_const, z38, tb, reduceAdd, reduceSub, reduceMul, reduceEqDiff, reduceLeDiff, reduceLT, Nat.reduceBEq, Nat.reduceBNe, ↓reduceIte, reduceIte, spVe, Zby, gvnS, ctrS, agrS, Zaw, Zay, Zax, true_and, and_true] at h; obtain ⟨rfl, rfl, rfl, rfl⟩ := h; refine ⟨?_, ?_⟩) | ((with_reducible refine Ob.mk ?_); first | exact trivial | (intros; omega) | ((repeat' first | apply And.intro | (intro a; have b := a; try simp only [zH] at b)) <;> first | assumption | omega | (simp only [zH]; omega)))
  refine Za0 rfl rfl (Zc1 ⟨1, .bool true, [(0, some glB)]⟩ [] rfl rfl (Zb4 rfl) ?_)
  simp only [grR, zE, evp, evx, ev1, evLoad, evStore, evBin, evIf, Zab, forall_const, z38, tb, reduceAdd, reduceSub, reduceMul, reduceEqDiff, reduceLeDiff, reduceLT, Nat.reduceBEq, Nat.reduceBNe, ↓reduceIte, reduceIte, spVe, Zby, gvnS, ctrS, agrS, Zaw, Zay, Zax, true_and, and_true]
open Go Go.ChangeShapes Go.WideShapes Go.ChangeAt Go.RowKit Go.Deep
def ldL : List (String × DataW Unit) := [("errors.errorType", Rows.laid_errors_errorType)]
theorem etN : Tryd.prog.globalNamed "errors.errorType" = some 0 := by kernel_rfl
theorem rtN : (Tryd.prog.cutTypes.find? (·.1 == "internal/reflectlite.rtype")).map (·.2) = some 105 := by kernel_rfl
theorem tySize : Tryd.prog.types.size = 153 := by kernel_rfl
theorem oneRow : ((List.range 153).filter fun t => Tryd.prog.rowNamed t [101, 114, 114, 111, 114]) = [68] := by kernel_rfl
theorem handle_of_laid {W : World} (h : laidMetH Tryd.prog ldL W) : W.cell? ⟨0, 0, none⟩ = some (.iface 105 (.agg #[.pointer (some ⟨1, 68, none⟩)])) := by
  have h' : laidMet Tryd.prog [] W ∧ handlesMet Tryd.prog ldL W := h
  obtain ⟨name, u, ty, e1, e2, e3, e4, e5⟩ := h'.2 _ (List.mem_singleton.2 rfl)
  have en : name = [101, 114, 114, 111, 114] := (Option.some.inj e1).symm
  subst en
  obtain rfl := Option.some.inj (rtN.symm.trans e2)
  have hm : ty ∈ (List.range 153).filter fun t => Tryd.prog.rowNamed t [101, 114, 114, 111, 114] := List.mem_filter.2 ⟨List.mem_range.2 (by rw [← tySize]; exact e3), e4⟩
  rw [oneRow] at hm
  obtain rfl := List.mem_singleton.1 hm
  have hh : typeHandle Tryd.prog 68 = .pointer (some ⟨1, 68, none⟩) := by kernel_rfl
  rw [hh] at e5
  simpa using World.var?_cell etN e5 0
noncomputable def laidWorld (os : Os) : World :=
  let w0 := World.holding Tryd.prog os ⟨#[], #[], []⟩
  { w0 with heap := w0.heap.modify 0 fun
      | .cells _ t frozen => .cells #[.iface 105 (.agg #[.pointer (some ⟨1, 68, none⟩)])] t frozen
      | o => o }
theorem laidWorld_met (os : Os) (args : Array Value) : laidMetH Tryd.prog ldL ((laidWorld os).forCall (fun _ _ => 0) ⟨#[], args, []⟩).memory :=
  laidMetH_of_parts (laidMet_nil _ _) (by kernel_rfl)
def twA (q : List Int × List Int) : AV := .agg (.cons (.roI q.1) (.cons (.roI q.2) .nil))
theorem Zhw {H : Type} {enc : TypeId × Value → H} {P : Program} {w : World} {base : Nat} {spare : Nat → Bool} {held : Bool} {r : Reach} {b0 t : Nat} {f0 f1 : Field} {v : Value} {d : DataW H} {p : List MemPlace} (hs : P.underlying t = some (.struct #[f0, f1])) (hone : oneCellFields P #[f0, f1] = true) (hC : P.cellsOf t = 2) (hv : Value.okWide P w r b0 t v) (h : DataW.Trod enc P w base spare held t v d p) (hl : Zg8 P t d)
    {e1 : Nat} (h0 : P.underlying f0.type = some (.slice e1)) (h1 : P.underlying f1.type = some (.slice e1)) (he1 : P.underlying e1 = some (.int .i64)) (hc1 : P.cellsOf e1 = 1) (hB1 : 1 ≤ P.bytesOf e1) : ∃ m : List Int × List Int, R (old w) w (twA m) nu0 true [v] := by
  obtain ⟨v0, v1, y0, y1, n, rfl, rfl, rfl, t0, t1⟩ := Go.Joins.open_agg2 hs hone hC hv h
  have hw : ∀ k, k ∈ y0.1.weights P f0.type ∨ k ∈ y1.1.weights P f1.type → k ≤ 140737488351232 := fun k hk => hl k (by
    simp only [DataW.weights, hs, DataW.weightsEach, List.mem_append, List.map_cons, List.map_nil, List.not_mem_nil, or_false]
    exact hk)
  obtain ⟨o, ho⟩ := Zfl h0 he1 hc1 hB1 t0 (fun k hk => hw k (.inl hk)) nu0 true
  obtain ⟨q, hq⟩ := Zfl h1 he1 hc1 hB1 t1 (fun k hk => hw k (.inr hk)) nu0 true
  exact ⟨(o, q), [v0, v1], rfl, v0, [v1], rfl, ho, v1, [], rfl, hq, rfl⟩
theorem law_callsG {f : Nat} {args : List AV} {W : World} {vals : Array Value} (hS : FG Tryd.prog f args [(0, some glB)] 1 fun g => g = ⟨1, .bool true, [(0, some glB)]⟩) (hm : men noK (mkL args) = true) (hgl : W.cell? ⟨0, 0, none⟩ = some (.iface 105 (.agg #[.pointer (some ⟨1, 68, none⟩)]))) (hr : R (old W) W (mkL args) nu0 true vals.toList) :
    Calls Tryd.prog f vals W fun e W' => e = .returned (.bool true) ∧ Below W.heap.size W W' := by
  have h0 : 0 < W.heap.size := by
    unfold World.cell? at hgl
    rcases Nat.lt_or_ge 0 W.heap.size with h | h
    · exact h
    · rw [Array.getElem?_eq_none h] at hgl; cases hgl
  have := hS.2 (old W) (old W) nu0 W vals (fun _ => rfl) hr (Zbw hm) ⟨fun _ _ => False, fun k b h => ?_⟩ (fun _ h => h) (fun _ h => h)
  · refine CallsIn.calls (F := FF none) (n := 0) (CallsIn.mono (Zdh this) ?_) (fun k d hd => by cases hd)
    rintro e W' ⟨y, Z', ν', v, μ', rs', rfl, hst, _, _, _, hr', _, _, _, g, rfl, rfl, _⟩
    have : y = .bool true := one1 hr'
    subst this
    exact ⟨rfl, hst.ext.os, hst.ext.tape, hst.ext.output, hst.ext.size, fun k hk => hst.ext.block k hk⟩
  · rw [Zbn] at h
    by_cases e : k = 0
    · subst e
      rw [if_pos rfl] at h
      cases h
      refine ⟨rfl, (fun k hk => by cases hk), fun Z' w' hZ hw => ⟨fun y hy => hy, hZ 0 h0, ?_⟩, fun x hx => hx.elim, fun k' b' hne hk' x hx => hx.elim⟩
      exact (World.cell?_of_block (w := W) (hw 0 (.inl h0))).trans hgl
    · rw [if_neg e] at h; cases h
end Go.Proofs.YtdhoadhkkecjjaaDoor.Cal
