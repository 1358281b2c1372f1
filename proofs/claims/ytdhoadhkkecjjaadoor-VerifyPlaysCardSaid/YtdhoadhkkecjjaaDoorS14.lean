/- Own texts, merged. -/
import Derived.Laws.Tables
import Derived.Test.YtdhoadhkkecjjaaDoorRows
import Derived.ChangeSame
import Derived.ChangeVars
import Derived.JoinedOf
import Derived.LaidLaws
import Derived.LaidHandle
import Derived.Stop.Joined
import Derived.Test.YtdhoadhkkecjjaaDoorS13
set_option linter.unusedVariables false
set_option linter.unusedSimpArgs false
open Nat (reduceAdd reduceSub reduceMul reduceEqDiff reduceLeDiff reduceLT)
namespace Go.Proofs.YtdhoadhkkecjjaaDoor.Cal
open Go Pl
noncomputable def spRm : Nat → Option Spec
  | 10 => some Zay
  | 47 => some Zb1
  | _ => none
theorem Zbi : SpOK Tryd.prog spRm := by
  intro f S h
  unfold spRm at h
  split at h
  · cases h; exact Zfk
  · cases h; exact full_ok
  · cases h
set_option maxRecDepth 4000 in
set_option maxHeartbeats 4000000 in
theorem rmet_ok : Zb2 Tryd.prog 24 metS := by
  refine Za8 htb (fn := Tryd.f24) (by kernel_rfl) (by kernel_rfl) rfl (fun args r hS => ?_) (fun args r hS hob hl => ?_)
  · unfold metS at hS; split at hS <;> first | (cases hS; done) | (cases hS; exact Nat.le_of_ble_eq_true rfl)
  unfold metS at hS
  split at hS
  case h_2 => cases hS
  rename_i o p x a b v
  simp only [Option.some.injEq] at hS
  subst hS
  simp only [lenP, mkL, lim] at hl
  dsimp only at hob
  repeat' first
    | with_reducible first | apply Zar | apply Zan | apply Zaa | apply Zac | apply Zah | apply Zap | apply Zag | apply Zaj | apply Zaq | apply Zas | apply Zao | apply Zal | apply Zab | apply Zak
    | ((with_reducible refine Zai ?_ ?_); exact rfl) | ((with_reducible refine Zat ?_); refine Zam rfl ?_ ?_ <;> intro hb <;> (try simp only [zH] at hb)) | ((with_reducible refine Zau 2 ?_ ?_); (· exact rfl); (with_reducible refine Zau 3 ?_ ?_); (· exact rfl); (first | refine Zaf htb hmz Zbi fF rfl rfl ?_ | refine Zae hmo htb hmz Zbi fF rfl rfl (by kernel_rfl) ?_); intro _ _ _ _ h; simp only [zE, evp, evx, ev1, evLoad, evStore, evBin, evIf, Zad, forall_const, z38, tb, reduceAdd, reduceSub, reduceMul, reduceEqDiff, reduceLeDiff, reduceLT, Nat.reduceBEq, Nat.reduceBNe, ↓reduceIte, reduceIte, spRm, Zay, Zb1] at h; obtain ⟨rfl, rfl, rfl, rfl⟩ := h; refine ⟨?_, ?_⟩) | ((with_reducible refine Ob.mk ?_); first | exact trivial | (intros; omega) | ((repeat' first | apply And.intro | (intro a; have b := a; try simp only [zH] at b)) <;> first | assumption | omega | (simp only [zH]; omega)))
  · repeat' first
      | with_reducible first | apply Zar | apply Zan | apply Zaa | apply Zac | apply Zah | apply Zap | apply Zag | apply Zaj | apply Zaq | apply Zas | apply Zao | apply Zal | apply Zab | apply Zak
      | ((with_reducible refine Zai ?_ ?_); exact rfl) | ((with_reducible refine Zat ?_); refine Zam rfl ?_ ?_ <;> intro hb <;> (try simp only [zH] at hb)) | ((with_reducible refine Zaz ?_); (first | refine Zaf htb hmz Zbi fF rfl rfl ?_ | refine Zae hmo htb hmz Zbi fF rfl rfl (by kernel_rfl) ?_); intro _ _ _ _ h; simp only [zE, evp, evx, ev1, evLoad, evStore, evBin, evIf, Zad, forall_const, z38, tb, reduceAdd, reduceSub, reduceMul, reduceEqDiff, reduceLeDiff, reduceLT, Nat.reduceBEq, Nat.reduceBNe, ↓reduceIte, reduceIte, spRm, Zay, Zb1] at h; obtain ⟨rfl, rfl, rfl, rfl⟩ := h; refine ⟨?_, ?_⟩) | ((with_reducible refine Ob.mk ?_); first | exact trivial | (intros; omega) | ((repeat' first | apply And.intro | (intro a; have b := a; try simp only [zH] at b)) <;> first | assumption | omega | (simp only [zH]; omega)))
    refine Zax rfl rfl (Zcg rfl ?_ rfl)
    exact Zfo (met_1 hb)
  have hv : Zba ⟨o, p, x⟩ = true := by cases h : Zba ⟨o, p, x⟩ with | true => rfl | false => rw [h] at hb; simp at hb
  clear hb
  repeat' first
    | with_reducible first | apply Zar | apply Zan | apply Zaa | apply Zac | apply Zah | apply Zap | apply Zag | apply Zaj | apply Zaq | apply Zas | apply Zao | apply Zal | apply Zab | apply Zak
    | ((with_reducible refine Zai ?_ ?_); exact rfl) | ((with_reducible refine Zat ?_); refine Zam rfl ?_ ?_ <;> intro hb <;> (try simp only [zH] at hb)) | ((with_reducible refine Zau 4 ?_ ?_); (· exact rfl); (with_reducible refine Zau 5 ?_ ?_); (· exact rfl); (first | refine Zaf htb hmz Zbi fF rfl rfl ?_ | refine Zae hmo htb hmz Zbi fF rfl rfl (by kernel_rfl) ?_); intro _ _ _ _ h; simp only [zE, evp, evx, ev1, evLoad, evStore, evBin, evIf, Zad, forall_const, z38, tb, reduceAdd, reduceSub, reduceMul, reduceEqDiff, reduceLeDiff, reduceLT, Nat.reduceBEq, Nat.reduceBNe, ↓reduceIte, reduceIte, spRm, Zay, Zb1] at h; obtain ⟨rfl, rfl, rfl, rfl⟩ := h; refine ⟨?_, ?_⟩) | ((with_reducible refine Ob.mk ?_); first | exact trivial | (intros; omega) | ((repeat' first | apply And.intro | (intro a; have b := a; try simp only [zH] at b)) <;> first | assumption | omega | (simp only [zH]; omega)))
  · repeat' first
      | with_reducible first | apply Zar | apply Zan | apply Zaa | apply Zac | apply Zah | apply Zap | apply Zag | apply Zaj | apply Zaq | apply Zas | apply Zao | apply Zal | apply Zab | apply Zak
      | ((with_reducible refine Zai ?_ ?_); exact rfl) | ((with_reducible refine Zat ?_); refine Zam rfl ?_ ?_ <;> intro hb <;> (try simp only [zH] at hb)) | ((with_reducible refine Zaz ?_); (first | refine Zaf htb hmz Zbi fF rfl rfl ?_ | refine Zae hmo htb hmz Zbi fF rfl rfl (by kernel_rfl) ?_); intro _ _ _ _ h; simp only [zE, evp, evx, ev1, evLoad, evStore, evBin, evIf, Zad, forall_const, z38, tb, reduceAdd, reduceSub, reduceMul, reduceEqDiff, reduceLeDiff, reduceLT, Nat.reduceBEq, Nat.reduceBNe, ↓reduceIte, reduceIte, spRm, Zay, Zb1] at h; obtain ⟨rfl, rfl, rfl, rfl⟩ := h; refine ⟨?_, ?_⟩) | ((with_reducible refine Ob.mk ?_); first | exact trivial | (intros; omega) | ((repeat' first | apply And.intro | (intro a; have b := a; try simp only [zH] at b)) <;> first | assumption | omega | (simp only [zH]; omega)))
    refine Zax rfl rfl (Zcg rfl ?_ rfl)
    exact Zfo (met_4 hv fun h => by
      rcases hb with h2 | h2
      · rw [h2] at h; cases h.1
      · rw [h2] at h; cases h.2)
  have hff := hb
  clear hb
  have hG := gok (validB_iff.1 hv)
  have hn : o.length ≤ 20000 := hG.n
  have hal : a.length = o.length := (of_decide_eq_true hff.1).1
  have hbl : b.length = o.length := (of_decide_eq_true hff.2).1
  repeat' first
    | with_reducible first | apply Zar | apply Zan | apply Zaa | apply Zac | apply Zah | apply Zap | apply Zag | apply Zaj | apply Zaq | apply Zas | apply Zao | apply Zal | apply Zab | apply Zak
    | ((with_reducible refine Zai ?_ ?_); exact rfl) | ((with_reducible refine Zat ?_); refine Zam rfl ?_ ?_ <;> intro hb <;> (try simp only [zH] at hb)) | ((with_reducible refine Zau 6 ?_ ?_); (· exact rfl); (with_reducible refine Zau 7 ?_ ?_); (· exact rfl); (first | refine Zaf htb hmz Zbi fF rfl rfl ?_ | refine Zae hmo htb hmz Zbi fF rfl rfl (by kernel_rfl) ?_); intro _ _ _ _ h; simp only [zE, evp, evx, ev1, evLoad, evStore, evBin, evIf, Zad, forall_const, z38, tb, reduceAdd, reduceSub, reduceMul, reduceEqDiff, reduceLeDiff, reduceLT, Nat.reduceBEq, Nat.reduceBNe, ↓reduceIte, reduceIte, spRm, Zay, Zb1] at h; obtain ⟨rfl, rfl, rfl, rfl⟩ := h; refine ⟨?_, ?_⟩) | ((with_reducible refine Ob.mk ?_); first | exact trivial | (intros; omega) | ((repeat' first | apply And.intro | (intro a; have b := a; try simp only [zH] at b)) <;> first | assumption | omega | (simp only [zH]; omega)))
  · repeat' first
      | with_reducible first | apply Zar | apply Zan | apply Zaa | apply Zac | apply Zah | apply Zap | apply Zag | apply Zaj | apply Zaq | apply Zas | apply Zao | apply Zal | apply Zab | apply Zak
      | ((with_reducible refine Zai ?_ ?_); exact rfl) | ((with_reducible refine Zat ?_); refine Zam rfl ?_ ?_ <;> intro hb <;> (try simp only [zH] at hb)) | ((with_reducible refine Zaz ?_); (first | refine Zaf htb hmz Zbi fF rfl rfl ?_ | refine Zae hmo htb hmz Zbi fF rfl rfl (by kernel_rfl) ?_); intro _ _ _ _ h; simp only [zE, evp, evx, ev1, evLoad, evStore, evBin, evIf, Zad, forall_const, z38, tb, reduceAdd, reduceSub, reduceMul, reduceEqDiff, reduceLeDiff, reduceLT, Nat.reduceBEq, Nat.reduceBNe, ↓reduceIte, reduceIte, spRm, Zay, Zb1] at h; obtain ⟨rfl, rfl, rfl, rfl⟩ := h; refine ⟨?_, ?_⟩) | ((with_reducible refine Ob.mk ?_); first | exact trivial | (intros; omega) | ((repeat' first | apply And.intro | (intro a; have b := a; try simp only [zH] at b)) <;> first | assumption | omega | (simp only [zH]; omega)))
    refine Zax rfl rfl (Zcg rfl ?_ rfl)
    exact Zfo (met_6 hv hff hb)
  have hvr : 0 ≤ v ∧ v < o.length := by omega
  have hme := met_0 (a := a) (b := b) (v := v) hv hff (by show ¬ (v < 0 ∨ (o.length : Int) ≤ v); omega)
  clear hb
  have hbo : ∀ u, u < o.length → (Zcf o.length a b).getD u 0 = (if o.getD u 0 = 0 then a.getD u 0 else b.getD u 0) ∧ (Zcf o.length a b).getD u 0 ∈ x.getD u [] := fun u hu => both_own hv hff.1 hff.2 hu
  have hbl2 : (Zcf o.length a b).length = o.length := both_len
  have hOk : OkCh ⟨o, p, x⟩ (Zcf o.length a b) := fun u hu => (hbo u (by omega)).2
  have hpe := fun L k hA => @Zh5 ⟨o, p, x⟩ (Zcf o.length a b) v hv hbl2 (by simp only [Gm.n]; omega) hOk L k hA
  obtain ⟨F, hF⟩ : ∃ F, chF (Zcf o.length a b) = F := ⟨_, rfl⟩
  have hrg : ∀ u, u < o.length → 0 ≤ (Zcf o.length a b).getD u 0 ∧ (Zcf o.length a b).getD u 0 < (o.length : Int) := fun u hu => by
    obtain ⟨q, hq, e⟩ := Zfu (hbo u hu).2
    have h2 := hG.at' u hu q hq
    rw [e] at h2
    exact h2
  have horb : ∀ j, orb F v.toNat j < o.length := fun j => by
    induction j with
    | zero => show v.toNat < _; omega
    | succ j ih =>
      have := hrg _ ih
      rw [← hF] at this ⊢
      show ((Zcf o.length a b).getD (orb (chF (Zcf o.length a b)) v.toNat j) 0).toNat < o.length
      omega
  have hstep : ∀ j, (if o.getD (orb F v.toNat j) 0 = 0 then a.getD (orb F v.toNat j) 0 else b.getD (orb F v.toNat j) 0) = ((orb F v.toNat (j + 1) : Nat) : Int) := fun j => by
    rw [← (hbo _ (horb j)).1]
    have := hrg _ (horb j)
    rw [← hF] at this ⊢
    exact (Int.toNat_of_nonneg this.1).symm
  have hway : ∀ k, way (Zcf o.length a b) v.toNat k = orL F v.toNat k := fun k => by rw [← hF]; rfl
  obtain ⟨u, rfl⟩ := Int.eq_ofNat_of_zero_le hvr.1
  simp only [Int.toNat_natCast] at *
  repeat' first
    | with_reducible first | apply Zar | apply Zan | apply Zaa | apply Zac | apply Zah | apply Zap | apply Zag | apply Zaj | apply Zaq | apply Zas | apply Zao | apply Zal | apply Zab | apply Zak
    | ((with_reducible refine Zai ?_ ?_); exact rfl) | ((with_reducible refine Zat ?_); refine Zam rfl ?_ ?_ <;> intro hb <;> (try simp only [zH] at hb)) | ((with_reducible refine Zau 8 ?_ ?_); (· exact rfl); (first | refine Zaf htb hmz Zbi fF rfl rfl ?_ | refine Zae hmo htb hmz Zbi fF rfl rfl (by kernel_rfl) ?_); intro _ _ _ _ h; simp only [zE, evp, evx, ev1, evLoad, evStore, evBin, evIf, Zad, forall_const, z38, tb, reduceAdd, reduceSub, reduceMul, reduceEqDiff, reduceLeDiff, reduceLT, Nat.reduceBEq, Nat.reduceBNe, ↓reduceIte, reduceIte, spRm, Zay, Zb1] at h; obtain ⟨rfl, rfl, rfl, rfl⟩ := h; refine ⟨?_, ?_⟩) | ((with_reducible refine Ob.mk ?_); first | exact trivial | (intros; omega) | ((repeat' first | apply And.intro | (intro a; have b := a; try simp only [zH] at b)) <;> first | assumption | omega | (simp only [zH]; omega)))
  refine Zfs 10 (.ints []) (by simp only [zE, evp, evx, ev1, evLoad, evStore, evBin, evIf, Zad, forall_const, z38, tb, reduceAdd, reduceSub, reduceMul, reduceEqDiff, reduceLeDiff, reduceLT, Nat.reduceBEq, Nat.reduceBNe, ↓reduceIte, reduceIte, spRm, Zay, Zb1]) (.inl rfl) rfl ?_
  refine Za5 (τ := Nat) (fun k => Zhp F u k) (fun k => ⟨27, [(10, .own 26), (3, .int .i64 (orb F u k)), (1, .roI a), (2, .roI b), (4, .rop (.agg (.cons (.roI o) (.cons (.roI p) (.cons (.roII x) .nil))))), (8, .own 1)], [(26, some (.ints (orL F u k))), (1, some (.box (.agg (.cons (.cst (.slice none 0 0)) (.cons (.cst (.slice none 0 0)) .nil)))))], []⟩) (fun k => o.length - k) 0 [] ?_ (fun i j _ h => absurd h (Nat.not_lt_zero j)) ?_
  · (refine ⟨rfl, ?_, ?_⟩ <;> simp only [zE, evp, evx, ev1, evLoad, evStore, evBin, evIf, Zad, forall_const, z38, tb, reduceAdd, reduceSub, reduceMul, reduceEqDiff, reduceLeDiff, reduceLT, Nat.reduceBEq, Nat.reduceBNe, ↓reduceIte, reduceIte, spRm, Zay, Zb1, zI])
    · rfl
    · rfl
  intro k hfr
  have hkn : k ≤ o.length := Zd3 horb hfr
  have hol : (orL F u k).length = k := Zh6
  have hog : ∀ i, i < k → (orL F u k).getD i 0 = (orb F u i : Int) := fun i hi => by simp [orL, List.getD_eq_getElem?_getD, hi]
  have hok := horb k
  have hst := hstep k
  repeat' first
    | with_reducible first | apply Zar | apply Zan | apply Zaa | apply Zac | apply Zah | apply Zap | apply Zag | apply Zaj | apply Zaq | apply Zas | apply Zao | apply Zal | apply Zab | apply Zak
    | ((with_reducible refine Zai ?_ ?_); exact rfl) | ((with_reducible refine Zat ?_); refine Zam rfl ?_ ?_ <;> intro hb <;> (try simp only [zH] at hb)) | ((with_reducible refine Zaz ?_); (first | refine Zaf htb hmz Zbi fF rfl rfl ?_ | refine Zae hmo htb hmz Zbi fF rfl rfl (by kernel_rfl) ?_); intro _ _ _ _ h; simp only [zE, evp, evx, ev1, evLoad, evStore, evBin, evIf, Zad, forall_const, z38, tb, reduceAdd, reduceSub, reduceMul, reduceEqDiff, reduceLeDiff, reduceLT, Nat.reduceBEq, Nat.reduceBNe, ↓reduceIte, reduceIte, spRm, Zay, Zb1] at h; obtain ⟨rfl, rfl, rfl, rfl⟩ := h; refine ⟨?_, ?_⟩) | ((with_reducible refine Ob.mk ?_); first | exact trivial | (intros; omega) | ((repeat' first | apply And.intro | (intro a; have b := a; try simp only [zH] at b)) <;> first | assumption | omega | (simp only [zH]; omega)))
  refine Za5 (τ := Nat) (fun i => i ≤ k ∧ ∀ j, j < i → orb F u j ≠ orb F u k) (fun i => ⟨30, [(40, .int .i64 i), (39, .int .i64 k), (38, .own 26), (10, .own 26), (3, .int .i64 (orb F u k)), (1, .roI a), (2, .roI b), (4, .rop (.agg (.cons (.roI o) (.cons (.roI p) (.cons (.roII x) .nil))))), (8, .own 1)], [(26, some (.ints (orL F u k))), (1, some (.box (.agg (.cons (.cst (.slice none 0 0)) (.cons (.cst (.slice none 0 0)) .nil)))))], []⟩) (fun i => k - i) 0 [] ?_ ⟨Nat.zero_le _, fun j h => absurd h (Nat.not_lt_zero j)⟩ ?_
  · (refine ⟨rfl, ?_, ?_⟩ <;> simp only [zE, evp, evx, ev1, evLoad, evStore, evBin, evIf, Zad, forall_const, z38, tb, reduceAdd, reduceSub, reduceMul, reduceEqDiff, reduceLeDiff, reduceLT, Nat.reduceBEq, Nat.reduceBNe, ↓reduceIte, reduceIte, spRm, Zay, Zb1, zI])
    rw [hol]
  rintro i ⟨hi, hI⟩
  have hog1 := hog i
  repeat' first
    | with_reducible first | apply Zar | apply Zan | apply Zaa | apply Zac | apply Zah | apply Zap | apply Zag | apply Zaj | apply Zaq | apply Zas | apply Zao | apply Zal | apply Zab | apply Zak
    | ((with_reducible refine Zai ?_ ?_); exact rfl) | ((with_reducible refine Zat ?_); refine Zam rfl ?_ ?_ <;> intro hb <;> (try simp only [zH] at hb)) | ((with_reducible refine Zau 10 ?_ ?_); (· exact rfl); (with_reducible refine Zau 14 ?_ ?_); (· exact rfl); (first | refine Zaf htb hmz Zbi fF rfl rfl ?_ | refine Zae hmo htb hmz Zbi fF rfl rfl (by kernel_rfl) ?_); intro _ _ _ _ h; simp only [zE, evp, evx, ev1, evLoad, evStore, evBin, evIf, Zad, forall_const, z38, tb, reduceAdd, reduceSub, reduceMul, reduceEqDiff, reduceLeDiff, reduceLT, Nat.reduceBEq, Nat.reduceBNe, ↓reduceIte, reduceIte, spRm, Zay, Zb1] at h; obtain ⟨rfl, rfl, rfl, rfl⟩ := h; refine ⟨?_, ?_⟩) | ((with_reducible refine Ob.mk ?_); first | exact trivial | (intros; omega) | ((repeat' first | apply And.intro | (intro a; have b := a; try simp only [zH] at b)) <;> first | assumption | omega | (simp only [zH]; omega)))
  · have hik : i < k := by omega
    have hog1 := hog1 hik
    repeat' first
      | with_reducible first | apply Zar | apply Zan | apply Zaa | apply Zac | apply Zah | apply Zap | apply Zag | apply Zaj | apply Zaq | apply Zas | apply Zao | apply Zal | apply Zab | apply Zak
      | ((with_reducible refine Zai ?_ ?_); exact rfl) | ((with_reducible refine Zat ?_); refine Zam rfl ?_ ?_ <;> intro hb <;> (try simp only [zH] at hb)) | ((with_reducible refine Zau 12 ?_ ?_); (· exact rfl); (with_reducible refine Zau 13 ?_ ?_); (· exact rfl); (first | refine Zaf htb hmz Zbi fF rfl rfl ?_ | refine Zae hmo htb hmz Zbi fF rfl rfl (by kernel_rfl) ?_); intro _ _ _ _ h; simp only [zE, evp, evx, ev1, evLoad, evStore, evBin, evIf, Zad, forall_const, z38, tb, reduceAdd, reduceSub, reduceMul, reduceEqDiff, reduceLeDiff, reduceLT, Nat.reduceBEq, Nat.reduceBNe, ↓reduceIte, reduceIte, spRm, Zay, Zb1] at h; obtain ⟨rfl, rfl, rfl, rfl⟩ := h; refine ⟨?_, ?_⟩) | ((with_reducible refine Ob.mk ?_); first | exact trivial | (intros; omega) | ((repeat' first | apply And.intro | (intro a; have b := a; try simp only [zH] at b)) <;> first | assumption | omega | (simp only [zH]; omega)))
    · rw [hog1] at hb
      have hA : Ze5 F u k i := ⟨hfr, hik, by omega⟩
      have hA2 : Ze5 (chF (Zcf o.length a b)) u k i := by rw [hF]; exact hA
      have hpe1 := hpe k i hA2
      rw [hway] at hpe1
      rw [hpe1] at hme
      have hdl : ((orL F u k).drop i).length = (orL F u k).length - i := List.length_drop ..
      refine Zei 26 (.roI (orL F u k)) (by simp only [Zbb, Zbu, fzE, fzA, fzR, fzB, set1, nbeq, reduceEqDiff, decide_true, decide_false, ↓reduceIte, reduceIte, cond_true, cond_false, List.take_length, Option.some.injEq]; rfl) (by first | exact rfl | (refine ⟨?_, rfl⟩; first | rfl | (intros; rfl))) (by simp only [Zbb, Zbu, fzE, fzA, fzR, fzB, set1, nbeq, reduceEqDiff, decide_true, decide_false, ↓reduceIte, reduceIte, cond_true, cond_false, List.take_length, Option.some.injEq]; rfl) (by simp only [Zbb, Zbu, fzE, fzA, fzR, fzB, set1, nbeq, reduceEqDiff, decide_true, decide_false, ↓reduceIte, reduceIte, cond_true, cond_false, List.take_length, Option.some.injEq]; rfl) ?_
      repeat' first
        | with_reducible first | apply Zar | apply Zan | apply Zaa | apply Zac | apply Zah | apply Zap | apply Zag | apply Zaj | apply Zaq | apply Zas | apply Zao | apply Zal | apply Zab | apply Zak
        | ((with_reducible refine Zai ?_ ?_); exact rfl) | ((with_reducible refine Zat ?_); refine Zam rfl ?_ ?_ <;> intro hb <;> (try simp only [zH] at hb)) | ((with_reducible refine Zaz ?_); (first | refine Zaf htb hmz Zbi fF rfl rfl ?_ | refine Zae hmo htb hmz Zbi fF rfl rfl (by kernel_rfl) ?_); intro _ _ _ _ h; simp only [zE, evp, evx, ev1, evLoad, evStore, evBin, evIf, Zad, forall_const, z38, tb, reduceAdd, reduceSub, reduceMul, reduceEqDiff, reduceLeDiff, reduceLT, Nat.reduceBEq, Nat.reduceBNe, ↓reduceIte, reduceIte, spRm, Zay, Zb1] at h; obtain ⟨rfl, rfl, rfl, rfl⟩ := h; refine ⟨?_, ?_⟩) | ((with_reducible refine Ob.mk ?_); first | exact trivial | (intros; omega) | ((repeat' first | apply And.intro | (intro a; have b := a; try simp only [zH] at b)) <;> first | assumption | omega | (simp only [zH]; omega)))
      refine Zax rfl rfl (Zaw rfl ?_ rfl)
      rw [hme]
      rfl
    · rw [hog1] at hb
      repeat' first
        | with_reducible first | apply Zar | apply Zan | apply Zaa | apply Zac | apply Zah | apply Zap | apply Zag | apply Zaj | apply Zaq | apply Zas | apply Zao | apply Zal | apply Zab | apply Zak
        | ((with_reducible refine Zai ?_ ?_); exact rfl) | ((with_reducible refine Zat ?_); refine Zam rfl ?_ ?_ <;> intro hb <;> (try simp only [zH] at hb)) | ((with_reducible refine Zaz ?_); (first | refine Zaf htb hmz Zbi fF rfl rfl ?_ | refine Zae hmo htb hmz Zbi fF rfl rfl (by kernel_rfl) ?_); intro _ _ _ _ h; simp only [zE, evp, evx, ev1, evLoad, evStore, evBin, evIf, Zad, forall_const, z38, tb, reduceAdd, reduceSub, reduceMul, reduceEqDiff, reduceLeDiff, reduceLT, Nat.reduceBEq, Nat.reduceBNe, ↓reduceIte, reduceIte, spRm, Zay, Zb1] at h; obtain ⟨rfl, rfl, rfl, rfl⟩ := h; refine ⟨?_, ?_⟩) | ((with_reducible refine Ob.mk ?_); first | exact trivial | (intros; omega) | ((repeat' first | apply And.intro | (intro a; have b := a; try simp only [zH] at b)) <;> first | assumption | omega | (simp only [zH]; omega)))
      refine back (i + 1) [] ?_ ⟨by omega, fun j hj => ?_⟩ (by omega)
      · (refine ⟨rfl, ?_, ?_⟩ <;> simp only [zE, evp, evx, ev1, evLoad, evStore, evBin, evIf, Zad, forall_const, z38, tb, reduceAdd, reduceSub, reduceMul, reduceEqDiff, reduceLeDiff, reduceLT, Nat.reduceBEq, Nat.reduceBNe, ↓reduceIte, reduceIte, spRm, Zay, Zb1, zI])
      · rcases Nat.lt_succ_iff_lt_or_eq.1 hj with h | rfl
        · exact hI j h
        · omega
  · have hie : i = k := by omega
    subst hie
    have hf2 := Zdx hfr hI
    have hk1 := Zd3 horb hf2
    repeat' first
      | with_reducible first | apply Zar | apply Zan | apply Zaa | apply Zac | apply Zah | apply Zap | apply Zag | apply Zaj | apply Zaq | apply Zas | apply Zao | apply Zal | apply Zab | apply Zak
      | ((with_reducible refine Zai ?_ ?_); exact rfl) | ((with_reducible refine Zat ?_); refine Zam rfl ?_ ?_ <;> intro hb <;> (try simp only [zH] at hb)) | ((with_reducible refine Zau 16 ?_ ?_); (· exact rfl); (with_reducible refine Zau 17 ?_ ?_); (· exact rfl); (first | refine Zaf htb hmz Zbi fF rfl rfl ?_ | refine Zae hmo htb hmz Zbi fF rfl rfl (by kernel_rfl) ?_); intro _ _ _ _ h; simp only [zE, evp, evx, ev1, evLoad, evStore, evBin, evIf, Zad, forall_const, z38, tb, reduceAdd, reduceSub, reduceMul, reduceEqDiff, reduceLeDiff, reduceLT, Nat.reduceBEq, Nat.reduceBNe, ↓reduceIte, reduceIte, spRm, Zay, Zb1] at h; obtain ⟨rfl, rfl, rfl, rfl⟩ := h; refine ⟨?_, ?_⟩) | ((with_reducible refine Ob.mk ?_); first | exact trivial | (intros; omega) | ((repeat' first | apply And.intro | (intro a; have b := a; try simp only [zH] at b)) <;> first | assumption | omega | (simp only [zH]; omega)))
    · rw [if_pos hb] at hst
      repeat' first
        | with_reducible first | apply Zar | apply Zan | apply Zaa | apply Zac | apply Zah | apply Zap | apply Zag | apply Zaj | apply Zaq | apply Zas | apply Zao | apply Zal | apply Zab | apply Zak
        | ((with_reducible refine Zai ?_ ?_); exact rfl) | ((with_reducible refine Zat ?_); refine Zam rfl ?_ ?_ <;> intro hb <;> (try simp only [zH] at hb)) | ((with_reducible refine Zaz ?_); (first | refine Zaf htb hmz Zbi fF rfl rfl ?_ | refine Zae hmo htb hmz Zbi fF rfl rfl (by kernel_rfl) ?_); intro _ _ _ _ h; simp only [zE, evp, evx, ev1, evLoad, evStore, evBin, evIf, Zad, forall_const, z38, tb, reduceAdd, reduceSub, reduceMul, reduceEqDiff, reduceLeDiff, reduceLT, Nat.reduceBEq, Nat.reduceBNe, ↓reduceIte, reduceIte, spRm, Zay, Zb1] at h; obtain ⟨rfl, rfl, rfl, rfl⟩ := h; refine ⟨?_, ?_⟩) | ((with_reducible refine Ob.mk ?_); first | exact trivial | (intros; omega) | ((repeat' first | apply And.intro | (intro a; have b := a; try simp only [zH] at b)) <;> first | assumption | omega | (simp only [zH]; omega)))
      refine back (i + 1) [(26, 34)] ?_ hf2 (by omega)
      (refine ⟨rfl, ?_, ?_⟩ <;> simp only [zE, evp, evx, ev1, evLoad, evStore, evBin, evIf, Zad, forall_const, z38, tb, reduceAdd, reduceSub, reduceMul, reduceEqDiff, reduceLeDiff, reduceLT, Nat.reduceBEq, Nat.reduceBNe, ↓reduceIte, reduceIte, spRm, Zay, Zb1, zI])
      · exact hst.symm
      · exact orL_s.symm
    · rw [if_neg hb] at hst
      repeat' first
        | with_reducible first | apply Zar | apply Zan | apply Zaa | apply Zac | apply Zah | apply Zap | apply Zag | apply Zaj | apply Zaq | apply Zas | apply Zao | apply Zal | apply Zab | apply Zak
        | ((with_reducible refine Zai ?_ ?_); exact rfl) | ((with_reducible refine Zat ?_); refine Zam rfl ?_ ?_ <;> intro hb <;> (try simp only [zH] at hb)) | ((with_reducible refine Zaz ?_); (first | refine Zaf htb hmz Zbi fF rfl rfl ?_ | refine Zae hmo htb hmz Zbi fF rfl rfl (by kernel_rfl) ?_); intro _ _ _ _ h; simp only [zE, evp, evx, ev1, evLoad, evStore, evBin, evIf, Zad, forall_const, z38, tb, reduceAdd, reduceSub, reduceMul, reduceEqDiff, reduceLeDiff, reduceLT, Nat.reduceBEq, Nat.reduceBNe, ↓reduceIte, reduceIte, spRm, Zay, Zb1] at h; obtain ⟨rfl, rfl, rfl, rfl⟩ := h; refine ⟨?_, ?_⟩) | ((with_reducible refine Ob.mk ?_); first | exact trivial | (intros; omega) | ((repeat' first | apply And.intro | (intro a; have b := a; try simp only [zH] at b)) <;> first | assumption | omega | (simp only [zH]; omega)))
      refine back (i + 1) [(26, 34)] ?_ hf2 (by omega)
      (refine ⟨rfl, ?_, ?_⟩ <;> simp only [zE, evp, evx, ev1, evLoad, evStore, evBin, evIf, Zad, forall_const, z38, tb, reduceAdd, reduceSub, reduceMul, reduceEqDiff, reduceLeDiff, reduceLT, Nat.reduceBEq, Nat.reduceBNe, ↓reduceIte, reduceIte, spRm, Zay, Zb1, zI])
      · exact hst.symm
      · exact orL_s.symm
noncomputable def spRa : Nat → Option Spec
  | 10 => some Zay
  | 11 => some Zb7
  | _ => none
theorem Zb5 : SpOK Tryd.prog spRa := by
  intro f S h
  unfold spRa at h
  split at h
  · cases h; exact Zfk
  · cases h; exact claim_ok
  · cases h
set_option maxRecDepth 4000 in
set_option maxHeartbeats 4000000 in
theorem ragr_ok : Zb2 Tryd.prog 25 agrS := by
  refine Za8 htb (fn := Tryd.f25) (by kernel_rfl) (by kernel_rfl) rfl (fun args r hS => ?_) (fun args r hS hob hl => ?_)
  · unfold agrS at hS; split at hS <;> first | (cases hS; done) | (cases hS; exact Nat.le_of_ble_eq_true rfl)
  unfold agrS at hS
  split at hS
  case h_2 => cases hS
  rename_i o p x w c w2 c2
  simp only [Option.some.injEq] at hS
  subst hS
  simp only [lenP, mkL, lim] at hl
  dsimp only at hob
  have ag1 : Zba ⟨o, p, x⟩ = false → agrR ⟨o, p, x⟩ w c w2 c2 = (false, 1) := fun h => by unfold agrR; rw [if_neg (by rw [h]; decide)]
  have ag4 : Zba ⟨o, p, x⟩ = true → (Zbn ⟨o, p, x⟩ w c = false ∨ Zbn ⟨o, p, x⟩ w2 c2 = false) → agrR ⟨o, p, x⟩ w c w2 c2 = (false, 4) := fun h h2 => by
    unfold agrR
    rw [if_pos h, if_neg]
    rintro ⟨h3, h4⟩
    rcases h2 with h2 | h2
    · rw [h2] at h3; cases h3
    · rw [h2] at h4; cases h4
  repeat' first
    | with_reducible first | apply Zar | apply Zan | apply Zaa | apply Zac | apply Zah | apply Zap | apply Zag | apply Zaj | apply Zaq | apply Zas | apply Zao | apply Zal | apply Zab | apply Zak
    | ((with_reducible refine Zai ?_ ?_); exact rfl) | ((with_reducible refine Zat ?_); refine Zam rfl ?_ ?_ <;> intro hb <;> (try simp only [zH] at hb)) | ((with_reducible refine Zau 2 ?_ ?_); (· exact rfl); (with_reducible refine Zau 3 ?_ ?_); (· exact rfl); (first | refine Zaf htb hmz Zb5 fF rfl rfl ?_ | refine Zae hmo htb hmz Zb5 fF rfl rfl (by kernel_rfl) ?_); intro _ _ _ _ h; simp only [zE, evp, evx, ev1, evLoad, evStore, evBin, evIf, Zad, forall_const, z38, tb, reduceAdd, reduceSub, reduceMul, reduceEqDiff, reduceLeDiff, reduceLT, Nat.reduceBEq, Nat.reduceBNe, ↓reduceIte, reduceIte, spRa, Zay, Zb7] at h; obtain ⟨rfl, rfl, rfl, rfl⟩ := h; refine ⟨?_, ?_⟩) | ((with_reducible refine Ob.mk ?_); first | exact trivial | (intros; omega) | ((repeat' first | apply And.intro | (intro a; have b := a; try simp only [zH] at b)) <;> first | assumption | omega | (simp only [zH]; omega)))
  · rw [ag1 hb]
    repeat' first
      | with_reducible first | apply Zar | apply Zan | apply Zaa | apply Zac | apply Zah | apply Zap | apply Zag | apply Zaj | apply Zaq | apply Zas | apply Zao | apply Zal | apply Zab | apply Zak
      | ((with_reducible refine Zai ?_ ?_); exact rfl) | ((with_reducible refine Zat ?_); refine Zam rfl ?_ ?_ <;> intro hb <;> (try simp only [zH] at hb)) | ((with_reducible refine Zaz ?_); (first | refine Zaf htb hmz Zb5 fF rfl rfl ?_ | refine Zae hmo htb hmz Zb5 fF rfl rfl (by kernel_rfl) ?_); intro _ _ _ _ h; simp only [zE, evp, evx, ev1, evLoad, evStore, evBin, evIf, Zad, forall_const, z38, tb, reduceAdd, reduceSub, reduceMul, reduceEqDiff, reduceLeDiff, reduceLT, Nat.reduceBEq, Nat.reduceBNe, ↓reduceIte, reduceIte, spRa, Zay, Zb7] at h; obtain ⟨rfl, rfl, rfl, rfl⟩ := h; refine ⟨?_, ?_⟩) | ((with_reducible refine Ob.mk ?_); first | exact trivial | (intros; omega) | ((repeat' first | apply And.intro | (intro a; have b := a; try simp only [zH] at b)) <;> first | assumption | omega | (simp only [zH]; omega)))
    refine Zax rfl rfl (Zaw rfl ?_ rfl)
    rfl
  have hv := hb
  clear hb
  repeat' first
    | with_reducible first | apply Zar | apply Zan | apply Zaa | apply Zac | apply Zah | apply Zap | apply Zag | apply Zaj | apply Zaq | apply Zas | apply Zao | apply Zal | apply Zab | apply Zak
    | ((with_reducible refine Zai ?_ ?_); exact rfl) | ((with_reducible refine Zat ?_); refine Zam rfl ?_ ?_ <;> intro hb <;> (try simp only [zH] at hb)) | ((with_reducible refine Zau 4 ?_ ?_); (· exact rfl); (with_reducible refine Zau 5 ?_ ?_); (· exact rfl); (first | refine Zaf htb hmz Zb5 fF rfl rfl ?_ | refine Zae hmo htb hmz Zb5 fF rfl rfl (by kernel_rfl) ?_); intro _ _ _ _ h; simp only [zE, evp, evx, ev1, evLoad, evStore, evBin, evIf, Zad, forall_const, z38, tb, reduceAdd, reduceSub, reduceMul, reduceEqDiff, reduceLeDiff, reduceLT, Nat.reduceBEq, Nat.reduceBNe, ↓reduceIte, reduceIte, spRa, Zay, Zb7] at h; obtain ⟨rfl, rfl, rfl, rfl⟩ := h; refine ⟨?_, ?_⟩) | ((with_reducible refine Ob.mk ?_); first | exact trivial | (intros; omega) | ((repeat' first | apply And.intro | (intro a; have b := a; try simp only [zH] at b)) <;> first | assumption | omega | (simp only [zH]; omega)))
  · rw [ag4 hv hb]
    repeat' first
      | with_reducible first | apply Zar | apply Zan | apply Zaa | apply Zac | apply Zah | apply Zap | apply Zag | apply Zaj | apply Zaq | apply Zas | apply Zao | apply Zal | apply Zab | apply Zak
      | ((with_reducible refine Zai ?_ ?_); exact rfl) | ((with_reducible refine Zat ?_); refine Zam rfl ?_ ?_ <;> intro hb <;> (try simp only [zH] at hb)) | ((with_reducible refine Zaz ?_); (first | refine Zaf htb hmz Zb5 fF rfl rfl ?_ | refine Zae hmo htb hmz Zb5 fF rfl rfl (by kernel_rfl) ?_); intro _ _ _ _ h; simp only [zE, evp, evx, ev1, evLoad, evStore, evBin, evIf, Zad, forall_const, z38, tb, reduceAdd, reduceSub, reduceMul, reduceEqDiff, reduceLeDiff, reduceLT, Nat.reduceBEq, Nat.reduceBNe, ↓reduceIte, reduceIte, spRa, Zay, Zb7] at h; obtain ⟨rfl, rfl, rfl, rfl⟩ := h; refine ⟨?_, ?_⟩) | ((with_reducible refine Ob.mk ?_); first | exact trivial | (intros; omega) | ((repeat' first | apply And.intro | (intro a; have b := a; try simp only [zH] at b)) <;> first | assumption | omega | (simp only [zH]; omega)))
    refine Zax rfl rfl (Zaw rfl ?_ rfl)
    rfl
  obtain ⟨hc, hc2⟩ := hb
  obtain ⟨a1, _, _⟩ := of_decide_eq_true hc
  obtain ⟨b1, _, _⟩ := of_decide_eq_true hc2
  have a1 : w.length = o.length := a1
  have b1 : w2.length = o.length := b1
  have hn : o.length ≤ 20000 := (gok (validB_iff.1 hv)).n
  have e : agrR ⟨o, p, x⟩ w c w2 c2 = (decide (w = w2), 0) := by unfold agrR; rw [if_pos hv, if_pos ⟨hc, hc2⟩]
  rw [e]
  repeat' first
    | with_reducible first | apply Zar | apply Zan | apply Zaa | apply Zac | apply Zah | apply Zap | apply Zag | apply Zaj | apply Zaq | apply Zas | apply Zao | apply Zal | apply Zab | apply Zak
    | ((with_reducible refine Zai ?_ ?_); exact rfl) | ((with_reducible refine Zat ?_); refine Zam rfl ?_ ?_ <;> intro hb <;> (try simp only [zH] at hb)) | ((with_reducible refine Zaz ?_); (first | refine Zaf htb hmz Zb5 fF rfl rfl ?_ | refine Zae hmo htb hmz Zb5 fF rfl rfl (by kernel_rfl) ?_); intro _ _ _ _ h; simp only [zE, evp, evx, ev1, evLoad, evStore, evBin, evIf, Zad, forall_const, z38, tb, reduceAdd, reduceSub, reduceMul, reduceEqDiff, reduceLeDiff, reduceLT, Nat.reduceBEq, Nat.reduceBNe, ↓reduceIte, reduceIte, spRa, Zay, Zb7] at h; obtain ⟨rfl, rfl, rfl, rfl⟩ := h; refine ⟨?_, ?_⟩) | ((with_reducible refine Ob.mk ?_); first | exact trivial | (intros; omega) | ((repeat' first | apply And.intro | (intro a; have b := a; try simp only [zH] at b)) <;> first | assumption | omega | (simp only [zH]; omega)))
  refine Za5 (τ := Nat) (fun i => i ≤ w.length ∧ ∀ j, j < i → w.getD j 0 = w2.getD j 0) (fun i => ⟨25, [(25, .int .i64 i), (24, .int .i64 w.length), (5, .rop (.agg (.cons (.roI w2) (.cons (.roI c2) .nil)))), (4, .rop (.agg (.cons (.roI w) (.cons (.roI c) .nil))))], [], []⟩) (fun i => w.length - i) 0 [] ?_ ⟨Nat.zero_le _, fun j hj => absurd hj (Nat.not_lt_zero j)⟩ ?_
  · (refine ⟨rfl, ?_, ?_⟩ <;> simp only [zE, evp, evx, ev1, evLoad, evStore, evBin, evIf, Zad, forall_const, z38, tb, reduceAdd, reduceSub, reduceMul, reduceEqDiff, reduceLeDiff, reduceLT, Nat.reduceBEq, Nat.reduceBNe, ↓reduceIte, reduceIte, spRa, Zay, Zb7, zI])
  rintro i ⟨hi, hk⟩
  repeat' first
    | with_reducible first | apply Zar | apply Zan | apply Zaa | apply Zac | apply Zah | apply Zap | apply Zag | apply Zaj | apply Zaq | apply Zas | apply Zao | apply Zal | apply Zab | apply Zak
    | ((with_reducible refine Zai ?_ ?_); exact rfl) | ((with_reducible refine Zat ?_); refine Zam rfl ?_ ?_ <;> intro hb <;> (try simp only [zH] at hb)) | ((with_reducible refine Zau 7 ?_ ?_); (· exact rfl); (with_reducible refine Zau 11 ?_ ?_); (· exact rfl); (first | refine Zaf htb hmz Zb5 fF rfl rfl ?_ | refine Zae hmo htb hmz Zb5 fF rfl rfl (by kernel_rfl) ?_); intro _ _ _ _ h; simp only [zE, evp, evx, ev1, evLoad, evStore, evBin, evIf, Zad, forall_const, z38, tb, reduceAdd, reduceSub, reduceMul, reduceEqDiff, reduceLeDiff, reduceLT, Nat.reduceBEq, Nat.reduceBNe, ↓reduceIte, reduceIte, spRa, Zay, Zb7] at h; obtain ⟨rfl, rfl, rfl, rfl⟩ := h; refine ⟨?_, ?_⟩) | ((with_reducible refine Ob.mk ?_); first | exact trivial | (intros; omega) | ((repeat' first | apply And.intro | (intro a; have b := a; try simp only [zH] at b)) <;> first | assumption | omega | (simp only [zH]; omega)))
  · have hil : i < w.length := by omega
    repeat' first
      | with_reducible first | apply Zar | apply Zan | apply Zaa | apply Zac | apply Zah | apply Zap | apply Zag | apply Zaj | apply Zaq | apply Zas | apply Zao | apply Zal | apply Zab | apply Zak
      | ((with_reducible refine Zai ?_ ?_); exact rfl) | ((with_reducible refine Zat ?_); refine Zam rfl ?_ ?_ <;> intro hb <;> (try simp only [zH] at hb)) | ((with_reducible refine Zau 9 ?_ ?_); (· exact rfl); (with_reducible refine Zau 10 ?_ ?_); (· exact rfl); (first | refine Zaf htb hmz Zb5 fF rfl rfl ?_ | refine Zae hmo htb hmz Zb5 fF rfl rfl (by kernel_rfl) ?_); intro _ _ _ _ h; simp only [zE, evp, evx, ev1, evLoad, evStore, evBin, evIf, Zad, forall_const, z38, tb, reduceAdd, reduceSub, reduceMul, reduceEqDiff, reduceLeDiff, reduceLT, Nat.reduceBEq, Nat.reduceBNe, ↓reduceIte, reduceIte, spRa, Zay, Zb7] at h; obtain ⟨rfl, rfl, rfl, rfl⟩ := h; refine ⟨?_, ?_⟩) | ((with_reducible refine Ob.mk ?_); first | exact trivial | (intros; omega) | ((repeat' first | apply And.intro | (intro a; have b := a; try simp only [zH] at b)) <;> first | assumption | omega | (simp only [zH]; omega)))
    · have e2 : decide (w = w2) = false := decide_eq_false fun h => by rw [h] at hb; exact hb rfl
      rw [e2]
      repeat' first
        | with_reducible first | apply Zar | apply Zan | apply Zaa | apply Zac | apply Zah | apply Zap | apply Zag | apply Zaj | apply Zaq | apply Zas | apply Zao | apply Zal | apply Zab | apply Zak
        | ((with_reducible refine Zai ?_ ?_); exact rfl) | ((with_reducible refine Zat ?_); refine Zam rfl ?_ ?_ <;> intro hb <;> (try simp only [zH] at hb)) | ((with_reducible refine Zaz ?_); (first | refine Zaf htb hmz Zb5 fF rfl rfl ?_ | refine Zae hmo htb hmz Zb5 fF rfl rfl (by kernel_rfl) ?_); intro _ _ _ _ h; simp only [zE, evp, evx, ev1, evLoad, evStore, evBin, evIf, Zad, forall_const, z38, tb, reduceAdd, reduceSub, reduceMul, reduceEqDiff, reduceLeDiff, reduceLT, Nat.reduceBEq, Nat.reduceBNe, ↓reduceIte, reduceIte, spRa, Zay, Zb7] at h; obtain ⟨rfl, rfl, rfl, rfl⟩ := h; refine ⟨?_, ?_⟩) | ((with_reducible refine Ob.mk ?_); first | exact trivial | (intros; omega) | ((repeat' first | apply And.intro | (intro a; have b := a; try simp only [zH] at b)) <;> first | assumption | omega | (simp only [zH]; omega)))
      refine Zax rfl rfl (Zaw rfl ?_ rfl)
      rfl
    · repeat' first
        | with_reducible first | apply Zar | apply Zan | apply Zaa | apply Zac | apply Zah | apply Zap | apply Zag | apply Zaj | apply Zaq | apply Zas | apply Zao | apply Zal | apply Zab | apply Zak
        | ((with_reducible refine Zai ?_ ?_); exact rfl) | ((with_reducible refine Zat ?_); refine Zam rfl ?_ ?_ <;> intro hb <;> (try simp only [zH] at hb)) | ((with_reducible refine Zaz ?_); (first | refine Zaf htb hmz Zb5 fF rfl rfl ?_ | refine Zae hmo htb hmz Zb5 fF rfl rfl (by kernel_rfl) ?_); intro _ _ _ _ h; simp only [zE, evp, evx, ev1, evLoad, evStore, evBin, evIf, Zad, forall_const, z38, tb, reduceAdd, reduceSub, reduceMul, reduceEqDiff, reduceLeDiff, reduceLT, Nat.reduceBEq, Nat.reduceBNe, ↓reduceIte, reduceIte, spRa, Zay, Zb7] at h; obtain ⟨rfl, rfl, rfl, rfl⟩ := h; refine ⟨?_, ?_⟩) | ((with_reducible refine Ob.mk ?_); first | exact trivial | (intros; omega) | ((repeat' first | apply And.intro | (intro a; have b := a; try simp only [zH] at b)) <;> first | assumption | omega | (simp only [zH]; omega)))
      refine back (i + 1) [] ?_ ⟨by omega, fun j hj => ?_⟩ (by omega)
      · (refine ⟨rfl, ?_, ?_⟩ <;> simp only [zE, evp, evx, ev1, evLoad, evStore, evBin, evIf, Zad, forall_const, z38, tb, reduceAdd, reduceSub, reduceMul, reduceEqDiff, reduceLeDiff, reduceLT, Nat.reduceBEq, Nat.reduceBNe, ↓reduceIte, reduceIte, spRa, Zay, Zb7, zI])
      · rcases Nat.lt_succ_iff_lt_or_eq.1 hj with h | rfl
        · exact hk j h
        · exact hb
  have hie : i = w.length := by omega
  subst hie
  have e2 : decide (w = w2) = true := decide_eq_true (ext0 (by omega) hk)
  rw [e2]
  repeat' first
    | with_reducible first | apply Zar | apply Zan | apply Zaa | apply Zac | apply Zah | apply Zap | apply Zag | apply Zaj | apply Zaq | apply Zas | apply Zao | apply Zal | apply Zab | apply Zak
    | ((with_reducible refine Zai ?_ ?_); exact rfl) | ((with_reducible refine Zat ?_); refine Zam rfl ?_ ?_ <;> intro hb <;> (try simp only [zH] at hb)) | ((with_reducible refine Zaz ?_); (first | refine Zaf htb hmz Zb5 fF rfl rfl ?_ | refine Zae hmo htb hmz Zb5 fF rfl rfl (by kernel_rfl) ?_); intro _ _ _ _ h; simp only [zE, evp, evx, ev1, evLoad, evStore, evBin, evIf, Zad, forall_const, z38, tb, reduceAdd, reduceSub, reduceMul, reduceEqDiff, reduceLeDiff, reduceLT, Nat.reduceBEq, Nat.reduceBNe, ↓reduceIte, reduceIte, spRa, Zay, Zb7] at h; obtain ⟨rfl, rfl, rfl, rfl⟩ := h; refine ⟨?_, ?_⟩) | ((with_reducible refine Ob.mk ?_); first | exact trivial | (intros; omega) | ((repeat' first | apply And.intro | (intro a; have b := a; try simp only [zH] at b)) <;> first | assumption | omega | (simp only [zH]; omega)))
  refine Zax rfl rfl (Zaw rfl ?_ rfl)
  rfl
open Go Pl
theorem fw_len {g : Gm} {s l : List Int} (h : fwB g s l = true) : s.length ≤ 400 ∧ l.length ≤ 400 := by
  unfold fwB at h
  simp only [Bool.and_eq_true, decide_eq_true_eq] at h
  omega
open Go
section
variable {P : Program} {ro : Option Nat} {N κ : Nat} {tb : Nat → Option TI} {sp : Nat → Option Spec}
theorem awpD_yes (k : Nat) {all : List Oper} {o oi : Oper} {m gi d : Nat} {b : Bool} {env : List (Nat × AV)} {rs : List (Nat × Option Blk)} {ms : List Nat} {Q : Exit → St → Prop} (ho : all[k]? = some o) (hgd : o.guard = some (gi, b)) (hgi : all[gi]? = some oi) (hdd : oi.dst = some d) (hv : lke env d = .bool b) (hA : Zid all = true) (hd : Ziv all k 1 [] = true)
    (h : awpL P ro N κ [noGd o] (CS.st ⟨m, env, rs, ms⟩) (Zew (fun s => awpD P ro N κ all.toArray (k + 1) s Q) Q)) : awpD P ro N κ all.toArray k (CS.st ⟨m, env, rs, ms⟩) Q := by
  intro n K Z ν w a hg fuel listed hsz hlo hhi hfuel
  have hA := Zhy (ops := all.toArray) (by simpa using hA)
  have ho' : all.toArray[k]? = some o := by rw [List.getElem?_toArray]; exact ho
  have hks : k < all.toArray.size := (Array.getElem?_eq_some_iff.1 ho').1
  have hcl := closed_of hA hlo hhi
  simp only [Ziv, Bool.and_eq_true, List.all_eq_true, List.mem_range, Bool.or_eq_true, List.any_eq_true] at hd
  cases fuel with
  | zero => omega
  | succ fuel =>
    have hh := h n K Z ν w a hg
    have hw0 : Region.wanted (noGd o) (yielded #[] a.tmps) = true := Zcu rfl _
    simp only [wpListIn, hw0, if_true] at hh
    refine ⟨fun hnil => ?_, fun i hi => ?_⟩
    · exfalso
      have : k ∈ Region.ready .any all.toArray listed := Zen ho' (hhi k (Nat.le_refl _) hks) fun p hp => by
        have hpi := (hA.up k hks o ho').2 p hp
        exact ⟨by omega, hlo p hpi⟩
      rw [hnil] at this
      cases this
    · obtain ⟨h1, h2, h3⟩ := Zce hi
      have hik : k ≤ i := by
        rcases Nat.lt_or_ge i k with h | h
        · rw [hlo i h] at h2; cases h2
        · exact h
      have hie : i = k := by
        rcases Nat.lt_or_ge k i with h | h
        · exfalso
          obtain ⟨q, hq, he⟩ := hd.2 (i - (k + 1)) (by rw [List.size_toArray] at h1; omega) 0 (by omega)
          rw [show k + 1 + (i - (k + 1)) = i from by omega] at hq
          have hq2 : k ∈ (ancs all.toArray.toList []).getD i [] := by
            have he := Nat.eq_of_beq_eq_true he
            rw [Nat.add_zero] at he
            rw [← he]; simpa using hq
          have := Zcj hA hcl i h1 _ (Array.getElem?_eq_getElem h1) (h3 _ (Array.getElem?_eq_getElem h1)) k hq2
          rw [hhi k (Nat.le_refl _) hks] at this; cases this
        · omega
      subst hie
      unfold wpOpIn
      have hw1 : Region.wanted o (yielded all.toArray a.tmps) = true := by rw [wanted_of hg hgd (by rw [List.getElem?_toArray]; exact hgi) hdd hv]; cases b <;> rfl
      simp only [ho', hw1, if_true]
      have h2 : o.wpIn (FF ro) n P a w (fun a' w' => Post N κ K Z w ν (Zew (fun s => awpD P ro N κ all.toArray (i + 1) s Q) Q) .normal a' w') (Post N κ K Z w ν (Zew (fun s => awpD P ro N κ all.toArray (i + 1) s Q) Q)) := hh
      refine Ze9 (fun a' w' hp => ?_) (fun e a' w' he hp => ?_) h2
      · obtain ⟨Z', ν', σ', g1, g2, g3, g4⟩ := hp
        have hls : i < listed.size := by omega
        refine run_any.wpAnyIn_mono' (g4 n _ _ ν' w' a' g3 fuel (listed.setIfInBounds i true) (by simpa using hsz) (fun j hj => (Zc9 hls).2 ?_) (fun j hj1 hj2 => (Ze6 hls).2 ⟨by omega, hhi j (by omega) hj2⟩) (by omega)) fun e a2 w2 hp => hp.trans g1 g2
        rcases Nat.lt_succ_iff_lt_or_eq.1 hj with h | h
        · exact .inr (hlo j h)
        · exact .inl h
      · obtain ⟨Z', ν', σ', g1, g2, g3, g4⟩ := hp
        refine ⟨Z', ν', σ', g1, g2, g3, ?_⟩
        cases e <;> first | exact absurd rfl he | exact g4
end
open Go Pl
noncomputable def spVp : Nat → Option Spec
  | 7 => some Zdw
  | 18 => some gvnS
  | 14 => some gvnS
  | 13 => some smpS
  | 21 => some winS
  | 22 => some winS
  | 17 => some ctrS
  | 23 => some ctrS
  | 20 => some metS
  | 24 => some metS
  | 19 => some agrS
  | 25 => some agrS
  | _ => none
theorem Zcv : SpOK Tryd.prog spVp := by
  intro f S h
  unfold spVp at h
  split at h
  · cases h; exact fw16_ok
  · cases h; exact gvn_ok
  · cases h; exact gtp_ok
  · cases h; exact smp_ok
  · cases h; exact vwin_ok
  · cases h; exact rwin_ok
  · cases h; exact vctr_ok
  · cases h; exact rctr_ok
  · cases h; exact met_ok
  · cases h; exact rmet_ok
  · cases h; exact agr_ok
  · cases h; exact ragr_ok
  · cases h
set_option maxRecDepth 4000 in
set_option maxHeartbeats 8000000 in
theorem vpl_fg {o p s l w c w2 c2 xs ys : List Int} {v : Int} {x : List (List Int)} : FG Tryd.prog 6 [.agg (.cons (.roI o) (.cons (.roI p) (.cons (.roII x) .nil))), .agg (.cons (.roI s) (.cons (.roI l) .nil)), .agg (.cons (.roI w) (.cons (.roI c) .nil)), .agg (.cons (.roI w2) (.cons (.roI c2) .nil)), .roI xs, .roI ys, .int .i64 v] [(0, some glB)] 1 fun g => g = ⟨1, .bool true, [(0, some glB)]⟩ := by
  refine Zhv htb (fn := Tryd.f6) (by kernel_rfl) (by kernel_rfl) rfl (Nat.le_of_ble_eq_true rfl) fun hl => ?_
  simp only [lenP, mkL, lim] at hl
  repeat' first
    | with_reducible first | apply Zar | apply Zan | apply Zaa | apply Zac | apply Zah | apply Zap | apply Zag | apply Zaj | apply Zaq | apply Zas | apply Zao | apply Zal | apply Zab | apply Zak
    | ((with_reducible refine Zai ?_ ?_); exact rfl) | ((with_reducible refine Zat ?_); refine Zam rfl ?_ ?_ <;> intro hb <;> (try simp only [zH] at hb)) | ((with_reducible refine Zau 1 ?_ ?_); (· exact rfl); (first | refine Zaf htb hmz Zcv fF rfl rfl ?_ | refine Zae hmo htb hmz Zcv fF rfl rfl (by kernel_rfl) ?_); intro _ _ _ _ h; simp only [zE, evp, evx, ev1, evLoad, evStore, evBin, evIf, Zad, forall_const, z38, tb, reduceAdd, reduceSub, reduceMul, reduceEqDiff, reduceLeDiff, reduceLT, Nat.reduceBEq, Nat.reduceBNe, ↓reduceIte, reduceIte, beq_self_eq_true, Bool.true_and, Bool.and_true, decide_true, spVp, Zdw, gvnS, smpS, winS, ctrS, metS, MetR.av, agrS, Za1, Za3, Za2, true_and, and_true] at h; obtain ⟨rfl, rfl, rfl, rfl⟩ := h; refine ⟨?_, ?_⟩) | ((with_reducible refine Ob.mk ?_); first | exact trivial | (intros; omega) | ((repeat' first | apply And.intro | (intro a; have b := a; try simp only [zH] at b)) <;> first | assumption | omega | (simp only [zH]; omega)))
  refine awp_listG ?_
  refine awpG_textM htb hmz Zcv (fun _ => false) 0 [] (os := [_, _, _, _, _]) (post := [_, _, _, _, _, _, _, _, _, _, _, _]) rfl rfl rfl rfl rfl ?_; intro _ _ _ _ h; simp only [zE, evp, evx, ev1, evLoad, evStore, evBin, evIf, Zad, forall_const, z38, tb, reduceAdd, reduceSub, reduceMul, reduceEqDiff, reduceLeDiff, reduceLT, Nat.reduceBEq, Nat.reduceBNe, ↓reduceIte, reduceIte, beq_self_eq_true, Bool.true_and, Bool.and_true, decide_true, spVp, Zdw, gvnS, smpS, winS, ctrS, metS, MetR.av, agrS, Za1, Za3, Za2, true_and, and_true] at h; obtain ⟨rfl, rfl, rfl, rfl⟩ := h; refine ⟨?_, ?_⟩
  · first | ((with_reducible refine Ob.mk ?_); first | exact trivial | (intros; omega) | ((repeat' first | apply And.intro | (intro a; have b := a; try simp only [zH] at b)) <;> first | assumption | omega | (simp only [zH]; omega))) | skip
  refine awpG_slot 35 (.ro 2 2 fun j => rgA (if j = 0 then (w, c) else (w2, c2))) (imp_ro fun j hj => by
    have : j = 0 ∨ j = 1 := by omega
    rcases this with rfl | rfl <;> rfl) rfl ?_
  refine awpG_textM htb hmz Zcv (fun _ => false) 5 [_, _, _, _, _] (os := [_, _, _, _, _, _, _, _, _, _, _, _]) (post := []) rfl rfl rfl rfl rfl ?_; intro _ _ _ _ h; simp only [zE, evp, evx, ev1, evLoad, evStore, evBin, evIf, Zad, forall_const, z38, tb, reduceAdd, reduceSub, reduceMul, reduceEqDiff, reduceLeDiff, reduceLT, Nat.reduceBEq, Nat.reduceBNe, ↓reduceIte, reduceIte, beq_self_eq_true, Bool.true_and, Bool.and_true, decide_true, spVp, Zdw, gvnS, smpS, winS, ctrS, metS, MetR.av, agrS, Za1, Za3, Za2, true_and, and_true] at h; obtain ⟨rfl, rfl, rfl, rfl⟩ := h; refine ⟨?_, ?_⟩
  · exact Ob.mk rfl
  refine awpG_nil ?_
  refine Zaa ?_
  repeat' first
    | with_reducible first | apply Zar | apply Zan | apply Zaa | apply Zac | apply Zah | apply Zap | apply Zag | apply Zaj | apply Zaq | apply Zas | apply Zao | apply Zal | apply Zab | apply Zak
    | ((with_reducible refine Zai ?_ ?_); exact rfl) | ((with_reducible refine Zat ?_); refine Zam rfl ?_ ?_ <;> intro hb <;> (try simp only [zH] at hb)) | ((with_reducible refine Zau 2 ?_ ?_); (· exact rfl); (with_reducible refine Zau 3 ?_ ?_); (· exact rfl); (first | refine Zaf htb hmz Zcv fF rfl rfl ?_ | refine Zae hmo htb hmz Zcv fF rfl rfl (by kernel_rfl) ?_); intro _ _ _ _ h; simp only [zE, evp, evx, ev1, evLoad, evStore, evBin, evIf, Zad, forall_const, z38, tb, reduceAdd, reduceSub, reduceMul, reduceEqDiff, reduceLeDiff, reduceLT, Nat.reduceBEq, Nat.reduceBNe, ↓reduceIte, reduceIte, beq_self_eq_true, Bool.true_and, Bool.and_true, decide_true, spVp, Zdw, gvnS, smpS, winS, ctrS, metS, MetR.av, agrS, Za1, Za3, Za2, true_and, and_true] at h; obtain ⟨rfl, rfl, rfl, rfl⟩ := h; refine ⟨?_, ?_⟩) | ((with_reducible refine Ob.mk ?_); first | exact trivial | (intros; omega) | ((repeat' first | apply And.intro | (intro a; have b := a; try simp only [zH] at b)) <;> first | assumption | omega | (simp only [zH]; omega)))
  · refine Zdn rfl ?_
    refine Zc6 (l1 := [_]) (l2 := [_]) ?_
    refine Zb8 ([0]) (awake16_fg) rfl rfl rfl rfl rfl rfl rfl rfl rfl (by simp only [rinR, rhoC, zE, evp, evx, ev1, evLoad, evStore, evBin, evIf, Zad, forall_const, z38, tb, reduceAdd, reduceSub, reduceMul, reduceEqDiff, reduceLeDiff, reduceLT, Nat.reduceBEq, Nat.reduceBNe, ↓reduceIte, reduceIte, beq_self_eq_true, Bool.true_and, Bool.and_true, decide_true, spVp, Zdw, gvnS, smpS, winS, ctrS, metS, MetR.av, agrS, Za1, Za3, Za2, true_and, and_true]) ?_; intro gm gv gr hq m' e' l' h; simp only [GR.mk.injEq] at hq; obtain ⟨rfl, rfl, rfl⟩ := hq; simp only [rhoC, outR, renR, dels, zE, evp, evx, ev1, evLoad, evStore, evBin, evIf, Zad, forall_const, z38, tb, reduceAdd, reduceSub, reduceMul, reduceEqDiff, reduceLeDiff, reduceLT, Nat.reduceBEq, Nat.reduceBNe, ↓reduceIte, reduceIte, beq_self_eq_true, Bool.true_and, Bool.and_true, decide_true, spVp, Zdw, gvnS, smpS, winS, ctrS, metS, MetR.av, agrS, Za1, Za3, Za2, true_and, and_true] at h; obtain ⟨rfl, rfl, rfl⟩ := h; refine Zaa ?_
    refine Zbd htb hmz Zcv fF rfl rfl rfl ?_; intro _ _ _ _ h; simp only [zE, evp, evx, ev1, evLoad, evStore, evBin, evIf, Zad, forall_const, z38, tb, reduceAdd, reduceSub, reduceMul, reduceEqDiff, reduceLeDiff, reduceLT, Nat.reduceBEq, Nat.reduceBNe, ↓reduceIte, reduceIte, beq_self_eq_true, Bool.true_and, Bool.and_true, decide_true, spVp, Zdw, gvnS, smpS, winS, ctrS, metS, MetR.av, agrS, Za1, Za3, Za2, true_and, and_true] at h; obtain ⟨rfl, rfl, rfl, rfl⟩ := h; refine ⟨?_, ?_⟩
    · first | ((with_reducible refine Ob.mk ?_); first | exact trivial | (intros; omega) | ((repeat' first | apply And.intro | (intro a; have b := a; try simp only [zH] at b)) <;> first | assumption | omega | (simp only [zH]; omega))) | skip
    refine Zaa ?_
    repeat' first
      | with_reducible first | apply Zar | apply Zan | apply Zaa | apply Zac | apply Zah | apply Zap | apply Zag | apply Zaj | apply Zaq | apply Zas | apply Zao | apply Zal | apply Zab | apply Zak
      | ((with_reducible refine Zai ?_ ?_); exact rfl) | ((with_reducible refine Zat ?_); refine Zam rfl ?_ ?_ <;> intro hb <;> (try simp only [zH] at hb)) | ((with_reducible refine Zaz ?_); (first | refine Zaf htb hmz Zcv fF rfl rfl ?_ | refine Zae hmo htb hmz Zcv fF rfl rfl (by kernel_rfl) ?_); intro _ _ _ _ h; simp only [zE, evp, evx, ev1, evLoad, evStore, evBin, evIf, Zad, forall_const, z38, tb, reduceAdd, reduceSub, reduceMul, reduceEqDiff, reduceLeDiff, reduceLT, Nat.reduceBEq, Nat.reduceBNe, ↓reduceIte, reduceIte, beq_self_eq_true, Bool.true_and, Bool.and_true, decide_true, spVp, Zdw, gvnS, smpS, winS, ctrS, metS, MetR.av, agrS, Za1, Za3, Za2, true_and, and_true] at h; obtain ⟨rfl, rfl, rfl, rfl⟩ := h; refine ⟨?_, ?_⟩) | ((with_reducible refine Ob.mk ?_); first | exact trivial | (intros; omega) | ((repeat' first | apply And.intro | (intro a; have b := a; try simp only [zH] at b)) <;> first | assumption | omega | (simp only [zH]; omega)))
    refine Zax rfl rfl (Zdv ⟨1, .bool true, [(0, some glB)]⟩ [] rfl rfl (Zca rfl) ?_)
    simp only [grR, zE, evp, evx, ev1, evLoad, evStore, evBin, evIf, Zad, forall_const, z38, tb, reduceAdd, reduceSub, reduceMul, reduceEqDiff, reduceLeDiff, reduceLT, Nat.reduceBEq, Nat.reduceBNe, ↓reduceIte, reduceIte, beq_self_eq_true, Bool.true_and, Bool.and_true, decide_true, spVp, Zdw, gvnS, smpS, winS, ctrS, metS, MetR.av, agrS, Za1, Za3, Za2, true_and, and_true]
  have hfl := fw_len hb.1.1.2
  clear hb
  repeat' first
    | with_reducible first | apply Zar | apply Zan | apply Zaa | apply Zac | apply Zah | apply Zap | apply Zag | apply Zaj | apply Zaq | apply Zas | apply Zao | apply Zal | apply Zab | apply Zak
    | ((with_reducible refine Zai ?_ ?_); exact rfl) | ((with_reducible refine Zat ?_); refine Zam rfl ?_ ?_ <;> intro hb <;> (try simp only [zH] at hb)) | ((with_reducible refine Zau 11 ?_ ?_); (· exact rfl); (first | refine Zaf htb hmz Zcv fF rfl rfl ?_ | refine Zae hmo htb hmz Zcv fF rfl rfl (by kernel_rfl) ?_); intro _ _ _ _ h; simp only [zE, evp, evx, ev1, evLoad, evStore, evBin, evIf, Zad, forall_const, z38, tb, reduceAdd, reduceSub, reduceMul, reduceEqDiff, reduceLeDiff, reduceLT, Nat.reduceBEq, Nat.reduceBNe, ↓reduceIte, reduceIte, beq_self_eq_true, Bool.true_and, Bool.and_true, decide_true, spVp, Zdw, gvnS, smpS, winS, ctrS, metS, MetR.av, agrS, Za1, Za3, Za2, true_and, and_true] at h; obtain ⟨rfl, rfl, rfl, rfl⟩ := h; refine ⟨?_, ?_⟩) | ((with_reducible refine Ob.mk ?_); first | exact trivial | (intros; omega) | ((repeat' first | apply And.intro | (intro a; have b := a; try simp only [zH] at b)) <;> first | assumption | omega | (simp only [zH]; omega)))
  refine awp_drawD hmo ?_
  refine awpD_text (m := 99) htb hmz Zcv (fun _ => false) 0 [] (os := [_, _, _, _, _, _, _, _, _, _, _, _, _, _, _, _, _, _, _, _, _, _, _, _, _, _, _, _, _, _, _, _, _, _, _, _, _, _, _, _]) rfl rfl rfl rfl (by kernel_rfl) (by kernel_rfl) ?_; intro _ _ _ _ h; simp only [zE, evp, evx, ev1, evLoad, evStore, evBin, evIf, Zad, forall_const, z38, tb, reduceAdd, reduceSub, reduceMul, reduceEqDiff, reduceLeDiff, reduceLT, Nat.reduceBEq, Nat.reduceBNe, ↓reduceIte, reduceIte, beq_self_eq_true, Bool.true_and, Bool.and_true, decide_true, spVp, Zdw, gvnS, smpS, winS, ctrS, metS, MetR.av, agrS, Za1, Za3, Za2, true_and, and_true] at h; obtain ⟨rfl, rfl, rfl, rfl⟩ := h; refine ⟨?_, ?_⟩
  · first | ((with_reducible refine Ob.mk ?_); first | exact trivial | (intros; omega) | ((repeat' first | apply And.intro | (intro a; have b := a; try simp only [zH] at b)) <;> first | assumption | omega | (simp only [zH]; omega))) | skip
  refine awpD_yes 40 rfl rfl rfl rfl rfl (by kernel_rfl) (by kernel_rfl) ?_
  dsimp only [noGd]
  refine Zb8 ([0]) (awake16_fg) rfl rfl rfl rfl rfl rfl rfl rfl rfl (by simp only [rinR, rhoC, zE, evp, evx, ev1, evLoad, evStore, evBin, evIf, Zad, forall_const, z38, tb, reduceAdd, reduceSub, reduceMul, reduceEqDiff, reduceLeDiff, reduceLT, Nat.reduceBEq, Nat.reduceBNe, ↓reduceIte, reduceIte, beq_self_eq_true, Bool.true_and, Bool.and_true, decide_true, spVp, Zdw, gvnS, smpS, winS, ctrS, metS, MetR.av, agrS, Za1, Za3, Za2, true_and, and_true]) ?_; intro gm gv gr hq m' e' l' h; simp only [GR.mk.injEq] at hq; obtain ⟨rfl, rfl, rfl⟩ := hq; simp only [rhoC, outR, renR, dels, zE, evp, evx, ev1, evLoad, evStore, evBin, evIf, Zad, forall_const, z38, tb, reduceAdd, reduceSub, reduceMul, reduceEqDiff, reduceLeDiff, reduceLT, Nat.reduceBEq, Nat.reduceBNe, ↓reduceIte, reduceIte, beq_self_eq_true, Bool.true_and, Bool.and_true, decide_true, spVp, Zdw, gvnS, smpS, winS, ctrS, metS, MetR.av, agrS, Za1, Za3, Za2, true_and, and_true] at h; obtain ⟨rfl, rfl, rfl⟩ := h; refine Zaa ?_
  refine awpD_text (m := 98) htb hmz Zcv (fun _ => false) 41 [_, _, _, _, _, _, _, _, _, _, _, _, _, _, _, _, _, _, _, _, _, _, _, _, _, _, _, _, _, _, _, _, _, _, _, _, _, _, _, _, _] (os := [_, _]) rfl rfl rfl rfl (by kernel_rfl) (by kernel_rfl) ?_; intro _ _ _ _ h; simp only [zE, evp, evx, ev1, evLoad, evStore, evBin, evIf, Zad, forall_const, z38, tb, reduceAdd, reduceSub, reduceMul, reduceEqDiff, reduceLeDiff, reduceLT, Nat.reduceBEq, Nat.reduceBNe, ↓reduceIte, reduceIte, beq_self_eq_true, Bool.true_and, Bool.and_true, decide_true, spVp, Zdw, gvnS, smpS, winS, ctrS, metS, MetR.av, agrS, Za1, Za3, Za2, true_and, and_true] at h; obtain ⟨rfl, rfl, rfl, rfl⟩ := h; refine ⟨?_, ?_⟩
  · first | ((with_reducible refine Ob.mk ?_); first | exact trivial | (intros; omega) | ((repeat' first | apply And.intro | (intro a; have b := a; try simp only [zH] at b)) <;> first | assumption | omega | (simp only [zH]; omega))) | skip
  refine awpD_end rfl ?_
  refine Zaa ?_
  repeat' first
    | with_reducible first | apply Zar | apply Zan | apply Zaa | apply Zac | apply Zah | apply Zap | apply Zag | apply Zaj | apply Zaq | apply Zas | apply Zao | apply Zal | apply Zab | apply Zak
    | ((with_reducible refine Zai ?_ ?_); exact rfl) | ((with_reducible refine Zat ?_); refine Zam rfl ?_ ?_ <;> intro hb <;> (try simp only [zH] at hb)) | ((with_reducible refine Zaz ?_); (first | refine Zaf htb hmz Zcv fF rfl rfl ?_ | refine Zae hmo htb hmz Zcv fF rfl rfl (by kernel_rfl) ?_); intro _ _ _ _ h; simp only [zE, evp, evx, ev1, evLoad, evStore, evBin, evIf, Zad, forall_const, z38, tb, reduceAdd, reduceSub, reduceMul, reduceEqDiff, reduceLeDiff, reduceLT, Nat.reduceBEq, Nat.reduceBNe, ↓reduceIte, reduceIte, beq_self_eq_true, Bool.true_and, Bool.and_true, decide_true, spVp, Zdw, gvnS, smpS, winS, ctrS, metS, MetR.av, agrS, Za1, Za3, Za2, true_and, and_true] at h; obtain ⟨rfl, rfl, rfl, rfl⟩ := h; refine ⟨?_, ?_⟩) | ((with_reducible refine Ob.mk ?_); first | exact trivial | (intros; omega) | ((repeat' first | apply And.intro | (intro a; have b := a; try simp only [zH] at b)) <;> first | assumption | omega | (simp only [zH]; omega)))
  refine Zax rfl rfl (Zdv ⟨1, .bool true, [(0, some glB)]⟩ [] rfl rfl (Zca rfl) ?_)
  simp only [grR, zE, evp, evx, ev1, evLoad, evStore, evBin, evIf, Zad, forall_const, z38, tb, reduceAdd, reduceSub, reduceMul, reduceEqDiff, reduceLeDiff, reduceLT, Nat.reduceBEq, Nat.reduceBNe, ↓reduceIte, reduceIte, beq_self_eq_true, Bool.true_and, Bool.and_true, decide_true, spVp, Zdw, gvnS, smpS, winS, ctrS, metS, MetR.av, agrS, Za1, Za3, Za2, true_and, and_true]
open Go Go.ChangeShapes Go.WideShapes Go.ChangeAt Go.RowKit Go.Deep
def ldL : List (String × DataW Unit) := [("errors.errorType", Rows.laid_errors_errorType)]
theorem etN : Tryd.prog.globalNamed "errors.errorType" = some 0 := by kernel_rfl
theorem rtN : (Tryd.prog.cutTypes.find? (·.1 == "internal/reflectlite.rtype")).map (·.2) = some 105 := by kernel_rfl
theorem tySize : Tryd.prog.types.size = 153 := by kernel_rfl
theorem oneRow : ((List.range 153).filter fun t => Tryd.prog.rowNamed t [101, 114, 114, 111, 114]) = [68] := by kernel_rfl
theorem handle_of_laid {W : World} (h : laidMetH Tryd.prog ldL W) : W.cell? ⟨0, 0, none⟩ = some (.iface 105 (.agg #[.pointer (some ⟨1, 68, none⟩)])) := by
  have h' : laidMet Tryd.prog [] W ∧ handlesMet Tryd.prog ldL W := h
  obtain ⟨name, u, ty, e1, e2, e3, e4, e5⟩ := h'.2 _ (List.mem_singleton.2 rfl)
  have en : name = [101, 114, 114, 111, 114] := (Option.some.inj e1).symm
  subst en
  obtain rfl := Option.some.inj (rtN.symm.trans e2)
  have hm : ty ∈ (List.range 153).filter fun t => Tryd.prog.rowNamed t [101, 114, 114, 111, 114] := List.mem_filter.2 ⟨List.mem_range.2 (by rw [← tySize]; exact e3), e4⟩
  rw [oneRow] at hm
  obtain rfl := List.mem_singleton.1 hm
  have hh : typeHandle Tryd.prog 68 = .pointer (some ⟨1, 68, none⟩) := by kernel_rfl
  rw [hh] at e5
  simpa using World.var?_cell etN e5 0
noncomputable def laidWorld (os : Os) : World :=
  let w0 := World.holding Tryd.prog os ⟨#[], #[], []⟩
  { w0 with heap := w0.heap.modify 0 fun
      | .cells _ t frozen => .cells #[.iface 105 (.agg #[.pointer (some ⟨1, 68, none⟩)])] t frozen
      | o => o }
theorem laidWorld_met (os : Os) (args : Array Value) : laidMetH Tryd.prog ldL ((laidWorld os).forCall (fun _ _ => 0) ⟨#[], args, []⟩).memory :=
  laidMetH_of_parts (laidMet_nil _ _) (by kernel_rfl)
def twA (q : List Int × List Int) : AV := .agg (.cons (.roI q.1) (.cons (.roI q.2) .nil))
theorem Ziw {H : Type} {enc : TypeId × Value → H} {P : Program} {w : World} {base : Nat} {spare : Nat → Bool} {held : Bool} {r : Reach} {b0 t : Nat} {f0 f1 : Field} {v : Value} {d : DataW H} {p : List MemPlace} (hs : P.underlying t = some (.struct #[f0, f1])) (hone : oneCellFields P #[f0, f1] = true) (hC : P.cellsOf t = 2) (hv : Value.okWide P w r b0 t v) (h : DataW.Trod enc P w base spare held t v d p) (hl : Zh9 P t d)
    {e1 : Nat} (h0 : P.underlying f0.type = some (.slice e1)) (h1 : P.underlying f1.type = some (.slice e1)) (he1 : P.underlying e1 = some (.int .i64)) (hc1 : P.cellsOf e1 = 1) (hB1 : 1 ≤ P.bytesOf e1) : ∃ m : List Int × List Int, R (old w) w (twA m) nu0 true [v] := by
  obtain ⟨v0, v1, y0, y1, n, rfl, rfl, rfl, t0, t1⟩ := Go.Joins.open_agg2 hs hone hC hv h
  have hw : ∀ k, k ∈ y0.1.weights P f0.type ∨ k ∈ y1.1.weights P f1.type → k ≤ 140737488351232 := fun k hk => hl k (by
    simp only [DataW.weights, hs, DataW.weightsEach, List.mem_append, List.map_cons, List.map_nil, List.not_mem_nil, or_false]
    exact hk)
  obtain ⟨o, ho⟩ := Zey h0 he1 hc1 hB1 t0 (fun k hk => hw k (.inl hk)) nu0 true
  obtain ⟨q, hq⟩ := Zey h1 he1 hc1 hB1 t1 (fun k hk => hw k (.inr hk)) nu0 true
  exact ⟨(o, q), [v0, v1], rfl, v0, [v1], rfl, ho, v1, [], rfl, hq, rfl⟩
theorem law_callsG {f : Nat} {args : List AV} {W : World} {vals : Array Value} (hS : FG Tryd.prog f args [(0, some glB)] 1 fun g => g = ⟨1, .bool true, [(0, some glB)]⟩) (hm : men noK (mkL args) = true) (hgl : W.cell? ⟨0, 0, none⟩ = some (.iface 105 (.agg #[.pointer (some ⟨1, 68, none⟩)]))) (hr : R (old W) W (mkL args) nu0 true vals.toList) :
    Calls Tryd.prog f vals W fun e W' => e = .returned (.bool true) ∧ Below W.heap.size W W' := by
  have h0 : 0 < W.heap.size := by
    unfold World.cell? at hgl
    rcases Nat.lt_or_ge 0 W.heap.size with h | h
    · exact h
    · rw [Array.getElem?_eq_none h] at hgl; cases hgl
  have := hS.2 (old W) (old W) nu0 W vals (fun _ => rfl) hr (Zbz hm) ⟨fun _ _ => False, fun k b h => ?_⟩ (fun _ h => h) (fun _ h => h)
  · refine CallsIn.calls (F := FF none) (n := 0) (CallsIn.mono (Zd4 this) ?_) (fun k d hd => by cases hd)
    rintro e W' ⟨y, Z', ν', v, μ', rs', rfl, hst, _, _, _, hr', _, _, _, g, rfl, rfl, _⟩
    have : y = .bool true := one1 hr'
    subst this
    exact ⟨rfl, hst.ext.os, hst.ext.tape, hst.ext.output, hst.ext.size, fun k hk => hst.ext.block k hk⟩
  · rw [Zbb] at h
    by_cases e : k = 0
    · subst e
      rw [if_pos rfl] at h
      cases h
      refine ⟨rfl, (fun k hk => by cases hk), fun Z' w' hZ hw => ⟨fun y hy => hy, hZ 0 h0, ?_⟩, fun x hx => hx.elim, fun k' b' hne hk' x hx => hx.elim⟩
      exact (World.cell?_of_block (w := W) (hw 0 (.inl h0))).trans hgl
    · rw [if_neg e] at h; cases h
end Go.Proofs.YtdhoadhkkecjjaaDoor.Cal
