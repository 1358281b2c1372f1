/- Own texts, merged. -/
import Derived.Test.YtdhoadhkkecjjaaDoorS8
set_option linter.unusedVariables false
set_option linter.unusedSimpArgs false
open Nat (reduceAdd reduceSub reduceMul reduceEqDiff reduceLeDiff reduceLT)
namespace Go.Proofs.YtdhoadhkkecjjaaDoor.Cal
open Go Pl
noncomputable def solS : Spec
  | [.agg (.cons (.roI o) (.cons (.roI p) (.cons (.roII x) .nil))), .agg (.cons (.roI w) (.cons (.roI c) .nil))] => some ⟨Zbh ⟨o, p, x⟩ = true, .bool (solB ⟨o, p, x⟩ w c), none⟩
  | _ => none
noncomputable def spSo : Nat → Option Spec
  | 11 => some Za7
  | 32 => some folS
  | 33 => some Zcb
  | _ => none
theorem Zb1 : SpOK Tryd.prog spSo := by
  intro f S h
  unfold spSo at h
  split at h
  · cases h; exact claim_ok
  · cases h; exact follow_ok
  · cases h; exact aloneo_ok
  · cases h
set_option maxRecDepth 4000 in
set_option maxHeartbeats 4000000 in
theorem solution_ok : Zcm Tryd.prog 12 solS := by
  refine Zbe htb (fn := Tryd.f12) (by kernel_rfl) (by kernel_rfl) rfl (fun args r hS => ?_) (fun args r hS hob hl => ?_)
  · unfold solS at hS; split at hS <;> first | (cases hS; done) | (cases hS; exact Nat.le_of_ble_eq_true rfl)
  unfold solS at hS
  split at hS
  case h_2 => cases hS
  rename_i o p x w c
  simp only [Option.some.injEq] at hS
  subst hS
  simp only [lenP, mkL, lim] at hl
  dsimp only at hob
  have hv := hob
  have hV := validB_iff.1 hv
  repeat' first
    | with_reducible first | apply Zar | apply Zan | apply Zaa | apply Zad | apply Zah | apply Zao | apply Zag | apply Zaj | apply Zaq | apply Zas | apply Zap | apply Zal | apply Zac | apply Zak
    | ((with_reducible refine Zai ?_ ?_); exact rfl) | ((with_reducible refine Zat ?_); refine Zam rfl ?_ ?_ <;> intro hb <;> (try simp only [zH] at hb)) | ((with_reducible refine Zau 2 ?_ ?_); (· exact rfl); (with_reducible refine Zau 3 ?_ ?_); (· exact rfl); (first | refine Zaf htb hmz Zb1 fF rfl rfl ?_ | refine Zae hmo htb hmz Zb1 fF rfl rfl (by kernel_rfl) ?_); intro _ _ _ _ h; simp only [zE, evp, evx, ev1, evLoad, evStore, evBin, evIf, Zab, forall_const, z38, tb, reduceAdd, reduceSub, reduceMul, reduceEqDiff, reduceLeDiff, reduceLT, Nat.reduceBEq, Nat.reduceBNe, ↓reduceIte, reduceIte, spSo, Za7, folS, Zcb, gmA] at h; obtain ⟨rfl, rfl, rfl, rfl⟩ := h; refine ⟨?_, ?_⟩) | ((with_reducible refine Ob.mk ?_); first | exact trivial | (intros; omega) | ((repeat' first | apply And.intro | (intro a; have b := a; try simp only [zH] at b)) <;> first | assumption | omega | (simp only [zH]; omega)))
  · have e : solB ⟨o, p, x⟩ w c = false := by unfold solB; rw [hb]; rfl
    repeat' first
      | with_reducible first | apply Zar | apply Zan | apply Zaa | apply Zad | apply Zah | apply Zao | apply Zag | apply Zaj | apply Zaq | apply Zas | apply Zap | apply Zal | apply Zac | apply Zak
      | ((with_reducible refine Zai ?_ ?_); exact rfl) | ((with_reducible refine Zat ?_); refine Zam rfl ?_ ?_ <;> intro hb <;> (try simp only [zH] at hb)) | ((with_reducible refine Za3 ?_); (first | refine Zaf htb hmz Zb1 fF rfl rfl ?_ | refine Zae hmo htb hmz Zb1 fF rfl rfl (by kernel_rfl) ?_); intro _ _ _ _ h; simp only [zE, evp, evx, ev1, evLoad, evStore, evBin, evIf, Zab, forall_const, z38, tb, reduceAdd, reduceSub, reduceMul, reduceEqDiff, reduceLeDiff, reduceLT, Nat.reduceBEq, Nat.reduceBNe, ↓reduceIte, reduceIte, spSo, Za7, folS, Zcb, gmA] at h; obtain ⟨rfl, rfl, rfl, rfl⟩ := h; refine ⟨?_, ?_⟩) | ((with_reducible refine Ob.mk ?_); first | exact trivial | (intros; omega) | ((repeat' first | apply And.intro | (intro a; have b := a; try simp only [zH] at b)) <;> first | assumption | omega | (simp only [zH]; omega)))
    refine Zaz rfl rfl (Zav rfl ?_ rfl)
    rw [e]; rfl
  have hcb := hb
  clear hb
  have hw := of_decide_eq_true hcb
  have hwl : w.length = o.length := hw.1
  have hcl : c.length = o.length := hw.2.1
  have hcc : ∀ q : Int, ∀ v, v < o.length → w.getD v 0 = q → o.getD v 0 = q → c.getD v 0 ∈ x.getD v [] := fun q => Zgh hcb
  clear hw
  repeat' first
    | with_reducible first | apply Zar | apply Zan | apply Zaa | apply Zad | apply Zah | apply Zao | apply Zag | apply Zaj | apply Zaq | apply Zas | apply Zap | apply Zal | apply Zac | apply Zak
    | ((with_reducible refine Zai ?_ ?_); exact rfl) | ((with_reducible refine Zat ?_); refine Zam rfl ?_ ?_ <;> intro hb <;> (try simp only [zH] at hb)) | ((with_reducible refine Za3 ?_); (first | refine Zaf htb hmz Zb1 fF rfl rfl ?_ | refine Zae hmo htb hmz Zb1 fF rfl rfl (by kernel_rfl) ?_); intro _ _ _ _ h; simp only [zE, evp, evx, ev1, evLoad, evStore, evBin, evIf, Zab, forall_const, z38, tb, reduceAdd, reduceSub, reduceMul, reduceEqDiff, reduceLeDiff, reduceLT, Nat.reduceBEq, Nat.reduceBNe, ↓reduceIte, reduceIte, spSo, Za7, folS, Zcb, gmA] at h; obtain ⟨rfl, rfl, rfl, rfl⟩ := h; refine ⟨?_, ?_⟩) | ((with_reducible refine Ob.mk ?_); first | exact trivial | (intros; omega) | ((repeat' first | apply And.intro | (intro a; have b := a; try simp only [zH] at b)) <;> first | assumption | omega | (simp only [zH]; omega)))
  refine Za6 (τ := Nat) (fun i => i ≤ 2 ∧ ∀ q, q < i → slP ⟨o, p, x⟩ w c (q : Int) = true) (fun i => ⟨9, [(14, .int .i64 i), (3, .rop (.agg (.cons (.roI w) (.cons (.roI c) .nil)))), (2, .rop (.agg (.cons (.roI o) (.cons (.roI p) (.cons (.roII x) .nil)))))], [], []⟩) (fun i => 2 - i) 0 [] ?_ ⟨Nat.zero_le _, fun q hq => absurd hq (Nat.not_lt_zero q)⟩ ?_
  · (refine ⟨rfl, ?_, ?_⟩ <;> simp only [zE, evp, evx, ev1, evLoad, evStore, evBin, evIf, Zab, forall_const, z38, tb, reduceAdd, reduceSub, reduceMul, reduceEqDiff, reduceLeDiff, reduceLT, Nat.reduceBEq, Nat.reduceBNe, ↓reduceIte, reduceIte, spSo, Za7, folS, Zcb, gmA, zI])
  rintro i ⟨hi, hq⟩
  have hcc1 := hcc (i : Int)
  have hso : i < 2 → slP ⟨o, p, x⟩ w c (i : Int) = false → solB ⟨o, p, x⟩ w c = false := fun h hs => by
    have : i = 0 ∨ i = 1 := by omega
    unfold solB
    rcases this with rfl | rfl
    · rw [show slP ⟨o, p, x⟩ w c 0 = false from hs]; simp
    · rw [show slP ⟨o, p, x⟩ w c 1 = false from hs]; simp
  repeat' first
    | with_reducible first | apply Zar | apply Zan | apply Zaa | apply Zad | apply Zah | apply Zao | apply Zag | apply Zaj | apply Zaq | apply Zas | apply Zap | apply Zal | apply Zac | apply Zak
    | ((with_reducible refine Zai ?_ ?_); exact rfl) | ((with_reducible refine Zat ?_); refine Zam rfl ?_ ?_ <;> intro hb <;> (try simp only [zH] at hb)) | ((with_reducible refine Zau 7 ?_ ?_); (· exact rfl); (with_reducible refine Zau 16 ?_ ?_); (· exact rfl); (first | refine Zaf htb hmz Zb1 fF rfl rfl ?_ | refine Zae hmo htb hmz Zb1 fF rfl rfl (by kernel_rfl) ?_); intro _ _ _ _ h; simp only [zE, evp, evx, ev1, evLoad, evStore, evBin, evIf, Zab, forall_const, z38, tb, reduceAdd, reduceSub, reduceMul, reduceEqDiff, reduceLeDiff, reduceLT, Nat.reduceBEq, Nat.reduceBNe, ↓reduceIte, reduceIte, spSo, Za7, folS, Zcb, gmA] at h; obtain ⟨rfl, rfl, rfl, rfl⟩ := h; refine ⟨?_, ?_⟩) | ((with_reducible refine Ob.mk ?_); first | exact trivial | (intros; omega) | ((repeat' first | apply And.intro | (intro a; have b := a; try simp only [zH] at b)) <;> first | assumption | omega | (simp only [zH]; omega)))
  · exact Ob.mk ⟨hv, hwl, hcl, hcc1⟩
  · have hi2 : i < 2 := by omega
    have hsp : slP ⟨o, p, x⟩ w c (i : Int) = (cloB ⟨o, p, x⟩ w c (i : Int) && !(Zdg (folG ⟨o, p, x⟩ w c (i : Int)) (1 - (i : Int))).any id) := rfl
    have hvf : cloB ⟨o, p, x⟩ w c (i : Int) = true → Zbh (folG ⟨o, p, x⟩ w c (i : Int)) = true := fun h => Zdr (fol_valid hV hcc1 h)
    repeat' first
      | with_reducible first | apply Zar | apply Zan | apply Zaa | apply Zad | apply Zah | apply Zao | apply Zag | apply Zaj | apply Zaq | apply Zas | apply Zap | apply Zal | apply Zac | apply Zak
      | ((with_reducible refine Zai ?_ ?_); exact rfl) | ((with_reducible refine Zat ?_); refine Zam rfl ?_ ?_ <;> intro hb <;> (try simp only [zH] at hb)) | ((with_reducible refine Zau 8 ?_ ?_); (· exact rfl); (with_reducible refine Zau 9 ?_ ?_); (· exact rfl); (first | refine Zaf htb hmz Zb1 fF rfl rfl ?_ | refine Zae hmo htb hmz Zb1 fF rfl rfl (by kernel_rfl) ?_); intro _ _ _ _ h; simp only [zE, evp, evx, ev1, evLoad, evStore, evBin, evIf, Zab, forall_const, z38, tb, reduceAdd, reduceSub, reduceMul, reduceEqDiff, reduceLeDiff, reduceLT, Nat.reduceBEq, Nat.reduceBNe, ↓reduceIte, reduceIte, spSo, Za7, folS, Zcb, gmA] at h; obtain ⟨rfl, rfl, rfl, rfl⟩ := h; refine ⟨?_, ?_⟩) | ((with_reducible refine Ob.mk ?_); first | exact trivial | (intros; omega) | ((repeat' first | apply And.intro | (intro a; have b := a; try simp only [zH] at b)) <;> first | assumption | omega | (simp only [zH]; omega)))
    · rw [hb] at hsp
      have e := hso hi2 hsp
      repeat' first
        | with_reducible first | apply Zar | apply Zan | apply Zaa | apply Zad | apply Zah | apply Zao | apply Zag | apply Zaj | apply Zaq | apply Zas | apply Zap | apply Zal | apply Zac | apply Zak
        | ((with_reducible refine Zai ?_ ?_); exact rfl) | ((with_reducible refine Zat ?_); refine Zam rfl ?_ ?_ <;> intro hb <;> (try simp only [zH] at hb)) | ((with_reducible refine Za3 ?_); (first | refine Zaf htb hmz Zb1 fF rfl rfl ?_ | refine Zae hmo htb hmz Zb1 fF rfl rfl (by kernel_rfl) ?_); intro _ _ _ _ h; simp only [zE, evp, evx, ev1, evLoad, evStore, evBin, evIf, Zab, forall_const, z38, tb, reduceAdd, reduceSub, reduceMul, reduceEqDiff, reduceLeDiff, reduceLT, Nat.reduceBEq, Nat.reduceBNe, ↓reduceIte, reduceIte, spSo, Za7, folS, Zcb, gmA] at h; obtain ⟨rfl, rfl, rfl, rfl⟩ := h; refine ⟨?_, ?_⟩) | ((with_reducible refine Ob.mk ?_); first | exact trivial | (intros; omega) | ((repeat' first | apply And.intro | (intro a; have b := a; try simp only [zH] at b)) <;> first | assumption | omega | (simp only [zH]; omega)))
      refine Zaz rfl rfl (Zav rfl ?_ rfl)
      rw [e]; rfl
    have hff : folR ⟨o, p, x⟩ w c (i : Int) = folG ⟨o, p, x⟩ w c (i : Int) := by unfold folR; rw [if_pos hb]
    have hvg := hvf hb
    rw [hb] at hsp
    clear hvf
    rw [hff]
    generalize folG ⟨o, p, x⟩ w c (i : Int) = H at *
    have hAl : (Zdg H (1 - (i : Int))).length = H.own.length := by simp [Zdg]
    have hHn : H.own.length ≤ 20000 := (validB_iff.1 hvg).1
    clear hff hcc1 hcc
    repeat' first
      | with_reducible first | apply Zar | apply Zan | apply Zaa | apply Zad | apply Zah | apply Zao | apply Zag | apply Zaj | apply Zaq | apply Zas | apply Zap | apply Zal | apply Zac | apply Zak
      | ((with_reducible refine Zai ?_ ?_); exact rfl) | ((with_reducible refine Zat ?_); refine Zam rfl ?_ ?_ <;> intro hb <;> (try simp only [zH] at hb)) | ((with_reducible refine Za3 ?_); (first | refine Zaf htb hmz Zb1 fF rfl rfl ?_ | refine Zae hmo htb hmz Zb1 fF rfl rfl (by kernel_rfl) ?_); intro _ _ _ _ h; simp only [zE, evp, evx, ev1, evLoad, evStore, evBin, evIf, Zab, forall_const, z38, tb, reduceAdd, reduceSub, reduceMul, reduceEqDiff, reduceLeDiff, reduceLT, Nat.reduceBEq, Nat.reduceBNe, ↓reduceIte, reduceIte, spSo, Za7, folS, Zcb, gmA] at h; obtain ⟨rfl, rfl, rfl, rfl⟩ := h; refine ⟨?_, ?_⟩) | ((with_reducible refine Ob.mk ?_); first | exact trivial | (intros; omega) | ((repeat' first | apply And.intro | (intro a; have b := a; try simp only [zH] at b)) <;> first | assumption | omega | (simp only [zH]; omega)))
    generalize Zdg H (1 - (i : Int)) = A at *
    have hAn : A.length ≤ 20000 := by omega
    refine Za6 (τ := Nat) (fun r => r ≤ A.length ∧ ∀ j, j < r → A.getD j false = false) (fun r => ⟨30, [(31, .int .i64 r), (30, .int .i64 A.length), (29, .own 27), (14, .int .i64 i), (3, (.rop (.agg (.cons (.roI w) (.cons (.roI c) .nil))))), (2, (.rop (.agg (.cons (.roI o) (.cons (.roI p) (.cons (.roII x) .nil))))))], [(27, some (.bools A))], []⟩) (fun r => A.length - r) 0 [] ?_ ⟨Nat.zero_le _, fun j hj => absurd hj (Nat.not_lt_zero j)⟩ ?_
    · (refine ⟨rfl, ?_, ?_⟩ <;> simp only [zE, evp, evx, ev1, evLoad, evStore, evBin, evIf, Zab, forall_const, z38, tb, reduceAdd, reduceSub, reduceMul, reduceEqDiff, reduceLeDiff, reduceLT, Nat.reduceBEq, Nat.reduceBNe, ↓reduceIte, reduceIte, spSo, Za7, folS, Zcb, gmA, zI])
    rintro r ⟨hr, hno⟩
    repeat' first
      | with_reducible first | apply Zar | apply Zan | apply Zaa | apply Zad | apply Zah | apply Zao | apply Zag | apply Zaj | apply Zaq | apply Zas | apply Zap | apply Zal | apply Zac | apply Zak
      | ((with_reducible refine Zai ?_ ?_); exact rfl) | ((with_reducible refine Zat ?_); refine Zam rfl ?_ ?_ <;> intro hb <;> (try simp only [zH] at hb)) | ((with_reducible refine Zau 15 ?_ ?_); (· exact rfl); (first | refine Zaf htb hmz Zb1 fF rfl rfl ?_ | refine Zae hmo htb hmz Zb1 fF rfl rfl (by kernel_rfl) ?_); intro _ _ _ _ h; simp only [zE, evp, evx, ev1, evLoad, evStore, evBin, evIf, Zab, forall_const, z38, tb, reduceAdd, reduceSub, reduceMul, reduceEqDiff, reduceLeDiff, reduceLT, Nat.reduceBEq, Nat.reduceBNe, ↓reduceIte, reduceIte, spSo, Za7, folS, Zcb, gmA] at h; obtain ⟨rfl, rfl, rfl, rfl⟩ := h; refine ⟨?_, ?_⟩) | ((with_reducible refine Ob.mk ?_); first | exact trivial | (intros; omega) | ((repeat' first | apply And.intro | (intro a; have b := a; try simp only [zH] at b)) <;> first | assumption | omega | (simp only [zH]; omega)))
    · have hsl : slP ⟨o, p, x⟩ w c (i : Int) = false := by
        rw [hsp]
        have : A.any id = true := by
          rw [List.any_eq_true]
          refine ⟨A.getD r false, ?_, hb⟩
          rw [List.getD_eq_getElem?_getD, List.getElem?_eq_getElem (by omega)]; exact List.getElem_mem _
        rw [this]; rfl
      have e := hso hi2 hsl
      repeat' first
        | with_reducible first | apply Zar | apply Zan | apply Zaa | apply Zad | apply Zah | apply Zao | apply Zag | apply Zaj | apply Zaq | apply Zas | apply Zap | apply Zal | apply Zac | apply Zak
        | ((with_reducible refine Zai ?_ ?_); exact rfl) | ((with_reducible refine Zat ?_); refine Zam rfl ?_ ?_ <;> intro hb <;> (try simp only [zH] at hb)) | ((with_reducible refine Za3 ?_); (first | refine Zaf htb hmz Zb1 fF rfl rfl ?_ | refine Zae hmo htb hmz Zb1 fF rfl rfl (by kernel_rfl) ?_); intro _ _ _ _ h; simp only [zE, evp, evx, ev1, evLoad, evStore, evBin, evIf, Zab, forall_const, z38, tb, reduceAdd, reduceSub, reduceMul, reduceEqDiff, reduceLeDiff, reduceLT, Nat.reduceBEq, Nat.reduceBNe, ↓reduceIte, reduceIte, spSo, Za7, folS, Zcb, gmA] at h; obtain ⟨rfl, rfl, rfl, rfl⟩ := h; refine ⟨?_, ?_⟩) | ((with_reducible refine Ob.mk ?_); first | exact trivial | (intros; omega) | ((repeat' first | apply And.intro | (intro a; have b := a; try simp only [zH] at b)) <;> first | assumption | omega | (simp only [zH]; omega)))
      refine Zaz rfl rfl (Zav rfl ?_ rfl)
      rw [e]; rfl
    · refine back (r + 1) [] ?_ ⟨by omega, fun j hj => ?_⟩ (by omega)
      · (refine ⟨rfl, ?_, ?_⟩ <;> simp only [zE, evp, evx, ev1, evLoad, evStore, evBin, evIf, Zab, forall_const, z38, tb, reduceAdd, reduceSub, reduceMul, reduceEqDiff, reduceLeDiff, reduceLT, Nat.reduceBEq, Nat.reduceBNe, ↓reduceIte, reduceIte, spSo, Za7, folS, Zcb, gmA, zI])
      · rcases Nat.lt_succ_iff_lt_or_eq.1 hj with h | rfl
        · exact hno j h
        · exact hb
    have hre : r = A.length := by omega
    subst hre
    have hsl : slP ⟨o, p, x⟩ w c (i : Int) = true := by
      rw [hsp]
      have : A.any id = false := by
        rw [List.any_eq_false]
        intro b hb2 hb3
        obtain ⟨j, hj, e⟩ := List.getElem_of_mem hb2
        have := hno j hj
        rw [List.getD_eq_getElem?_getD, List.getElem?_eq_getElem hj, Option.getD_some, e] at this
        rw [this] at hb3; cases hb3
      rw [this]; rfl
    clear hno hsp
    repeat' first
      | with_reducible first | apply Zar | apply Zan | apply Zaa | apply Zad | apply Zah | apply Zao | apply Zag | apply Zaj | apply Zaq | apply Zas | apply Zap | apply Zal | apply Zac | apply Zak
      | ((with_reducible refine Zai ?_ ?_); exact rfl) | ((with_reducible refine Zat ?_); refine Zam rfl ?_ ?_ <;> intro hb <;> (try simp only [zH] at hb)) | ((with_reducible refine Za3 ?_); (first | refine Zaf htb hmz Zb1 fF rfl rfl ?_ | refine Zae hmo htb hmz Zb1 fF rfl rfl (by kernel_rfl) ?_); intro _ _ _ _ h; simp only [zE, evp, evx, ev1, evLoad, evStore, evBin, evIf, Zab, forall_const, z38, tb, reduceAdd, reduceSub, reduceMul, reduceEqDiff, reduceLeDiff, reduceLT, Nat.reduceBEq, Nat.reduceBNe, ↓reduceIte, reduceIte, spSo, Za7, folS, Zcb, gmA] at h; obtain ⟨rfl, rfl, rfl, rfl⟩ := h; refine ⟨?_, ?_⟩) | ((with_reducible refine Ob.mk ?_); first | exact trivial | (intros; omega) | ((repeat' first | apply And.intro | (intro a; have b := a; try simp only [zH] at b)) <;> first | assumption | omega | (simp only [zH]; omega)))
    refine back (i + 1) [] ?_ ⟨by omega, fun q hq2 => ?_⟩ (by omega)
    · (refine ⟨rfl, ?_, ?_⟩ <;> simp only [zE, evp, evx, ev1, evLoad, evStore, evBin, evIf, Zab, forall_const, z38, tb, reduceAdd, reduceSub, reduceMul, reduceEqDiff, reduceLeDiff, reduceLT, Nat.reduceBEq, Nat.reduceBNe, ↓reduceIte, reduceIte, spSo, Za7, folS, Zcb, gmA, zI])
    · rcases Nat.lt_succ_iff_lt_or_eq.1 hq2 with h | rfl
      · exact hq q h
      · exact hsl
  have hi2 : i = 2 := by omega
  subst hi2
  repeat' first
    | with_reducible first | apply Zar | apply Zan | apply Zaa | apply Zad | apply Zah | apply Zao | apply Zag | apply Zaj | apply Zaq | apply Zas | apply Zap | apply Zal | apply Zac | apply Zak
    | ((with_reducible refine Zai ?_ ?_); exact rfl) | ((with_reducible refine Zat ?_); refine Zam rfl ?_ ?_ <;> intro hb <;> (try simp only [zH] at hb)) | ((with_reducible refine Za3 ?_); (first | refine Zaf htb hmz Zb1 fF rfl rfl ?_ | refine Zae hmo htb hmz Zb1 fF rfl rfl (by kernel_rfl) ?_); intro _ _ _ _ h; simp only [zE, evp, evx, ev1, evLoad, evStore, evBin, evIf, Zab, forall_const, z38, tb, reduceAdd, reduceSub, reduceMul, reduceEqDiff, reduceLeDiff, reduceLT, Nat.reduceBEq, Nat.reduceBNe, ↓reduceIte, reduceIte, spSo, Za7, folS, Zcb, gmA] at h; obtain ⟨rfl, rfl, rfl, rfl⟩ := h; refine ⟨?_, ?_⟩) | ((with_reducible refine Ob.mk ?_); first | exact trivial | (intros; omega) | ((repeat' first | apply And.intro | (intro a; have b := a; try simp only [zH] at b)) <;> first | assumption | omega | (simp only [zH]; omega)))
  refine Zaz rfl rfl (Zav rfl ?_ rfl)
  have e : solB ⟨o, p, x⟩ w c = true := by
    unfold solB
    rw [hcb, show slP ⟨o, p, x⟩ w c 0 = true from hq 0 (by decide), show slP ⟨o, p, x⟩ w c 1 = true from hq 1 (by decide)]; rfl
  rw [e]; rfl
open Go Pl
def allS : Spec
  | [.agg (.cons (.roI s) (.cons (.roI l) .nil))] => some ⟨s.length ≤ 100000 ∧ l.length ≤ 100000, .roI (s ++ l), none⟩
  | _ => none
set_option maxRecDepth 4000 in
set_option maxHeartbeats 4000000 in
theorem all_ok : Zcm Tryd.prog 35 allS := by
  refine Zbe htb (fn := Tryd.f35) (by kernel_rfl) (by kernel_rfl) rfl (fun args r hS => ?_) (fun args r hS hob hl => ?_)
  · unfold allS at hS; split at hS <;> first | (cases hS; done) | (cases hS; exact Nat.le_of_ble_eq_true rfl)
  unfold allS at hS
  split at hS
  case h_2 => cases hS
  rename_i s l
  simp only [Option.some.injEq] at hS
  subst hS
  simp only [lenP, mkL, lim] at hl
  dsimp only at hob
  obtain ⟨h1, h2⟩ := hob
  repeat' first
    | with_reducible first | apply Zar | apply Zan | apply Zaa | apply Zad | apply Zah | apply Zao | apply Zag | apply Zaj | apply Zaq | apply Zas | apply Zap | apply Zal | apply Zac | apply Zak
    | ((with_reducible refine Zai ?_ ?_); exact rfl) | ((with_reducible refine Zat ?_); refine Zam rfl ?_ ?_ <;> intro hb <;> (try simp only [zH] at hb)) | ((with_reducible refine Zau 1 ?_ ?_); (· exact rfl); (first | refine Zaf htb hmz noSp fF rfl rfl ?_ | refine Zae hmo htb hmz noSp fF rfl rfl (by kernel_rfl) ?_); intro _ _ _ _ h; simp only [zE, evp, evx, ev1, evLoad, evStore, evBin, evIf, Zab, forall_const, z38, tb, reduceAdd, reduceSub, reduceMul, reduceEqDiff, reduceLeDiff, reduceLT, Nat.reduceBEq, Nat.reduceBNe, ↓reduceIte, reduceIte] at h; obtain ⟨rfl, rfl, rfl, rfl⟩ := h; refine ⟨?_, ?_⟩) | ((with_reducible refine Ob.mk ?_); first | exact trivial | (intros; omega) | ((repeat' first | apply And.intro | (intro a; have b := a; try simp only [zH] at b)) <;> first | assumption | omega | (simp only [zH]; omega)))
  (refine Zae hmo htb hmz noSp (fun i => Nat.beq i 0) rfl rfl (by kernel_rfl) ?_; intro _ _ _ _ h; simp only [zE, evp, evx, ev1, evLoad, evStore, evBin, evIf, Zab, forall_const, z38, tb, reduceAdd, reduceSub, reduceMul, reduceEqDiff, reduceLeDiff, reduceLT, Nat.reduceBEq, Nat.reduceBNe, ↓reduceIte, reduceIte] at h; obtain ⟨rfl, rfl, rfl, rfl⟩ := h; refine ⟨?_, ?_⟩)
  · refine Ob.mk ?_; omega
  refine Zaa ?_
  refine Zdf 8 (.roI (s ++ l)) (by simp only [Za4, Zbf, fzE, fzA, fzR, fzB, set1, nbeq, reduceEqDiff, decide_true, decide_false, ↓reduceIte, reduceIte, cond_true, cond_false, List.take_length, Option.some.injEq]; rfl) (by first | exact rfl | (refine ⟨?_, rfl⟩; first | rfl | (intros; rfl))) (by simp only [Za4, Zbf, fzE, fzA, fzR, fzB, set1, nbeq, reduceEqDiff, decide_true, decide_false, ↓reduceIte, reduceIte, cond_true, cond_false, List.take_length, Option.some.injEq]; rfl) (by simp only [Za4, Zbf, fzE, fzA, fzR, fzB, set1, nbeq, reduceEqDiff, decide_true, decide_false, ↓reduceIte, reduceIte, cond_true, cond_false, List.take_length, Option.some.injEq]; rfl) ?_
  repeat' first
    | with_reducible first | apply Zar | apply Zan | apply Zaa | apply Zad | apply Zah | apply Zao | apply Zag | apply Zaj | apply Zaq | apply Zas | apply Zap | apply Zal | apply Zac | apply Zak
    | ((with_reducible refine Zai ?_ ?_); exact rfl) | ((with_reducible refine Zat ?_); refine Zam rfl ?_ ?_ <;> intro hb <;> (try simp only [zH] at hb)) | ((with_reducible refine Za3 ?_); (first | refine Zaf htb hmz noSp fF rfl rfl ?_ | refine Zae hmo htb hmz noSp fF rfl rfl (by kernel_rfl) ?_); intro _ _ _ _ h; simp only [zE, evp, evx, ev1, evLoad, evStore, evBin, evIf, Zab, forall_const, z38, tb, reduceAdd, reduceSub, reduceMul, reduceEqDiff, reduceLeDiff, reduceLT, Nat.reduceBEq, Nat.reduceBNe, ↓reduceIte, reduceIte] at h; obtain ⟨rfl, rfl, rfl, rfl⟩ := h; refine ⟨?_, ?_⟩) | ((with_reducible refine Ob.mk ?_); first | exact trivial | (intros; omega) | ((repeat' first | apply And.intro | (intro a; have b := a; try simp only [zH] at b)) <;> first | assumption | omega | (simp only [zH]; omega)))
  refine Zaz rfl rfl (Zav rfl ?_ rfl)
  rfl
def aftP (l loop : List Int) (i : Int) : Int := if i + 1 < l.length then l.getD (i + 1).toNat 0 else loop.getD 0 0
def aftS : Spec
  | [.agg (.cons (.roI s) (.cons (.roI lp) .nil)), .roI l, .int .i64 i] => some ⟨(0 ≤ i ∧ i < l.length) ∧ 0 < lp.length, .int .i64 (aftP l lp i), none⟩
  | _ => none
set_option maxRecDepth 4000 in
set_option maxHeartbeats 4000000 in
theorem aft_ok : Zcm Tryd.prog 36 aftS := by
  refine Zbe htb (fn := Tryd.f36) (by kernel_rfl) (by kernel_rfl) rfl (fun args r hS => ?_) (fun args r hS hob hl => ?_)
  · unfold aftS at hS; split at hS <;> first | (cases hS; done) | (cases hS; exact Nat.le_of_ble_eq_true rfl)
  unfold aftS at hS
  split at hS
  case h_2 => cases hS
  rename_i s lp l i
  simp only [Option.some.injEq] at hS
  subst hS
  simp only [lenP, mkL, lim] at hl
  dsimp only at hob
  obtain ⟨⟨h1, h2⟩, h3⟩ := hob
  repeat' first
    | with_reducible first | apply Zar | apply Zan | apply Zaa | apply Zad | apply Zah | apply Zao | apply Zag | apply Zaj | apply Zaq | apply Zas | apply Zap | apply Zal | apply Zac | apply Zak
    | ((with_reducible refine Zai ?_ ?_); exact rfl) | ((with_reducible refine Zat ?_); refine Zam rfl ?_ ?_ <;> intro hb <;> (try simp only [zH] at hb)) | ((with_reducible refine Zau 2 ?_ ?_); (· exact rfl); (with_reducible refine Zau 3 ?_ ?_); (· exact rfl); (first | refine Zaf htb hmz noSp fF rfl rfl ?_ | refine Zae hmo htb hmz noSp fF rfl rfl (by kernel_rfl) ?_); intro _ _ _ _ h; simp only [zE, evp, evx, ev1, evLoad, evStore, evBin, evIf, Zab, forall_const, z38, tb, reduceAdd, reduceSub, reduceMul, reduceEqDiff, reduceLeDiff, reduceLT, Nat.reduceBEq, Nat.reduceBNe, ↓reduceIte, reduceIte] at h; obtain ⟨rfl, rfl, rfl, rfl⟩ := h; refine ⟨?_, ?_⟩) | ((with_reducible refine Ob.mk ?_); first | exact trivial | (intros; omega) | ((repeat' first | apply And.intro | (intro a; have b := a; try simp only [zH] at b)) <;> first | assumption | omega | (simp only [zH]; omega)))
  · repeat' first
      | with_reducible first | apply Zar | apply Zan | apply Zaa | apply Zad | apply Zah | apply Zao | apply Zag | apply Zaj | apply Zaq | apply Zas | apply Zap | apply Zal | apply Zac | apply Zak
      | ((with_reducible refine Zai ?_ ?_); exact rfl) | ((with_reducible refine Zat ?_); refine Zam rfl ?_ ?_ <;> intro hb <;> (try simp only [zH] at hb)) | ((with_reducible refine Za3 ?_); (first | refine Zaf htb hmz noSp fF rfl rfl ?_ | refine Zae hmo htb hmz noSp fF rfl rfl (by kernel_rfl) ?_); intro _ _ _ _ h; simp only [zE, evp, evx, ev1, evLoad, evStore, evBin, evIf, Zab, forall_const, z38, tb, reduceAdd, reduceSub, reduceMul, reduceEqDiff, reduceLeDiff, reduceLT, Nat.reduceBEq, Nat.reduceBNe, ↓reduceIte, reduceIte] at h; obtain ⟨rfl, rfl, rfl, rfl⟩ := h; refine ⟨?_, ?_⟩) | ((with_reducible refine Ob.mk ?_); first | exact trivial | (intros; omega) | ((repeat' first | apply And.intro | (intro a; have b := a; try simp only [zH] at b)) <;> first | assumption | omega | (simp only [zH]; omega)))
    refine Zaz rfl rfl (Zav rfl ?_ rfl)
    show AV.int .i64 _ = AV.int .i64 (aftP l lp i)
    unfold aftP
    rw [if_pos hb]
  · repeat' first
      | with_reducible first | apply Zar | apply Zan | apply Zaa | apply Zad | apply Zah | apply Zao | apply Zag | apply Zaj | apply Zaq | apply Zas | apply Zap | apply Zal | apply Zac | apply Zak
      | ((with_reducible refine Zai ?_ ?_); exact rfl) | ((with_reducible refine Zat ?_); refine Zam rfl ?_ ?_ <;> intro hb <;> (try simp only [zH] at hb)) | ((with_reducible refine Za3 ?_); (first | refine Zaf htb hmz noSp fF rfl rfl ?_ | refine Zae hmo htb hmz noSp fF rfl rfl (by kernel_rfl) ?_); intro _ _ _ _ h; simp only [zE, evp, evx, ev1, evLoad, evStore, evBin, evIf, Zab, forall_const, z38, tb, reduceAdd, reduceSub, reduceMul, reduceEqDiff, reduceLeDiff, reduceLT, Nat.reduceBEq, Nat.reduceBNe, ↓reduceIte, reduceIte] at h; obtain ⟨rfl, rfl, rfl, rfl⟩ := h; refine ⟨?_, ?_⟩) | ((with_reducible refine Ob.mk ?_); first | exact trivial | (intros; omega) | ((repeat' first | apply And.intro | (intro a; have b := a; try simp only [zH] at b)) <;> first | assumption | omega | (simp only [zH]; omega)))
    refine Zaz rfl rfl (Zav rfl ?_ rfl)
    show AV.int .i64 _ = AV.int .i64 (aftP l lp i)
    unfold aftP
    rw [if_neg (by omega)]
def isP (g : Gm) (s lp : List Int) : Bool := decide (lp ≠ [] ∧ (∀ i, i < (s ++ lp).length → 0 ≤ (s ++ lp).getD i 0 ∧ (s ++ lp).getD i 0 < (g.own.length : Int)) ∧ ∀ i, i < (s ++ lp).length → aftP (s ++ lp) lp i ∈ g.nxt.getD ((s ++ lp).getD i 0).toNat [])
def isS : Spec
  | [.agg (.cons (.roI o) (.cons (.roI p) (.cons (.roII x) .nil))), .agg (.cons (.roI s) (.cons (.roI lp) .nil))] => some ⟨(s.length ≤ 100000 ∧ lp.length ≤ 100000) ∧ x.length = o.length, .bool (isP ⟨o, p, x⟩ s lp), none⟩
  | _ => none
def spIs : Nat → Option Spec
  | 35 => some allS
  | 36 => some aftS
  | 31 => some hasS
  | _ => none
theorem Zbr : SpOK Tryd.prog spIs := by
  intro f S h
  unfold spIs at h
  split at h
  · cases h; exact all_ok
  · cases h; exact aft_ok
  · cases h; exact has13_ok
  · cases h
set_option maxRecDepth 4000 in
set_option maxHeartbeats 4000000 in
theorem is_ok : Zcm Tryd.prog 15 isS := by
  refine Zbe htb (fn := Tryd.f15) (by kernel_rfl) (by kernel_rfl) rfl (fun args r hS => ?_) (fun args r hS hob hl => ?_)
  · unfold isS at hS; split at hS <;> first | (cases hS; done) | (cases hS; exact Nat.le_of_ble_eq_true rfl)
  unfold isS at hS
  split at hS
  case h_2 => cases hS
  rename_i o p x s lp
  simp only [Option.some.injEq] at hS
  subst hS
  simp only [lenP, mkL, lim] at hl
  dsimp only at hob
  obtain ⟨⟨h1, h2⟩, h3⟩ := hob
  have hal : (s ++ lp).length = s.length + lp.length := List.length_append ..
  repeat' first
    | with_reducible first | apply Zar | apply Zan | apply Zaa | apply Zad | apply Zah | apply Zao | apply Zag | apply Zaj | apply Zaq | apply Zas | apply Zap | apply Zal | apply Zac | apply Zak
    | ((with_reducible refine Zai ?_ ?_); exact rfl) | ((with_reducible refine Zat ?_); refine Zam rfl ?_ ?_ <;> intro hb <;> (try simp only [zH] at hb)) | ((with_reducible refine Zau 2 ?_ ?_); (· exact rfl); (with_reducible refine Zau 3 ?_ ?_); (· exact rfl); (first | refine Zaf htb hmz Zbr fF rfl rfl ?_ | refine Zae hmo htb hmz Zbr fF rfl rfl (by kernel_rfl) ?_); intro _ _ _ _ h; simp only [zE, evp, evx, ev1, evLoad, evStore, evBin, evIf, Zab, forall_const, z38, tb, reduceAdd, reduceSub, reduceMul, reduceEqDiff, reduceLeDiff, reduceLT, Nat.reduceBEq, Nat.reduceBNe, ↓reduceIte, reduceIte, spIs, allS, aftS, hasS] at h; obtain ⟨rfl, rfl, rfl, rfl⟩ := h; refine ⟨?_, ?_⟩) | ((with_reducible refine Ob.mk ?_); first | exact trivial | (intros; omega) | ((repeat' first | apply And.intro | (intro a; have b := a; try simp only [zH] at b)) <;> first | assumption | omega | (simp only [zH]; omega)))
  · repeat' first
      | with_reducible first | apply Zar | apply Zan | apply Zaa | apply Zad | apply Zah | apply Zao | apply Zag | apply Zaj | apply Zaq | apply Zas | apply Zap | apply Zal | apply Zac | apply Zak
      | ((with_reducible refine Zai ?_ ?_); exact rfl) | ((with_reducible refine Zat ?_); refine Zam rfl ?_ ?_ <;> intro hb <;> (try simp only [zH] at hb)) | ((with_reducible refine Za3 ?_); (first | refine Zaf htb hmz Zbr fF rfl rfl ?_ | refine Zae hmo htb hmz Zbr fF rfl rfl (by kernel_rfl) ?_); intro _ _ _ _ h; simp only [zE, evp, evx, ev1, evLoad, evStore, evBin, evIf, Zab, forall_const, z38, tb, reduceAdd, reduceSub, reduceMul, reduceEqDiff, reduceLeDiff, reduceLT, Nat.reduceBEq, Nat.reduceBNe, ↓reduceIte, reduceIte, spIs, allS, aftS, hasS] at h; obtain ⟨rfl, rfl, rfl, rfl⟩ := h; refine ⟨?_, ?_⟩) | ((with_reducible refine Ob.mk ?_); first | exact trivial | (intros; omega) | ((repeat' first | apply And.intro | (intro a; have b := a; try simp only [zH] at b)) <;> first | assumption | omega | (simp only [zH]; omega)))
    refine Zaz rfl rfl (Zav rfl ?_ rfl)
    have : isP ⟨o, p, x⟩ s lp = false := decide_eq_false fun h => h.1 (List.length_eq_zero_iff.1 (by omega))
    rw [this]; rfl
  have hlp : lp ≠ [] := fun h => by
    rw [h] at hb; exact absurd rfl hb
  have hl0 : 0 < lp.length := List.length_pos_iff.2 hlp
  have hP : isP ⟨o, p, x⟩ s lp = decide (lp ≠ [] ∧ (∀ i, i < (s ++ lp).length → 0 ≤ (s ++ lp).getD i 0 ∧ (s ++ lp).getD i 0 < (o.length : Int)) ∧ ∀ i : Nat, i < (s ++ lp).length → aftP (s ++ lp) lp i ∈ x.getD ((s ++ lp).getD i 0).toNat []) := by
    unfold isP
    exact decide_eq_decide.2 Iff.rfl
  repeat' first
    | with_reducible first | apply Zar | apply Zan | apply Zaa | apply Zad | apply Zah | apply Zao | apply Zag | apply Zaj | apply Zaq | apply Zas | apply Zap | apply Zal | apply Zac | apply Zak
    | ((with_reducible refine Zai ?_ ?_); exact rfl) | ((with_reducible refine Zat ?_); refine Zam rfl ?_ ?_ <;> intro hb <;> (try simp only [zH] at hb)) | ((with_reducible refine Zau 5 ?_ ?_); (· exact rfl); (first | refine Zaf htb hmz Zbr fF rfl rfl ?_ | refine Zae hmo htb hmz Zbr fF rfl rfl (by kernel_rfl) ?_); intro _ _ _ _ h; simp only [zE, evp, evx, ev1, evLoad, evStore, evBin, evIf, Zab, forall_const, z38, tb, reduceAdd, reduceSub, reduceMul, reduceEqDiff, reduceLeDiff, reduceLT, Nat.reduceBEq, Nat.reduceBNe, ↓reduceIte, reduceIte, spIs, allS, aftS, hasS] at h; obtain ⟨rfl, rfl, rfl, rfl⟩ := h; refine ⟨?_, ?_⟩) | ((with_reducible refine Ob.mk ?_); first | exact trivial | (intros; omega) | ((repeat' first | apply And.intro | (intro a; have b := a; try simp only [zH] at b)) <;> first | assumption | omega | (simp only [zH]; omega)))
  generalize s ++ lp = L at *
  refine Za6 (τ := Nat) (fun i => i ≤ L.length ∧ ∀ j, j < i → 0 ≤ L.getD j 0 ∧ L.getD j 0 < (o.length : Int)) (fun i => ⟨13, [(18, .int .i64 i), (17, .int .i64 L.length), (16, .roI L), (5, .roI L), (3, .rop (.agg (.cons (.roI s) (.cons (.roI lp) .nil)))), (2, .rop (.agg (.cons (.roI o) (.cons (.roI p) (.cons (.roII x) .nil)))))], [], []⟩) (fun i => L.length - i) 0 [] ?_ ⟨Nat.zero_le _, fun j hj => absurd hj (Nat.not_lt_zero j)⟩ ?_
  · (refine ⟨rfl, ?_, ?_⟩ <;> simp only [zE, evp, evx, ev1, evLoad, evStore, evBin, evIf, Zab, forall_const, z38, tb, reduceAdd, reduceSub, reduceMul, reduceEqDiff, reduceLeDiff, reduceLT, Nat.reduceBEq, Nat.reduceBNe, ↓reduceIte, reduceIte, spIs, allS, aftS, hasS, zI])
  rintro i ⟨hi, hk⟩
  repeat' first
    | with_reducible first | apply Zar | apply Zan | apply Zaa | apply Zad | apply Zah | apply Zao | apply Zag | apply Zaj | apply Zaq | apply Zas | apply Zap | apply Zal | apply Zac | apply Zak
    | ((with_reducible refine Zai ?_ ?_); exact rfl) | ((with_reducible refine Zat ?_); refine Zam rfl ?_ ?_ <;> intro hb <;> (try simp only [zH] at hb)) | ((with_reducible refine Zau 6 ?_ ?_); (· exact rfl); (with_reducible refine Zau 10 ?_ ?_); (· exact rfl); (first | refine Zaf htb hmz Zbr fF rfl rfl ?_ | refine Zae hmo htb hmz Zbr fF rfl rfl (by kernel_rfl) ?_); intro _ _ _ _ h; simp only [zE, evp, evx, ev1, evLoad, evStore, evBin, evIf, Zab, forall_const, z38, tb, reduceAdd, reduceSub, reduceMul, reduceEqDiff, reduceLeDiff, reduceLT, Nat.reduceBEq, Nat.reduceBNe, ↓reduceIte, reduceIte, spIs, allS, aftS, hasS] at h; obtain ⟨rfl, rfl, rfl, rfl⟩ := h; refine ⟨?_, ?_⟩) | ((with_reducible refine Ob.mk ?_); first | exact trivial | (intros; omega) | ((repeat' first | apply And.intro | (intro a; have b := a; try simp only [zH] at b)) <;> first | assumption | omega | (simp only [zH]; omega)))
  · have hil : i < L.length := by omega
    repeat' first
      | with_reducible first | apply Zar | apply Zan | apply Zaa | apply Zad | apply Zah | apply Zao | apply Zag | apply Zaj | apply Zaq | apply Zas | apply Zap | apply Zal | apply Zac | apply Zak
      | ((with_reducible refine Zai ?_ ?_); exact rfl) | ((with_reducible refine Zat ?_); refine Zam rfl ?_ ?_ <;> intro hb <;> (try simp only [zH] at hb)) | ((with_reducible refine Zau 8 ?_ ?_); (· exact rfl); (with_reducible refine Zau 9 ?_ ?_); (· exact rfl); (first | refine Zaf htb hmz Zbr fF rfl rfl ?_ | refine Zae hmo htb hmz Zbr fF rfl rfl (by kernel_rfl) ?_); intro _ _ _ _ h; simp only [zE, evp, evx, ev1, evLoad, evStore, evBin, evIf, Zab, forall_const, z38, tb, reduceAdd, reduceSub, reduceMul, reduceEqDiff, reduceLeDiff, reduceLT, Nat.reduceBEq, Nat.reduceBNe, ↓reduceIte, reduceIte, spIs, allS, aftS, hasS] at h; obtain ⟨rfl, rfl, rfl, rfl⟩ := h; refine ⟨?_, ?_⟩) | ((with_reducible refine Ob.mk ?_); first | exact trivial | (intros; omega) | ((repeat' first | apply And.intro | (intro a; have b := a; try simp only [zH] at b)) <;> first | assumption | omega | (simp only [zH]; omega)))
    · repeat' first
        | with_reducible first | apply Zar | apply Zan | apply Zaa | apply Zad | apply Zah | apply Zao | apply Zag | apply Zaj | apply Zaq | apply Zas | apply Zap | apply Zal | apply Zac | apply Zak
        | ((with_reducible refine Zai ?_ ?_); exact rfl) | ((with_reducible refine Zat ?_); refine Zam rfl ?_ ?_ <;> intro hb <;> (try simp only [zH] at hb)) | ((with_reducible refine Za3 ?_); (first | refine Zaf htb hmz Zbr fF rfl rfl ?_ | refine Zae hmo htb hmz Zbr fF rfl rfl (by kernel_rfl) ?_); intro _ _ _ _ h; simp only [zE, evp, evx, ev1, evLoad, evStore, evBin, evIf, Zab, forall_const, z38, tb, reduceAdd, reduceSub, reduceMul, reduceEqDiff, reduceLeDiff, reduceLT, Nat.reduceBEq, Nat.reduceBNe, ↓reduceIte, reduceIte, spIs, allS, aftS, hasS] at h; obtain ⟨rfl, rfl, rfl, rfl⟩ := h; refine ⟨?_, ?_⟩) | ((with_reducible refine Ob.mk ?_); first | exact trivial | (intros; omega) | ((repeat' first | apply And.intro | (intro a; have b := a; try simp only [zH] at b)) <;> first | assumption | omega | (simp only [zH]; omega)))
      refine Zaz rfl rfl (Zav rfl ?_ rfl)
      have hf : isP ⟨o, p, x⟩ s lp = false := by
        rw [hP]
        exact decide_eq_false fun h => by
          have := h.2.1 i hil
          omega
      rw [hf]; rfl
    · repeat' first
        | with_reducible first | apply Zar | apply Zan | apply Zaa | apply Zad | apply Zah | apply Zao | apply Zag | apply Zaj | apply Zaq | apply Zas | apply Zap | apply Zal | apply Zac | apply Zak
        | ((with_reducible refine Zai ?_ ?_); exact rfl) | ((with_reducible refine Zat ?_); refine Zam rfl ?_ ?_ <;> intro hb <;> (try simp only [zH] at hb)) | ((with_reducible refine Za3 ?_); (first | refine Zaf htb hmz Zbr fF rfl rfl ?_ | refine Zae hmo htb hmz Zbr fF rfl rfl (by kernel_rfl) ?_); intro _ _ _ _ h; simp only [zE, evp, evx, ev1, evLoad, evStore, evBin, evIf, Zab, forall_const, z38, tb, reduceAdd, reduceSub, reduceMul, reduceEqDiff, reduceLeDiff, reduceLT, Nat.reduceBEq, Nat.reduceBNe, ↓reduceIte, reduceIte, spIs, allS, aftS, hasS] at h; obtain ⟨rfl, rfl, rfl, rfl⟩ := h; refine ⟨?_, ?_⟩) | ((with_reducible refine Ob.mk ?_); first | exact trivial | (intros; omega) | ((repeat' first | apply And.intro | (intro a; have b := a; try simp only [zH] at b)) <;> first | assumption | omega | (simp only [zH]; omega)))
      refine back (i + 1) [] ?_ ⟨by omega, fun j hj => ?_⟩ (by omega)
      · (refine ⟨rfl, ?_, ?_⟩ <;> simp only [zE, evp, evx, ev1, evLoad, evStore, evBin, evIf, Zab, forall_const, z38, tb, reduceAdd, reduceSub, reduceMul, reduceEqDiff, reduceLeDiff, reduceLT, Nat.reduceBEq, Nat.reduceBNe, ↓reduceIte, reduceIte, spIs, allS, aftS, hasS, zI])
      · rcases Nat.lt_succ_iff_lt_or_eq.1 hj with h | rfl
        · exact hk j h
        · omega
  have hie : i = L.length := by omega
  subst hie
  repeat' first
    | with_reducible first | apply Zar | apply Zan | apply Zaa | apply Zad | apply Zah | apply Zao | apply Zag | apply Zaj | apply Zaq | apply Zas | apply Zap | apply Zal | apply Zac | apply Zak
    | ((with_reducible refine Zai ?_ ?_); exact rfl) | ((with_reducible refine Zat ?_); refine Zam rfl ?_ ?_ <;> intro hb <;> (try simp only [zH] at hb)) | ((with_reducible refine Za3 ?_); (first | refine Zaf htb hmz Zbr fF rfl rfl ?_ | refine Zae hmo htb hmz Zbr fF rfl rfl (by kernel_rfl) ?_); intro _ _ _ _ h; simp only [zE, evp, evx, ev1, evLoad, evStore, evBin, evIf, Zab, forall_const, z38, tb, reduceAdd, reduceSub, reduceMul, reduceEqDiff, reduceLeDiff, reduceLT, Nat.reduceBEq, Nat.reduceBNe, ↓reduceIte, reduceIte, spIs, allS, aftS, hasS] at h; obtain ⟨rfl, rfl, rfl, rfl⟩ := h; refine ⟨?_, ?_⟩) | ((with_reducible refine Ob.mk ?_); first | exact trivial | (intros; omega) | ((repeat' first | apply And.intro | (intro a; have b := a; try simp only [zH] at b)) <;> first | assumption | omega | (simp only [zH]; omega)))
  refine Za6 (τ := Nat) (fun i => i ≤ L.length ∧ ∀ j : Nat, j < i → aftP L lp j ∈ x.getD (L.getD j 0).toNat []) (fun i => ⟨17, [(34, .int .i64 i), (33, .int .i64 L.length), (32, .roI L), (5, .roI L), (3, .rop (.agg (.cons (.roI s) (.cons (.roI lp) .nil)))), (2, .rop (.agg (.cons (.roI o) (.cons (.roI p) (.cons (.roII x) .nil)))))], [], []⟩) (fun i => L.length - i) 0 [] ?_ ⟨Nat.zero_le _, fun j hj => absurd hj (Nat.not_lt_zero j)⟩ ?_
  · (refine ⟨rfl, ?_, ?_⟩ <;> simp only [zE, evp, evx, ev1, evLoad, evStore, evBin, evIf, Zab, forall_const, z38, tb, reduceAdd, reduceSub, reduceMul, reduceEqDiff, reduceLeDiff, reduceLT, Nat.reduceBEq, Nat.reduceBNe, ↓reduceIte, reduceIte, spIs, allS, aftS, hasS, zI])
  rintro i ⟨hi, hk2⟩
  have hk1 := hk i
  repeat' first
    | with_reducible first | apply Zar | apply Zan | apply Zaa | apply Zad | apply Zah | apply Zao | apply Zag | apply Zaj | apply Zaq | apply Zas | apply Zap | apply Zal | apply Zac | apply Zak
    | ((with_reducible refine Zai ?_ ?_); exact rfl) | ((with_reducible refine Zat ?_); refine Zam rfl ?_ ?_ <;> intro hb <;> (try simp only [zH] at hb)) | ((with_reducible refine Zau 12 ?_ ?_); (· exact rfl); (with_reducible refine Zau 16 ?_ ?_); (· exact rfl); (first | refine Zaf htb hmz Zbr fF rfl rfl ?_ | refine Zae hmo htb hmz Zbr fF rfl rfl (by kernel_rfl) ?_); intro _ _ _ _ h; simp only [zE, evp, evx, ev1, evLoad, evStore, evBin, evIf, Zab, forall_const, z38, tb, reduceAdd, reduceSub, reduceMul, reduceEqDiff, reduceLeDiff, reduceLT, Nat.reduceBEq, Nat.reduceBNe, ↓reduceIte, reduceIte, spIs, allS, aftS, hasS] at h; obtain ⟨rfl, rfl, rfl, rfl⟩ := h; refine ⟨?_, ?_⟩) | ((with_reducible refine Ob.mk ?_); first | exact trivial | (intros; omega) | ((repeat' first | apply And.intro | (intro a; have b := a; try simp only [zH] at b)) <;> first | assumption | omega | (simp only [zH]; omega)))
  · have hil : i < L.length := by omega
    have hk1 := hk1 hil
    repeat' first
      | with_reducible first | apply Zar | apply Zan | apply Zaa | apply Zad | apply Zah | apply Zao | apply Zag | apply Zaj | apply Zaq | apply Zas | apply Zap | apply Zal | apply Zac | apply Zak
      | ((with_reducible refine Zai ?_ ?_); exact rfl) | ((with_reducible refine Zat ?_); refine Zam rfl ?_ ?_ <;> intro hb <;> (try simp only [zH] at hb)) | ((with_reducible refine Zau 14 ?_ ?_); (· exact rfl); (with_reducible refine Zau 15 ?_ ?_); (· exact rfl); (first | refine Zaf htb hmz Zbr fF rfl rfl ?_ | refine Zae hmo htb hmz Zbr fF rfl rfl (by kernel_rfl) ?_); intro _ _ _ _ h; simp only [zE, evp, evx, ev1, evLoad, evStore, evBin, evIf, Zab, forall_const, z38, tb, reduceAdd, reduceSub, reduceMul, reduceEqDiff, reduceLeDiff, reduceLT, Nat.reduceBEq, Nat.reduceBNe, ↓reduceIte, reduceIte, spIs, allS, aftS, hasS] at h; obtain ⟨rfl, rfl, rfl, rfl⟩ := h; refine ⟨?_, ?_⟩) | ((with_reducible refine Ob.mk ?_); first | exact trivial | (intros; omega) | ((repeat' first | apply And.intro | (intro a; have b := a; try simp only [zH] at b)) <;> first | assumption | omega | (simp only [zH]; omega)))
    · repeat' first
        | with_reducible first | apply Zar | apply Zan | apply Zaa | apply Zad | apply Zah | apply Zao | apply Zag | apply Zaj | apply Zaq | apply Zas | apply Zap | apply Zal | apply Zac | apply Zak
        | ((with_reducible refine Zai ?_ ?_); exact rfl) | ((with_reducible refine Zat ?_); refine Zam rfl ?_ ?_ <;> intro hb <;> (try simp only [zH] at hb)) | ((with_reducible refine Za3 ?_); (first | refine Zaf htb hmz Zbr fF rfl rfl ?_ | refine Zae hmo htb hmz Zbr fF rfl rfl (by kernel_rfl) ?_); intro _ _ _ _ h; simp only [zE, evp, evx, ev1, evLoad, evStore, evBin, evIf, Zab, forall_const, z38, tb, reduceAdd, reduceSub, reduceMul, reduceEqDiff, reduceLeDiff, reduceLT, Nat.reduceBEq, Nat.reduceBNe, ↓reduceIte, reduceIte, spIs, allS, aftS, hasS] at h; obtain ⟨rfl, rfl, rfl, rfl⟩ := h; refine ⟨?_, ?_⟩) | ((with_reducible refine Ob.mk ?_); first | exact trivial | (intros; omega) | ((repeat' first | apply And.intro | (intro a; have b := a; try simp only [zH] at b)) <;> first | assumption | omega | (simp only [zH]; omega)))
      refine Zaz rfl rfl (Zav rfl ?_ rfl)
      have hf : isP ⟨o, p, x⟩ s lp = false := by
        rw [hP]
        exact decide_eq_false fun h => hb (h.2.2 i hil)
      rw [hf]; rfl
    · repeat' first
        | with_reducible first | apply Zar | apply Zan | apply Zaa | apply Zad | apply Zah | apply Zao | apply Zag | apply Zaj | apply Zaq | apply Zas | apply Zap | apply Zal | apply Zac | apply Zak
        | ((with_reducible refine Zai ?_ ?_); exact rfl) | ((with_reducible refine Zat ?_); refine Zam rfl ?_ ?_ <;> intro hb <;> (try simp only [zH] at hb)) | ((with_reducible refine Za3 ?_); (first | refine Zaf htb hmz Zbr fF rfl rfl ?_ | refine Zae hmo htb hmz Zbr fF rfl rfl (by kernel_rfl) ?_); intro _ _ _ _ h; simp only [zE, evp, evx, ev1, evLoad, evStore, evBin, evIf, Zab, forall_const, z38, tb, reduceAdd, reduceSub, reduceMul, reduceEqDiff, reduceLeDiff, reduceLT, Nat.reduceBEq, Nat.reduceBNe, ↓reduceIte, reduceIte, spIs, allS, aftS, hasS] at h; obtain ⟨rfl, rfl, rfl, rfl⟩ := h; refine ⟨?_, ?_⟩) | ((with_reducible refine Ob.mk ?_); first | exact trivial | (intros; omega) | ((repeat' first | apply And.intro | (intro a; have b := a; try simp only [zH] at b)) <;> first | assumption | omega | (simp only [zH]; omega)))
      refine back (i + 1) [] ?_ ⟨by omega, fun j hj => ?_⟩ (by omega)
      · (refine ⟨rfl, ?_, ?_⟩ <;> simp only [zE, evp, evx, ev1, evLoad, evStore, evBin, evIf, Zab, forall_const, z38, tb, reduceAdd, reduceSub, reduceMul, reduceEqDiff, reduceLeDiff, reduceLT, Nat.reduceBEq, Nat.reduceBNe, ↓reduceIte, reduceIte, spIs, allS, aftS, hasS, zI])
      · rcases Nat.lt_succ_iff_lt_or_eq.1 hj with h | rfl
        · exact hk2 j h
        · exact hb
  have hie : i = L.length := by omega
  subst hie
  repeat' first
    | with_reducible first | apply Zar | apply Zan | apply Zaa | apply Zad | apply Zah | apply Zao | apply Zag | apply Zaj | apply Zaq | apply Zas | apply Zap | apply Zal | apply Zac | apply Zak
    | ((with_reducible refine Zai ?_ ?_); exact rfl) | ((with_reducible refine Zat ?_); refine Zam rfl ?_ ?_ <;> intro hb <;> (try simp only [zH] at hb)) | ((with_reducible refine Za3 ?_); (first | refine Zaf htb hmz Zbr fF rfl rfl ?_ | refine Zae hmo htb hmz Zbr fF rfl rfl (by kernel_rfl) ?_); intro _ _ _ _ h; simp only [zE, evp, evx, ev1, evLoad, evStore, evBin, evIf, Zab, forall_const, z38, tb, reduceAdd, reduceSub, reduceMul, reduceEqDiff, reduceLeDiff, reduceLT, Nat.reduceBEq, Nat.reduceBNe, ↓reduceIte, reduceIte, spIs, allS, aftS, hasS] at h; obtain ⟨rfl, rfl, rfl, rfl⟩ := h; refine ⟨?_, ?_⟩) | ((with_reducible refine Ob.mk ?_); first | exact trivial | (intros; omega) | ((repeat' first | apply And.intro | (intro a; have b := a; try simp only [zH] at b)) <;> first | assumption | omega | (simp only [zH]; omega)))
  refine Zaz rfl rfl (Zav rfl ?_ rfl)
  have hf : isP ⟨o, p, x⟩ s lp = true := by
    rw [hP]
    exact decide_eq_true ⟨hlp, hk, hk2⟩
  rw [hf]; rfl
theorem Zfi {f : Int → Int} : ∀ {l : List Int} {a : Int}, 0 ≤ a → 0 ≤ l.foldl (fun a v => max a (f v)) a
  | [], a, h => h
  | v :: l, a, h => Zfi (l := l) (by show 0 ≤ max a (f v); omega)
def wonP (g : Gm) (lp : List Int) : Int := (lp.foldl (fun a v => max a (g.pri.getD v.toNat 0)) 0) % 2
def wonS : Spec
  | [.agg (.cons (.roI o) (.cons (.roI p) (.cons (.roII x) .nil))), .agg (.cons (.roI s) (.cons (.roI lp) .nil))] => some ⟨∀ i, i < lp.length → 0 ≤ lp.getD i 0 ∧ lp.getD i 0 < (p.length : Int), .int .i64 (wonP ⟨o, p, x⟩ lp), none⟩
  | _ => none
set_option maxRecDepth 4000 in
set_option maxHeartbeats 4000000 in
theorem won_ok : Zcm Tryd.prog 37 wonS := by
  refine Zbe htb (fn := Tryd.f37) (by kernel_rfl) (by kernel_rfl) rfl (fun args r hS => ?_) (fun args r hS hob hl => ?_)
  · unfold wonS at hS; split at hS <;> first | (cases hS; done) | (cases hS; exact Nat.le_of_ble_eq_true rfl)
  unfold wonS at hS
  split at hS
  case h_2 => cases hS
  rename_i o p x s lp
  simp only [Option.some.injEq] at hS
  subst hS
  simp only [lenP, mkL, lim] at hl
  dsimp only at hob
  repeat' first
    | with_reducible first | apply Zar | apply Zan | apply Zaa | apply Zad | apply Zah | apply Zao | apply Zag | apply Zaj | apply Zaq | apply Zas | apply Zap | apply Zal | apply Zac | apply Zak
    | ((with_reducible refine Zai ?_ ?_); exact rfl) | ((with_reducible refine Zat ?_); refine Zam rfl ?_ ?_ <;> intro hb <;> (try simp only [zH] at hb)) | ((with_reducible refine Za3 ?_); (first | refine Zaf htb hmz noSp fF rfl rfl ?_ | refine Zae hmo htb hmz noSp fF rfl rfl (by kernel_rfl) ?_); intro _ _ _ _ h; simp only [zE, evp, evx, ev1, evLoad, evStore, evBin, evIf, Zab, forall_const, z38, tb, reduceAdd, reduceSub, reduceMul, reduceEqDiff, reduceLeDiff, reduceLT, Nat.reduceBEq, Nat.reduceBNe, ↓reduceIte, reduceIte] at h; obtain ⟨rfl, rfl, rfl, rfl⟩ := h; refine ⟨?_, ?_⟩) | ((with_reducible refine Ob.mk ?_); first | exact trivial | (intros; omega) | ((repeat' first | apply And.intro | (intro a; have b := a; try simp only [zH] at b)) <;> first | assumption | omega | (simp only [zH]; omega)))
  have hf0 : ((lp.take 0).foldl (fun a v => max a (p.getD v.toNat 0)) 0) = 0 := rfl
  have hfn := fun i (hi : i < lp.length) => (show (lp.take (i + 1)).foldl (fun a v => max a (p.getD v.toNat 0)) 0 = max ((lp.take i).foldl (fun a v => max a (p.getD v.toNat 0)) 0) (p.getD (lp.getD i 0).toNat 0) by rw [Zif (d := 0) hi, List.foldl_append]; rfl)
  have hfb := Zfi (f := fun v => p.getD v.toNat 0) (l := lp) (Int.le_refl 0)
  refine Za6 (τ := Nat) (fun i => i ≤ lp.length) (fun i => ⟨8, [(11, .int .i64 i), (10, .int .i64 lp.length), (9, .roI lp), (5, .int .i64 ((lp.take i).foldl (fun a v => max a (p.getD v.toNat 0)) 0)), (3, .rop (.agg (.cons (.roI s) (.cons (.roI lp) .nil)))), (2, .rop (.agg (.cons (.roI o) (.cons (.roI p) (.cons (.roII x) .nil)))))], [], []⟩) (fun i => lp.length - i) 0 [] ?_ (Nat.zero_le _) ?_
  · (refine ⟨rfl, ?_, ?_⟩ <;> simp only [zE, evp, evx, ev1, evLoad, evStore, evBin, evIf, Zab, forall_const, z38, tb, reduceAdd, reduceSub, reduceMul, reduceEqDiff, reduceLeDiff, reduceLT, Nat.reduceBEq, Nat.reduceBNe, ↓reduceIte, reduceIte, zI])
    rfl
  intro i hi
  have hob1 := hob i
  have hfn1 := hfn i
  repeat' first
    | with_reducible first | apply Zar | apply Zan | apply Zaa | apply Zad | apply Zah | apply Zao | apply Zag | apply Zaj | apply Zaq | apply Zas | apply Zap | apply Zal | apply Zac | apply Zak
    | ((with_reducible refine Zai ?_ ?_); exact rfl) | ((with_reducible refine Zat ?_); refine Zam rfl ?_ ?_ <;> intro hb <;> (try simp only [zH] at hb)) | ((with_reducible refine Zau 4 ?_ ?_); (· exact rfl); (with_reducible refine Zau 7 ?_ ?_); (· exact rfl); (first | refine Zaf htb hmz noSp fF rfl rfl ?_ | refine Zae hmo htb hmz noSp fF rfl rfl (by kernel_rfl) ?_); intro _ _ _ _ h; simp only [zE, evp, evx, ev1, evLoad, evStore, evBin, evIf, Zab, forall_const, z38, tb, reduceAdd, reduceSub, reduceMul, reduceEqDiff, reduceLeDiff, reduceLT, Nat.reduceBEq, Nat.reduceBNe, ↓reduceIte, reduceIte] at h; obtain ⟨rfl, rfl, rfl, rfl⟩ := h; refine ⟨?_, ?_⟩) | ((with_reducible refine Ob.mk ?_); first | exact trivial | (intros; omega) | ((repeat' first | apply And.intro | (intro a; have b := a; try simp only [zH] at b)) <;> first | assumption | omega | (simp only [zH]; omega)))
  · have hil : i < lp.length := by omega
    have hob1 := hob1 hil
    have hfn1 := hfn1 hil
    repeat' first
      | with_reducible first | apply Zar | apply Zan | apply Zaa | apply Zad | apply Zah | apply Zao | apply Zag | apply Zaj | apply Zaq | apply Zas | apply Zap | apply Zal | apply Zac | apply Zak
      | ((with_reducible refine Zai ?_ ?_); exact rfl) | ((with_reducible refine Zat ?_); refine Zam rfl ?_ ?_ <;> intro hb <;> (try simp only [zH] at hb)) | ((with_reducible refine Za3 ?_); (first | refine Zaf htb hmz noSp fF rfl rfl ?_ | refine Zae hmo htb hmz noSp fF rfl rfl (by kernel_rfl) ?_); intro _ _ _ _ h; simp only [zE, evp, evx, ev1, evLoad, evStore, evBin, evIf, Zab, forall_const, z38, tb, reduceAdd, reduceSub, reduceMul, reduceEqDiff, reduceLeDiff, reduceLT, Nat.reduceBEq, Nat.reduceBNe, ↓reduceIte, reduceIte] at h; obtain ⟨rfl, rfl, rfl, rfl⟩ := h; refine ⟨?_, ?_⟩) | ((with_reducible refine Ob.mk ?_); first | exact trivial | (intros; omega) | ((repeat' first | apply And.intro | (intro a; have b := a; try simp only [zH] at b)) <;> first | assumption | omega | (simp only [zH]; omega)))
    refine back (i + 1) [] ?_ (by omega) (by omega)
    (refine ⟨rfl, ?_, ?_⟩ <;> simp only [zE, evp, evx, ev1, evLoad, evStore, evBin, evIf, Zab, forall_const, z38, tb, reduceAdd, reduceSub, reduceMul, reduceEqDiff, reduceLeDiff, reduceLT, Nat.reduceBEq, Nat.reduceBNe, ↓reduceIte, reduceIte, zI])
    exact hfn1
  have hie : i = lp.length := by omega
  subst hie
  rw [List.take_length]
  repeat' first
    | with_reducible first | apply Zar | apply Zan | apply Zaa | apply Zad | apply Zah | apply Zao | apply Zag | apply Zaj | apply Zaq | apply Zas | apply Zap | apply Zal | apply Zac | apply Zak
    | ((with_reducible refine Zai ?_ ?_); exact rfl) | ((with_reducible refine Zat ?_); refine Zam rfl ?_ ?_ <;> intro hb <;> (try simp only [zH] at hb)) | ((with_reducible refine Za3 ?_); (first | refine Zaf htb hmz noSp fF rfl rfl ?_ | refine Zae hmo htb hmz noSp fF rfl rfl (by kernel_rfl) ?_); intro _ _ _ _ h; simp only [zE, evp, evx, ev1, evLoad, evStore, evBin, evIf, Zab, forall_const, z38, tb, reduceAdd, reduceSub, reduceMul, reduceEqDiff, reduceLeDiff, reduceLT, Nat.reduceBEq, Nat.reduceBNe, ↓reduceIte, reduceIte] at h; obtain ⟨rfl, rfl, rfl, rfl⟩ := h; refine ⟨?_, ?_⟩) | ((with_reducible refine Ob.mk ?_); first | exact trivial | (intros; omega) | ((repeat' first | apply And.intro | (intro a; have b := a; try simp only [zH] at b)) <;> first | assumption | omega | (simp only [zH]; omega)))
  refine Zaz rfl rfl (Zav rfl ?_ rfl)
  rfl
section
open Go Pl
theorem ring_cyc {E : Nat → Nat → Prop} {f : Nat → Nat} {m : Nat} (hm : 0 < m) (h : ∀ k, k + 1 < m → E (f k) (f (k + 1))) (hl : E (f (m - 1)) (f 0)) {k : Nat} (hk : k < m) : ∃ t, E (f k) t ∧ Rch E t (f k) := by
  have up : ∀ (d a : Nat), a + d < m → Rch E (f a) (f (a + d)) := by
    intro d
    induction d with
    | zero => intro a _; exact .refl _
    | succ d ih => intro a ha; exact .step (ih a (by omega)) (h (a + d) (by omega))
  by_cases h1 : k + 1 < m
  · refine ⟨f (k + 1), h k h1, ?_⟩
    have r1 := up (m - 1 - (k + 1)) (k + 1) (by omega)
    rw [show k + 1 + (m - 1 - (k + 1)) = m - 1 by omega] at r1
    have r2 := up k 0 (by omega)
    rw [Nat.zero_add] at r2
    exact (Rch.step r1 hl).trans r2
  · have e : k = m - 1 := by omega
    subst e
    refine ⟨f 0, hl, ?_⟩
    have r2 := up (m - 1) 0 (by omega)
    rw [Nat.zero_add] at r2
    exact r2
theorem Zgg {f : Int → Int} : ∀ {l : List Int} {a : Int}, (∀ v, v ∈ l → f v ≤ l.foldl (fun a v => max a (f v)) a) ∧ a ≤ l.foldl (fun a v => max a (f v)) a ∧ (l.foldl (fun a v => max a (f v)) a = a ∨ ∃ v, v ∈ l ∧ f v = l.foldl (fun a v => max a (f v)) a)
  | [], a => ⟨fun v h => (by cases h), Int.le_refl _, .inl rfl⟩
  | b :: l, a => by
    obtain ⟨h1, h2, h3⟩ := Zgg (f := f) (l := l) (a := max a (f b))
    rw [List.foldl_cons]
    refine ⟨fun v hv => ?_, by omega, ?_⟩
    · rcases List.mem_cons.1 hv with rfl | hv
      · omega
      · exact h1 v hv
    · rcases h3 with h3 | ⟨v, hv, e⟩
      · rcases Int.le_total a (f b) with h4 | h4
        · exact .inr ⟨b, List.mem_cons_self, by rw [h3]; omega⟩
        · exact .inl (by rw [h3]; omega)
      · exact .inr ⟨v, List.mem_cons_of_mem _ hv, e⟩
def psP (L : List Int) (i : Nat) : Nat := (L.getD i 0).toNat
def folP (g : Gm) (W C s l : List Int) (w : Int) : Prop := ∀ i : Nat, i < (s ++ l).length → g.own.getD (psP (s ++ l) i) 0 = w ∧ W.getD (psP (s ++ l) i) 0 = w → aftP (s ++ l) l i = C.getD (psP (s ++ l) i) 0
open Classical in
noncomputable def Zcn (g : Gm) (W C s l : List Int) : Bool := decide (folP g W C s l (W.getD (psP (s ++ l) 0) 0) ∧ ((∃ i, i < (s ++ l).length ∧ W.getD (psP (s ++ l) i) 0 ≠ W.getD (psP (s ++ l) 0) 0) ∨ wonP g l ≠ W.getD (psP (s ++ l) 0) 0))
variable {g : Gm} {W C s l : List Int}
open Classical in
theorem against_iff : Zcn g W C s l = true ↔ (folP g W C s l (W.getD (psP (s ++ l) 0) 0) ∧ ((∃ i, i < (s ++ l).length ∧ W.getD (psP (s ++ l) i) 0 ≠ W.getD (psP (s ++ l) 0) 0) ∨ wonP g l ≠ W.getD (psP (s ++ l) 0) 0)) := by
  unfold Zcn
  exact decide_eq_true_iff
theorem isP_iff : isP g s l = true ↔ l ≠ [] ∧ (∀ i, i < (s ++ l).length → 0 ≤ (s ++ l).getD i 0 ∧ (s ++ l).getD i 0 < (g.own.length : Int)) ∧ ∀ i : Nat, i < (s ++ l).length → aftP (s ++ l) l i ∈ g.nxt.getD (psP (s ++ l) i) [] := by
  unfold isP
  exact decide_eq_true_iff
theorem fol_win (hv : Zbh g = true) {w : Int} {c : Nat → Nat} (hS : Sol (fun v => g.own.getD v 0) (fun v => g.pri.getD v 0) (rws g.nxt) (fun v => v < g.own.length) (fun v => W.getD v 0) c w) (hw : w = 0 ∨ w = 1) (hi : isP g s l = true) (h0 : W.getD (psP (s ++ l) 0) 0 = w)
    (hf : ∀ i : Nat, i < (s ++ l).length → g.own.getD (psP (s ++ l) i) 0 = w → W.getD (psP (s ++ l) i) 0 = w → (aftP (s ++ l) l i).toNat = c (psP (s ++ l) i)) : (∀ i, i < (s ++ l).length → W.getD (psP (s ++ l) i) 0 = w) ∧ wonP g l = w := by
  have hG := gok (validB_iff.1 hv)
  obtain ⟨hl, hb, hn⟩ := isP_iff.1 hi
  have hl0 : 0 < l.length := List.length_pos_iff.2 hl
  have hal : (s ++ l).length = s.length + l.length := List.length_append ..
  have hpb : ∀ i, i < (s ++ l).length → psP (s ++ l) i < g.own.length := fun i hi => by
    have := hb i hi
    show ((s ++ l).getD i 0).toNat < _
    omega
  have hE : ∀ i, i < (s ++ l).length → W.getD (psP (s ++ l) i) 0 = w → Stp (fun v => g.own.getD v 0) (rws g.nxt) (fun v => v < g.own.length) (fun v => W.getD v 0) c w (psP (s ++ l) i) (aftP (s ++ l) l i).toNat ∧ W.getD (aftP (s ++ l) l i).toNat 0 = w := fun i hil hwi => by
    have hm : (aftP (s ++ l) l i).toNat ∈ rws g.nxt (psP (s ++ l) i) := List.mem_map.2 ⟨_, hn i hil, rfl⟩
    have htn := hG.row _ (hpb i hil) _ hm
    by_cases ho : g.own.getD (psP (s ++ l) i) 0 = w
    · have e := hf i hil ho hwi
      obtain ⟨_, _, m3⟩ := hS.mine _ (hpb i hil) hwi ho
      exact ⟨⟨⟨hpb i hil, hwi⟩, htn, fun _ => e, fun h => absurd ho h⟩, by rw [e]; exact m3⟩
    · exact ⟨⟨⟨hpb i hil, hwi⟩, htn, fun h => absurd h ho, fun _ => hm⟩, hS.his _ (hpb i hil) hwi ho _ hm htn⟩
  have haf : ∀ i, i + 1 < (s ++ l).length → (aftP (s ++ l) l i).toNat = psP (s ++ l) (i + 1) := fun i h => by
    unfold aftP psP
    rw [if_pos (by omega), show ((i : Int) + 1).toNat = i + 1 by omega]
  have hlast : (aftP (s ++ l) l ((s ++ l).length - 1 : Nat)).toNat = psP (s ++ l) s.length := by
    unfold aftP psP
    rw [if_neg (by omega)]
    congr 1
    simp only [List.getD_eq_getElem?_getD]
    rw [List.getElem?_append_right (Nat.le_refl _), Nat.sub_self]
  have hall : ∀ i, i < (s ++ l).length → W.getD (psP (s ++ l) i) 0 = w := by
    intro i
    induction i with
    | zero => intro _; exact h0
    | succ i ih =>
      intro hi2
      have := (hE i (by omega) (ih (by omega))).2
      rw [haf i hi2] at this
      exact this
  refine ⟨hall, Classical.byContradiction fun hne => ?_⟩
  obtain ⟨m1, m2, m3⟩ := Zgg (f := fun v => g.pri.getD v.toNat 0) (l := l) (a := 0)
  have hlp : ∀ k, k < l.length → (s ++ l).getD (s.length + k) 0 = l.getD k 0 := fun k hk => by
    simp only [List.getD_eq_getElem?_getD]
    rw [List.getElem?_append_right (by omega), show s.length + k - s.length = k by omega]
  have hle : ∀ k, k < l.length → g.pri.getD (psP (s ++ l) (s.length + k)) 0 ≤ l.foldl (fun a v => max a (g.pri.getD v.toNat 0)) 0 := fun k hk => by
    show g.pri.getD ((s ++ l).getD (s.length + k) 0).toNat 0 ≤ _
    rw [hlp k hk]
    refine m1 _ ?_
    rw [List.getD_eq_getElem?_getD, List.getElem?_eq_getElem hk]; exact List.getElem_mem ..
  obtain ⟨k, hk, hke⟩ : ∃ k, k < l.length ∧ g.pri.getD (psP (s ++ l) (s.length + k)) 0 = l.foldl (fun a v => max a (g.pri.getD v.toNat 0)) 0 := by
    rcases m3 with e | ⟨v, hvm, e⟩
    · refine ⟨0, hl0, Int.le_antisymm (hle 0 hl0) ?_⟩
      rw [e]
      exact (hG.pri _ (hpb _ (by omega))).1
    · obtain ⟨j, hj, rfl⟩ := Zgm hvm
      refine ⟨j, hj, ?_⟩
      show g.pri.getD ((s ++ l).getD (s.length + j) 0).toNat 0 = _
      rw [hlp j hj]; exact e
  have hcy : Cyc (Stp (fun v => g.own.getD v 0) (rws g.nxt) (fun v => v < g.own.length) (fun v => W.getD v 0) c w) (fun v => g.pri.getD v 0) (psP (s ++ l) (s.length + k)) := by
    refine ring_cyc (f := fun k => psP (s ++ l) (s.length + k)) (m := l.length) hl0 (fun j hj => ?_) ?_ hk
    · have := (hE (s.length + j) (by omega) (hall _ (by omega))).1
      rw [haf _ (by omega)] at this
      refine ⟨this, ?_⟩
      show g.pri.getD (psP (s ++ l) (s.length + (j + 1))) 0 ≤ g.pri.getD (psP (s ++ l) (s.length + k)) 0
      rw [hke]; exact hle (j + 1) (by omega)
    · have := (hE (s.length + (l.length - 1)) (by omega) (hall _ (by omega))).1
      rw [show s.length + (l.length - 1) = (s ++ l).length - 1 by omega, hlast] at this
      rw [show s.length + (l.length - 1) = (s ++ l).length - 1 by omega]
      refine ⟨this, ?_⟩
      show g.pri.getD (psP (s ++ l) (s.length + 0)) 0 ≤ g.pri.getD (psP (s ++ l) (s.length + k)) 0
      rw [hke]; exact hle 0 hl0
  refine hS.cyc _ (hpb _ (by omega)) (hall _ (by omega)) ?_ hcy
  show g.pri.getD (psP (s ++ l) (s.length + k)) 0 % 2 ≠ w
  rw [hke]
  exact hne
theorem sol_no (hv : Zbh g = true) (hs : solB g W C = true) (hi : isP g s l = true) : Zcn g W C s l = false := by
  obtain ⟨hc, hS⟩ := (solB_iff (validB_iff.1 hv)).1 hs
  obtain ⟨_, _, hc⟩ := of_decide_eq_true hc
  obtain ⟨hl, hb, _⟩ := isP_iff.1 hi
  have hl0 : 0 < l.length := List.length_pos_iff.2 hl
  have h0 : psP (s ++ l) 0 < g.own.length := by
    have := hb 0 (by rw [List.length_append]; omega)
    show ((s ++ l).getD 0 0).toNat < _
    omega
  have hw := (hc _ h0).1
  cases hag : Zcn g W C s l with
  | false => rfl
  | true =>
  exfalso
  obtain ⟨hf, hx⟩ := against_iff.1 hag
  obtain ⟨a1, a2⟩ := fol_win hv (hS _ hw) hw hi rfl fun i hi2 ho hw2 => by rw [hf i hi2 ⟨ho, hw2⟩]
  rcases hx with ⟨i, hi2, h⟩ | h
  · exact h (a1 i hi2)
  · exact h a2
end
end Go.Proofs.YtdhoadhkkecjjaaDoor.Cal
