/- Own texts, merged. -/
import Derived.Test.YtdhoadhkkecjjaaDoorS7
set_option linter.unusedVariables false
set_option linter.unusedSimpArgs false
open Nat (reduceAdd reduceSub reduceMul reduceEqDiff reduceLeDiff reduceLT)
namespace Go.Proofs.YtdhoadhkkecjjaaDoor.Cal
open Go Pl
def allS : Spec
  | [.agg (.cons (.roI s) (.cons (.roI l) .nil))] => some ⟨s.length ≤ 100000 ∧ l.length ≤ 100000, .roI (s ++ l), none⟩
  | _ => none
set_option maxRecDepth 4000 in
set_option maxHeartbeats 4000000 in
theorem all_ok : Zb2 Tryd.prog 35 allS := by
  refine Za8 htb (fn := Tryd.f35) (by kernel_rfl) (by kernel_rfl) rfl (fun args r hS => ?_) (fun args r hS hob hl => ?_)
  · unfold allS at hS; split at hS <;> first | (cases hS; done) | (cases hS; exact Nat.le_of_ble_eq_true rfl)
  unfold allS at hS
  split at hS
  case h_2 => cases hS
  rename_i s l
  simp only [Option.some.injEq] at hS
  subst hS
  simp only [lenP, mkL, lim] at hl
  dsimp only at hob
  obtain ⟨h1, h2⟩ := hob
  repeat' first
    | with_reducible first | apply Zar | apply Zan | apply Zaa | apply Zac | apply Zah | apply Zap | apply Zag | apply Zaj | apply Zaq | apply Zas | apply Zao | apply Zal | apply Zab | apply Zak
    | ((with_reducible refine Zai ?_ ?_); exact rfl) | ((with_reducible refine Zat ?_); refine Zam rfl ?_ ?_ <;> intro hb <;> (try simp only [zH] at hb)) | ((with_reducible refine Zau 1 ?_ ?_); (· exact rfl); (first | refine Zaf htb hmz noSp fF rfl rfl ?_ | refine Zae hmo htb hmz noSp fF rfl rfl (by kernel_rfl) ?_); intro _ _ _ _ h; simp only [zE, evp, evx, ev1, evLoad, evStore, evBin, evIf, Zad, forall_const, z38, tb, reduceAdd, reduceSub, reduceMul, reduceEqDiff, reduceLeDiff, reduceLT, Nat.reduceBEq, Nat.reduceBNe, ↓reduceIte, reduceIte] at h; obtain ⟨rfl, rfl, rfl, rfl⟩ := h; refine ⟨?_, ?_⟩) | ((with_reducible refine Ob.mk ?_); first | exact trivial | (intros; omega) | ((repeat' first | apply And.intro | (intro a; have b := a; try simp only [zH] at b)) <;> first | assumption | omega | (simp only [zH]; omega)))
  (refine Zae hmo htb hmz noSp (fun i => Nat.beq i 0) rfl rfl (by kernel_rfl) ?_; intro _ _ _ _ h; simp only [zE, evp, evx, ev1, evLoad, evStore, evBin, evIf, Zad, forall_const, z38, tb, reduceAdd, reduceSub, reduceMul, reduceEqDiff, reduceLeDiff, reduceLT, Nat.reduceBEq, Nat.reduceBNe, ↓reduceIte, reduceIte] at h; obtain ⟨rfl, rfl, rfl, rfl⟩ := h; refine ⟨?_, ?_⟩)
  · refine Ob.mk ?_; omega
  refine Zaa ?_
  refine Zei 8 (.roI (s ++ l)) (by simp only [Zbb, Zbu, fzE, fzA, fzR, fzB, set1, nbeq, reduceEqDiff, decide_true, decide_false, ↓reduceIte, reduceIte, cond_true, cond_false, List.take_length, Option.some.injEq]; rfl) (by first | exact rfl | (refine ⟨?_, rfl⟩; first | rfl | (intros; rfl))) (by simp only [Zbb, Zbu, fzE, fzA, fzR, fzB, set1, nbeq, reduceEqDiff, decide_true, decide_false, ↓reduceIte, reduceIte, cond_true, cond_false, List.take_length, Option.some.injEq]; rfl) (by simp only [Zbb, Zbu, fzE, fzA, fzR, fzB, set1, nbeq, reduceEqDiff, decide_true, decide_false, ↓reduceIte, reduceIte, cond_true, cond_false, List.take_length, Option.some.injEq]; rfl) ?_
  repeat' first
    | with_reducible first | apply Zar | apply Zan | apply Zaa | apply Zac | apply Zah | apply Zap | apply Zag | apply Zaj | apply Zaq | apply Zas | apply Zao | apply Zal | apply Zab | apply Zak
    | ((with_reducible refine Zai ?_ ?_); exact rfl) | ((with_reducible refine Zat ?_); refine Zam rfl ?_ ?_ <;> intro hb <;> (try simp only [zH] at hb)) | ((with_reducible refine Zaz ?_); (first | refine Zaf htb hmz noSp fF rfl rfl ?_ | refine Zae hmo htb hmz noSp fF rfl rfl (by kernel_rfl) ?_); intro _ _ _ _ h; simp only [zE, evp, evx, ev1, evLoad, evStore, evBin, evIf, Zad, forall_const, z38, tb, reduceAdd, reduceSub, reduceMul, reduceEqDiff, reduceLeDiff, reduceLT, Nat.reduceBEq, Nat.reduceBNe, ↓reduceIte, reduceIte] at h; obtain ⟨rfl, rfl, rfl, rfl⟩ := h; refine ⟨?_, ?_⟩) | ((with_reducible refine Ob.mk ?_); first | exact trivial | (intros; omega) | ((repeat' first | apply And.intro | (intro a; have b := a; try simp only [zH] at b)) <;> first | assumption | omega | (simp only [zH]; omega)))
  refine Zax rfl rfl (Zaw rfl ?_ rfl)
  rfl
def aftP (l loop : List Int) (i : Int) : Int := if i + 1 < l.length then l.getD (i + 1).toNat 0 else loop.getD 0 0
def aftS : Spec
  | [.agg (.cons (.roI s) (.cons (.roI lp) .nil)), .roI l, .int .i64 i] => some ⟨(0 ≤ i ∧ i < l.length) ∧ 0 < lp.length, .int .i64 (aftP l lp i), none⟩
  | _ => none
set_option maxRecDepth 4000 in
set_option maxHeartbeats 4000000 in
theorem aft_ok : Zb2 Tryd.prog 36 aftS := by
  refine Za8 htb (fn := Tryd.f36) (by kernel_rfl) (by kernel_rfl) rfl (fun args r hS => ?_) (fun args r hS hob hl => ?_)
  · unfold aftS at hS; split at hS <;> first | (cases hS; done) | (cases hS; exact Nat.le_of_ble_eq_true rfl)
  unfold aftS at hS
  split at hS
  case h_2 => cases hS
  rename_i s lp l i
  simp only [Option.some.injEq] at hS
  subst hS
  simp only [lenP, mkL, lim] at hl
  dsimp only at hob
  obtain ⟨⟨h1, h2⟩, h3⟩ := hob
  repeat' first
    | with_reducible first | apply Zar | apply Zan | apply Zaa | apply Zac | apply Zah | apply Zap | apply Zag | apply Zaj | apply Zaq | apply Zas | apply Zao | apply Zal | apply Zab | apply Zak
    | ((with_reducible refine Zai ?_ ?_); exact rfl) | ((with_reducible refine Zat ?_); refine Zam rfl ?_ ?_ <;> intro hb <;> (try simp only [zH] at hb)) | ((with_reducible refine Zau 2 ?_ ?_); (· exact rfl); (with_reducible refine Zau 3 ?_ ?_); (· exact rfl); (first | refine Zaf htb hmz noSp fF rfl rfl ?_ | refine Zae hmo htb hmz noSp fF rfl rfl (by kernel_rfl) ?_); intro _ _ _ _ h; simp only [zE, evp, evx, ev1, evLoad, evStore, evBin, evIf, Zad, forall_const, z38, tb, reduceAdd, reduceSub, reduceMul, reduceEqDiff, reduceLeDiff, reduceLT, Nat.reduceBEq, Nat.reduceBNe, ↓reduceIte, reduceIte] at h; obtain ⟨rfl, rfl, rfl, rfl⟩ := h; refine ⟨?_, ?_⟩) | ((with_reducible refine Ob.mk ?_); first | exact trivial | (intros; omega) | ((repeat' first | apply And.intro | (intro a; have b := a; try simp only [zH] at b)) <;> first | assumption | omega | (simp only [zH]; omega)))
  · repeat' first
      | with_reducible first | apply Zar | apply Zan | apply Zaa | apply Zac | apply Zah | apply Zap | apply Zag | apply Zaj | apply Zaq | apply Zas | apply Zao | apply Zal | apply Zab | apply Zak
      | ((with_reducible refine Zai ?_ ?_); exact rfl) | ((with_reducible refine Zat ?_); refine Zam rfl ?_ ?_ <;> intro hb <;> (try simp only [zH] at hb)) | ((with_reducible refine Zaz ?_); (first | refine Zaf htb hmz noSp fF rfl rfl ?_ | refine Zae hmo htb hmz noSp fF rfl rfl (by kernel_rfl) ?_); intro _ _ _ _ h; simp only [zE, evp, evx, ev1, evLoad, evStore, evBin, evIf, Zad, forall_const, z38, tb, reduceAdd, reduceSub, reduceMul, reduceEqDiff, reduceLeDiff, reduceLT, Nat.reduceBEq, Nat.reduceBNe, ↓reduceIte, reduceIte] at h; obtain ⟨rfl, rfl, rfl, rfl⟩ := h; refine ⟨?_, ?_⟩) | ((with_reducible refine Ob.mk ?_); first | exact trivial | (intros; omega) | ((repeat' first | apply And.intro | (intro a; have b := a; try simp only [zH] at b)) <;> first | assumption | omega | (simp only [zH]; omega)))
    refine Zax rfl rfl (Zaw rfl ?_ rfl)
    show AV.int .i64 _ = AV.int .i64 (aftP l lp i)
    unfold aftP
    rw [if_pos hb]
  · repeat' first
      | with_reducible first | apply Zar | apply Zan | apply Zaa | apply Zac | apply Zah | apply Zap | apply Zag | apply Zaj | apply Zaq | apply Zas | apply Zao | apply Zal | apply Zab | apply Zak
      | ((with_reducible refine Zai ?_ ?_); exact rfl) | ((with_reducible refine Zat ?_); refine Zam rfl ?_ ?_ <;> intro hb <;> (try simp only [zH] at hb)) | ((with_reducible refine Zaz ?_); (first | refine Zaf htb hmz noSp fF rfl rfl ?_ | refine Zae hmo htb hmz noSp fF rfl rfl (by kernel_rfl) ?_); intro _ _ _ _ h; simp only [zE, evp, evx, ev1, evLoad, evStore, evBin, evIf, Zad, forall_const, z38, tb, reduceAdd, reduceSub, reduceMul, reduceEqDiff, reduceLeDiff, reduceLT, Nat.reduceBEq, Nat.reduceBNe, ↓reduceIte, reduceIte] at h; obtain ⟨rfl, rfl, rfl, rfl⟩ := h; refine ⟨?_, ?_⟩) | ((with_reducible refine Ob.mk ?_); first | exact trivial | (intros; omega) | ((repeat' first | apply And.intro | (intro a; have b := a; try simp only [zH] at b)) <;> first | assumption | omega | (simp only [zH]; omega)))
    refine Zax rfl rfl (Zaw rfl ?_ rfl)
    show AV.int .i64 _ = AV.int .i64 (aftP l lp i)
    unfold aftP
    rw [if_neg (by omega)]
def isP (g : Gm) (s lp : List Int) : Bool := decide (lp ≠ [] ∧ (∀ i, i < (s ++ lp).length → 0 ≤ (s ++ lp).getD i 0 ∧ (s ++ lp).getD i 0 < (g.own.length : Int)) ∧ ∀ i, i < (s ++ lp).length → aftP (s ++ lp) lp i ∈ g.nxt.getD ((s ++ lp).getD i 0).toNat [])
def isS : Spec
  | [.agg (.cons (.roI o) (.cons (.roI p) (.cons (.roII x) .nil))), .agg (.cons (.roI s) (.cons (.roI lp) .nil))] => some ⟨(s.length ≤ 100000 ∧ lp.length ≤ 100000) ∧ x.length = o.length, .bool (isP ⟨o, p, x⟩ s lp), none⟩
  | _ => none
def spIs : Nat → Option Spec
  | 35 => some allS
  | 36 => some aftS
  | 31 => some hasS
  | _ => none
theorem Zbr : SpOK Tryd.prog spIs := by
  intro f S h
  unfold spIs at h
  split at h
  · cases h; exact all_ok
  · cases h; exact aft_ok
  · cases h; exact Zhe
  · cases h
set_option maxRecDepth 4000 in
set_option maxHeartbeats 4000000 in
theorem is_ok : Zb2 Tryd.prog 15 isS := by
  refine Za8 htb (fn := Tryd.f15) (by kernel_rfl) (by kernel_rfl) rfl (fun args r hS => ?_) (fun args r hS hob hl => ?_)
  · unfold isS at hS; split at hS <;> first | (cases hS; done) | (cases hS; exact Nat.le_of_ble_eq_true rfl)
  unfold isS at hS
  split at hS
  case h_2 => cases hS
  rename_i o p x s lp
  simp only [Option.some.injEq] at hS
  subst hS
  simp only [lenP, mkL, lim] at hl
  dsimp only at hob
  obtain ⟨⟨h1, h2⟩, h3⟩ := hob
  have hal : (s ++ lp).length = s.length + lp.length := List.length_append ..
  repeat' first
    | with_reducible first | apply Zar | apply Zan | apply Zaa | apply Zac | apply Zah | apply Zap | apply Zag | apply Zaj | apply Zaq | apply Zas | apply Zao | apply Zal | apply Zab | apply Zak
    | ((with_reducible refine Zai ?_ ?_); exact rfl) | ((with_reducible refine Zat ?_); refine Zam rfl ?_ ?_ <;> intro hb <;> (try simp only [zH] at hb)) | ((with_reducible refine Zau 2 ?_ ?_); (· exact rfl); (with_reducible refine Zau 3 ?_ ?_); (· exact rfl); (first | refine Zaf htb hmz Zbr fF rfl rfl ?_ | refine Zae hmo htb hmz Zbr fF rfl rfl (by kernel_rfl) ?_); intro _ _ _ _ h; simp only [zE, evp, evx, ev1, evLoad, evStore, evBin, evIf, Zad, forall_const, z38, tb, reduceAdd, reduceSub, reduceMul, reduceEqDiff, reduceLeDiff, reduceLT, Nat.reduceBEq, Nat.reduceBNe, ↓reduceIte, reduceIte, spIs, allS, aftS, hasS] at h; obtain ⟨rfl, rfl, rfl, rfl⟩ := h; refine ⟨?_, ?_⟩) | ((with_reducible refine Ob.mk ?_); first | exact trivial | (intros; omega) | ((repeat' first | apply And.intro | (intro a; have b := a; try simp only [zH] at b)) <;> first | assumption | omega | (simp only [zH]; omega)))
  · repeat' first
      | with_reducible first | apply Zar | apply Zan | apply Zaa | apply Zac | apply Zah | apply Zap | apply Zag | apply Zaj | apply Zaq | apply Zas | apply Zao | apply Zal | apply Zab | apply Zak
      | ((with_reducible refine Zai ?_ ?_); exact rfl) | ((with_reducible refine Zat ?_); refine Zam rfl ?_ ?_ <;> intro hb <;> (try simp only [zH] at hb)) | ((with_reducible refine Zaz ?_); (first | refine Zaf htb hmz Zbr fF rfl rfl ?_ | refine Zae hmo htb hmz Zbr fF rfl rfl (by kernel_rfl) ?_); intro _ _ _ _ h; simp only [zE, evp, evx, ev1, evLoad, evStore, evBin, evIf, Zad, forall_const, z38, tb, reduceAdd, reduceSub, reduceMul, reduceEqDiff, reduceLeDiff, reduceLT, Nat.reduceBEq, Nat.reduceBNe, ↓reduceIte, reduceIte, spIs, allS, aftS, hasS] at h; obtain ⟨rfl, rfl, rfl, rfl⟩ := h; refine ⟨?_, ?_⟩) | ((with_reducible refine Ob.mk ?_); first | exact trivial | (intros; omega) | ((repeat' first | apply And.intro | (intro a; have b := a; try simp only [zH] at b)) <;> first | assumption | omega | (simp only [zH]; omega)))
    refine Zax rfl rfl (Zaw rfl ?_ rfl)
    have : isP ⟨o, p, x⟩ s lp = false := decide_eq_false fun h => h.1 (List.length_eq_zero_iff.1 (by omega))
    rw [this]; rfl
  have hlp : lp ≠ [] := fun h => by
    rw [h] at hb; exact absurd rfl hb
  have hl0 : 0 < lp.length := List.length_pos_iff.2 hlp
  have hP : isP ⟨o, p, x⟩ s lp = decide (lp ≠ [] ∧ (∀ i, i < (s ++ lp).length → 0 ≤ (s ++ lp).getD i 0 ∧ (s ++ lp).getD i 0 < (o.length : Int)) ∧ ∀ i : Nat, i < (s ++ lp).length → aftP (s ++ lp) lp i ∈ x.getD ((s ++ lp).getD i 0).toNat []) := by
    unfold isP
    exact decide_eq_decide.2 Iff.rfl
  repeat' first
    | with_reducible first | apply Zar | apply Zan | apply Zaa | apply Zac | apply Zah | apply Zap | apply Zag | apply Zaj | apply Zaq | apply Zas | apply Zao | apply Zal | apply Zab | apply Zak
    | ((with_reducible refine Zai ?_ ?_); exact rfl) | ((with_reducible refine Zat ?_); refine Zam rfl ?_ ?_ <;> intro hb <;> (try simp only [zH] at hb)) | ((with_reducible refine Zau 5 ?_ ?_); (· exact rfl); (first | refine Zaf htb hmz Zbr fF rfl rfl ?_ | refine Zae hmo htb hmz Zbr fF rfl rfl (by kernel_rfl) ?_); intro _ _ _ _ h; simp only [zE, evp, evx, ev1, evLoad, evStore, evBin, evIf, Zad, forall_const, z38, tb, reduceAdd, reduceSub, reduceMul, reduceEqDiff, reduceLeDiff, reduceLT, Nat.reduceBEq, Nat.reduceBNe, ↓reduceIte, reduceIte, spIs, allS, aftS, hasS] at h; obtain ⟨rfl, rfl, rfl, rfl⟩ := h; refine ⟨?_, ?_⟩) | ((with_reducible refine Ob.mk ?_); first | exact trivial | (intros; omega) | ((repeat' first | apply And.intro | (intro a; have b := a; try simp only [zH] at b)) <;> first | assumption | omega | (simp only [zH]; omega)))
  generalize s ++ lp = L at *
  refine Za5 (τ := Nat) (fun i => i ≤ L.length ∧ ∀ j, j < i → 0 ≤ L.getD j 0 ∧ L.getD j 0 < (o.length : Int)) (fun i => ⟨13, [(18, .int .i64 i), (17, .int .i64 L.length), (16, .roI L), (5, .roI L), (3, .rop (.agg (.cons (.roI s) (.cons (.roI lp) .nil)))), (2, .rop (.agg (.cons (.roI o) (.cons (.roI p) (.cons (.roII x) .nil)))))], [], []⟩) (fun i => L.length - i) 0 [] ?_ ⟨Nat.zero_le _, fun j hj => absurd hj (Nat.not_lt_zero j)⟩ ?_
  · (refine ⟨rfl, ?_, ?_⟩ <;> simp only [zE, evp, evx, ev1, evLoad, evStore, evBin, evIf, Zad, forall_const, z38, tb, reduceAdd, reduceSub, reduceMul, reduceEqDiff, reduceLeDiff, reduceLT, Nat.reduceBEq, Nat.reduceBNe, ↓reduceIte, reduceIte, spIs, allS, aftS, hasS, zI])
  rintro i ⟨hi, hk⟩
  repeat' first
    | with_reducible first | apply Zar | apply Zan | apply Zaa | apply Zac | apply Zah | apply Zap | apply Zag | apply Zaj | apply Zaq | apply Zas | apply Zao | apply Zal | apply Zab | apply Zak
    | ((with_reducible refine Zai ?_ ?_); exact rfl) | ((with_reducible refine Zat ?_); refine Zam rfl ?_ ?_ <;> intro hb <;> (try simp only [zH] at hb)) | ((with_reducible refine Zau 6 ?_ ?_); (· exact rfl); (with_reducible refine Zau 10 ?_ ?_); (· exact rfl); (first | refine Zaf htb hmz Zbr fF rfl rfl ?_ | refine Zae hmo htb hmz Zbr fF rfl rfl (by kernel_rfl) ?_); intro _ _ _ _ h; simp only [zE, evp, evx, ev1, evLoad, evStore, evBin, evIf, Zad, forall_const, z38, tb, reduceAdd, reduceSub, reduceMul, reduceEqDiff, reduceLeDiff, reduceLT, Nat.reduceBEq, Nat.reduceBNe, ↓reduceIte, reduceIte, spIs, allS, aftS, hasS] at h; obtain ⟨rfl, rfl, rfl, rfl⟩ := h; refine ⟨?_, ?_⟩) | ((with_reducible refine Ob.mk ?_); first | exact trivial | (intros; omega) | ((repeat' first | apply And.intro | (intro a; have b := a; try simp only [zH] at b)) <;> first | assumption | omega | (simp only [zH]; omega)))
  · have hil : i < L.length := by omega
    repeat' first
      | with_reducible first | apply Zar | apply Zan | apply Zaa | apply Zac | apply Zah | apply Zap | apply Zag | apply Zaj | apply Zaq | apply Zas | apply Zao | apply Zal | apply Zab | apply Zak
      | ((with_reducible refine Zai ?_ ?_); exact rfl) | ((with_reducible refine Zat ?_); refine Zam rfl ?_ ?_ <;> intro hb <;> (try simp only [zH] at hb)) | ((with_reducible refine Zau 8 ?_ ?_); (· exact rfl); (with_reducible refine Zau 9 ?_ ?_); (· exact rfl); (first | refine Zaf htb hmz Zbr fF rfl rfl ?_ | refine Zae hmo htb hmz Zbr fF rfl rfl (by kernel_rfl) ?_); intro _ _ _ _ h; simp only [zE, evp, evx, ev1, evLoad, evStore, evBin, evIf, Zad, forall_const, z38, tb, reduceAdd, reduceSub, reduceMul, reduceEqDiff, reduceLeDiff, reduceLT, Nat.reduceBEq, Nat.reduceBNe, ↓reduceIte, reduceIte, spIs, allS, aftS, hasS] at h; obtain ⟨rfl, rfl, rfl, rfl⟩ := h; refine ⟨?_, ?_⟩) | ((with_reducible refine Ob.mk ?_); first | exact trivial | (intros; omega) | ((repeat' first | apply And.intro | (intro a; have b := a; try simp only [zH] at b)) <;> first | assumption | omega | (simp only [zH]; omega)))
    · repeat' first
        | with_reducible first | apply Zar | apply Zan | apply Zaa | apply Zac | apply Zah | apply Zap | apply Zag | apply Zaj | apply Zaq | apply Zas | apply Zao | apply Zal | apply Zab | apply Zak
        | ((with_reducible refine Zai ?_ ?_); exact rfl) | ((with_reducible refine Zat ?_); refine Zam rfl ?_ ?_ <;> intro hb <;> (try simp only [zH] at hb)) | ((with_reducible refine Zaz ?_); (first | refine Zaf htb hmz Zbr fF rfl rfl ?_ | refine Zae hmo htb hmz Zbr fF rfl rfl (by kernel_rfl) ?_); intro _ _ _ _ h; simp only [zE, evp, evx, ev1, evLoad, evStore, evBin, evIf, Zad, forall_const, z38, tb, reduceAdd, reduceSub, reduceMul, reduceEqDiff, reduceLeDiff, reduceLT, Nat.reduceBEq, Nat.reduceBNe, ↓reduceIte, reduceIte, spIs, allS, aftS, hasS] at h; obtain ⟨rfl, rfl, rfl, rfl⟩ := h; refine ⟨?_, ?_⟩) | ((with_reducible refine Ob.mk ?_); first | exact trivial | (intros; omega) | ((repeat' first | apply And.intro | (intro a; have b := a; try simp only [zH] at b)) <;> first | assumption | omega | (simp only [zH]; omega)))
      refine Zax rfl rfl (Zaw rfl ?_ rfl)
      have hf : isP ⟨o, p, x⟩ s lp = false := by
        rw [hP]
        exact decide_eq_false fun h => by
          have := h.2.1 i hil
          omega
      rw [hf]; rfl
    · repeat' first
        | with_reducible first | apply Zar | apply Zan | apply Zaa | apply Zac | apply Zah | apply Zap | apply Zag | apply Zaj | apply Zaq | apply Zas | apply Zao | apply Zal | apply Zab | apply Zak
        | ((with_reducible refine Zai ?_ ?_); exact rfl) | ((with_reducible refine Zat ?_); refine Zam rfl ?_ ?_ <;> intro hb <;> (try simp only [zH] at hb)) | ((with_reducible refine Zaz ?_); (first | refine Zaf htb hmz Zbr fF rfl rfl ?_ | refine Zae hmo htb hmz Zbr fF rfl rfl (by kernel_rfl) ?_); intro _ _ _ _ h; simp only [zE, evp, evx, ev1, evLoad, evStore, evBin, evIf, Zad, forall_const, z38, tb, reduceAdd, reduceSub, reduceMul, reduceEqDiff, reduceLeDiff, reduceLT, Nat.reduceBEq, Nat.reduceBNe, ↓reduceIte, reduceIte, spIs, allS, aftS, hasS] at h; obtain ⟨rfl, rfl, rfl, rfl⟩ := h; refine ⟨?_, ?_⟩) | ((with_reducible refine Ob.mk ?_); first | exact trivial | (intros; omega) | ((repeat' first | apply And.intro | (intro a; have b := a; try simp only [zH] at b)) <;> first | assumption | omega | (simp only [zH]; omega)))
      refine back (i + 1) [] ?_ ⟨by omega, fun j hj => ?_⟩ (by omega)
      · (refine ⟨rfl, ?_, ?_⟩ <;> simp only [zE, evp, evx, ev1, evLoad, evStore, evBin, evIf, Zad, forall_const, z38, tb, reduceAdd, reduceSub, reduceMul, reduceEqDiff, reduceLeDiff, reduceLT, Nat.reduceBEq, Nat.reduceBNe, ↓reduceIte, reduceIte, spIs, allS, aftS, hasS, zI])
      · rcases Nat.lt_succ_iff_lt_or_eq.1 hj with h | rfl
        · exact hk j h
        · omega
  have hie : i = L.length := by omega
  subst hie
  repeat' first
    | with_reducible first | apply Zar | apply Zan | apply Zaa | apply Zac | apply Zah | apply Zap | apply Zag | apply Zaj | apply Zaq | apply Zas | apply Zao | apply Zal | apply Zab | apply Zak
    | ((with_reducible refine Zai ?_ ?_); exact rfl) | ((with_reducible refine Zat ?_); refine Zam rfl ?_ ?_ <;> intro hb <;> (try simp only [zH] at hb)) | ((with_reducible refine Zaz ?_); (first | refine Zaf htb hmz Zbr fF rfl rfl ?_ | refine Zae hmo htb hmz Zbr fF rfl rfl (by kernel_rfl) ?_); intro _ _ _ _ h; simp only [zE, evp, evx, ev1, evLoad, evStore, evBin, evIf, Zad, forall_const, z38, tb, reduceAdd, reduceSub, reduceMul, reduceEqDiff, reduceLeDiff, reduceLT, Nat.reduceBEq, Nat.reduceBNe, ↓reduceIte, reduceIte, spIs, allS, aftS, hasS] at h; obtain ⟨rfl, rfl, rfl, rfl⟩ := h; refine ⟨?_, ?_⟩) | ((with_reducible refine Ob.mk ?_); first | exact trivial | (intros; omega) | ((repeat' first | apply And.intro | (intro a; have b := a; try simp only [zH] at b)) <;> first | assumption | omega | (simp only [zH]; omega)))
  refine Za5 (τ := Nat) (fun i => i ≤ L.length ∧ ∀ j : Nat, j < i → aftP L lp j ∈ x.getD (L.getD j 0).toNat []) (fun i => ⟨17, [(34, .int .i64 i), (33, .int .i64 L.length), (32, .roI L), (5, .roI L), (3, .rop (.agg (.cons (.roI s) (.cons (.roI lp) .nil)))), (2, .rop (.agg (.cons (.roI o) (.cons (.roI p) (.cons (.roII x) .nil)))))], [], []⟩) (fun i => L.length - i) 0 [] ?_ ⟨Nat.zero_le _, fun j hj => absurd hj (Nat.not_lt_zero j)⟩ ?_
  · (refine ⟨rfl, ?_, ?_⟩ <;> simp only [zE, evp, evx, ev1, evLoad, evStore, evBin, evIf, Zad, forall_const, z38, tb, reduceAdd, reduceSub, reduceMul, reduceEqDiff, reduceLeDiff, reduceLT, Nat.reduceBEq, Nat.reduceBNe, ↓reduceIte, reduceIte, spIs, allS, aftS, hasS, zI])
  rintro i ⟨hi, hk2⟩
  have hk1 := hk i
  repeat' first
    | with_reducible first | apply Zar | apply Zan | apply Zaa | apply Zac | apply Zah | apply Zap | apply Zag | apply Zaj | apply Zaq | apply Zas | apply Zao | apply Zal | apply Zab | apply Zak
    | ((with_reducible refine Zai ?_ ?_); exact rfl) | ((with_reducible refine Zat ?_); refine Zam rfl ?_ ?_ <;> intro hb <;> (try simp only [zH] at hb)) | ((with_reducible refine Zau 12 ?_ ?_); (· exact rfl); (with_reducible refine Zau 16 ?_ ?_); (· exact rfl); (first | refine Zaf htb hmz Zbr fF rfl rfl ?_ | refine Zae hmo htb hmz Zbr fF rfl rfl (by kernel_rfl) ?_); intro _ _ _ _ h; simp only [zE, evp, evx, ev1, evLoad, evStore, evBin, evIf, Zad, forall_const, z38, tb, reduceAdd, reduceSub, reduceMul, reduceEqDiff, reduceLeDiff, reduceLT, Nat.reduceBEq, Nat.reduceBNe, ↓reduceIte, reduceIte, spIs, allS, aftS, hasS] at h; obtain ⟨rfl, rfl, rfl, rfl⟩ := h; refine ⟨?_, ?_⟩) | ((with_reducible refine Ob.mk ?_); first | exact trivial | (intros; omega) | ((repeat' first | apply And.intro | (intro a; have b := a; try simp only [zH] at b)) <;> first | assumption | omega | (simp only [zH]; omega)))
  · have hil : i < L.length := by omega
    have hk1 := hk1 hil
    repeat' first
      | with_reducible first | apply Zar | apply Zan | apply Zaa | apply Zac | apply Zah | apply Zap | apply Zag | apply Zaj | apply Zaq | apply Zas | apply Zao | apply Zal | apply Zab | apply Zak
      | ((with_reducible refine Zai ?_ ?_); exact rfl) | ((with_reducible refine Zat ?_); refine Zam rfl ?_ ?_ <;> intro hb <;> (try simp only [zH] at hb)) | ((with_reducible refine Zau 14 ?_ ?_); (· exact rfl); (with_reducible refine Zau 15 ?_ ?_); (· exact rfl); (first | refine Zaf htb hmz Zbr fF rfl rfl ?_ | refine Zae hmo htb hmz Zbr fF rfl rfl (by kernel_rfl) ?_); intro _ _ _ _ h; simp only [zE, evp, evx, ev1, evLoad, evStore, evBin, evIf, Zad, forall_const, z38, tb, reduceAdd, reduceSub, reduceMul, reduceEqDiff, reduceLeDiff, reduceLT, Nat.reduceBEq, Nat.reduceBNe, ↓reduceIte, reduceIte, spIs, allS, aftS, hasS] at h; obtain ⟨rfl, rfl, rfl, rfl⟩ := h; refine ⟨?_, ?_⟩) | ((with_reducible refine Ob.mk ?_); first | exact trivial | (intros; omega) | ((repeat' first | apply And.intro | (intro a; have b := a; try simp only [zH] at b)) <;> first | assumption | omega | (simp only [zH]; omega)))
    · repeat' first
        | with_reducible first | apply Zar | apply Zan | apply Zaa | apply Zac | apply Zah | apply Zap | apply Zag | apply Zaj | apply Zaq | apply Zas | apply Zao | apply Zal | apply Zab | apply Zak
        | ((with_reducible refine Zai ?_ ?_); exact rfl) | ((with_reducible refine Zat ?_); refine Zam rfl ?_ ?_ <;> intro hb <;> (try simp only [zH] at hb)) | ((with_reducible refine Zaz ?_); (first | refine Zaf htb hmz Zbr fF rfl rfl ?_ | refine Zae hmo htb hmz Zbr fF rfl rfl (by kernel_rfl) ?_); intro _ _ _ _ h; simp only [zE, evp, evx, ev1, evLoad, evStore, evBin, evIf, Zad, forall_const, z38, tb, reduceAdd, reduceSub, reduceMul, reduceEqDiff, reduceLeDiff, reduceLT, Nat.reduceBEq, Nat.reduceBNe, ↓reduceIte, reduceIte, spIs, allS, aftS, hasS] at h; obtain ⟨rfl, rfl, rfl, rfl⟩ := h; refine ⟨?_, ?_⟩) | ((with_reducible refine Ob.mk ?_); first | exact trivial | (intros; omega) | ((repeat' first | apply And.intro | (intro a; have b := a; try simp only [zH] at b)) <;> first | assumption | omega | (simp only [zH]; omega)))
      refine Zax rfl rfl (Zaw rfl ?_ rfl)
      have hf : isP ⟨o, p, x⟩ s lp = false := by
        rw [hP]
        exact decide_eq_false fun h => hb (h.2.2 i hil)
      rw [hf]; rfl
    · repeat' first
        | with_reducible first | apply Zar | apply Zan | apply Zaa | apply Zac | apply Zah | apply Zap | apply Zag | apply Zaj | apply Zaq | apply Zas | apply Zao | apply Zal | apply Zab | apply Zak
        | ((with_reducible refine Zai ?_ ?_); exact rfl) | ((with_reducible refine Zat ?_); refine Zam rfl ?_ ?_ <;> intro hb <;> (try simp only [zH] at hb)) | ((with_reducible refine Zaz ?_); (first | refine Zaf htb hmz Zbr fF rfl rfl ?_ | refine Zae hmo htb hmz Zbr fF rfl rfl (by kernel_rfl) ?_); intro _ _ _ _ h; simp only [zE, evp, evx, ev1, evLoad, evStore, evBin, evIf, Zad, forall_const, z38, tb, reduceAdd, reduceSub, reduceMul, reduceEqDiff, reduceLeDiff, reduceLT, Nat.reduceBEq, Nat.reduceBNe, ↓reduceIte, reduceIte, spIs, allS, aftS, hasS] at h; obtain ⟨rfl, rfl, rfl, rfl⟩ := h; refine ⟨?_, ?_⟩) | ((with_reducible refine Ob.mk ?_); first | exact trivial | (intros; omega) | ((repeat' first | apply And.intro | (intro a; have b := a; try simp only [zH] at b)) <;> first | assumption | omega | (simp only [zH]; omega)))
      refine back (i + 1) [] ?_ ⟨by omega, fun j hj => ?_⟩ (by omega)
      · (refine ⟨rfl, ?_, ?_⟩ <;> simp only [zE, evp, evx, ev1, evLoad, evStore, evBin, evIf, Zad, forall_const, z38, tb, reduceAdd, reduceSub, reduceMul, reduceEqDiff, reduceLeDiff, reduceLT, Nat.reduceBEq, Nat.reduceBNe, ↓reduceIte, reduceIte, spIs, allS, aftS, hasS, zI])
      · rcases Nat.lt_succ_iff_lt_or_eq.1 hj with h | rfl
        · exact hk2 j h
        · exact hb
  have hie : i = L.length := by omega
  subst hie
  repeat' first
    | with_reducible first | apply Zar | apply Zan | apply Zaa | apply Zac | apply Zah | apply Zap | apply Zag | apply Zaj | apply Zaq | apply Zas | apply Zao | apply Zal | apply Zab | apply Zak
    | ((with_reducible refine Zai ?_ ?_); exact rfl) | ((with_reducible refine Zat ?_); refine Zam rfl ?_ ?_ <;> intro hb <;> (try simp only [zH] at hb)) | ((with_reducible refine Zaz ?_); (first | refine Zaf htb hmz Zbr fF rfl rfl ?_ | refine Zae hmo htb hmz Zbr fF rfl rfl (by kernel_rfl) ?_); intro _ _ _ _ h; simp only [zE, evp, evx, ev1, evLoad, evStore, evBin, evIf, Zad, forall_const, z38, tb, reduceAdd, reduceSub, reduceMul, reduceEqDiff, reduceLeDiff, reduceLT, Nat.reduceBEq, Nat.reduceBNe, ↓reduceIte, reduceIte, spIs, allS, aftS, hasS] at h; obtain ⟨rfl, rfl, rfl, rfl⟩ := h; refine ⟨?_, ?_⟩) | ((with_reducible refine Ob.mk ?_); first | exact trivial | (intros; omega) | ((repeat' first | apply And.intro | (intro a; have b := a; try simp only [zH] at b)) <;> first | assumption | omega | (simp only [zH]; omega)))
  refine Zax rfl rfl (Zaw rfl ?_ rfl)
  have hf : isP ⟨o, p, x⟩ s lp = true := by
    rw [hP]
    exact decide_eq_true ⟨hlp, hk, hk2⟩
  rw [hf]; rfl
theorem Zfp {f : Int → Int} : ∀ {l : List Int} {a : Int}, 0 ≤ a → 0 ≤ l.foldl (fun a v => max a (f v)) a
  | [], a, h => h
  | v :: l, a, h => Zfp (l := l) (by show 0 ≤ max a (f v); omega)
def wonP (g : Gm) (lp : List Int) : Int := (lp.foldl (fun a v => max a (g.pri.getD v.toNat 0)) 0) % 2
def wonS : Spec
  | [.agg (.cons (.roI o) (.cons (.roI p) (.cons (.roII x) .nil))), .agg (.cons (.roI s) (.cons (.roI lp) .nil))] => some ⟨∀ i, i < lp.length → 0 ≤ lp.getD i 0 ∧ lp.getD i 0 < (p.length : Int), .int .i64 (wonP ⟨o, p, x⟩ lp), none⟩
  | _ => none
set_option maxRecDepth 4000 in
set_option maxHeartbeats 4000000 in
theorem won_ok : Zb2 Tryd.prog 37 wonS := by
  refine Za8 htb (fn := Tryd.f37) (by kernel_rfl) (by kernel_rfl) rfl (fun args r hS => ?_) (fun args r hS hob hl => ?_)
  · unfold wonS at hS; split at hS <;> first | (cases hS; done) | (cases hS; exact Nat.le_of_ble_eq_true rfl)
  unfold wonS at hS
  split at hS
  case h_2 => cases hS
  rename_i o p x s lp
  simp only [Option.some.injEq] at hS
  subst hS
  simp only [lenP, mkL, lim] at hl
  dsimp only at hob
  repeat' first
    | with_reducible first | apply Zar | apply Zan | apply Zaa | apply Zac | apply Zah | apply Zap | apply Zag | apply Zaj | apply Zaq | apply Zas | apply Zao | apply Zal | apply Zab | apply Zak
    | ((with_reducible refine Zai ?_ ?_); exact rfl) | ((with_reducible refine Zat ?_); refine Zam rfl ?_ ?_ <;> intro hb <;> (try simp only [zH] at hb)) | ((with_reducible refine Zaz ?_); (first | refine Zaf htb hmz noSp fF rfl rfl ?_ | refine Zae hmo htb hmz noSp fF rfl rfl (by kernel_rfl) ?_); intro _ _ _ _ h; simp only [zE, evp, evx, ev1, evLoad, evStore, evBin, evIf, Zad, forall_const, z38, tb, reduceAdd, reduceSub, reduceMul, reduceEqDiff, reduceLeDiff, reduceLT, Nat.reduceBEq, Nat.reduceBNe, ↓reduceIte, reduceIte] at h; obtain ⟨rfl, rfl, rfl, rfl⟩ := h; refine ⟨?_, ?_⟩) | ((with_reducible refine Ob.mk ?_); first | exact trivial | (intros; omega) | ((repeat' first | apply And.intro | (intro a; have b := a; try simp only [zH] at b)) <;> first | assumption | omega | (simp only [zH]; omega)))
  have hf0 : ((lp.take 0).foldl (fun a v => max a (p.getD v.toNat 0)) 0) = 0 := rfl
  have hfn := fun i (hi : i < lp.length) => (show (lp.take (i + 1)).foldl (fun a v => max a (p.getD v.toNat 0)) 0 = max ((lp.take i).foldl (fun a v => max a (p.getD v.toNat 0)) 0) (p.getD (lp.getD i 0).toNat 0) by rw [take1 (d := 0) hi, List.foldl_append]; rfl)
  have hfb := Zfp (f := fun v => p.getD v.toNat 0) (l := lp) (Int.le_refl 0)
  refine Za5 (τ := Nat) (fun i => i ≤ lp.length) (fun i => ⟨8, [(11, .int .i64 i), (10, .int .i64 lp.length), (9, .roI lp), (5, .int .i64 ((lp.take i).foldl (fun a v => max a (p.getD v.toNat 0)) 0)), (3, .rop (.agg (.cons (.roI s) (.cons (.roI lp) .nil)))), (2, .rop (.agg (.cons (.roI o) (.cons (.roI p) (.cons (.roII x) .nil)))))], [], []⟩) (fun i => lp.length - i) 0 [] ?_ (Nat.zero_le _) ?_
  · (refine ⟨rfl, ?_, ?_⟩ <;> simp only [zE, evp, evx, ev1, evLoad, evStore, evBin, evIf, Zad, forall_const, z38, tb, reduceAdd, reduceSub, reduceMul, reduceEqDiff, reduceLeDiff, reduceLT, Nat.reduceBEq, Nat.reduceBNe, ↓reduceIte, reduceIte, zI])
    rfl
  intro i hi
  have hob1 := hob i
  have hfn1 := hfn i
  repeat' first
    | with_reducible first | apply Zar | apply Zan | apply Zaa | apply Zac | apply Zah | apply Zap | apply Zag | apply Zaj | apply Zaq | apply Zas | apply Zao | apply Zal | apply Zab | apply Zak
    | ((with_reducible refine Zai ?_ ?_); exact rfl) | ((with_reducible refine Zat ?_); refine Zam rfl ?_ ?_ <;> intro hb <;> (try simp only [zH] at hb)) | ((with_reducible refine Zau 4 ?_ ?_); (· exact rfl); (with_reducible refine Zau 7 ?_ ?_); (· exact rfl); (first | refine Zaf htb hmz noSp fF rfl rfl ?_ | refine Zae hmo htb hmz noSp fF rfl rfl (by kernel_rfl) ?_); intro _ _ _ _ h; simp only [zE, evp, evx, ev1, evLoad, evStore, evBin, evIf, Zad, forall_const, z38, tb, reduceAdd, reduceSub, reduceMul, reduceEqDiff, reduceLeDiff, reduceLT, Nat.reduceBEq, Nat.reduceBNe, ↓reduceIte, reduceIte] at h; obtain ⟨rfl, rfl, rfl, rfl⟩ := h; refine ⟨?_, ?_⟩) | ((with_reducible refine Ob.mk ?_); first | exact trivial | (intros; omega) | ((repeat' first | apply And.intro | (intro a; have b := a; try simp only [zH] at b)) <;> first | assumption | omega | (simp only [zH]; omega)))
  · have hil : i < lp.length := by omega
    have hob1 := hob1 hil
    have hfn1 := hfn1 hil
    repeat' first
      | with_reducible first | apply Zar | apply Zan | apply Zaa | apply Zac | apply Zah | apply Zap | apply Zag | apply Zaj | apply Zaq | apply Zas | apply Zao | apply Zal | apply Zab | apply Zak
      | ((with_reducible refine Zai ?_ ?_); exact rfl) | ((with_reducible refine Zat ?_); refine Zam rfl ?_ ?_ <;> intro hb <;> (try simp only [zH] at hb)) | ((with_reducible refine Zaz ?_); (first | refine Zaf htb hmz noSp fF rfl rfl ?_ | refine Zae hmo htb hmz noSp fF rfl rfl (by kernel_rfl) ?_); intro _ _ _ _ h; simp only [zE, evp, evx, ev1, evLoad, evStore, evBin, evIf, Zad, forall_const, z38, tb, reduceAdd, reduceSub, reduceMul, reduceEqDiff, reduceLeDiff, reduceLT, Nat.reduceBEq, Nat.reduceBNe, ↓reduceIte, reduceIte] at h; obtain ⟨rfl, rfl, rfl, rfl⟩ := h; refine ⟨?_, ?_⟩) | ((with_reducible refine Ob.mk ?_); first | exact trivial | (intros; omega) | ((repeat' first | apply And.intro | (intro a; have b := a; try simp only [zH] at b)) <;> first | assumption | omega | (simp only [zH]; omega)))
    refine back (i + 1) [] ?_ (by omega) (by omega)
    (refine ⟨rfl, ?_, ?_⟩ <;> simp only [zE, evp, evx, ev1, evLoad, evStore, evBin, evIf, Zad, forall_const, z38, tb, reduceAdd, reduceSub, reduceMul, reduceEqDiff, reduceLeDiff, reduceLT, Nat.reduceBEq, Nat.reduceBNe, ↓reduceIte, reduceIte, zI])
    exact hfn1
  have hie : i = lp.length := by omega
  subst hie
  rw [List.take_length]
  repeat' first
    | with_reducible first | apply Zar | apply Zan | apply Zaa | apply Zac | apply Zah | apply Zap | apply Zag | apply Zaj | apply Zaq | apply Zas | apply Zao | apply Zal | apply Zab | apply Zak
    | ((with_reducible refine Zai ?_ ?_); exact rfl) | ((with_reducible refine Zat ?_); refine Zam rfl ?_ ?_ <;> intro hb <;> (try simp only [zH] at hb)) | ((with_reducible refine Zaz ?_); (first | refine Zaf htb hmz noSp fF rfl rfl ?_ | refine Zae hmo htb hmz noSp fF rfl rfl (by kernel_rfl) ?_); intro _ _ _ _ h; simp only [zE, evp, evx, ev1, evLoad, evStore, evBin, evIf, Zad, forall_const, z38, tb, reduceAdd, reduceSub, reduceMul, reduceEqDiff, reduceLeDiff, reduceLT, Nat.reduceBEq, Nat.reduceBNe, ↓reduceIte, reduceIte] at h; obtain ⟨rfl, rfl, rfl, rfl⟩ := h; refine ⟨?_, ?_⟩) | ((with_reducible refine Ob.mk ?_); first | exact trivial | (intros; omega) | ((repeat' first | apply And.intro | (intro a; have b := a; try simp only [zH] at b)) <;> first | assumption | omega | (simp only [zH]; omega)))
  refine Zax rfl rfl (Zaw rfl ?_ rfl)
  rfl
section
open Go Pl
theorem ring_cyc {E : Nat → Nat → Prop} {f : Nat → Nat} {m : Nat} (hm : 0 < m) (h : ∀ k, k + 1 < m → E (f k) (f (k + 1))) (hl : E (f (m - 1)) (f 0)) {k : Nat} (hk : k < m) : ∃ t, E (f k) t ∧ Rch E t (f k) := by
  have up : ∀ (d a : Nat), a + d < m → Rch E (f a) (f (a + d)) := by
    intro d
    induction d with
    | zero => intro a _; exact .refl _
    | succ d ih => intro a ha; exact .step (ih a (by omega)) (h (a + d) (by omega))
  by_cases h1 : k + 1 < m
  · refine ⟨f (k + 1), h k h1, ?_⟩
    have r1 := up (m - 1 - (k + 1)) (k + 1) (by omega)
    rw [show k + 1 + (m - 1 - (k + 1)) = m - 1 by omega] at r1
    have r2 := up k 0 (by omega)
    rw [Nat.zero_add] at r2
    exact (Rch.step r1 hl).trans r2
  · have e : k = m - 1 := by omega
    subst e
    refine ⟨f 0, hl, ?_⟩
    have r2 := up (m - 1) 0 (by omega)
    rw [Nat.zero_add] at r2
    exact r2
theorem Zgl {f : Int → Int} : ∀ {l : List Int} {a : Int}, (∀ v, v ∈ l → f v ≤ l.foldl (fun a v => max a (f v)) a) ∧ a ≤ l.foldl (fun a v => max a (f v)) a ∧ (l.foldl (fun a v => max a (f v)) a = a ∨ ∃ v, v ∈ l ∧ f v = l.foldl (fun a v => max a (f v)) a)
  | [], a => ⟨fun v h => (by cases h), Int.le_refl _, .inl rfl⟩
  | b :: l, a => by
    obtain ⟨h1, h2, h3⟩ := Zgl (f := f) (l := l) (a := max a (f b))
    rw [List.foldl_cons]
    refine ⟨fun v hv => ?_, by omega, ?_⟩
    · rcases List.mem_cons.1 hv with rfl | hv
      · omega
      · exact h1 v hv
    · rcases h3 with h3 | ⟨v, hv, e⟩
      · rcases Int.le_total a (f b) with h4 | h4
        · exact .inr ⟨b, List.mem_cons_self, by rw [h3]; omega⟩
        · exact .inl (by rw [h3]; omega)
      · exact .inr ⟨v, List.mem_cons_of_mem _ hv, e⟩
def psP (L : List Int) (i : Nat) : Nat := (L.getD i 0).toNat
def folP (g : Gm) (W C s l : List Int) (w : Int) : Prop := ∀ i : Nat, i < (s ++ l).length → g.own.getD (psP (s ++ l) i) 0 = w ∧ W.getD (psP (s ++ l) i) 0 = w → aftP (s ++ l) l i = C.getD (psP (s ++ l) i) 0
open Classical in
noncomputable def Zcr (g : Gm) (W C s l : List Int) : Bool := decide (folP g W C s l (W.getD (psP (s ++ l) 0) 0) ∧ ((∃ i, i < (s ++ l).length ∧ W.getD (psP (s ++ l) i) 0 ≠ W.getD (psP (s ++ l) 0) 0) ∨ wonP g l ≠ W.getD (psP (s ++ l) 0) 0))
variable {g : Gm} {W C s l : List Int}
open Classical in
theorem against_iff : Zcr g W C s l = true ↔ (folP g W C s l (W.getD (psP (s ++ l) 0) 0) ∧ ((∃ i, i < (s ++ l).length ∧ W.getD (psP (s ++ l) i) 0 ≠ W.getD (psP (s ++ l) 0) 0) ∨ wonP g l ≠ W.getD (psP (s ++ l) 0) 0)) := by
  unfold Zcr
  exact decide_eq_true_iff
theorem isP_iff : isP g s l = true ↔ l ≠ [] ∧ (∀ i, i < (s ++ l).length → 0 ≤ (s ++ l).getD i 0 ∧ (s ++ l).getD i 0 < (g.own.length : Int)) ∧ ∀ i : Nat, i < (s ++ l).length → aftP (s ++ l) l i ∈ g.nxt.getD (psP (s ++ l) i) [] := by
  unfold isP
  exact decide_eq_true_iff
theorem fol_win (hv : Zba g = true) {w : Int} {c : Nat → Nat} (hS : Sol (fun v => g.own.getD v 0) (fun v => g.pri.getD v 0) (rws g.nxt) (fun v => v < g.own.length) (fun v => W.getD v 0) c w) (hw : w = 0 ∨ w = 1) (hi : isP g s l = true) (h0 : W.getD (psP (s ++ l) 0) 0 = w)
    (hf : ∀ i : Nat, i < (s ++ l).length → g.own.getD (psP (s ++ l) i) 0 = w → W.getD (psP (s ++ l) i) 0 = w → (aftP (s ++ l) l i).toNat = c (psP (s ++ l) i)) : (∀ i, i < (s ++ l).length → W.getD (psP (s ++ l) i) 0 = w) ∧ wonP g l = w := by
  have hG := gok (validB_iff.1 hv)
  obtain ⟨hl, hb, hn⟩ := isP_iff.1 hi
  have hl0 : 0 < l.length := List.length_pos_iff.2 hl
  have hal : (s ++ l).length = s.length + l.length := List.length_append ..
  have hpb : ∀ i, i < (s ++ l).length → psP (s ++ l) i < g.own.length := fun i hi => by
    have := hb i hi
    show ((s ++ l).getD i 0).toNat < _
    omega
  have hE : ∀ i, i < (s ++ l).length → W.getD (psP (s ++ l) i) 0 = w → Stp (fun v => g.own.getD v 0) (rws g.nxt) (fun v => v < g.own.length) (fun v => W.getD v 0) c w (psP (s ++ l) i) (aftP (s ++ l) l i).toNat ∧ W.getD (aftP (s ++ l) l i).toNat 0 = w := fun i hil hwi => by
    have hm : (aftP (s ++ l) l i).toNat ∈ rws g.nxt (psP (s ++ l) i) := List.mem_map.2 ⟨_, hn i hil, rfl⟩
    have htn := hG.row _ (hpb i hil) _ hm
    by_cases ho : g.own.getD (psP (s ++ l) i) 0 = w
    · have e := hf i hil ho hwi
      obtain ⟨_, _, m3⟩ := hS.mine _ (hpb i hil) hwi ho
      exact ⟨⟨⟨hpb i hil, hwi⟩, htn, fun _ => e, fun h => absurd ho h⟩, by rw [e]; exact m3⟩
    · exact ⟨⟨⟨hpb i hil, hwi⟩, htn, fun h => absurd h ho, fun _ => hm⟩, hS.his _ (hpb i hil) hwi ho _ hm htn⟩
  have haf : ∀ i, i + 1 < (s ++ l).length → (aftP (s ++ l) l i).toNat = psP (s ++ l) (i + 1) := fun i h => by
    unfold aftP psP
    rw [if_pos (by omega), show ((i : Int) + 1).toNat = i + 1 by omega]
  have hlast : (aftP (s ++ l) l ((s ++ l).length - 1 : Nat)).toNat = psP (s ++ l) s.length := by
    unfold aftP psP
    rw [if_neg (by omega)]
    congr 1
    simp only [List.getD_eq_getElem?_getD]
    rw [List.getElem?_append_right (Nat.le_refl _), Nat.sub_self]
  have hall : ∀ i, i < (s ++ l).length → W.getD (psP (s ++ l) i) 0 = w := by
    intro i
    induction i with
    | zero => intro _; exact h0
    | succ i ih =>
      intro hi2
      have := (hE i (by omega) (ih (by omega))).2
      rw [haf i hi2] at this
      exact this
  refine ⟨hall, Classical.byContradiction fun hne => ?_⟩
  obtain ⟨m1, m2, m3⟩ := Zgl (f := fun v => g.pri.getD v.toNat 0) (l := l) (a := 0)
  have hlp : ∀ k, k < l.length → (s ++ l).getD (s.length + k) 0 = l.getD k 0 := fun k hk => by
    simp only [List.getD_eq_getElem?_getD]
    rw [List.getElem?_append_right (by omega), show s.length + k - s.length = k by omega]
  have hle : ∀ k, k < l.length → g.pri.getD (psP (s ++ l) (s.length + k)) 0 ≤ l.foldl (fun a v => max a (g.pri.getD v.toNat 0)) 0 := fun k hk => by
    show g.pri.getD ((s ++ l).getD (s.length + k) 0).toNat 0 ≤ _
    rw [hlp k hk]
    refine m1 _ ?_
    rw [List.getD_eq_getElem?_getD, List.getElem?_eq_getElem hk]; exact List.getElem_mem ..
  obtain ⟨k, hk, hke⟩ : ∃ k, k < l.length ∧ g.pri.getD (psP (s ++ l) (s.length + k)) 0 = l.foldl (fun a v => max a (g.pri.getD v.toNat 0)) 0 := by
    rcases m3 with e | ⟨v, hvm, e⟩
    · refine ⟨0, hl0, Int.le_antisymm (hle 0 hl0) ?_⟩
      rw [e]
      exact (hG.pri _ (hpb _ (by omega))).1
    · obtain ⟨j, hj, rfl⟩ := Zfu hvm
      refine ⟨j, hj, ?_⟩
      show g.pri.getD ((s ++ l).getD (s.length + j) 0).toNat 0 = _
      rw [hlp j hj]; exact e
  have hcy : Cyc (Stp (fun v => g.own.getD v 0) (rws g.nxt) (fun v => v < g.own.length) (fun v => W.getD v 0) c w) (fun v => g.pri.getD v 0) (psP (s ++ l) (s.length + k)) := by
    refine ring_cyc (f := fun k => psP (s ++ l) (s.length + k)) (m := l.length) hl0 (fun j hj => ?_) ?_ hk
    · have := (hE (s.length + j) (by omega) (hall _ (by omega))).1
      rw [haf _ (by omega)] at this
      refine ⟨this, ?_⟩
      show g.pri.getD (psP (s ++ l) (s.length + (j + 1))) 0 ≤ g.pri.getD (psP (s ++ l) (s.length + k)) 0
      rw [hke]; exact hle (j + 1) (by omega)
    · have := (hE (s.length + (l.length - 1)) (by omega) (hall _ (by omega))).1
      rw [show s.length + (l.length - 1) = (s ++ l).length - 1 by omega, hlast] at this
      rw [show s.length + (l.length - 1) = (s ++ l).length - 1 by omega]
      refine ⟨this, ?_⟩
      show g.pri.getD (psP (s ++ l) (s.length + 0)) 0 ≤ g.pri.getD (psP (s ++ l) (s.length + k)) 0
      rw [hke]; exact hle 0 hl0
  refine hS.cyc _ (hpb _ (by omega)) (hall _ (by omega)) ?_ hcy
  show g.pri.getD (psP (s ++ l) (s.length + k)) 0 % 2 ≠ w
  rw [hke]
  exact hne
theorem sol_no (hv : Zba g = true) (hs : solB g W C = true) (hi : isP g s l = true) : Zcr g W C s l = false := by
  obtain ⟨hc, hS⟩ := (solB_iff (validB_iff.1 hv)).1 hs
  obtain ⟨_, _, hc⟩ := of_decide_eq_true hc
  obtain ⟨hl, hb, _⟩ := isP_iff.1 hi
  have hl0 : 0 < l.length := List.length_pos_iff.2 hl
  have h0 : psP (s ++ l) 0 < g.own.length := by
    have := hb 0 (by rw [List.length_append]; omega)
    show ((s ++ l).getD 0 0).toNat < _
    omega
  have hw := (hc _ h0).1
  cases hag : Zcr g W C s l with
  | false => rfl
  | true =>
  exfalso
  obtain ⟨hf, hx⟩ := against_iff.1 hag
  obtain ⟨a1, a2⟩ := fol_win hv (hS _ hw) hw hi rfl fun i hi2 ho hw2 => by rw [hf i hi2 ⟨ho, hw2⟩]
  rcases hx with ⟨i, hi2, h⟩ | h
  · exact h (a1 i hi2)
  · exact h a2
end
open Go Pl
def badV (n : Nat) (v : Int) : Bool := decide (v < 0 ∨ (n : Int) ≤ v)
def Zhs : Spec
  | [.int .i64 v, .rop (.agg (.cons (.roI o) (.cons (.roI p) (.cons (.roII x) .nil))))] => some ⟨True, .bool (badV o.length v), none⟩
  | _ => none
set_option maxRecDepth 4000 in
set_option maxHeartbeats 4000000 in
theorem ply1_ok : Zb2 Tryd.prog 56 Zhs := by
  refine Za8 htb (fn := Tryd.f56) (by kernel_rfl) (by kernel_rfl) rfl (fun args r hS => ?_) (fun args r hS hob hl => ?_)
  · unfold Zhs at hS; split at hS <;> first | (cases hS; done) | (cases hS; exact Nat.le_of_ble_eq_true rfl)
  unfold Zhs at hS
  split at hS
  case h_2 => cases hS
  rename_i v o p x
  simp only [Option.some.injEq] at hS
  subst hS
  simp only [lenP, mkL, lim] at hl
  dsimp only at hob
  repeat' first
    | with_reducible first | apply Zar | apply Zan | apply Zaa | apply Zac | apply Zah | apply Zap | apply Zag | apply Zaj | apply Zaq | apply Zas | apply Zao | apply Zal | apply Zab | apply Zak
    | ((with_reducible refine Zai ?_ ?_); exact rfl) | ((with_reducible refine Zat ?_); refine Zam rfl ?_ ?_ <;> intro hb <;> (try simp only [zH] at hb)) | ((with_reducible refine Zaz ?_); (first | refine Zaf htb hmz noSp fF rfl rfl ?_ | refine Zae hmo htb hmz noSp fF rfl rfl (by kernel_rfl) ?_); intro _ _ _ _ h; simp only [zE, evp, evx, ev1, evLoad, evStore, evBin, evIf, Zad, forall_const, z38, tb, reduceAdd, reduceSub, reduceMul, reduceEqDiff, reduceLeDiff, reduceLT, Nat.reduceBEq, Nat.reduceBNe, ↓reduceIte, reduceIte] at h; obtain ⟨rfl, rfl, rfl, rfl⟩ := h; refine ⟨?_, ?_⟩) | ((with_reducible refine Ob.mk ?_); first | exact trivial | (intros; omega) | ((repeat' first | apply And.intro | (intro a; have b := a; try simp only [zH] at b)) <;> first | assumption | omega | (simp only [zH]; omega)))
  refine Zax rfl rfl (Zaw rfl ?_ rfl)
  show AV.bool (decide (v < 0) || decide ((o.length : Int) ≤ v)) = AV.bool (badV o.length v)
  unfold badV
  rw [Bool.decide_or]
def nbF (n : Nat) (l : List Int) : Nat → Nat → Int
  | _, 0 => -1
  | i, k + 1 => if badV n (l.getD i 0) = true then i else nbF n l (i + 1) k
theorem nbF_iff {n : Nat} {l : List Int} : ∀ {k i : Nat}, 0 ≤ nbF n l i k ↔ ∃ j, i ≤ j ∧ j < i + k ∧ badV n (l.getD j 0) = true
  | 0, i => ⟨fun h => absurd h (by unfold nbF; decide), fun ⟨j, h1, h2, _⟩ => by omega⟩
  | k + 1, i => by
    unfold nbF
    split
    · rename_i h
      exact ⟨fun _ => ⟨i, Nat.le_refl _, by omega, h⟩, fun _ => by omega⟩
    · rename_i h
      rw [nbF_iff]
      constructor
      · rintro ⟨j, h1, h2, h3⟩; exact ⟨j, by omega, by omega, h3⟩
      · rintro ⟨j, h1, h2, h3⟩
        refine ⟨j, ?_, by omega, h3⟩
        rcases Nat.lt_or_eq_of_le h1 with h4 | h4
        · exact h4
        · subst h4; exact absurd h3 h
def Zi2 : Spec
  | [.roI l, .fn 56 (.cons (.rop (.agg (.cons (.roI o) (.cons (.roI p) (.cons (.roII x) .nil))))) .nil)] => some ⟨True, .int .i64 (nbF o.length l 0 l.length), none⟩
  | _ => none
def spIv : Nat → Option Spec
  | 56 => some Zhs
  | _ => none
theorem Zgw : SpOK Tryd.prog spIv := by
  intro f S h
  unfold spIv at h
  split at h
  · cases h; exact ply1_ok
  · cases h
set_option maxRecDepth 4000 in
set_option maxHeartbeats 4000000 in
theorem idxv_ok : Zb2 Tryd.prog 64 Zi2 := by
  refine Za8 htb (fn := Tryd.f64) (by kernel_rfl) (by kernel_rfl) rfl (fun args r hS => ?_) (fun args r hS hob hl => ?_)
  · unfold Zi2 at hS; split at hS <;> first | (cases hS; done) | (cases hS; exact Nat.le_of_ble_eq_true rfl)
  unfold Zi2 at hS
  split at hS
  case h_2 => cases hS
  rename_i l o p x
  simp only [Option.some.injEq] at hS
  subst hS
  simp only [lenP, mkL, lim] at hl
  dsimp only at hob
  repeat' first
    | with_reducible first | apply Zar | apply Zan | apply Zaa | apply Zac | apply Zah | apply Zap | apply Zag | apply Zaj | apply Zaq | apply Zas | apply Zao | apply Zal | apply Zab | apply Zak
    | ((with_reducible refine Zai ?_ ?_); exact rfl) | ((with_reducible refine Zat ?_); refine Zam rfl ?_ ?_ <;> intro hb <;> (try simp only [zH] at hb)) | ((with_reducible refine Zaz ?_); (first | refine Zaf htb hmz Zgw fF rfl rfl ?_ | refine Zae hmo htb hmz Zgw fF rfl rfl (by kernel_rfl) ?_); intro _ _ _ _ h; simp only [zE, evp, evx, ev1, evLoad, evStore, evBin, evIf, Zad, forall_const, z38, tb, reduceAdd, reduceSub, reduceMul, reduceEqDiff, reduceLeDiff, reduceLT, Nat.reduceBEq, Nat.reduceBNe, ↓reduceIte, reduceIte, spIv, Zhs] at h; obtain ⟨rfl, rfl, rfl, rfl⟩ := h; refine ⟨?_, ?_⟩) | ((with_reducible refine Ob.mk ?_); first | exact trivial | (intros; omega) | ((repeat' first | apply And.intro | (intro a; have b := a; try simp only [zH] at b)) <;> first | assumption | omega | (simp only [zH]; omega)))
  refine Za5 (τ := Nat) (fun i => i ≤ l.length ∧ nbF o.length l i (l.length - i) = nbF o.length l 0 l.length) (fun i => ⟨4, [(8, .int .i64 i), (7, .int .i64 l.length), (0, .roI l), (1, .fn 56 (.cons (.rop (.agg (.cons (.roI o) (.cons (.roI p) (.cons (.roII x) .nil))))) .nil))], [], []⟩) (fun i => l.length - i) 0 [] ?_ ⟨Nat.zero_le _, rfl⟩ ?_
  · (refine ⟨rfl, ?_, ?_⟩ <;> simp only [zE, evp, evx, ev1, evLoad, evStore, evBin, evIf, Zad, forall_const, z38, tb, reduceAdd, reduceSub, reduceMul, reduceEqDiff, reduceLeDiff, reduceLT, Nat.reduceBEq, Nat.reduceBNe, ↓reduceIte, reduceIte, spIv, Zhs, zI])
  rintro i ⟨hi, hj⟩
  have hst : i < l.length → nbF o.length l i (l.length - i) = if badV o.length (l.getD i 0) = true then (i : Int) else nbF o.length l (i + 1) (l.length - (i + 1)) := fun h => by
    rw [show l.length - i = l.length - (i + 1) + 1 by omega]; rfl
  repeat' first
    | with_reducible first | apply Zar | apply Zan | apply Zaa | apply Zac | apply Zah | apply Zap | apply Zag | apply Zaj | apply Zaq | apply Zas | apply Zao | apply Zal | apply Zab | apply Zak
    | ((with_reducible refine Zai ?_ ?_); exact rfl) | ((with_reducible refine Zat ?_); refine Zam rfl ?_ ?_ <;> intro hb <;> (try simp only [zH] at hb)) | ((with_reducible refine Zaz ?_); (first | refine Zaf htb hmz Zgw fF rfl rfl ?_ | refine Zae hmo htb hmz Zgw fF rfl rfl (by kernel_rfl) ?_); intro _ _ _ _ h; simp only [zE, evp, evx, ev1, evLoad, evStore, evBin, evIf, Zad, forall_const, z38, tb, reduceAdd, reduceSub, reduceMul, reduceEqDiff, reduceLeDiff, reduceLT, Nat.reduceBEq, Nat.reduceBNe, ↓reduceIte, reduceIte, spIv, Zhs] at h; obtain ⟨rfl, rfl, rfl, rfl⟩ := h; refine ⟨?_, ?_⟩) | ((with_reducible refine Ob.mk ?_); first | exact trivial | (intros; omega) | ((repeat' first | apply And.intro | (intro a; have b := a; try simp only [zH] at b)) <;> first | assumption | omega | (simp only [zH]; omega)))
  · refine Zax rfl rfl (Zaw rfl ?_ rfl)
    rw [← hj, hst (by omega), if_pos hb]
    rfl
  · refine back (i + 1) [] ?_ ⟨by omega, ?_⟩ (by omega)
    · (refine ⟨rfl, ?_, ?_⟩ <;> simp only [zE, evp, evx, ev1, evLoad, evStore, evBin, evIf, Zad, forall_const, z38, tb, reduceAdd, reduceSub, reduceMul, reduceEqDiff, reduceLeDiff, reduceLT, Nat.reduceBEq, Nat.reduceBNe, ↓reduceIte, reduceIte, spIv, Zhs, zI])
    · rw [← hj, hst (by omega), if_neg]
      intro h
      rw [hb] at h; cases h
  · refine Zax rfl rfl (Zaw rfl ?_ rfl)
    have hin : i = l.length := by omega
    rw [← hj, hin, Nat.sub_self]
    rfl
def ctvS : Spec
  | [.roI l, .fn 56 (.cons (.rop (.agg (.cons (.roI o) (.cons (.roI p) (.cons (.roII x) .nil))))) .nil)] => some ⟨True, .bool (decide (0 ≤ nbF o.length l 0 l.length)), none⟩
  | _ => none
def spCv : Nat → Option Spec
  | 64 => some Zi2
  | _ => none
theorem spCv_ok : SpOK Tryd.prog spCv := by
  intro f S h
  unfold spCv at h
  split at h
  · cases h; exact idxv_ok
  · cases h
set_option maxRecDepth 4000 in
set_option maxHeartbeats 4000000 in
theorem ctv_ok : Zb2 Tryd.prog 55 ctvS := by
  refine Za8 htb (fn := Tryd.f55) (by kernel_rfl) (by kernel_rfl) rfl (fun args r hS => ?_) (fun args r hS hob hl => ?_)
  · unfold ctvS at hS; split at hS <;> first | (cases hS; done) | (cases hS; exact Nat.le_of_ble_eq_true rfl)
  unfold ctvS at hS
  split at hS
  case h_2 => cases hS
  rename_i l o p x
  simp only [Option.some.injEq] at hS
  subst hS
  simp only [lenP, mkL, lim] at hl
  dsimp only at hob
  repeat' first
    | with_reducible first | apply Zar | apply Zan | apply Zaa | apply Zac | apply Zah | apply Zap | apply Zag | apply Zaj | apply Zaq | apply Zas | apply Zao | apply Zal | apply Zab | apply Zak
    | ((with_reducible refine Zai ?_ ?_); exact rfl) | ((with_reducible refine Zat ?_); refine Zam rfl ?_ ?_ <;> intro hb <;> (try simp only [zH] at hb)) | ((with_reducible refine Zaz ?_); (first | refine Zaf htb hmz spCv_ok fF rfl rfl ?_ | refine Zae hmo htb hmz spCv_ok fF rfl rfl (by kernel_rfl) ?_); intro _ _ _ _ h; simp only [zE, evp, evx, ev1, evLoad, evStore, evBin, evIf, Zad, forall_const, z38, tb, reduceAdd, reduceSub, reduceMul, reduceEqDiff, reduceLeDiff, reduceLT, Nat.reduceBEq, Nat.reduceBNe, ↓reduceIte, reduceIte, spCv, Zi2] at h; obtain ⟨rfl, rfl, rfl, rfl⟩ := h; refine ⟨?_, ?_⟩) | ((with_reducible refine Ob.mk ?_); first | exact trivial | (intros; omega) | ((repeat' first | apply And.intro | (intro a; have b := a; try simp only [zH] at b)) <;> first | assumption | omega | (simp only [zH]; omega)))
  refine Zax rfl rfl (Zaw rfl ?_ rfl)
  rfl
def plyS : Spec
  | [.agg (.cons (.roI o) (.cons (.roI p) (.cons (.roII x) .nil))), .agg (.cons (.roI s) (.cons (.roI lp) .nil))] => some ⟨(s.length ≤ 40000 ∧ lp.length ≤ 40000) ∧ x.length = o.length, .bool (isP ⟨o, p, x⟩ s lp), none⟩
  | _ => none
def spPy : Nat → Option Spec
  | 39 => some joiS
  | 55 => some ctvS
  | 41 => some Zav
  | _ => none
theorem Zbl : SpOK Tryd.prog spPy := by
  intro f S h
  unfold spPy at h
  split at h
  · cases h; exact Zee
  · cases h; exact ctv_ok
  · cases h; exact Zdk
  · cases h
set_option maxRecDepth 4000 in
set_option maxHeartbeats 4000000 in
theorem ply_ok : Zb2 Tryd.prog 38 plyS := by
  refine Za8 htb (fn := Tryd.f38) (by kernel_rfl) (by kernel_rfl) rfl (fun args r hS => ?_) (fun args r hS hob hl => ?_)
  · unfold plyS at hS; split at hS <;> first | (cases hS; done) | (cases hS; exact Nat.le_of_ble_eq_true rfl)
  unfold plyS at hS
  split at hS
  case h_2 => cases hS
  rename_i o p x s lp
  simp only [Option.some.injEq] at hS
  subst hS
  simp only [lenP, mkL, lim] at hl
  dsimp only at hob
  obtain ⟨⟨h1, h2⟩, h3⟩ := hob
  have hal : (s ++ lp).length = s.length + lp.length := List.length_append ..
  have hfl : [s, lp].flatten = s ++ lp := by simp
  have hfl2 : [s, lp].flatten.length ≤ 100000 := by rw [hfl]; omega
  have hP : isP ⟨o, p, x⟩ s lp = decide (lp ≠ [] ∧ (∀ i, i < (s ++ lp).length → 0 ≤ (s ++ lp).getD i 0 ∧ (s ++ lp).getD i 0 < (o.length : Int)) ∧ ∀ i : Nat, i < (s ++ lp).length → aftP (s ++ lp) lp i ∈ x.getD ((s ++ lp).getD i 0).toNat []) := by
    unfold isP
    exact decide_eq_decide.2 Iff.rfl
  repeat' first
    | with_reducible first | apply Zar | apply Zan | apply Zaa | apply Zac | apply Zah | apply Zap | apply Zag | apply Zaj | apply Zaq | apply Zas | apply Zao | apply Zal | apply Zab | apply Zak
    | ((with_reducible refine Zai ?_ ?_); exact rfl) | ((with_reducible refine Zat ?_); refine Zam rfl ?_ ?_ <;> intro hb <;> (try simp only [zH] at hb)) | ((with_reducible refine Zau 2 ?_ ?_); (· exact rfl); (first | refine Zaf htb hmz Zbl fF rfl rfl ?_ | refine Zae hmo htb hmz Zbl fF rfl rfl (by kernel_rfl) ?_); intro _ _ _ _ h; simp only [zE, evp, evx, ev1, evLoad, evStore, evBin, evIf, Zad, forall_const, z38, tb, reduceAdd, reduceSub, reduceMul, reduceEqDiff, reduceLeDiff, reduceLT, Nat.reduceBEq, Nat.reduceBNe, ↓reduceIte, reduceIte, spPy, joiS, ctvS, Zav] at h; obtain ⟨rfl, rfl, rfl, rfl⟩ := h; refine ⟨?_, ?_⟩) | ((with_reducible refine Ob.mk ?_); first | exact trivial | (intros; omega) | ((repeat' first | apply And.intro | (intro a; have b := a; try simp only [zH] at b)) <;> first | assumption | omega | (simp only [zH]; omega)))
  rw [hfl]
  generalize s ++ lp = L at *
  have hL : L.length ≤ 80000 := by omega
  clear hfl hfl2
  repeat' first
    | with_reducible first | apply Zar | apply Zan | apply Zaa | apply Zac | apply Zah | apply Zap | apply Zag | apply Zaj | apply Zaq | apply Zas | apply Zao | apply Zal | apply Zab | apply Zak
    | ((with_reducible refine Zai ?_ ?_); exact rfl) | ((with_reducible refine Zat ?_); refine Zam rfl ?_ ?_ <;> intro hb <;> (try simp only [zH] at hb)) | ((with_reducible refine Zau 3 ?_ ?_); (· exact rfl); (with_reducible refine Zau 4 ?_ ?_); (· exact rfl); (first | refine Zaf htb hmz Zbl fF rfl rfl ?_ | refine Zae hmo htb hmz Zbl fF rfl rfl (by kernel_rfl) ?_); intro _ _ _ _ h; simp only [zE, evp, evx, ev1, evLoad, evStore, evBin, evIf, Zad, forall_const, z38, tb, reduceAdd, reduceSub, reduceMul, reduceEqDiff, reduceLeDiff, reduceLT, Nat.reduceBEq, Nat.reduceBNe, ↓reduceIte, reduceIte, spPy, joiS, ctvS, Zav] at h; obtain ⟨rfl, rfl, rfl, rfl⟩ := h; refine ⟨?_, ?_⟩) | ((with_reducible refine Ob.mk ?_); first | exact trivial | (intros; omega) | ((repeat' first | apply And.intro | (intro a; have b := a; try simp only [zH] at b)) <;> first | assumption | omega | (simp only [zH]; omega)))
  · have hf : isP ⟨o, p, x⟩ s lp = false := by
      rw [hP]
      refine decide_eq_false fun h => ?_
      rcases hb with hb | hb
      · exact h.1 (List.length_eq_zero_iff.1 (by omega))
      · obtain ⟨j, _, hj, hbd⟩ := nbF_iff.1 hb
        have := h.2.1 j (by omega)
        have hbd := of_decide_eq_true hbd
        omega
    repeat' first
      | with_reducible first | apply Zar | apply Zan | apply Zaa | apply Zac | apply Zah | apply Zap | apply Zag | apply Zaj | apply Zaq | apply Zas | apply Zao | apply Zal | apply Zab | apply Zak
      | ((with_reducible refine Zai ?_ ?_); exact rfl) | ((with_reducible refine Zat ?_); refine Zam rfl ?_ ?_ <;> intro hb <;> (try simp only [zH] at hb)) | ((with_reducible refine Zaz ?_); (first | refine Zaf htb hmz Zbl fF rfl rfl ?_ | refine Zae hmo htb hmz Zbl fF rfl rfl (by kernel_rfl) ?_); intro _ _ _ _ h; simp only [zE, evp, evx, ev1, evLoad, evStore, evBin, evIf, Zad, forall_const, z38, tb, reduceAdd, reduceSub, reduceMul, reduceEqDiff, reduceLeDiff, reduceLT, Nat.reduceBEq, Nat.reduceBNe, ↓reduceIte, reduceIte, spPy, joiS, ctvS, Zav] at h; obtain ⟨rfl, rfl, rfl, rfl⟩ := h; refine ⟨?_, ?_⟩) | ((with_reducible refine Ob.mk ?_); first | exact trivial | (intros; omega) | ((repeat' first | apply And.intro | (intro a; have b := a; try simp only [zH] at b)) <;> first | assumption | omega | (simp only [zH]; omega)))
    refine Zax rfl rfl (Zaw rfl ?_ rfl)
    rw [hf]; rfl
  have hl0 : 0 < lp.length := by omega
  have hlp : lp ≠ [] := List.length_pos_iff.1 hl0
  have hk : ∀ j, j < L.length → 0 ≤ L.getD j 0 ∧ L.getD j 0 < (o.length : Int) := fun j hj => by
    have h0 : ¬ (badV o.length (L.getD j 0) = true) := fun hbd => by
      have := nbF_iff.2 ⟨j, Nat.zero_le _, (by omega : j < 0 + L.length), hbd⟩
      omega
    unfold badV at h0
    rw [decide_eq_true_eq] at h0
    omega
  clear hb
  repeat' first
    | with_reducible first | apply Zar | apply Zan | apply Zaa | apply Zac | apply Zah | apply Zap | apply Zag | apply Zaj | apply Zaq | apply Zas | apply Zao | apply Zal | apply Zab | apply Zak
    | ((with_reducible refine Zai ?_ ?_); exact rfl) | ((with_reducible refine Zat ?_); refine Zam rfl ?_ ?_ <;> intro hb <;> (try simp only [zH] at hb)) | ((with_reducible refine Zaz ?_); (first | refine Zaf htb hmz Zbl fF rfl rfl ?_ | refine Zae hmo htb hmz Zbl fF rfl rfl (by kernel_rfl) ?_); intro _ _ _ _ h; simp only [zE, evp, evx, ev1, evLoad, evStore, evBin, evIf, Zad, forall_const, z38, tb, reduceAdd, reduceSub, reduceMul, reduceEqDiff, reduceLeDiff, reduceLT, Nat.reduceBEq, Nat.reduceBNe, ↓reduceIte, reduceIte, spPy, joiS, ctvS, Zav] at h; obtain ⟨rfl, rfl, rfl, rfl⟩ := h; refine ⟨?_, ?_⟩) | ((with_reducible refine Ob.mk ?_); first | exact trivial | (intros; omega) | ((repeat' first | apply And.intro | (intro a; have b := a; try simp only [zH] at b)) <;> first | assumption | omega | (simp only [zH]; omega)))
  refine Za5 (τ := Nat) (fun i => i ≤ L.length ∧ ∀ j : Nat, j < i → aftP L lp j ∈ x.getD (L.getD j 0).toNat []) (fun i => ⟨22, [(26, .int .i64 i), (25, .int .i64 L.length), (24, .roI L), (5, .roI L), (3, .rop (.agg (.cons (.roI s) (.cons (.roI lp) .nil)))), (2, .rop (.agg (.cons (.roI o) (.cons (.roI p) (.cons (.roII x) .nil)))))], [], []⟩) (fun i => L.length - i) 0 [] ?_ ⟨Nat.zero_le _, fun j hj => absurd hj (Nat.not_lt_zero j)⟩ ?_
  · (refine ⟨rfl, ?_, ?_⟩ <;> simp only [zE, evp, evx, ev1, evLoad, evStore, evBin, evIf, Zad, forall_const, z38, tb, reduceAdd, reduceSub, reduceMul, reduceEqDiff, reduceLeDiff, reduceLT, Nat.reduceBEq, Nat.reduceBNe, ↓reduceIte, reduceIte, spPy, joiS, ctvS, Zav, zI])
  rintro i ⟨hi, hk2⟩
  have hk1 := hk i
  repeat' first
    | with_reducible first | apply Zar | apply Zan | apply Zaa | apply Zac | apply Zah | apply Zap | apply Zag | apply Zaj | apply Zaq | apply Zas | apply Zao | apply Zal | apply Zab | apply Zak
    | ((with_reducible refine Zai ?_ ?_); exact rfl) | ((with_reducible refine Zat ?_); refine Zam rfl ?_ ?_ <;> intro hb <;> (try simp only [zH] at hb)) | ((with_reducible refine Zau 8 ?_ ?_); (· exact rfl); (first | refine Zaf htb hmz Zbl fF rfl rfl ?_ | refine Zae hmo htb hmz Zbl fF rfl rfl (by kernel_rfl) ?_); intro _ _ _ _ h; simp only [zE, evp, evx, ev1, evLoad, evStore, evBin, evIf, Zad, forall_const, z38, tb, reduceAdd, reduceSub, reduceMul, reduceEqDiff, reduceLeDiff, reduceLT, Nat.reduceBEq, Nat.reduceBNe, ↓reduceIte, reduceIte, spPy, joiS, ctvS, Zav] at h; obtain ⟨rfl, rfl, rfl, rfl⟩ := h; refine ⟨?_, ?_⟩) | ((with_reducible refine Ob.mk ?_); first | exact trivial | (intros; omega) | ((repeat' first | apply And.intro | (intro a; have b := a; try simp only [zH] at b)) <;> first | assumption | omega | (simp only [zH]; omega)))
  · have hil : i < L.length := by omega
    have hk1 := hk1 hil
    have hA : aftP L lp i = if (i : Int) + 1 < L.length then L.getD ((i : Int) + 1).toNat 0 else lp.getD 0 0 := rfl
    have hfin : aftP L lp i ∉ x.getD (L.getD i 0).toNat [] → isP ⟨o, p, x⟩ s lp = false := fun h => by
      rw [hP]
      exact decide_eq_false fun h2 => h (h2.2.2 i hil)
    have hnew : aftP L lp i ∈ x.getD (L.getD i 0).toNat [] → ∀ j : Nat, j < i + 1 → aftP L lp j ∈ x.getD (L.getD j 0).toNat [] := fun h j hj => by
      rcases Nat.lt_succ_iff_lt_or_eq.1 hj with h2 | rfl
      · exact hk2 j h2
      · exact h
    obtain ⟨A, hAe⟩ : ∃ A, aftP L lp i = A := ⟨_, rfl⟩
    rw [hAe] at hA hfin hnew
    repeat' first
      | with_reducible first | apply Zar | apply Zan | apply Zaa | apply Zac | apply Zah | apply Zap | apply Zag | apply Zaj | apply Zaq | apply Zas | apply Zao | apply Zal | apply Zab | apply Zak
      | ((with_reducible refine Zai ?_ ?_); exact rfl) | ((with_reducible refine Zat ?_); refine Zam rfl ?_ ?_ <;> intro hb <;> (try simp only [zH] at hb)) | ((with_reducible refine Zau 9 ?_ ?_); (· exact rfl); (with_reducible refine Zau 10 ?_ ?_); (· exact rfl); (first | refine Zaf htb hmz Zbl fF rfl rfl ?_ | refine Zae hmo htb hmz Zbl fF rfl rfl (by kernel_rfl) ?_); intro _ _ _ _ h; simp only [zE, evp, evx, ev1, evLoad, evStore, evBin, evIf, Zad, forall_const, z38, tb, reduceAdd, reduceSub, reduceMul, reduceEqDiff, reduceLeDiff, reduceLT, Nat.reduceBEq, Nat.reduceBNe, ↓reduceIte, reduceIte, spPy, joiS, ctvS, Zav] at h; obtain ⟨rfl, rfl, rfl, rfl⟩ := h; refine ⟨?_, ?_⟩) | ((with_reducible refine Ob.mk ?_); first | exact trivial | (intros; omega) | ((repeat' first | apply And.intro | (intro a; have b := a; try simp only [zH] at b)) <;> first | assumption | omega | (simp only [zH]; omega)))
    · rw [if_pos hb] at hA
      have hb1 := hb
      clear hb
      repeat' first
        | with_reducible first | apply Zar | apply Zan | apply Zaa | apply Zac | apply Zah | apply Zap | apply Zag | apply Zaj | apply Zaq | apply Zas | apply Zao | apply Zal | apply Zab | apply Zak
        | ((with_reducible refine Zai ?_ ?_); exact rfl) | ((with_reducible refine Zat ?_); refine Zam rfl ?_ ?_ <;> intro hb <;> (try simp only [zH] at hb)) | ((with_reducible refine Zau 10 ?_ ?_); (· exact rfl); (first | refine Zaf htb hmz Zbl fF rfl rfl ?_ | refine Zae hmo htb hmz Zbl fF rfl rfl (by kernel_rfl) ?_); intro _ _ _ _ h; simp only [zE, evp, evx, ev1, evLoad, evStore, evBin, evIf, Zad, forall_const, z38, tb, reduceAdd, reduceSub, reduceMul, reduceEqDiff, reduceLeDiff, reduceLT, Nat.reduceBEq, Nat.reduceBNe, ↓reduceIte, reduceIte, spPy, joiS, ctvS, Zav] at h; obtain ⟨rfl, rfl, rfl, rfl⟩ := h; refine ⟨?_, ?_⟩) | ((with_reducible refine Ob.mk ?_); first | exact trivial | (intros; omega) | ((repeat' first | apply And.intro | (intro a; have b := a; try simp only [zH] at b)) <;> first | assumption | omega | (simp only [zH]; omega)))
      rw [← hA]
      repeat' first
        | with_reducible first | apply Zar | apply Zan | apply Zaa | apply Zac | apply Zah | apply Zap | apply Zag | apply Zaj | apply Zaq | apply Zas | apply Zao | apply Zal | apply Zab | apply Zak
        | ((with_reducible refine Zai ?_ ?_); exact rfl) | ((with_reducible refine Zat ?_); refine Zam rfl ?_ ?_ <;> intro hb <;> (try simp only [zH] at hb)) | ((with_reducible refine Zau 11 ?_ ?_); (· exact rfl); (with_reducible refine Zau 12 ?_ ?_); (· exact rfl); (first | refine Zaf htb hmz Zbl fF rfl rfl ?_ | refine Zae hmo htb hmz Zbl fF rfl rfl (by kernel_rfl) ?_); intro _ _ _ _ h; simp only [zE, evp, evx, ev1, evLoad, evStore, evBin, evIf, Zad, forall_const, z38, tb, reduceAdd, reduceSub, reduceMul, reduceEqDiff, reduceLeDiff, reduceLT, Nat.reduceBEq, Nat.reduceBNe, ↓reduceIte, reduceIte, spPy, joiS, ctvS, Zav] at h; obtain ⟨rfl, rfl, rfl, rfl⟩ := h; refine ⟨?_, ?_⟩) | ((with_reducible refine Ob.mk ?_); first | exact trivial | (intros; omega) | ((repeat' first | apply And.intro | (intro a; have b := a; try simp only [zH] at b)) <;> first | assumption | omega | (simp only [zH]; omega)))
      · repeat' first
          | with_reducible first | apply Zar | apply Zan | apply Zaa | apply Zac | apply Zah | apply Zap | apply Zag | apply Zaj | apply Zaq | apply Zas | apply Zao | apply Zal | apply Zab | apply Zak
          | ((with_reducible refine Zai ?_ ?_); exact rfl) | ((with_reducible refine Zat ?_); refine Zam rfl ?_ ?_ <;> intro hb <;> (try simp only [zH] at hb)) | ((with_reducible refine Zaz ?_); (first | refine Zaf htb hmz Zbl fF rfl rfl ?_ | refine Zae hmo htb hmz Zbl fF rfl rfl (by kernel_rfl) ?_); intro _ _ _ _ h; simp only [zE, evp, evx, ev1, evLoad, evStore, evBin, evIf, Zad, forall_const, z38, tb, reduceAdd, reduceSub, reduceMul, reduceEqDiff, reduceLeDiff, reduceLT, Nat.reduceBEq, Nat.reduceBNe, ↓reduceIte, reduceIte, spPy, joiS, ctvS, Zav] at h; obtain ⟨rfl, rfl, rfl, rfl⟩ := h; refine ⟨?_, ?_⟩) | ((with_reducible refine Ob.mk ?_); first | exact trivial | (intros; omega) | ((repeat' first | apply And.intro | (intro a; have b := a; try simp only [zH] at b)) <;> first | assumption | omega | (simp only [zH]; omega)))
        refine Zax rfl rfl (Zaw rfl ?_ rfl)
        rw [hfin hb]; rfl
      · repeat' first
          | with_reducible first | apply Zar | apply Zan | apply Zaa | apply Zac | apply Zah | apply Zap | apply Zag | apply Zaj | apply Zaq | apply Zas | apply Zao | apply Zal | apply Zab | apply Zak
          | ((with_reducible refine Zai ?_ ?_); exact rfl) | ((with_reducible refine Zat ?_); refine Zam rfl ?_ ?_ <;> intro hb <;> (try simp only [zH] at hb)) | ((with_reducible refine Zaz ?_); (first | refine Zaf htb hmz Zbl fF rfl rfl ?_ | refine Zae hmo htb hmz Zbl fF rfl rfl (by kernel_rfl) ?_); intro _ _ _ _ h; simp only [zE, evp, evx, ev1, evLoad, evStore, evBin, evIf, Zad, forall_const, z38, tb, reduceAdd, reduceSub, reduceMul, reduceEqDiff, reduceLeDiff, reduceLT, Nat.reduceBEq, Nat.reduceBNe, ↓reduceIte, reduceIte, spPy, joiS, ctvS, Zav] at h; obtain ⟨rfl, rfl, rfl, rfl⟩ := h; refine ⟨?_, ?_⟩) | ((with_reducible refine Ob.mk ?_); first | exact trivial | (intros; omega) | ((repeat' first | apply And.intro | (intro a; have b := a; try simp only [zH] at b)) <;> first | assumption | omega | (simp only [zH]; omega)))
        refine back (i + 1) [] ?_ ⟨by omega, hnew hb⟩ (by omega)
        (refine ⟨rfl, ?_, ?_⟩ <;> simp only [zE, evp, evx, ev1, evLoad, evStore, evBin, evIf, Zad, forall_const, z38, tb, reduceAdd, reduceSub, reduceMul, reduceEqDiff, reduceLeDiff, reduceLT, Nat.reduceBEq, Nat.reduceBNe, ↓reduceIte, reduceIte, spPy, joiS, ctvS, Zav, zI])
    · rw [if_neg (by omega)] at hA
      rw [← hA]
      clear hb
      repeat' first
        | with_reducible first | apply Zar | apply Zan | apply Zaa | apply Zac | apply Zah | apply Zap | apply Zag | apply Zaj | apply Zaq | apply Zas | apply Zao | apply Zal | apply Zab | apply Zak
        | ((with_reducible refine Zai ?_ ?_); exact rfl) | ((with_reducible refine Zat ?_); refine Zam rfl ?_ ?_ <;> intro hb <;> (try simp only [zH] at hb)) | ((with_reducible refine Zau 11 ?_ ?_); (· exact rfl); (with_reducible refine Zau 12 ?_ ?_); (· exact rfl); (first | refine Zaf htb hmz Zbl fF rfl rfl ?_ | refine Zae hmo htb hmz Zbl fF rfl rfl (by kernel_rfl) ?_); intro _ _ _ _ h; simp only [zE, evp, evx, ev1, evLoad, evStore, evBin, evIf, Zad, forall_const, z38, tb, reduceAdd, reduceSub, reduceMul, reduceEqDiff, reduceLeDiff, reduceLT, Nat.reduceBEq, Nat.reduceBNe, ↓reduceIte, reduceIte, spPy, joiS, ctvS, Zav] at h; obtain ⟨rfl, rfl, rfl, rfl⟩ := h; refine ⟨?_, ?_⟩) | ((with_reducible refine Ob.mk ?_); first | exact trivial | (intros; omega) | ((repeat' first | apply And.intro | (intro a; have b := a; try simp only [zH] at b)) <;> first | assumption | omega | (simp only [zH]; omega)))
      · repeat' first
          | with_reducible first | apply Zar | apply Zan | apply Zaa | apply Zac | apply Zah | apply Zap | apply Zag | apply Zaj | apply Zaq | apply Zas | apply Zao | apply Zal | apply Zab | apply Zak
          | ((with_reducible refine Zai ?_ ?_); exact rfl) | ((with_reducible refine Zat ?_); refine Zam rfl ?_ ?_ <;> intro hb <;> (try simp only [zH] at hb)) | ((with_reducible refine Zaz ?_); (first | refine Zaf htb hmz Zbl fF rfl rfl ?_ | refine Zae hmo htb hmz Zbl fF rfl rfl (by kernel_rfl) ?_); intro _ _ _ _ h; simp only [zE, evp, evx, ev1, evLoad, evStore, evBin, evIf, Zad, forall_const, z38, tb, reduceAdd, reduceSub, reduceMul, reduceEqDiff, reduceLeDiff, reduceLT, Nat.reduceBEq, Nat.reduceBNe, ↓reduceIte, reduceIte, spPy, joiS, ctvS, Zav] at h; obtain ⟨rfl, rfl, rfl, rfl⟩ := h; refine ⟨?_, ?_⟩) | ((with_reducible refine Ob.mk ?_); first | exact trivial | (intros; omega) | ((repeat' first | apply And.intro | (intro a; have b := a; try simp only [zH] at b)) <;> first | assumption | omega | (simp only [zH]; omega)))
        refine Zax rfl rfl (Zaw rfl ?_ rfl)
        rw [hfin hb]; rfl
      · repeat' first
          | with_reducible first | apply Zar | apply Zan | apply Zaa | apply Zac | apply Zah | apply Zap | apply Zag | apply Zaj | apply Zaq | apply Zas | apply Zao | apply Zal | apply Zab | apply Zak
          | ((with_reducible refine Zai ?_ ?_); exact rfl) | ((with_reducible refine Zat ?_); refine Zam rfl ?_ ?_ <;> intro hb <;> (try simp only [zH] at hb)) | ((with_reducible refine Zaz ?_); (first | refine Zaf htb hmz Zbl fF rfl rfl ?_ | refine Zae hmo htb hmz Zbl fF rfl rfl (by kernel_rfl) ?_); intro _ _ _ _ h; simp only [zE, evp, evx, ev1, evLoad, evStore, evBin, evIf, Zad, forall_const, z38, tb, reduceAdd, reduceSub, reduceMul, reduceEqDiff, reduceLeDiff, reduceLT, Nat.reduceBEq, Nat.reduceBNe, ↓reduceIte, reduceIte, spPy, joiS, ctvS, Zav] at h; obtain ⟨rfl, rfl, rfl, rfl⟩ := h; refine ⟨?_, ?_⟩) | ((with_reducible refine Ob.mk ?_); first | exact trivial | (intros; omega) | ((repeat' first | apply And.intro | (intro a; have b := a; try simp only [zH] at b)) <;> first | assumption | omega | (simp only [zH]; omega)))
        refine back (i + 1) [] ?_ ⟨by omega, hnew hb⟩ (by omega)
        (refine ⟨rfl, ?_, ?_⟩ <;> simp only [zE, evp, evx, ev1, evLoad, evStore, evBin, evIf, Zad, forall_const, z38, tb, reduceAdd, reduceSub, reduceMul, reduceEqDiff, reduceLeDiff, reduceLT, Nat.reduceBEq, Nat.reduceBNe, ↓reduceIte, reduceIte, spPy, joiS, ctvS, Zav, zI])
  have hie : i = L.length := by omega
  subst hie
  repeat' first
    | with_reducible first | apply Zar | apply Zan | apply Zaa | apply Zac | apply Zah | apply Zap | apply Zag | apply Zaj | apply Zaq | apply Zas | apply Zao | apply Zal | apply Zab | apply Zak
    | ((with_reducible refine Zai ?_ ?_); exact rfl) | ((with_reducible refine Zat ?_); refine Zam rfl ?_ ?_ <;> intro hb <;> (try simp only [zH] at hb)) | ((with_reducible refine Zaz ?_); (first | refine Zaf htb hmz Zbl fF rfl rfl ?_ | refine Zae hmo htb hmz Zbl fF rfl rfl (by kernel_rfl) ?_); intro _ _ _ _ h; simp only [zE, evp, evx, ev1, evLoad, evStore, evBin, evIf, Zad, forall_const, z38, tb, reduceAdd, reduceSub, reduceMul, reduceEqDiff, reduceLeDiff, reduceLT, Nat.reduceBEq, Nat.reduceBNe, ↓reduceIte, reduceIte, spPy, joiS, ctvS, Zav] at h; obtain ⟨rfl, rfl, rfl, rfl⟩ := h; refine ⟨?_, ?_⟩) | ((with_reducible refine Ob.mk ?_); first | exact trivial | (intros; omega) | ((repeat' first | apply And.intro | (intro a; have b := a; try simp only [zH] at b)) <;> first | assumption | omega | (simp only [zH]; omega)))
  refine Zax rfl rfl (Zaw rfl ?_ rfl)
  have hf : isP ⟨o, p, x⟩ s lp = true := by
    rw [hP]
    exact decide_eq_true ⟨hlp, hk, hk2⟩
  rw [hf]; rfl
section
open Pl
structure MQ (es : List (Int × Int × Nat)) (L : List (Nat × Nat)) : Prop where
  has : ∀ v : Nat, mhas v es = decide (v ∈ L.map Prod.fst)
  get : ∀ v u : Nat, (v, u) ∈ L → mget v es = u
theorem MQ_nil : MQ [] [] := ⟨fun v => rfl, fun v u h => by cases h⟩
theorem MQ_put {es : List (Int × Int × Nat)} {L : List (Nat × Nat)} {w u c : Nat} (h : MQ es L) (hw : w ∉ L.map Prod.fst) : MQ (mput w u c es) (L ++ [(w, u)]) := by
  refine ⟨fun v => ?_, fun v z hv => ?_⟩
  · rw [Zgg, h.has]
    by_cases e : v = w
    · subst e; simp
    · rw [if_neg (by omega)]
      simp [e]
  · rw [Zgh]
    rcases List.mem_append.1 hv with hv | hv
    · have : v ≠ w := fun e => hw (e ▸ List.mem_map.2 ⟨_, hv, rfl⟩)
      rw [if_neg (by omega)]
      exact h.get v z hv
    · rw [List.mem_singleton] at hv
      injection hv with h1 h2
      rw [if_pos (by omega), h2]
variable {nx : Nat → List Nat} {thr : Nat → Prop} {n fr : Nat} {L : List (Nat × Nat)} {i j v w u : Nat}
def qF (fr : Nat) (L : List (Nat × Nat)) : List Nat := fr :: L.map Prod.fst
theorem Zgr : (qF fr L).length = L.length + 1 := by simp [qF]
theorem Zez : qF fr (L ++ [(w, u)]) = qF fr L ++ [w] := by simp [qF]
theorem Zfx {l : List Nat} {a k : Nat} (h : k ≤ l.length) : (l ++ [a]).take k = l.take k := List.take_append_of_le_length h
def Zbe (l : List Nat) : List Int := l.map fun v : Nat => (v : Int)
end
section
open Go Pl
def Chn (nx : Nat → List Nat) : List Nat → Prop
  | [] => True
  | [_] => True
  | a :: b :: l => b ∈ nx a ∧ Chn nx (b :: l)
variable {nx : Nat → List Nat}
theorem Zi6 : ∀ {l : List Nat}, Chn nx l → ∀ (k a b : Nat), l[k]? = some a → l[k + 1]? = some b → b ∈ nx a
  | [], _, k, a, b, h, _ => by simp at h
  | [c], _, k, a, b, _, h => by simp at h
  | c :: d :: l, h, 0, a, b, h1, h2 => by
    simp only [List.getElem?_cons_zero, Option.some.injEq, List.getElem?_cons_succ] at h1 h2
    subst h1; subst h2; exact h.1
  | c :: d :: l, h, k + 1, a, b, h1, h2 => Zi6 (l := d :: l) h.2 k a b (by simpa using h1) (by simpa using h2)
variable {pr : Nat → Int} {pl : Int} {n : Nat}
end
section
open Go Pl
variable {g : Gm} {W C : List Int}
def nxV (g : Gm) (W C : List Int) (q : Int) (v : Nat) : List Int := if g.own.getD v 0 = q ∧ W.getD v 0 = q then [C.getD v 0] else g.nxt.getD v []
def nxVn (g : Gm) (W C : List Int) (q : Int) (v : Nat) : List Nat := (nxV g W C q v).map Int.toNat
theorem Zes {l : List Nat} {i : Nat} : (Zbe l).getD i 0 = ((l.getD i 0 : Nat) : Int) := by
  unfold Zbe
  simp only [List.getD_eq_getElem?_getD, List.getElem?_map]
  cases l[i]? <;> rfl
theorem cp_of (hv : Zba g = true) (hc : Zbn g W C = true) {q : Int} {S L : List Nat} (hne : L ≠ []) (hlt : ∀ z, z ∈ S ++ L → z < g.own.length) (hch : Chn (nxVn g W C q) (S ++ L ++ [L.headD 0])) : isP g (Zbe S) (Zbe L) = true ∧ folP g W C (Zbe S) (Zbe L) q := by
  have hG := gok (validB_iff.1 hv)
  obtain ⟨_, _, hc⟩ := of_decide_eq_true hc
  have hal : Zbe S ++ Zbe L = Zbe (S ++ L) := (List.map_append ..).symm
  have hll : (Zbe (S ++ L)).length = (S ++ L).length := List.length_map ..
  have hb : ∀ i, i < (S ++ L).length → (S ++ L).getD i 0 < g.own.length := fun i hi => hlt _ (by
    rw [List.getD_eq_getElem?_getD, List.getElem?_eq_getElem hi]; exact List.getElem_mem ..)
  have haf : ∀ i : Nat, i < (S ++ L).length → ∃ b : Nat, aftP (Zbe (S ++ L)) (Zbe L) i = b ∧ b ∈ nxVn g W C q ((S ++ L).getD i 0) := by
    intro i hi
    have e1 : (S ++ L ++ [L.headD 0])[i]? = some ((S ++ L).getD i 0) := by
      rw [List.getElem?_append_left hi, List.getD_eq_getElem?_getD, List.getElem?_eq_getElem hi]; rfl
    unfold aftP
    rw [hll]
    by_cases h1 : i + 1 < (S ++ L).length
    · rw [if_pos (by omega), show ((i : Int) + 1).toNat = i + 1 by omega, Zes]
      refine ⟨_, rfl, Zi6 hch i _ _ e1 ?_⟩
      rw [List.getElem?_append_left h1, List.getD_eq_getElem?_getD, List.getElem?_eq_getElem h1]; rfl
    · rw [if_neg (by omega), Zes]
      refine ⟨_, rfl, Zi6 hch i _ _ e1 ?_⟩
      have e2 : i + 1 = (S ++ L).length := by omega
      rw [List.getElem?_append_right (by omega), e2, Nat.sub_self]
      cases L with
      | nil => exact absurd rfl hne
      | cons a L => rfl
  have hps : ∀ i, psP (Zbe (S ++ L)) i = (S ++ L).getD i 0 := fun i => by
    unfold psP
    rw [Zes, Int.toNat_natCast]
  have hin : ∀ v, v < g.own.length → ∀ b : Nat, b ∈ nxVn g W C q v → (b : Int) ∈ g.nxt.getD v [] ∧ (g.own.getD v 0 = q ∧ W.getD v 0 = q → (b : Int) = C.getD v 0) := fun v hvn b hb => by
    obtain ⟨z, hz, rfl⟩ := List.mem_map.1 hb
    have hnn : ∀ z, z ∈ g.nxt.getD v [] → 0 ≤ z := fun z hz => by
      obtain ⟨k, hk, rfl⟩ := Zfu hz
      exact (hG.at' v hvn k hk).1
    unfold nxV at hz
    split at hz
    · rename_i h
      have hm : C.getD v 0 ∈ g.nxt.getD v [] := (hc v hvn).2.1 (h.1.trans h.2.symm)
      rw [List.mem_singleton.1 hz, Int.toNat_of_nonneg (hnn _ hm)]
      exact ⟨hm, fun _ => rfl⟩
    · rename_i h
      rw [Int.toNat_of_nonneg (hnn z hz)]
      exact ⟨hz, fun h2 => absurd h2 h⟩
  refine ⟨isP_iff.2 ⟨fun e => hne (List.map_eq_nil_iff.1 e), fun i hi => ?_, fun i hi => ?_⟩, fun i hi h => ?_⟩
  · rw [hal] at hi ⊢
    rw [hll] at hi
    rw [Zes]
    have := hb i hi
    omega
  · rw [hal] at hi ⊢
    rw [hll] at hi
    obtain ⟨b, e, hbn⟩ := haf i hi
    rw [e, hps]
    exact (hin _ (hb i hi) b hbn).1
  · rw [hal] at hi h ⊢
    rw [hll] at hi
    obtain ⟨b, e, hbn⟩ := haf i hi
    rw [hps] at h ⊢
    rw [e]
    exact (hin _ (hb i hi) b hbn).2 h
structure CpOK (g : Gm) (W C s l : List Int) : Prop where
  is : isP g s l = true
  ag : Zcr g W C s l = true
  len : s.length + l.length ≤ 2 * g.own.length
theorem chn_orb {nx : Nat → List Nat} {F : Nat → Nat} {u : Nat} (hF : ∀ j, orb F u (j + 1) ∈ nx (orb F u j)) : ∀ (m a : Nat), Chn nx ((List.range' a m).map (orb F u))
  | 0, a => trivial
  | 1, a => trivial
  | m + 2, a => ⟨hF a, chn_orb hF (m + 1) (a + 1)⟩
theorem left_cp (hv : Zba g = true) (hc : Zbn g W C = true) {v u j k : Nat} {F : Nat → Nat} (hvn : v < g.own.length) (hu : u ∈ nxVn g W C (W.getD v 0) v) (hW : W.getD u 0 ≠ W.getD v 0) (hun : ∀ i, orb F u i < g.own.length) (hF : ∀ i, orb F u (i + 1) ∈ nxVn g W C (W.getD v 0) (orb F u i)) (hkj : k < j) (hj : j ≤ g.own.length) (he : orb F u j = orb F u k) :
    CpOK g W C ((v : Int) :: Zbe (((List.range j).map (orb F u)).take k)) (Zbe (((List.range j).map (orb F u)).drop k)) := by
  have e0 : (v : Int) :: Zbe (((List.range j).map (orb F u)).take k) = Zbe (v :: ((List.range j).map (orb F u)).take k) := rfl
  rw [e0]
  have hlen : ((List.range j).map (orb F u)).length = j := by simp
  have hdne : ((List.range j).map (orb F u)).drop k ≠ [] := fun h => by
    have := congrArg List.length h
    rw [List.length_drop, hlen] at this
    simp at this
    omega
  have hall : (v :: ((List.range j).map (orb F u)).take k) ++ ((List.range j).map (orb F u)).drop k = v :: (List.range j).map (orb F u) := by
    rw [List.cons_append, List.take_append_drop]
  have hhd : (((List.range j).map (orb F u)).drop k).headD 0 = orb F u j := by
    rw [he, List.headD_eq_head?_getD, List.head?_drop]
    simp [hkj]
  have hr : (List.range j).map (orb F u) ++ [orb F u j] = (List.range' 0 (j + 1)).map (orb F u) := by
    rw [← List.range_eq_range', List.range_succ, List.map_append]; rfl
  obtain ⟨h1, h2⟩ := cp_of hv hc (q := W.getD v 0) (S := v :: ((List.range j).map (orb F u)).take k) (L := ((List.range j).map (orb F u)).drop k) hdne (fun z hz => by
    rw [hall] at hz
    rcases List.mem_cons.1 hz with rfl | hz
    · exact hvn
    · obtain ⟨i, _, rfl⟩ := List.mem_map.1 hz
      exact hun i) (by
    rw [hall, hhd, List.cons_append, hr]
    have h3 := chn_orb (nx := nxVn g W C (W.getD v 0)) hF (j + 1) 0
    have e : (List.range' 0 (j + 1)).map (orb F u) = u :: (List.range' 1 j).map (orb F u) := by
      rw [List.range'_succ]; rfl
    rw [e] at h3 ⊢
    exact ⟨hu, h3⟩)
  have hfirst : psP (Zbe (v :: ((List.range j).map (orb F u)).take k) ++ Zbe (((List.range j).map (orb F u)).drop k)) 0 = v := by
    show (((v : Nat) : Int)).toNat = v
    exact Int.toNat_natCast _
  have hsec : Zbe (v :: ((List.range j).map (orb F u)).take k) ++ Zbe (((List.range j).map (orb F u)).drop k) = Zbe (v :: (List.range j).map (orb F u)) := by
    rw [← hall]
    exact (List.map_append ..).symm
  refine ⟨h1, against_iff.2 ⟨by rw [hfirst]; exact h2, .inl ⟨1, ?_, ?_⟩⟩, ?_⟩
  · rw [hsec]
    show 1 < (List.map _ _).length
    rw [List.length_map, List.length_cons, hlen]; omega
  · rw [hfirst, hsec]
    unfold psP
    rw [Zes, Int.toNat_natCast]
    have : (v :: (List.range j).map (orb F u)).getD 1 0 = u := by
      cases j with
      | zero => omega
      | succ j => simp [List.getD_eq_getElem?_getD, orb]
    rw [this]
    exact hW
  · show (List.map _ _).length + (List.map _ _).length ≤ _
    rw [List.length_map, List.length_map, List.length_cons, List.length_take, List.length_drop, hlen]
    omega
theorem lost_cp (hv : Zba g = true) (hc : Zbn g W C = true) {v : Nat} {L : List Nat} (hvn : v < g.own.length) (hL : ∃ r, L = v :: r) (hlt : ∀ z, z ∈ L → z < g.own.length) (hnd : L.Nodup) (hch : Chn (nxVn g W C (W.getD v 0)) (L ++ [v])) (hle : ∀ z, z ∈ L → g.pri.getD z 0 ≤ g.pri.getD v 0) (hp : g.pri.getD v 0 % 2 ≠ W.getD v 0) : CpOK g W C [] (Zbe L) := by
  have hG := gok (validB_iff.1 hv)
  obtain ⟨r, rfl⟩ := hL
  obtain ⟨h1, h2⟩ := cp_of hv hc (q := W.getD v 0) (S := []) (L := v :: r) (by simp) hlt hch
  have h1 : isP g [] (Zbe (v :: r)) = true := h1
  have h2 : folP g W C [] (Zbe (v :: r)) (W.getD v 0) := h2
  have hfirst : psP ([] ++ Zbe (v :: r)) 0 = v := by
    show (((v : Nat) : Int)).toNat = v
    exact Int.toNat_natCast _
  refine ⟨h1, against_iff.2 ⟨by rw [hfirst]; exact h2, .inr ?_⟩, ?_⟩
  · rw [hfirst]
    have e : (Zbe (v :: r)).foldl (fun a v => max a (g.pri.getD v.toNat 0)) 0 = g.pri.getD v 0 := by
      obtain ⟨m1, m2, m3⟩ := Zgl (f := fun v => g.pri.getD v.toNat 0) (l := Zbe (v :: r)) (a := 0)
      have a1 : g.pri.getD v 0 ≤ (Zbe (v :: r)).foldl (fun a v => max a (g.pri.getD v.toNat 0)) 0 := by
        have := m1 (v : Int) List.mem_cons_self
        rw [Int.toNat_natCast] at this
        exact this
      refine Int.le_antisymm ?_ a1
      rcases m3 with m3 | ⟨z, hz, m3⟩
      · rw [m3]; exact (hG.pri v hvn).1
      · rw [← m3]
        obtain ⟨y, hy, rfl⟩ := List.mem_map.1 hz
        rw [Int.toNat_natCast]
        exact hle y hy
    show (Zbe (v :: r)).foldl (fun a v => max a (g.pri.getD v.toNat 0)) 0 % 2 ≠ _
    rw [e]; exact hp
  · show 0 + (List.map _ _).length ≤ _
    rw [List.length_map]
    have := Zfb g.own.length _ hnd hlt
    omega
theorem right_sol (hv : Zba g = true) (hc : Zbn g W C = true) (h1 : ∀ v, v < g.own.length → ∀ u, u ∈ nxVn g W C (W.getD v 0) v → W.getD u 0 = W.getD v 0) (h2 : ∀ v, v < g.own.length → g.pri.getD v 0 % 2 ≠ W.getD v 0 → ¬ Cyc (fun a b => b ∈ nxVn g W C (W.getD v 0) a) (fun v => g.pri.getD v 0) v) : solB g W C = true := by
  have hV := validB_iff.1 hv
  have hG := gok hV
  obtain ⟨_, _, hcl⟩ := of_decide_eq_true hc
  refine (solB_iff hV).2 ⟨hc, fun q hq => ⟨fun v hvn hw ho => ?_, fun v hvn hw ho t ht htn => ?_, fun w hwn hw hp hcy => ?_⟩⟩
  · have hm : C.getD v 0 ∈ g.nxt.getD v [] := (hcl v hvn).2.1 (ho.trans hw.symm)
    have hmn : (C.getD v 0).toNat ∈ rws g.nxt v := List.mem_map.2 ⟨_, hm, rfl⟩
    refine ⟨hmn, hG.row v hvn _ hmn, ?_⟩
    have hw : W.getD v 0 = q := hw
    rw [← hw]
    refine h1 v hvn _ ?_
    unfold nxVn nxV
    rw [if_pos ⟨ho.trans hw.symm, rfl⟩]
    exact List.mem_singleton.2 rfl
  · have hw : W.getD v 0 = q := hw
    show W.getD t 0 = q
    rw [← hw]
    refine h1 v hvn t ?_
    unfold nxVn nxV
    rw [if_neg (fun h => ho (h.1.trans hw))]
    exact ht
  · have hw : W.getD w 0 = q := hw
    refine h2 w hwn (by rw [hw]; exact hp) ?_
    obtain ⟨t, t1, t2⟩ := hcy
    refine cyc_to t1 t2 fun a b ha hb he => ?_
    show b ∈ nxVn g W C (W.getD w 0) a
    rw [hw]
    unfold nxVn nxV
    by_cases ho : g.own.getD a 0 = q
    · rw [if_pos ⟨ho, he.1.2⟩]
      exact List.mem_singleton.2 (he.2.2.1 ho)
    · rw [if_neg (fun h => ho h.1)]
      exact he.2.2.2 ho
end
end Go.Proofs.YtdhoadhkkecjjaaDoor.Cal
