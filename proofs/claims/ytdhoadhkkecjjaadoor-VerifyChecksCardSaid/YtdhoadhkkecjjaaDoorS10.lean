/- Own texts, merged. -/
import Derived.Test.YtdhoadhkkecjjaaDoorS9
set_option linter.unusedVariables false
set_option linter.unusedSimpArgs false
open Nat (reduceAdd reduceSub reduceMul reduceEqDiff reduceLeDiff reduceLT)
namespace Go.Proofs.YtdhoadhkkecjjaaDoor.Cal
open Go Pl
def badV (n : Nat) (v : Int) : Bool := decide (v < 0 ∨ (n : Int) ≤ v)
def Zhk : Spec
  | [.int .i64 v, .rop (.agg (.cons (.roI o) (.cons (.roI p) (.cons (.roII x) .nil))))] => some ⟨True, .bool (badV o.length v), none⟩
  | _ => none
set_option maxRecDepth 4000 in
set_option maxHeartbeats 4000000 in
theorem ply1_ok : Zcm Tryd.prog 56 Zhk := by
  refine Zbe htb (fn := Tryd.f56) (by kernel_rfl) (by kernel_rfl) rfl (fun args r hS => ?_) (fun args r hS hob hl => ?_)
  · unfold Zhk at hS; split at hS <;> first | (cases hS; done) | (cases hS; exact Nat.le_of_ble_eq_true rfl)
  unfold Zhk at hS
  split at hS
  case h_2 => cases hS
  rename_i v o p x
  simp only [Option.some.injEq] at hS
  subst hS
  simp only [lenP, mkL, lim] at hl
  dsimp only at hob
  repeat' first
    | with_reducible first | apply Zar | apply Zan | apply Zaa | apply Zad | apply Zah | apply Zao | apply Zag | apply Zaj | apply Zaq | apply Zas | apply Zap | apply Zal | apply Zac | apply Zak
    | ((with_reducible refine Zai ?_ ?_); exact rfl) | ((with_reducible refine Zat ?_); refine Zam rfl ?_ ?_ <;> intro hb <;> (try simp only [zH] at hb)) | ((with_reducible refine Za3 ?_); (first | refine Zaf htb hmz noSp fF rfl rfl ?_ | refine Zae hmo htb hmz noSp fF rfl rfl (by kernel_rfl) ?_); intro _ _ _ _ h; simp only [zE, evp, evx, ev1, evLoad, evStore, evBin, evIf, Zab, forall_const, z38, tb, reduceAdd, reduceSub, reduceMul, reduceEqDiff, reduceLeDiff, reduceLT, Nat.reduceBEq, Nat.reduceBNe, ↓reduceIte, reduceIte] at h; obtain ⟨rfl, rfl, rfl, rfl⟩ := h; refine ⟨?_, ?_⟩) | ((with_reducible refine Ob.mk ?_); first | exact trivial | (intros; omega) | ((repeat' first | apply And.intro | (intro a; have b := a; try simp only [zH] at b)) <;> first | assumption | omega | (simp only [zH]; omega)))
  refine Zaz rfl rfl (Zav rfl ?_ rfl)
  show AV.bool (decide (v < 0) || decide ((o.length : Int) ≤ v)) = AV.bool (badV o.length v)
  unfold badV
  rw [Bool.decide_or]
def nbF (n : Nat) (l : List Int) : Nat → Nat → Int
  | _, 0 => -1
  | i, k + 1 => if badV n (l.getD i 0) = true then i else nbF n l (i + 1) k
theorem nbF_iff {n : Nat} {l : List Int} : ∀ {k i : Nat}, 0 ≤ nbF n l i k ↔ ∃ j, i ≤ j ∧ j < i + k ∧ badV n (l.getD j 0) = true
  | 0, i => ⟨fun h => absurd h (by unfold nbF; decide), fun ⟨j, h1, h2, _⟩ => by omega⟩
  | k + 1, i => by
    unfold nbF
    split
    · rename_i h
      exact ⟨fun _ => ⟨i, Nat.le_refl _, by omega, h⟩, fun _ => by omega⟩
    · rename_i h
      rw [nbF_iff]
      constructor
      · rintro ⟨j, h1, h2, h3⟩; exact ⟨j, by omega, by omega, h3⟩
      · rintro ⟨j, h1, h2, h3⟩
        refine ⟨j, ?_, by omega, h3⟩
        rcases Nat.lt_or_eq_of_le h1 with h4 | h4
        · exact h4
        · subst h4; exact absurd h3 h
def Zit : Spec
  | [.roI l, .fn 56 (.cons (.rop (.agg (.cons (.roI o) (.cons (.roI p) (.cons (.roII x) .nil))))) .nil)] => some ⟨True, .int .i64 (nbF o.length l 0 l.length), none⟩
  | _ => none
def spIv : Nat → Option Spec
  | 56 => some Zhk
  | _ => none
theorem Zgr : SpOK Tryd.prog spIv := by
  intro f S h
  unfold spIv at h
  split at h
  · cases h; exact ply1_ok
  · cases h
set_option maxRecDepth 4000 in
set_option maxHeartbeats 4000000 in
theorem idxv_ok : Zcm Tryd.prog 64 Zit := by
  refine Zbe htb (fn := Tryd.f64) (by kernel_rfl) (by kernel_rfl) rfl (fun args r hS => ?_) (fun args r hS hob hl => ?_)
  · unfold Zit at hS; split at hS <;> first | (cases hS; done) | (cases hS; exact Nat.le_of_ble_eq_true rfl)
  unfold Zit at hS
  split at hS
  case h_2 => cases hS
  rename_i l o p x
  simp only [Option.some.injEq] at hS
  subst hS
  simp only [lenP, mkL, lim] at hl
  dsimp only at hob
  repeat' first
    | with_reducible first | apply Zar | apply Zan | apply Zaa | apply Zad | apply Zah | apply Zao | apply Zag | apply Zaj | apply Zaq | apply Zas | apply Zap | apply Zal | apply Zac | apply Zak
    | ((with_reducible refine Zai ?_ ?_); exact rfl) | ((with_reducible refine Zat ?_); refine Zam rfl ?_ ?_ <;> intro hb <;> (try simp only [zH] at hb)) | ((with_reducible refine Za3 ?_); (first | refine Zaf htb hmz Zgr fF rfl rfl ?_ | refine Zae hmo htb hmz Zgr fF rfl rfl (by kernel_rfl) ?_); intro _ _ _ _ h; simp only [zE, evp, evx, ev1, evLoad, evStore, evBin, evIf, Zab, forall_const, z38, tb, reduceAdd, reduceSub, reduceMul, reduceEqDiff, reduceLeDiff, reduceLT, Nat.reduceBEq, Nat.reduceBNe, ↓reduceIte, reduceIte, spIv, Zhk] at h; obtain ⟨rfl, rfl, rfl, rfl⟩ := h; refine ⟨?_, ?_⟩) | ((with_reducible refine Ob.mk ?_); first | exact trivial | (intros; omega) | ((repeat' first | apply And.intro | (intro a; have b := a; try simp only [zH] at b)) <;> first | assumption | omega | (simp only [zH]; omega)))
  refine Za6 (τ := Nat) (fun i => i ≤ l.length ∧ nbF o.length l i (l.length - i) = nbF o.length l 0 l.length) (fun i => ⟨4, [(8, .int .i64 i), (7, .int .i64 l.length), (0, .roI l), (1, .fn 56 (.cons (.rop (.agg (.cons (.roI o) (.cons (.roI p) (.cons (.roII x) .nil))))) .nil))], [], []⟩) (fun i => l.length - i) 0 [] ?_ ⟨Nat.zero_le _, rfl⟩ ?_
  · (refine ⟨rfl, ?_, ?_⟩ <;> simp only [zE, evp, evx, ev1, evLoad, evStore, evBin, evIf, Zab, forall_const, z38, tb, reduceAdd, reduceSub, reduceMul, reduceEqDiff, reduceLeDiff, reduceLT, Nat.reduceBEq, Nat.reduceBNe, ↓reduceIte, reduceIte, spIv, Zhk, zI])
  rintro i ⟨hi, hj⟩
  have hst : i < l.length → nbF o.length l i (l.length - i) = if badV o.length (l.getD i 0) = true then (i : Int) else nbF o.length l (i + 1) (l.length - (i + 1)) := fun h => by
    rw [show l.length - i = l.length - (i + 1) + 1 by omega]; rfl
  repeat' first
    | with_reducible first | apply Zar | apply Zan | apply Zaa | apply Zad | apply Zah | apply Zao | apply Zag | apply Zaj | apply Zaq | apply Zas | apply Zap | apply Zal | apply Zac | apply Zak
    | ((with_reducible refine Zai ?_ ?_); exact rfl) | ((with_reducible refine Zat ?_); refine Zam rfl ?_ ?_ <;> intro hb <;> (try simp only [zH] at hb)) | ((with_reducible refine Za3 ?_); (first | refine Zaf htb hmz Zgr fF rfl rfl ?_ | refine Zae hmo htb hmz Zgr fF rfl rfl (by kernel_rfl) ?_); intro _ _ _ _ h; simp only [zE, evp, evx, ev1, evLoad, evStore, evBin, evIf, Zab, forall_const, z38, tb, reduceAdd, reduceSub, reduceMul, reduceEqDiff, reduceLeDiff, reduceLT, Nat.reduceBEq, Nat.reduceBNe, ↓reduceIte, reduceIte, spIv, Zhk] at h; obtain ⟨rfl, rfl, rfl, rfl⟩ := h; refine ⟨?_, ?_⟩) | ((with_reducible refine Ob.mk ?_); first | exact trivial | (intros; omega) | ((repeat' first | apply And.intro | (intro a; have b := a; try simp only [zH] at b)) <;> first | assumption | omega | (simp only [zH]; omega)))
  · refine Zaz rfl rfl (Zav rfl ?_ rfl)
    rw [← hj, hst (by omega), if_pos hb]
    rfl
  · refine back (i + 1) [] ?_ ⟨by omega, ?_⟩ (by omega)
    · (refine ⟨rfl, ?_, ?_⟩ <;> simp only [zE, evp, evx, ev1, evLoad, evStore, evBin, evIf, Zab, forall_const, z38, tb, reduceAdd, reduceSub, reduceMul, reduceEqDiff, reduceLeDiff, reduceLT, Nat.reduceBEq, Nat.reduceBNe, ↓reduceIte, reduceIte, spIv, Zhk, zI])
    · rw [← hj, hst (by omega), if_neg]
      intro h
      rw [hb] at h; cases h
  · refine Zaz rfl rfl (Zav rfl ?_ rfl)
    have hin : i = l.length := by omega
    rw [← hj, hin, Nat.sub_self]
    rfl
def ctvS : Spec
  | [.roI l, .fn 56 (.cons (.rop (.agg (.cons (.roI o) (.cons (.roI p) (.cons (.roII x) .nil))))) .nil)] => some ⟨True, .bool (decide (0 ≤ nbF o.length l 0 l.length)), none⟩
  | _ => none
def spCv : Nat → Option Spec
  | 64 => some Zit
  | _ => none
theorem spCv_ok : SpOK Tryd.prog spCv := by
  intro f S h
  unfold spCv at h
  split at h
  · cases h; exact idxv_ok
  · cases h
set_option maxRecDepth 4000 in
set_option maxHeartbeats 4000000 in
theorem ctv_ok : Zcm Tryd.prog 55 ctvS := by
  refine Zbe htb (fn := Tryd.f55) (by kernel_rfl) (by kernel_rfl) rfl (fun args r hS => ?_) (fun args r hS hob hl => ?_)
  · unfold ctvS at hS; split at hS <;> first | (cases hS; done) | (cases hS; exact Nat.le_of_ble_eq_true rfl)
  unfold ctvS at hS
  split at hS
  case h_2 => cases hS
  rename_i l o p x
  simp only [Option.some.injEq] at hS
  subst hS
  simp only [lenP, mkL, lim] at hl
  dsimp only at hob
  repeat' first
    | with_reducible first | apply Zar | apply Zan | apply Zaa | apply Zad | apply Zah | apply Zao | apply Zag | apply Zaj | apply Zaq | apply Zas | apply Zap | apply Zal | apply Zac | apply Zak
    | ((with_reducible refine Zai ?_ ?_); exact rfl) | ((with_reducible refine Zat ?_); refine Zam rfl ?_ ?_ <;> intro hb <;> (try simp only [zH] at hb)) | ((with_reducible refine Za3 ?_); (first | refine Zaf htb hmz spCv_ok fF rfl rfl ?_ | refine Zae hmo htb hmz spCv_ok fF rfl rfl (by kernel_rfl) ?_); intro _ _ _ _ h; simp only [zE, evp, evx, ev1, evLoad, evStore, evBin, evIf, Zab, forall_const, z38, tb, reduceAdd, reduceSub, reduceMul, reduceEqDiff, reduceLeDiff, reduceLT, Nat.reduceBEq, Nat.reduceBNe, ↓reduceIte, reduceIte, spCv, Zit] at h; obtain ⟨rfl, rfl, rfl, rfl⟩ := h; refine ⟨?_, ?_⟩) | ((with_reducible refine Ob.mk ?_); first | exact trivial | (intros; omega) | ((repeat' first | apply And.intro | (intro a; have b := a; try simp only [zH] at b)) <;> first | assumption | omega | (simp only [zH]; omega)))
  refine Zaz rfl rfl (Zav rfl ?_ rfl)
  rfl
def plyS : Spec
  | [.agg (.cons (.roI o) (.cons (.roI p) (.cons (.roII x) .nil))), .agg (.cons (.roI s) (.cons (.roI lp) .nil))] => some ⟨(s.length ≤ 40000 ∧ lp.length ≤ 40000) ∧ x.length = o.length, .bool (isP ⟨o, p, x⟩ s lp), none⟩
  | _ => none
def spPy : Nat → Option Spec
  | 39 => some joiS
  | 55 => some ctvS
  | 41 => some Za0
  | _ => none
theorem Zbn : SpOK Tryd.prog spPy := by
  intro f S h
  unfold spPy at h
  split at h
  · cases h; exact Ze5
  · cases h; exact ctv_ok
  · cases h; exact Zes
  · cases h
set_option maxRecDepth 4000 in
set_option maxHeartbeats 4000000 in
theorem ply_ok : Zcm Tryd.prog 38 plyS := by
  refine Zbe htb (fn := Tryd.f38) (by kernel_rfl) (by kernel_rfl) rfl (fun args r hS => ?_) (fun args r hS hob hl => ?_)
  · unfold plyS at hS; split at hS <;> first | (cases hS; done) | (cases hS; exact Nat.le_of_ble_eq_true rfl)
  unfold plyS at hS
  split at hS
  case h_2 => cases hS
  rename_i o p x s lp
  simp only [Option.some.injEq] at hS
  subst hS
  simp only [lenP, mkL, lim] at hl
  dsimp only at hob
  obtain ⟨⟨h1, h2⟩, h3⟩ := hob
  have hal : (s ++ lp).length = s.length + lp.length := List.length_append ..
  have hfl : [s, lp].flatten = s ++ lp := by simp
  have hfl2 : [s, lp].flatten.length ≤ 100000 := by rw [hfl]; omega
  have hP : isP ⟨o, p, x⟩ s lp = decide (lp ≠ [] ∧ (∀ i, i < (s ++ lp).length → 0 ≤ (s ++ lp).getD i 0 ∧ (s ++ lp).getD i 0 < (o.length : Int)) ∧ ∀ i : Nat, i < (s ++ lp).length → aftP (s ++ lp) lp i ∈ x.getD ((s ++ lp).getD i 0).toNat []) := by
    unfold isP
    exact decide_eq_decide.2 Iff.rfl
  repeat' first
    | with_reducible first | apply Zar | apply Zan | apply Zaa | apply Zad | apply Zah | apply Zao | apply Zag | apply Zaj | apply Zaq | apply Zas | apply Zap | apply Zal | apply Zac | apply Zak
    | ((with_reducible refine Zai ?_ ?_); exact rfl) | ((with_reducible refine Zat ?_); refine Zam rfl ?_ ?_ <;> intro hb <;> (try simp only [zH] at hb)) | ((with_reducible refine Zau 2 ?_ ?_); (· exact rfl); (first | refine Zaf htb hmz Zbn fF rfl rfl ?_ | refine Zae hmo htb hmz Zbn fF rfl rfl (by kernel_rfl) ?_); intro _ _ _ _ h; simp only [zE, evp, evx, ev1, evLoad, evStore, evBin, evIf, Zab, forall_const, z38, tb, reduceAdd, reduceSub, reduceMul, reduceEqDiff, reduceLeDiff, reduceLT, Nat.reduceBEq, Nat.reduceBNe, ↓reduceIte, reduceIte, spPy, joiS, ctvS, Za0] at h; obtain ⟨rfl, rfl, rfl, rfl⟩ := h; refine ⟨?_, ?_⟩) | ((with_reducible refine Ob.mk ?_); first | exact trivial | (intros; omega) | ((repeat' first | apply And.intro | (intro a; have b := a; try simp only [zH] at b)) <;> first | assumption | omega | (simp only [zH]; omega)))
  rw [hfl]
  generalize s ++ lp = L at *
  have hL : L.length ≤ 80000 := by omega
  clear hfl hfl2
  repeat' first
    | with_reducible first | apply Zar | apply Zan | apply Zaa | apply Zad | apply Zah | apply Zao | apply Zag | apply Zaj | apply Zaq | apply Zas | apply Zap | apply Zal | apply Zac | apply Zak
    | ((with_reducible refine Zai ?_ ?_); exact rfl) | ((with_reducible refine Zat ?_); refine Zam rfl ?_ ?_ <;> intro hb <;> (try simp only [zH] at hb)) | ((with_reducible refine Zau 3 ?_ ?_); (· exact rfl); (with_reducible refine Zau 4 ?_ ?_); (· exact rfl); (first | refine Zaf htb hmz Zbn fF rfl rfl ?_ | refine Zae hmo htb hmz Zbn fF rfl rfl (by kernel_rfl) ?_); intro _ _ _ _ h; simp only [zE, evp, evx, ev1, evLoad, evStore, evBin, evIf, Zab, forall_const, z38, tb, reduceAdd, reduceSub, reduceMul, reduceEqDiff, reduceLeDiff, reduceLT, Nat.reduceBEq, Nat.reduceBNe, ↓reduceIte, reduceIte, spPy, joiS, ctvS, Za0] at h; obtain ⟨rfl, rfl, rfl, rfl⟩ := h; refine ⟨?_, ?_⟩) | ((with_reducible refine Ob.mk ?_); first | exact trivial | (intros; omega) | ((repeat' first | apply And.intro | (intro a; have b := a; try simp only [zH] at b)) <;> first | assumption | omega | (simp only [zH]; omega)))
  · have hf : isP ⟨o, p, x⟩ s lp = false := by
      rw [hP]
      refine decide_eq_false fun h => ?_
      rcases hb with hb | hb
      · exact h.1 (List.length_eq_zero_iff.1 (by omega))
      · obtain ⟨j, _, hj, hbd⟩ := nbF_iff.1 hb
        have := h.2.1 j (by omega)
        have hbd := of_decide_eq_true hbd
        omega
    repeat' first
      | with_reducible first | apply Zar | apply Zan | apply Zaa | apply Zad | apply Zah | apply Zao | apply Zag | apply Zaj | apply Zaq | apply Zas | apply Zap | apply Zal | apply Zac | apply Zak
      | ((with_reducible refine Zai ?_ ?_); exact rfl) | ((with_reducible refine Zat ?_); refine Zam rfl ?_ ?_ <;> intro hb <;> (try simp only [zH] at hb)) | ((with_reducible refine Za3 ?_); (first | refine Zaf htb hmz Zbn fF rfl rfl ?_ | refine Zae hmo htb hmz Zbn fF rfl rfl (by kernel_rfl) ?_); intro _ _ _ _ h; simp only [zE, evp, evx, ev1, evLoad, evStore, evBin, evIf, Zab, forall_const, z38, tb, reduceAdd, reduceSub, reduceMul, reduceEqDiff, reduceLeDiff, reduceLT, Nat.reduceBEq, Nat.reduceBNe, ↓reduceIte, reduceIte, spPy, joiS, ctvS, Za0] at h; obtain ⟨rfl, rfl, rfl, rfl⟩ := h; refine ⟨?_, ?_⟩) | ((with_reducible refine Ob.mk ?_); first | exact trivial | (intros; omega) | ((repeat' first | apply And.intro | (intro a; have b := a; try simp only [zH] at b)) <;> first | assumption | omega | (simp only [zH]; omega)))
    refine Zaz rfl rfl (Zav rfl ?_ rfl)
    rw [hf]; rfl
  have hl0 : 0 < lp.length := by omega
  have hlp : lp ≠ [] := List.length_pos_iff.1 hl0
  have hk : ∀ j, j < L.length → 0 ≤ L.getD j 0 ∧ L.getD j 0 < (o.length : Int) := fun j hj => by
    have h0 : ¬ (badV o.length (L.getD j 0) = true) := fun hbd => by
      have := nbF_iff.2 ⟨j, Nat.zero_le _, (by omega : j < 0 + L.length), hbd⟩
      omega
    unfold badV at h0
    rw [decide_eq_true_eq] at h0
    omega
  clear hb
  repeat' first
    | with_reducible first | apply Zar | apply Zan | apply Zaa | apply Zad | apply Zah | apply Zao | apply Zag | apply Zaj | apply Zaq | apply Zas | apply Zap | apply Zal | apply Zac | apply Zak
    | ((with_reducible refine Zai ?_ ?_); exact rfl) | ((with_reducible refine Zat ?_); refine Zam rfl ?_ ?_ <;> intro hb <;> (try simp only [zH] at hb)) | ((with_reducible refine Za3 ?_); (first | refine Zaf htb hmz Zbn fF rfl rfl ?_ | refine Zae hmo htb hmz Zbn fF rfl rfl (by kernel_rfl) ?_); intro _ _ _ _ h; simp only [zE, evp, evx, ev1, evLoad, evStore, evBin, evIf, Zab, forall_const, z38, tb, reduceAdd, reduceSub, reduceMul, reduceEqDiff, reduceLeDiff, reduceLT, Nat.reduceBEq, Nat.reduceBNe, ↓reduceIte, reduceIte, spPy, joiS, ctvS, Za0] at h; obtain ⟨rfl, rfl, rfl, rfl⟩ := h; refine ⟨?_, ?_⟩) | ((with_reducible refine Ob.mk ?_); first | exact trivial | (intros; omega) | ((repeat' first | apply And.intro | (intro a; have b := a; try simp only [zH] at b)) <;> first | assumption | omega | (simp only [zH]; omega)))
  refine Za6 (τ := Nat) (fun i => i ≤ L.length ∧ ∀ j : Nat, j < i → aftP L lp j ∈ x.getD (L.getD j 0).toNat []) (fun i => ⟨22, [(26, .int .i64 i), (25, .int .i64 L.length), (24, .roI L), (5, .roI L), (3, .rop (.agg (.cons (.roI s) (.cons (.roI lp) .nil)))), (2, .rop (.agg (.cons (.roI o) (.cons (.roI p) (.cons (.roII x) .nil)))))], [], []⟩) (fun i => L.length - i) 0 [] ?_ ⟨Nat.zero_le _, fun j hj => absurd hj (Nat.not_lt_zero j)⟩ ?_
  · (refine ⟨rfl, ?_, ?_⟩ <;> simp only [zE, evp, evx, ev1, evLoad, evStore, evBin, evIf, Zab, forall_const, z38, tb, reduceAdd, reduceSub, reduceMul, reduceEqDiff, reduceLeDiff, reduceLT, Nat.reduceBEq, Nat.reduceBNe, ↓reduceIte, reduceIte, spPy, joiS, ctvS, Za0, zI])
  rintro i ⟨hi, hk2⟩
  have hk1 := hk i
  repeat' first
    | with_reducible first | apply Zar | apply Zan | apply Zaa | apply Zad | apply Zah | apply Zao | apply Zag | apply Zaj | apply Zaq | apply Zas | apply Zap | apply Zal | apply Zac | apply Zak
    | ((with_reducible refine Zai ?_ ?_); exact rfl) | ((with_reducible refine Zat ?_); refine Zam rfl ?_ ?_ <;> intro hb <;> (try simp only [zH] at hb)) | ((with_reducible refine Zau 8 ?_ ?_); (· exact rfl); (first | refine Zaf htb hmz Zbn fF rfl rfl ?_ | refine Zae hmo htb hmz Zbn fF rfl rfl (by kernel_rfl) ?_); intro _ _ _ _ h; simp only [zE, evp, evx, ev1, evLoad, evStore, evBin, evIf, Zab, forall_const, z38, tb, reduceAdd, reduceSub, reduceMul, reduceEqDiff, reduceLeDiff, reduceLT, Nat.reduceBEq, Nat.reduceBNe, ↓reduceIte, reduceIte, spPy, joiS, ctvS, Za0] at h; obtain ⟨rfl, rfl, rfl, rfl⟩ := h; refine ⟨?_, ?_⟩) | ((with_reducible refine Ob.mk ?_); first | exact trivial | (intros; omega) | ((repeat' first | apply And.intro | (intro a; have b := a; try simp only [zH] at b)) <;> first | assumption | omega | (simp only [zH]; omega)))
  · have hil : i < L.length := by omega
    have hk1 := hk1 hil
    have hA : aftP L lp i = if (i : Int) + 1 < L.length then L.getD ((i : Int) + 1).toNat 0 else lp.getD 0 0 := rfl
    have hfin : aftP L lp i ∉ x.getD (L.getD i 0).toNat [] → isP ⟨o, p, x⟩ s lp = false := fun h => by
      rw [hP]
      exact decide_eq_false fun h2 => h (h2.2.2 i hil)
    have hnew : aftP L lp i ∈ x.getD (L.getD i 0).toNat [] → ∀ j : Nat, j < i + 1 → aftP L lp j ∈ x.getD (L.getD j 0).toNat [] := fun h j hj => by
      rcases Nat.lt_succ_iff_lt_or_eq.1 hj with h2 | rfl
      · exact hk2 j h2
      · exact h
    obtain ⟨A, hAe⟩ : ∃ A, aftP L lp i = A := ⟨_, rfl⟩
    rw [hAe] at hA hfin hnew
    repeat' first
      | with_reducible first | apply Zar | apply Zan | apply Zaa | apply Zad | apply Zah | apply Zao | apply Zag | apply Zaj | apply Zaq | apply Zas | apply Zap | apply Zal | apply Zac | apply Zak
      | ((with_reducible refine Zai ?_ ?_); exact rfl) | ((with_reducible refine Zat ?_); refine Zam rfl ?_ ?_ <;> intro hb <;> (try simp only [zH] at hb)) | ((with_reducible refine Zau 9 ?_ ?_); (· exact rfl); (with_reducible refine Zau 10 ?_ ?_); (· exact rfl); (first | refine Zaf htb hmz Zbn fF rfl rfl ?_ | refine Zae hmo htb hmz Zbn fF rfl rfl (by kernel_rfl) ?_); intro _ _ _ _ h; simp only [zE, evp, evx, ev1, evLoad, evStore, evBin, evIf, Zab, forall_const, z38, tb, reduceAdd, reduceSub, reduceMul, reduceEqDiff, reduceLeDiff, reduceLT, Nat.reduceBEq, Nat.reduceBNe, ↓reduceIte, reduceIte, spPy, joiS, ctvS, Za0] at h; obtain ⟨rfl, rfl, rfl, rfl⟩ := h; refine ⟨?_, ?_⟩) | ((with_reducible refine Ob.mk ?_); first | exact trivial | (intros; omega) | ((repeat' first | apply And.intro | (intro a; have b := a; try simp only [zH] at b)) <;> first | assumption | omega | (simp only [zH]; omega)))
    · rw [if_pos hb] at hA
      have hb1 := hb
      clear hb
      repeat' first
        | with_reducible first | apply Zar | apply Zan | apply Zaa | apply Zad | apply Zah | apply Zao | apply Zag | apply Zaj | apply Zaq | apply Zas | apply Zap | apply Zal | apply Zac | apply Zak
        | ((with_reducible refine Zai ?_ ?_); exact rfl) | ((with_reducible refine Zat ?_); refine Zam rfl ?_ ?_ <;> intro hb <;> (try simp only [zH] at hb)) | ((with_reducible refine Zau 10 ?_ ?_); (· exact rfl); (first | refine Zaf htb hmz Zbn fF rfl rfl ?_ | refine Zae hmo htb hmz Zbn fF rfl rfl (by kernel_rfl) ?_); intro _ _ _ _ h; simp only [zE, evp, evx, ev1, evLoad, evStore, evBin, evIf, Zab, forall_const, z38, tb, reduceAdd, reduceSub, reduceMul, reduceEqDiff, reduceLeDiff, reduceLT, Nat.reduceBEq, Nat.reduceBNe, ↓reduceIte, reduceIte, spPy, joiS, ctvS, Za0] at h; obtain ⟨rfl, rfl, rfl, rfl⟩ := h; refine ⟨?_, ?_⟩) | ((with_reducible refine Ob.mk ?_); first | exact trivial | (intros; omega) | ((repeat' first | apply And.intro | (intro a; have b := a; try simp only [zH] at b)) <;> first | assumption | omega | (simp only [zH]; omega)))
      rw [← hA]
      repeat' first
        | with_reducible first | apply Zar | apply Zan | apply Zaa | apply Zad | apply Zah | apply Zao | apply Zag | apply Zaj | apply Zaq | apply Zas | apply Zap | apply Zal | apply Zac | apply Zak
        | ((with_reducible refine Zai ?_ ?_); exact rfl) | ((with_reducible refine Zat ?_); refine Zam rfl ?_ ?_ <;> intro hb <;> (try simp only [zH] at hb)) | ((with_reducible refine Zau 11 ?_ ?_); (· exact rfl); (with_reducible refine Zau 12 ?_ ?_); (· exact rfl); (first | refine Zaf htb hmz Zbn fF rfl rfl ?_ | refine Zae hmo htb hmz Zbn fF rfl rfl (by kernel_rfl) ?_); intro _ _ _ _ h; simp only [zE, evp, evx, ev1, evLoad, evStore, evBin, evIf, Zab, forall_const, z38, tb, reduceAdd, reduceSub, reduceMul, reduceEqDiff, reduceLeDiff, reduceLT, Nat.reduceBEq, Nat.reduceBNe, ↓reduceIte, reduceIte, spPy, joiS, ctvS, Za0] at h; obtain ⟨rfl, rfl, rfl, rfl⟩ := h; refine ⟨?_, ?_⟩) | ((with_reducible refine Ob.mk ?_); first | exact trivial | (intros; omega) | ((repeat' first | apply And.intro | (intro a; have b := a; try simp only [zH] at b)) <;> first | assumption | omega | (simp only [zH]; omega)))
      · repeat' first
          | with_reducible first | apply Zar | apply Zan | apply Zaa | apply Zad | apply Zah | apply Zao | apply Zag | apply Zaj | apply Zaq | apply Zas | apply Zap | apply Zal | apply Zac | apply Zak
          | ((with_reducible refine Zai ?_ ?_); exact rfl) | ((with_reducible refine Zat ?_); refine Zam rfl ?_ ?_ <;> intro hb <;> (try simp only [zH] at hb)) | ((with_reducible refine Za3 ?_); (first | refine Zaf htb hmz Zbn fF rfl rfl ?_ | refine Zae hmo htb hmz Zbn fF rfl rfl (by kernel_rfl) ?_); intro _ _ _ _ h; simp only [zE, evp, evx, ev1, evLoad, evStore, evBin, evIf, Zab, forall_const, z38, tb, reduceAdd, reduceSub, reduceMul, reduceEqDiff, reduceLeDiff, reduceLT, Nat.reduceBEq, Nat.reduceBNe, ↓reduceIte, reduceIte, spPy, joiS, ctvS, Za0] at h; obtain ⟨rfl, rfl, rfl, rfl⟩ := h; refine ⟨?_, ?_⟩) | ((with_reducible refine Ob.mk ?_); first | exact trivial | (intros; omega) | ((repeat' first | apply And.intro | (intro a; have b := a; try simp only [zH] at b)) <;> first | assumption | omega | (simp only [zH]; omega)))
        refine Zaz rfl rfl (Zav rfl ?_ rfl)
        rw [hfin hb]; rfl
      · repeat' first
          | with_reducible first | apply Zar | apply Zan | apply Zaa | apply Zad | apply Zah | apply Zao | apply Zag | apply Zaj | apply Zaq | apply Zas | apply Zap | apply Zal | apply Zac | apply Zak
          | ((with_reducible refine Zai ?_ ?_); exact rfl) | ((with_reducible refine Zat ?_); refine Zam rfl ?_ ?_ <;> intro hb <;> (try simp only [zH] at hb)) | ((with_reducible refine Za3 ?_); (first | refine Zaf htb hmz Zbn fF rfl rfl ?_ | refine Zae hmo htb hmz Zbn fF rfl rfl (by kernel_rfl) ?_); intro _ _ _ _ h; simp only [zE, evp, evx, ev1, evLoad, evStore, evBin, evIf, Zab, forall_const, z38, tb, reduceAdd, reduceSub, reduceMul, reduceEqDiff, reduceLeDiff, reduceLT, Nat.reduceBEq, Nat.reduceBNe, ↓reduceIte, reduceIte, spPy, joiS, ctvS, Za0] at h; obtain ⟨rfl, rfl, rfl, rfl⟩ := h; refine ⟨?_, ?_⟩) | ((with_reducible refine Ob.mk ?_); first | exact trivial | (intros; omega) | ((repeat' first | apply And.intro | (intro a; have b := a; try simp only [zH] at b)) <;> first | assumption | omega | (simp only [zH]; omega)))
        refine back (i + 1) [] ?_ ⟨by omega, hnew hb⟩ (by omega)
        (refine ⟨rfl, ?_, ?_⟩ <;> simp only [zE, evp, evx, ev1, evLoad, evStore, evBin, evIf, Zab, forall_const, z38, tb, reduceAdd, reduceSub, reduceMul, reduceEqDiff, reduceLeDiff, reduceLT, Nat.reduceBEq, Nat.reduceBNe, ↓reduceIte, reduceIte, spPy, joiS, ctvS, Za0, zI])
    · rw [if_neg (by omega)] at hA
      rw [← hA]
      clear hb
      repeat' first
        | with_reducible first | apply Zar | apply Zan | apply Zaa | apply Zad | apply Zah | apply Zao | apply Zag | apply Zaj | apply Zaq | apply Zas | apply Zap | apply Zal | apply Zac | apply Zak
        | ((with_reducible refine Zai ?_ ?_); exact rfl) | ((with_reducible refine Zat ?_); refine Zam rfl ?_ ?_ <;> intro hb <;> (try simp only [zH] at hb)) | ((with_reducible refine Zau 11 ?_ ?_); (· exact rfl); (with_reducible refine Zau 12 ?_ ?_); (· exact rfl); (first | refine Zaf htb hmz Zbn fF rfl rfl ?_ | refine Zae hmo htb hmz Zbn fF rfl rfl (by kernel_rfl) ?_); intro _ _ _ _ h; simp only [zE, evp, evx, ev1, evLoad, evStore, evBin, evIf, Zab, forall_const, z38, tb, reduceAdd, reduceSub, reduceMul, reduceEqDiff, reduceLeDiff, reduceLT, Nat.reduceBEq, Nat.reduceBNe, ↓reduceIte, reduceIte, spPy, joiS, ctvS, Za0] at h; obtain ⟨rfl, rfl, rfl, rfl⟩ := h; refine ⟨?_, ?_⟩) | ((with_reducible refine Ob.mk ?_); first | exact trivial | (intros; omega) | ((repeat' first | apply And.intro | (intro a; have b := a; try simp only [zH] at b)) <;> first | assumption | omega | (simp only [zH]; omega)))
      · repeat' first
          | with_reducible first | apply Zar | apply Zan | apply Zaa | apply Zad | apply Zah | apply Zao | apply Zag | apply Zaj | apply Zaq | apply Zas | apply Zap | apply Zal | apply Zac | apply Zak
          | ((with_reducible refine Zai ?_ ?_); exact rfl) | ((with_reducible refine Zat ?_); refine Zam rfl ?_ ?_ <;> intro hb <;> (try simp only [zH] at hb)) | ((with_reducible refine Za3 ?_); (first | refine Zaf htb hmz Zbn fF rfl rfl ?_ | refine Zae hmo htb hmz Zbn fF rfl rfl (by kernel_rfl) ?_); intro _ _ _ _ h; simp only [zE, evp, evx, ev1, evLoad, evStore, evBin, evIf, Zab, forall_const, z38, tb, reduceAdd, reduceSub, reduceMul, reduceEqDiff, reduceLeDiff, reduceLT, Nat.reduceBEq, Nat.reduceBNe, ↓reduceIte, reduceIte, spPy, joiS, ctvS, Za0] at h; obtain ⟨rfl, rfl, rfl, rfl⟩ := h; refine ⟨?_, ?_⟩) | ((with_reducible refine Ob.mk ?_); first | exact trivial | (intros; omega) | ((repeat' first | apply And.intro | (intro a; have b := a; try simp only [zH] at b)) <;> first | assumption | omega | (simp only [zH]; omega)))
        refine Zaz rfl rfl (Zav rfl ?_ rfl)
        rw [hfin hb]; rfl
      · repeat' first
          | with_reducible first | apply Zar | apply Zan | apply Zaa | apply Zad | apply Zah | apply Zao | apply Zag | apply Zaj | apply Zaq | apply Zas | apply Zap | apply Zal | apply Zac | apply Zak
          | ((with_reducible refine Zai ?_ ?_); exact rfl) | ((with_reducible refine Zat ?_); refine Zam rfl ?_ ?_ <;> intro hb <;> (try simp only [zH] at hb)) | ((with_reducible refine Za3 ?_); (first | refine Zaf htb hmz Zbn fF rfl rfl ?_ | refine Zae hmo htb hmz Zbn fF rfl rfl (by kernel_rfl) ?_); intro _ _ _ _ h; simp only [zE, evp, evx, ev1, evLoad, evStore, evBin, evIf, Zab, forall_const, z38, tb, reduceAdd, reduceSub, reduceMul, reduceEqDiff, reduceLeDiff, reduceLT, Nat.reduceBEq, Nat.reduceBNe, ↓reduceIte, reduceIte, spPy, joiS, ctvS, Za0] at h; obtain ⟨rfl, rfl, rfl, rfl⟩ := h; refine ⟨?_, ?_⟩) | ((with_reducible refine Ob.mk ?_); first | exact trivial | (intros; omega) | ((repeat' first | apply And.intro | (intro a; have b := a; try simp only [zH] at b)) <;> first | assumption | omega | (simp only [zH]; omega)))
        refine back (i + 1) [] ?_ ⟨by omega, hnew hb⟩ (by omega)
        (refine ⟨rfl, ?_, ?_⟩ <;> simp only [zE, evp, evx, ev1, evLoad, evStore, evBin, evIf, Zab, forall_const, z38, tb, reduceAdd, reduceSub, reduceMul, reduceEqDiff, reduceLeDiff, reduceLT, Nat.reduceBEq, Nat.reduceBNe, ↓reduceIte, reduceIte, spPy, joiS, ctvS, Za0, zI])
  have hie : i = L.length := by omega
  subst hie
  repeat' first
    | with_reducible first | apply Zar | apply Zan | apply Zaa | apply Zad | apply Zah | apply Zao | apply Zag | apply Zaj | apply Zaq | apply Zas | apply Zap | apply Zal | apply Zac | apply Zak
    | ((with_reducible refine Zai ?_ ?_); exact rfl) | ((with_reducible refine Zat ?_); refine Zam rfl ?_ ?_ <;> intro hb <;> (try simp only [zH] at hb)) | ((with_reducible refine Za3 ?_); (first | refine Zaf htb hmz Zbn fF rfl rfl ?_ | refine Zae hmo htb hmz Zbn fF rfl rfl (by kernel_rfl) ?_); intro _ _ _ _ h; simp only [zE, evp, evx, ev1, evLoad, evStore, evBin, evIf, Zab, forall_const, z38, tb, reduceAdd, reduceSub, reduceMul, reduceEqDiff, reduceLeDiff, reduceLT, Nat.reduceBEq, Nat.reduceBNe, ↓reduceIte, reduceIte, spPy, joiS, ctvS, Za0] at h; obtain ⟨rfl, rfl, rfl, rfl⟩ := h; refine ⟨?_, ?_⟩) | ((with_reducible refine Ob.mk ?_); first | exact trivial | (intros; omega) | ((repeat' first | apply And.intro | (intro a; have b := a; try simp only [zH] at b)) <;> first | assumption | omega | (simp only [zH]; omega)))
  refine Zaz rfl rfl (Zav rfl ?_ rfl)
  have hf : isP ⟨o, p, x⟩ s lp = true := by
    rw [hP]
    exact decide_eq_true ⟨hlp, hk, hk2⟩
  rw [hf]; rfl
section
open Pl
structure MQ (es : List (Int × Int × Nat)) (L : List (Nat × Nat)) : Prop where
  has : ∀ v : Nat, mhas v es = decide (v ∈ L.map Prod.fst)
  get : ∀ v u : Nat, (v, u) ∈ L → mget v es = u
theorem MQ_nil : MQ [] [] := ⟨fun v => rfl, fun v u h => by cases h⟩
theorem MQ_put {es : List (Int × Int × Nat)} {L : List (Nat × Nat)} {w u c : Nat} (h : MQ es L) (hw : w ∉ L.map Prod.fst) : MQ (mput w u c es) (L ++ [(w, u)]) := by
  refine ⟨fun v => ?_, fun v z hv => ?_⟩
  · rw [Zgb, h.has]
    by_cases e : v = w
    · subst e; simp
    · rw [if_neg (by omega)]
      simp [e]
  · rw [Zgc]
    rcases List.mem_append.1 hv with hv | hv
    · have : v ≠ w := fun e => hw (e ▸ List.mem_map.2 ⟨_, hv, rfl⟩)
      rw [if_neg (by omega)]
      exact h.get v z hv
    · rw [List.mem_singleton] at hv
      injection hv with h1 h2
      rw [if_pos (by omega), h2]
variable {nx : Nat → List Nat} {thr : Nat → Prop} {n fr : Nat} {L : List (Nat × Nat)} {i j v w u : Nat}
def qF (fr : Nat) (L : List (Nat × Nat)) : List Nat := fr :: L.map Prod.fst
theorem Zgl : (qF fr L).length = L.length + 1 := by simp [qF]
theorem Zeo : qF fr (L ++ [(w, u)]) = qF fr L ++ [w] := by simp [qF]
theorem Zfo {l : List Nat} {a k : Nat} (h : k ≤ l.length) : (l ++ [a]).take k = l.take k := List.take_append_of_le_length h
def Zbg (l : List Nat) : List Int := l.map fun v : Nat => (v : Int)
end
section
open Go Pl
def Chn (nx : Nat → List Nat) : List Nat → Prop
  | [] => True
  | [_] => True
  | a :: b :: l => b ∈ nx a ∧ Chn nx (b :: l)
variable {nx : Nat → List Nat}
theorem Zi0 : ∀ {l : List Nat}, Chn nx l → ∀ (k a b : Nat), l[k]? = some a → l[k + 1]? = some b → b ∈ nx a
  | [], _, k, a, b, h, _ => by simp at h
  | [c], _, k, a, b, _, h => by simp at h
  | c :: d :: l, h, 0, a, b, h1, h2 => by
    simp only [List.getElem?_cons_zero, Option.some.injEq, List.getElem?_cons_succ] at h1 h2
    subst h1; subst h2; exact h.1
  | c :: d :: l, h, k + 1, a, b, h1, h2 => Zi0 (l := d :: l) h.2 k a b (by simpa using h1) (by simpa using h2)
variable {pr : Nat → Int} {pl : Int} {n : Nat}
end
section
open Go Pl
variable {g : Gm} {W C : List Int}
def nxV (g : Gm) (W C : List Int) (q : Int) (v : Nat) : List Int := if g.own.getD v 0 = q ∧ W.getD v 0 = q then [C.getD v 0] else g.nxt.getD v []
def nxVn (g : Gm) (W C : List Int) (q : Int) (v : Nat) : List Nat := (nxV g W C q v).map Int.toNat
theorem Zej {l : List Nat} {i : Nat} : (Zbg l).getD i 0 = ((l.getD i 0 : Nat) : Int) := by
  unfold Zbg
  simp only [List.getD_eq_getElem?_getD, List.getElem?_map]
  cases l[i]? <;> rfl
theorem cp_of (hv : Zbh g = true) (hc : Zb0 g W C = true) {q : Int} {S L : List Nat} (hne : L ≠ []) (hlt : ∀ z, z ∈ S ++ L → z < g.own.length) (hch : Chn (nxVn g W C q) (S ++ L ++ [L.headD 0])) : isP g (Zbg S) (Zbg L) = true ∧ folP g W C (Zbg S) (Zbg L) q := by
  have hG := gok (validB_iff.1 hv)
  obtain ⟨_, _, hc⟩ := of_decide_eq_true hc
  have hal : Zbg S ++ Zbg L = Zbg (S ++ L) := (List.map_append ..).symm
  have hll : (Zbg (S ++ L)).length = (S ++ L).length := List.length_map ..
  have hb : ∀ i, i < (S ++ L).length → (S ++ L).getD i 0 < g.own.length := fun i hi => hlt _ (by
    rw [List.getD_eq_getElem?_getD, List.getElem?_eq_getElem hi]; exact List.getElem_mem ..)
  have haf : ∀ i : Nat, i < (S ++ L).length → ∃ b : Nat, aftP (Zbg (S ++ L)) (Zbg L) i = b ∧ b ∈ nxVn g W C q ((S ++ L).getD i 0) := by
    intro i hi
    have e1 : (S ++ L ++ [L.headD 0])[i]? = some ((S ++ L).getD i 0) := by
      rw [List.getElem?_append_left hi, List.getD_eq_getElem?_getD, List.getElem?_eq_getElem hi]; rfl
    unfold aftP
    rw [hll]
    by_cases h1 : i + 1 < (S ++ L).length
    · rw [if_pos (by omega), show ((i : Int) + 1).toNat = i + 1 by omega, Zej]
      refine ⟨_, rfl, Zi0 hch i _ _ e1 ?_⟩
      rw [List.getElem?_append_left h1, List.getD_eq_getElem?_getD, List.getElem?_eq_getElem h1]; rfl
    · rw [if_neg (by omega), Zej]
      refine ⟨_, rfl, Zi0 hch i _ _ e1 ?_⟩
      have e2 : i + 1 = (S ++ L).length := by omega
      rw [List.getElem?_append_right (by omega), e2, Nat.sub_self]
      cases L with
      | nil => exact absurd rfl hne
      | cons a L => rfl
  have hps : ∀ i, psP (Zbg (S ++ L)) i = (S ++ L).getD i 0 := fun i => by
    unfold psP
    rw [Zej, Int.toNat_natCast]
  have hin : ∀ v, v < g.own.length → ∀ b : Nat, b ∈ nxVn g W C q v → (b : Int) ∈ g.nxt.getD v [] ∧ (g.own.getD v 0 = q ∧ W.getD v 0 = q → (b : Int) = C.getD v 0) := fun v hvn b hb => by
    obtain ⟨z, hz, rfl⟩ := List.mem_map.1 hb
    have hnn : ∀ z, z ∈ g.nxt.getD v [] → 0 ≤ z := fun z hz => by
      obtain ⟨k, hk, rfl⟩ := Zgm hz
      exact (hG.at' v hvn k hk).1
    unfold nxV at hz
    split at hz
    · rename_i h
      have hm : C.getD v 0 ∈ g.nxt.getD v [] := (hc v hvn).2.1 (h.1.trans h.2.symm)
      rw [List.mem_singleton.1 hz, Int.toNat_of_nonneg (hnn _ hm)]
      exact ⟨hm, fun _ => rfl⟩
    · rename_i h
      rw [Int.toNat_of_nonneg (hnn z hz)]
      exact ⟨hz, fun h2 => absurd h2 h⟩
  refine ⟨isP_iff.2 ⟨fun e => hne (List.map_eq_nil_iff.1 e), fun i hi => ?_, fun i hi => ?_⟩, fun i hi h => ?_⟩
  · rw [hal] at hi ⊢
    rw [hll] at hi
    rw [Zej]
    have := hb i hi
    omega
  · rw [hal] at hi ⊢
    rw [hll] at hi
    obtain ⟨b, e, hbn⟩ := haf i hi
    rw [e, hps]
    exact (hin _ (hb i hi) b hbn).1
  · rw [hal] at hi h ⊢
    rw [hll] at hi
    obtain ⟨b, e, hbn⟩ := haf i hi
    rw [hps] at h ⊢
    rw [e]
    exact (hin _ (hb i hi) b hbn).2 h
structure CpOK (g : Gm) (W C s l : List Int) : Prop where
  is : isP g s l = true
  ag : Zcn g W C s l = true
  len : s.length + l.length ≤ 2 * g.own.length
theorem chn_orb {nx : Nat → List Nat} {F : Nat → Nat} {u : Nat} (hF : ∀ j, orb F u (j + 1) ∈ nx (orb F u j)) : ∀ (m a : Nat), Chn nx ((List.range' a m).map (orb F u))
  | 0, a => trivial
  | 1, a => trivial
  | m + 2, a => ⟨hF a, chn_orb hF (m + 1) (a + 1)⟩
theorem left_cp (hv : Zbh g = true) (hc : Zb0 g W C = true) {v u j k : Nat} {F : Nat → Nat} (hvn : v < g.own.length) (hu : u ∈ nxVn g W C (W.getD v 0) v) (hW : W.getD u 0 ≠ W.getD v 0) (hun : ∀ i, orb F u i < g.own.length) (hF : ∀ i, orb F u (i + 1) ∈ nxVn g W C (W.getD v 0) (orb F u i)) (hkj : k < j) (hj : j ≤ g.own.length) (he : orb F u j = orb F u k) :
    CpOK g W C ((v : Int) :: Zbg (((List.range j).map (orb F u)).take k)) (Zbg (((List.range j).map (orb F u)).drop k)) := by
  have e0 : (v : Int) :: Zbg (((List.range j).map (orb F u)).take k) = Zbg (v :: ((List.range j).map (orb F u)).take k) := rfl
  rw [e0]
  have hlen : ((List.range j).map (orb F u)).length = j := by simp
  have hdne : ((List.range j).map (orb F u)).drop k ≠ [] := fun h => by
    have := congrArg List.length h
    rw [List.length_drop, hlen] at this
    simp at this
    omega
  have hall : (v :: ((List.range j).map (orb F u)).take k) ++ ((List.range j).map (orb F u)).drop k = v :: (List.range j).map (orb F u) := by
    rw [List.cons_append, List.take_append_drop]
  have hhd : (((List.range j).map (orb F u)).drop k).headD 0 = orb F u j := by
    rw [he, List.headD_eq_head?_getD, List.head?_drop]
    simp [hkj]
  have hr : (List.range j).map (orb F u) ++ [orb F u j] = (List.range' 0 (j + 1)).map (orb F u) := by
    rw [← List.range_eq_range', List.range_succ, List.map_append]; rfl
  obtain ⟨h1, h2⟩ := cp_of hv hc (q := W.getD v 0) (S := v :: ((List.range j).map (orb F u)).take k) (L := ((List.range j).map (orb F u)).drop k) hdne (fun z hz => by
    rw [hall] at hz
    rcases List.mem_cons.1 hz with rfl | hz
    · exact hvn
    · obtain ⟨i, _, rfl⟩ := List.mem_map.1 hz
      exact hun i) (by
    rw [hall, hhd, List.cons_append, hr]
    have h3 := chn_orb (nx := nxVn g W C (W.getD v 0)) hF (j + 1) 0
    have e : (List.range' 0 (j + 1)).map (orb F u) = u :: (List.range' 1 j).map (orb F u) := by
      rw [List.range'_succ]; rfl
    rw [e] at h3 ⊢
    exact ⟨hu, h3⟩)
  have hfirst : psP (Zbg (v :: ((List.range j).map (orb F u)).take k) ++ Zbg (((List.range j).map (orb F u)).drop k)) 0 = v := by
    show (((v : Nat) : Int)).toNat = v
    exact Int.toNat_natCast _
  have hsec : Zbg (v :: ((List.range j).map (orb F u)).take k) ++ Zbg (((List.range j).map (orb F u)).drop k) = Zbg (v :: (List.range j).map (orb F u)) := by
    rw [← hall]
    exact (List.map_append ..).symm
  refine ⟨h1, against_iff.2 ⟨by rw [hfirst]; exact h2, .inl ⟨1, ?_, ?_⟩⟩, ?_⟩
  · rw [hsec]
    show 1 < (List.map _ _).length
    rw [List.length_map, List.length_cons, hlen]; omega
  · rw [hfirst, hsec]
    unfold psP
    rw [Zej, Int.toNat_natCast]
    have : (v :: (List.range j).map (orb F u)).getD 1 0 = u := by
      cases j with
      | zero => omega
      | succ j => simp [List.getD_eq_getElem?_getD, orb]
    rw [this]
    exact hW
  · show (List.map _ _).length + (List.map _ _).length ≤ _
    rw [List.length_map, List.length_map, List.length_cons, List.length_take, List.length_drop, hlen]
    omega
theorem lost_cp (hv : Zbh g = true) (hc : Zb0 g W C = true) {v : Nat} {L : List Nat} (hvn : v < g.own.length) (hL : ∃ r, L = v :: r) (hlt : ∀ z, z ∈ L → z < g.own.length) (hnd : L.Nodup) (hch : Chn (nxVn g W C (W.getD v 0)) (L ++ [v])) (hle : ∀ z, z ∈ L → g.pri.getD z 0 ≤ g.pri.getD v 0) (hp : g.pri.getD v 0 % 2 ≠ W.getD v 0) : CpOK g W C [] (Zbg L) := by
  have hG := gok (validB_iff.1 hv)
  obtain ⟨r, rfl⟩ := hL
  obtain ⟨h1, h2⟩ := cp_of hv hc (q := W.getD v 0) (S := []) (L := v :: r) (by simp) hlt hch
  have h1 : isP g [] (Zbg (v :: r)) = true := h1
  have h2 : folP g W C [] (Zbg (v :: r)) (W.getD v 0) := h2
  have hfirst : psP ([] ++ Zbg (v :: r)) 0 = v := by
    show (((v : Nat) : Int)).toNat = v
    exact Int.toNat_natCast _
  refine ⟨h1, against_iff.2 ⟨by rw [hfirst]; exact h2, .inr ?_⟩, ?_⟩
  · rw [hfirst]
    have e : (Zbg (v :: r)).foldl (fun a v => max a (g.pri.getD v.toNat 0)) 0 = g.pri.getD v 0 := by
      obtain ⟨m1, m2, m3⟩ := Zgg (f := fun v => g.pri.getD v.toNat 0) (l := Zbg (v :: r)) (a := 0)
      have a1 : g.pri.getD v 0 ≤ (Zbg (v :: r)).foldl (fun a v => max a (g.pri.getD v.toNat 0)) 0 := by
        have := m1 (v : Int) List.mem_cons_self
        rw [Int.toNat_natCast] at this
        exact this
      refine Int.le_antisymm ?_ a1
      rcases m3 with m3 | ⟨z, hz, m3⟩
      · rw [m3]; exact (hG.pri v hvn).1
      · rw [← m3]
        obtain ⟨y, hy, rfl⟩ := List.mem_map.1 hz
        rw [Int.toNat_natCast]
        exact hle y hy
    show (Zbg (v :: r)).foldl (fun a v => max a (g.pri.getD v.toNat 0)) 0 % 2 ≠ _
    rw [e]; exact hp
  · show 0 + (List.map _ _).length ≤ _
    rw [List.length_map]
    have := Ze2 g.own.length _ hnd hlt
    omega
theorem right_sol (hv : Zbh g = true) (hc : Zb0 g W C = true) (h1 : ∀ v, v < g.own.length → ∀ u, u ∈ nxVn g W C (W.getD v 0) v → W.getD u 0 = W.getD v 0) (h2 : ∀ v, v < g.own.length → g.pri.getD v 0 % 2 ≠ W.getD v 0 → ¬ Cyc (fun a b => b ∈ nxVn g W C (W.getD v 0) a) (fun v => g.pri.getD v 0) v) : solB g W C = true := by
  have hV := validB_iff.1 hv
  have hG := gok hV
  obtain ⟨_, _, hcl⟩ := of_decide_eq_true hc
  refine (solB_iff hV).2 ⟨hc, fun q hq => ⟨fun v hvn hw ho => ?_, fun v hvn hw ho t ht htn => ?_, fun w hwn hw hp hcy => ?_⟩⟩
  · have hm : C.getD v 0 ∈ g.nxt.getD v [] := (hcl v hvn).2.1 (ho.trans hw.symm)
    have hmn : (C.getD v 0).toNat ∈ rws g.nxt v := List.mem_map.2 ⟨_, hm, rfl⟩
    refine ⟨hmn, hG.row v hvn _ hmn, ?_⟩
    have hw : W.getD v 0 = q := hw
    rw [← hw]
    refine h1 v hvn _ ?_
    unfold nxVn nxV
    rw [if_pos ⟨ho.trans hw.symm, rfl⟩]
    exact List.mem_singleton.2 rfl
  · have hw : W.getD v 0 = q := hw
    show W.getD t 0 = q
    rw [← hw]
    refine h1 v hvn t ?_
    unfold nxVn nxV
    rw [if_neg (fun h => ho (h.1.trans hw))]
    exact ht
  · have hw : W.getD w 0 = q := hw
    refine h2 w hwn (by rw [hw]; exact hp) ?_
    obtain ⟨t, t1, t2⟩ := hcy
    refine cyc_to t1 t2 fun a b ha hb he => ?_
    show b ∈ nxVn g W C (W.getD w 0) a
    rw [hw]
    unfold nxVn nxV
    by_cases ho : g.own.getD a 0 = q
    · rw [if_pos ⟨ho, he.1.2⟩]
      exact List.mem_singleton.2 (he.2.2.1 ho)
    · rw [if_neg (fun h => ho h.1)]
      exact he.2.2.2 ho
end
open Go Pl
set_option maxRecDepth 4000 in
set_option maxHeartbeats 4000000 in
theorem vwon_ok : Zcm Tryd.prog 40 wonS := by
  refine Zbe htb (fn := Tryd.f40) (by kernel_rfl) (by kernel_rfl) rfl (fun args r hS => ?_) (fun args r hS hob hl => ?_)
  · unfold wonS at hS; split at hS <;> first | (cases hS; done) | (cases hS; exact Nat.le_of_ble_eq_true rfl)
  unfold wonS at hS
  split at hS
  case h_2 => cases hS
  rename_i o p x s lp
  simp only [Option.some.injEq] at hS
  subst hS
  simp only [lenP, mkL, lim] at hl
  dsimp only at hob
  repeat' first
    | with_reducible first | apply Zar | apply Zan | apply Zaa | apply Zad | apply Zah | apply Zao | apply Zag | apply Zaj | apply Zaq | apply Zas | apply Zap | apply Zal | apply Zac | apply Zak
    | ((with_reducible refine Zai ?_ ?_); exact rfl) | ((with_reducible refine Zat ?_); refine Zam rfl ?_ ?_ <;> intro hb <;> (try simp only [zH] at hb)) | ((with_reducible refine Za3 ?_); (first | refine Zaf htb hmz noSp fF rfl rfl ?_ | refine Zae hmo htb hmz noSp fF rfl rfl (by kernel_rfl) ?_); intro _ _ _ _ h; simp only [zE, evp, evx, ev1, evLoad, evStore, evBin, evIf, Zab, forall_const, z38, tb, reduceAdd, reduceSub, reduceMul, reduceEqDiff, reduceLeDiff, reduceLT, Nat.reduceBEq, Nat.reduceBNe, ↓reduceIte, reduceIte] at h; obtain ⟨rfl, rfl, rfl, rfl⟩ := h; refine ⟨?_, ?_⟩) | ((with_reducible refine Ob.mk ?_); first | exact trivial | (intros; omega) | ((repeat' first | apply And.intro | (intro a; have b := a; try simp only [zH] at b)) <;> first | assumption | omega | (simp only [zH]; omega)))
  have hf0 : ((lp.take 0).foldl (fun a v => max a (p.getD v.toNat 0)) 0) = 0 := rfl
  have hfn := fun i (hi : i < lp.length) => (show (lp.take (i + 1)).foldl (fun a v => max a (p.getD v.toNat 0)) 0 = max ((lp.take i).foldl (fun a v => max a (p.getD v.toNat 0)) 0) (p.getD (lp.getD i 0).toNat 0) by rw [Zif (d := 0) hi, List.foldl_append]; rfl)
  have hfb := Zfi (f := fun v => p.getD v.toNat 0) (l := lp) (Int.le_refl 0)
  refine Za6 (τ := Nat) (fun i => i ≤ lp.length) (fun i => ⟨8, [(11, .int .i64 i), (10, .int .i64 lp.length), (9, .roI lp), (5, .int .i64 ((lp.take i).foldl (fun a v => max a (p.getD v.toNat 0)) 0)), (3, .rop (.agg (.cons (.roI s) (.cons (.roI lp) .nil)))), (2, .rop (.agg (.cons (.roI o) (.cons (.roI p) (.cons (.roII x) .nil)))))], [], []⟩) (fun i => lp.length - i) 0 [] ?_ (Nat.zero_le _) ?_
  · (refine ⟨rfl, ?_, ?_⟩ <;> simp only [zE, evp, evx, ev1, evLoad, evStore, evBin, evIf, Zab, forall_const, z38, tb, reduceAdd, reduceSub, reduceMul, reduceEqDiff, reduceLeDiff, reduceLT, Nat.reduceBEq, Nat.reduceBNe, ↓reduceIte, reduceIte, zI])
    rfl
  intro i hi
  have hob1 := hob i
  have hfn1 := hfn i
  repeat' first
    | with_reducible first | apply Zar | apply Zan | apply Zaa | apply Zad | apply Zah | apply Zao | apply Zag | apply Zaj | apply Zaq | apply Zas | apply Zap | apply Zal | apply Zac | apply Zak
    | ((with_reducible refine Zai ?_ ?_); exact rfl) | ((with_reducible refine Zat ?_); refine Zam rfl ?_ ?_ <;> intro hb <;> (try simp only [zH] at hb)) | ((with_reducible refine Zau 4 ?_ ?_); (· exact rfl); (with_reducible refine Zau 7 ?_ ?_); (· exact rfl); (first | refine Zaf htb hmz noSp fF rfl rfl ?_ | refine Zae hmo htb hmz noSp fF rfl rfl (by kernel_rfl) ?_); intro _ _ _ _ h; simp only [zE, evp, evx, ev1, evLoad, evStore, evBin, evIf, Zab, forall_const, z38, tb, reduceAdd, reduceSub, reduceMul, reduceEqDiff, reduceLeDiff, reduceLT, Nat.reduceBEq, Nat.reduceBNe, ↓reduceIte, reduceIte] at h; obtain ⟨rfl, rfl, rfl, rfl⟩ := h; refine ⟨?_, ?_⟩) | ((with_reducible refine Ob.mk ?_); first | exact trivial | (intros; omega) | ((repeat' first | apply And.intro | (intro a; have b := a; try simp only [zH] at b)) <;> first | assumption | omega | (simp only [zH]; omega)))
  · have hil : i < lp.length := by omega
    have hob1 := hob1 hil
    have hfn1 := hfn1 hil
    repeat' first
      | with_reducible first | apply Zar | apply Zan | apply Zaa | apply Zad | apply Zah | apply Zao | apply Zag | apply Zaj | apply Zaq | apply Zas | apply Zap | apply Zal | apply Zac | apply Zak
      | ((with_reducible refine Zai ?_ ?_); exact rfl) | ((with_reducible refine Zat ?_); refine Zam rfl ?_ ?_ <;> intro hb <;> (try simp only [zH] at hb)) | ((with_reducible refine Za3 ?_); (first | refine Zaf htb hmz noSp fF rfl rfl ?_ | refine Zae hmo htb hmz noSp fF rfl rfl (by kernel_rfl) ?_); intro _ _ _ _ h; simp only [zE, evp, evx, ev1, evLoad, evStore, evBin, evIf, Zab, forall_const, z38, tb, reduceAdd, reduceSub, reduceMul, reduceEqDiff, reduceLeDiff, reduceLT, Nat.reduceBEq, Nat.reduceBNe, ↓reduceIte, reduceIte] at h; obtain ⟨rfl, rfl, rfl, rfl⟩ := h; refine ⟨?_, ?_⟩) | ((with_reducible refine Ob.mk ?_); first | exact trivial | (intros; omega) | ((repeat' first | apply And.intro | (intro a; have b := a; try simp only [zH] at b)) <;> first | assumption | omega | (simp only [zH]; omega)))
    refine back (i + 1) [] ?_ (by omega) (by omega)
    (refine ⟨rfl, ?_, ?_⟩ <;> simp only [zE, evp, evx, ev1, evLoad, evStore, evBin, evIf, Zab, forall_const, z38, tb, reduceAdd, reduceSub, reduceMul, reduceEqDiff, reduceLeDiff, reduceLT, Nat.reduceBEq, Nat.reduceBNe, ↓reduceIte, reduceIte, zI])
    exact hfn1
  have hie : i = lp.length := by omega
  subst hie
  rw [List.take_length]
  repeat' first
    | with_reducible first | apply Zar | apply Zan | apply Zaa | apply Zad | apply Zah | apply Zao | apply Zag | apply Zaj | apply Zaq | apply Zas | apply Zap | apply Zal | apply Zac | apply Zak
    | ((with_reducible refine Zai ?_ ?_); exact rfl) | ((with_reducible refine Zat ?_); refine Zam rfl ?_ ?_ <;> intro hb <;> (try simp only [zH] at hb)) | ((with_reducible refine Za3 ?_); (first | refine Zaf htb hmz noSp fF rfl rfl ?_ | refine Zae hmo htb hmz noSp fF rfl rfl (by kernel_rfl) ?_); intro _ _ _ _ h; simp only [zE, evp, evx, ev1, evLoad, evStore, evBin, evIf, Zab, forall_const, z38, tb, reduceAdd, reduceSub, reduceMul, reduceEqDiff, reduceLeDiff, reduceLT, Nat.reduceBEq, Nat.reduceBNe, ↓reduceIte, reduceIte] at h; obtain ⟨rfl, rfl, rfl, rfl⟩ := h; refine ⟨?_, ?_⟩) | ((with_reducible refine Ob.mk ?_); first | exact trivial | (intros; omega) | ((repeat' first | apply And.intro | (intro a; have b := a; try simp only [zH] at b)) <;> first | assumption | omega | (simp only [zH]; omega)))
  refine Zaz rfl rfl (Zav rfl ?_ rfl)
  rfl
def lvB (W L : List Int) (q : Int) (i : Nat) : Bool := (List.range i).any fun j => !decide (W.getD (psP L j) 0 = q)
theorem lvB_s {W L : List Int} {q : Int} {i : Nat} : lvB W L q (i + 1) = (lvB W L q i || !decide (W.getD (psP L i) 0 = q)) := by
  unfold lvB
  rw [List.range_succ, List.any_append]
  simp
theorem lvB_iff {W L : List Int} {q : Int} {i : Nat} : lvB W L q i = true ↔ ∃ j, j < i ∧ W.getD (psP L j) 0 ≠ q := by
  unfold lvB
  simp only [List.any_eq_true, List.mem_range, Bool.not_eq_true', decide_eq_false_iff_not]
noncomputable def agnS : Spec
  | [.agg (.cons (.roI o) (.cons (.roI p) (.cons (.roII x) .nil))), .agg (.cons (.roI w) (.cons (.roI c) .nil)), .agg (.cons (.roI s) (.cons (.roI lp) .nil))] => some ⟨(s.length ≤ 40000 ∧ lp.length ≤ 40000) ∧ Zbh ⟨o, p, x⟩ = true ∧ Zb0 ⟨o, p, x⟩ w c = true ∧ isP ⟨o, p, x⟩ s lp = true, .bool (Zcn ⟨o, p, x⟩ w c s lp), none⟩
  | _ => none
def spAg : Nat → Option Spec
  | 35 => some allS
  | 36 => some aftS
  | 37 => some wonS
  | _ => none
theorem Zbs : SpOK Tryd.prog spAg := by
  intro f S h
  unfold spAg at h
  split at h
  · cases h; exact all_ok
  · cases h; exact aft_ok
  · cases h; exact won_ok
  · cases h
theorem agn_b {g : Gm} {W C s l : List Int} : Zcn g W C s l = true ↔ (∀ i : Nat, i < (s ++ l).length → g.own.getD (psP (s ++ l) i) 0 = W.getD (psP (s ++ l) 0) 0 ∧ W.getD (psP (s ++ l) i) 0 = W.getD (psP (s ++ l) 0) 0 → aftP (s ++ l) l i = C.getD (psP (s ++ l) i) 0) ∧ (lvB W (s ++ l) (W.getD (psP (s ++ l) 0) 0) (s ++ l).length = true ∨ wonP g l ≠ W.getD (psP (s ++ l) 0) 0) := by
  rw [lvB_iff]
  exact against_iff
set_option maxRecDepth 4000 in
set_option maxHeartbeats 4000000 in
theorem agn_ok : Zcm Tryd.prog 16 agnS := by
  refine Zbe htb (fn := Tryd.f16) (by kernel_rfl) (by kernel_rfl) rfl (fun args r hS => ?_) (fun args r hS hob hl => ?_)
  · unfold agnS at hS; split at hS <;> first | (cases hS; done) | (cases hS; exact Nat.le_of_ble_eq_true rfl)
  unfold agnS at hS
  split at hS
  case h_2 => cases hS
  rename_i o p x w c s lp
  simp only [Option.some.injEq] at hS
  subst hS
  simp only [lenP, mkL, lim] at hl
  dsimp only at hob
  obtain ⟨⟨h1, h2⟩, hv, hcl, hip⟩ := hob
  have hG := gok (validB_iff.1 hv)
  obtain ⟨hwl, hcl2, _⟩ := of_decide_eq_true hcl
  have hwl : w.length = o.length := hwl
  have hcl2 : c.length = o.length := hcl2
  have hpl : p.length = o.length := hG.pl
  have hn : o.length ≤ 20000 := hG.n
  have hal : (s ++ lp).length = s.length + lp.length := List.length_append ..
  obtain ⟨hne, hat, _⟩ := isP_iff.1 hip
  have hl0 : 0 < lp.length := List.length_pos_iff.2 hne
  have hat : ∀ i, i < (s ++ lp).length → 0 ≤ (s ++ lp).getD i 0 ∧ (s ++ lp).getD i 0 < (o.length : Int) := hat
  have hwl2 : ∀ i, i < lp.length → 0 ≤ lp.getD i 0 ∧ lp.getD i 0 < (p.length : Int) := fun i hi => by
    have := hat (s.length + i) (by omega)
    have e : (s ++ lp).getD (s.length + i) 0 = lp.getD i 0 := by
      rw [List.getD_eq_getElem?_getD, List.getElem?_append_right (by omega), List.getD_eq_getElem?_getD]
      congr 2
      omega
    rw [e] at this
    omega
  have hag := @agn_b ⟨o, p, x⟩ w c s lp
  obtain ⟨R, hR⟩ : ∃ R, Zcn ⟨o, p, x⟩ w c s lp = R := ⟨_, rfl⟩
  rw [hR] at hag ⊢
  repeat' first
    | with_reducible first | apply Zar | apply Zan | apply Zaa | apply Zad | apply Zah | apply Zao | apply Zag | apply Zaj | apply Zaq | apply Zas | apply Zap | apply Zal | apply Zac | apply Zak
    | ((with_reducible refine Zai ?_ ?_); exact rfl) | ((with_reducible refine Zat ?_); refine Zam rfl ?_ ?_ <;> intro hb <;> (try simp only [zH] at hb)) | ((with_reducible refine Zau 2 ?_ ?_); (· exact rfl); (first | refine Zaf htb hmz Zbs fF rfl rfl ?_ | refine Zae hmo htb hmz Zbs fF rfl rfl (by kernel_rfl) ?_); intro _ _ _ _ h; simp only [zE, evp, evx, ev1, evLoad, evStore, evBin, evIf, Zab, forall_const, z38, tb, reduceAdd, reduceSub, reduceMul, reduceEqDiff, reduceLeDiff, reduceLT, Nat.reduceBEq, Nat.reduceBNe, ↓reduceIte, reduceIte, spAg, allS, aftS, wonS] at h; obtain ⟨rfl, rfl, rfl, rfl⟩ := h; refine ⟨?_, ?_⟩) | ((with_reducible refine Ob.mk ?_); first | exact trivial | (intros; omega) | ((repeat' first | apply And.intro | (intro a; have b := a; try simp only [zH] at b)) <;> first | assumption | omega | (simp only [zH]; omega)))
  generalize s ++ lp = L at *
  have hL : L.length ≤ 80000 := by omega
  have h00 := hat 0 (by omega)
  repeat' first
    | with_reducible first | apply Zar | apply Zan | apply Zaa | apply Zad | apply Zah | apply Zao | apply Zag | apply Zaj | apply Zaq | apply Zas | apply Zap | apply Zal | apply Zac | apply Zak
    | ((with_reducible refine Zai ?_ ?_); exact rfl) | ((with_reducible refine Zat ?_); refine Zam rfl ?_ ?_ <;> intro hb <;> (try simp only [zH] at hb)) | ((with_reducible refine Zau 4 ?_ ?_); (· exact rfl); (first | refine Zaf htb hmz Zbs fF rfl rfl ?_ | refine Zae hmo htb hmz Zbs fF rfl rfl (by kernel_rfl) ?_); intro _ _ _ _ h; simp only [zE, evp, evx, ev1, evLoad, evStore, evBin, evIf, Zab, forall_const, z38, tb, reduceAdd, reduceSub, reduceMul, reduceEqDiff, reduceLeDiff, reduceLT, Nat.reduceBEq, Nat.reduceBNe, ↓reduceIte, reduceIte, spAg, allS, aftS, wonS] at h; obtain ⟨rfl, rfl, rfl, rfl⟩ := h; refine ⟨?_, ?_⟩) | ((with_reducible refine Ob.mk ?_); first | exact trivial | (intros; omega) | ((repeat' first | apply And.intro | (intro a; have b := a; try simp only [zH] at b)) <;> first | assumption | omega | (simp only [zH]; omega)))
  simp only [psP] at hag
  obtain ⟨q, hq⟩ : ∃ q, w.getD (L.getD 0 0).toNat 0 = q := ⟨_, rfl⟩
  rw [hq] at hag ⊢
  have hlv : ∀ i, lvB w L q (i + 1) = (lvB w L q i || !decide (w.getD (L.getD i 0).toNat 0 = q)) := fun i => lvB_s
  repeat' first
    | with_reducible first | apply Zar | apply Zan | apply Zaa | apply Zad | apply Zah | apply Zao | apply Zag | apply Zaj | apply Zaq | apply Zas | apply Zap | apply Zal | apply Zac | apply Zak
    | ((with_reducible refine Zai ?_ ?_); exact rfl) | ((with_reducible refine Zat ?_); refine Zam rfl ?_ ?_ <;> intro hb <;> (try simp only [zH] at hb)) | ((with_reducible refine Za3 ?_); (first | refine Zaf htb hmz Zbs fF rfl rfl ?_ | refine Zae hmo htb hmz Zbs fF rfl rfl (by kernel_rfl) ?_); intro _ _ _ _ h; simp only [zE, evp, evx, ev1, evLoad, evStore, evBin, evIf, Zab, forall_const, z38, tb, reduceAdd, reduceSub, reduceMul, reduceEqDiff, reduceLeDiff, reduceLT, Nat.reduceBEq, Nat.reduceBNe, ↓reduceIte, reduceIte, spAg, allS, aftS, wonS] at h; obtain ⟨rfl, rfl, rfl, rfl⟩ := h; refine ⟨?_, ?_⟩) | ((with_reducible refine Ob.mk ?_); first | exact trivial | (intros; omega) | ((repeat' first | apply And.intro | (intro a; have b := a; try simp only [zH] at b)) <;> first | assumption | omega | (simp only [zH]; omega)))
  refine Za6 (τ := Nat) (fun i => i ≤ L.length ∧ ∀ j : Nat, j < i → o.getD (L.getD j 0).toNat 0 = q ∧ w.getD (L.getD j 0).toNat 0 = q → aftP L lp j = c.getD (L.getD j 0).toNat 0) (fun i => ⟨19, [(23, .int .i64 i), (22, .int .i64 L.length), (21, .roI L), (9, .bool (lvB w L q i)), (8, .int .i64 q), (7, .roI L), (5, .rop (.agg (.cons (.roI s) (.cons (.roI lp) .nil)))), (4, .rop (.agg (.cons (.roI w) (.cons (.roI c) .nil)))), (3, .rop (.agg (.cons (.roI o) (.cons (.roI p) (.cons (.roII x) .nil)))))], [], []⟩) (fun i => L.length - i) 0 [] ?_ ⟨Nat.zero_le _, fun j hj => absurd hj (Nat.not_lt_zero j)⟩ ?_
  · (refine ⟨rfl, ?_, ?_⟩ <;> simp only [zE, evp, evx, ev1, evLoad, evStore, evBin, evIf, Zab, forall_const, z38, tb, reduceAdd, reduceSub, reduceMul, reduceEqDiff, reduceLeDiff, reduceLT, Nat.reduceBEq, Nat.reduceBNe, ↓reduceIte, reduceIte, spAg, allS, aftS, wonS, zI])
    rfl
  rintro i ⟨hi, hk⟩
  have hat1 := hat i
  have hlv1 := hlv i
  clear hlv
  repeat' first
    | with_reducible first | apply Zar | apply Zan | apply Zaa | apply Zad | apply Zah | apply Zao | apply Zag | apply Zaj | apply Zaq | apply Zas | apply Zap | apply Zal | apply Zac | apply Zak
    | ((with_reducible refine Zai ?_ ?_); exact rfl) | ((with_reducible refine Zat ?_); refine Zam rfl ?_ ?_ <;> intro hb <;> (try simp only [zH] at hb)) | ((with_reducible refine Zau 7 ?_ ?_); (· exact rfl); (with_reducible refine Zau 12 ?_ ?_); (· exact rfl); (first | refine Zaf htb hmz Zbs fF rfl rfl ?_ | refine Zae hmo htb hmz Zbs fF rfl rfl (by kernel_rfl) ?_); intro _ _ _ _ h; simp only [zE, evp, evx, ev1, evLoad, evStore, evBin, evIf, Zab, forall_const, z38, tb, reduceAdd, reduceSub, reduceMul, reduceEqDiff, reduceLeDiff, reduceLT, Nat.reduceBEq, Nat.reduceBNe, ↓reduceIte, reduceIte, spAg, allS, aftS, wonS] at h; obtain ⟨rfl, rfl, rfl, rfl⟩ := h; refine ⟨?_, ?_⟩) | ((with_reducible refine Ob.mk ?_); first | exact trivial | (intros; omega) | ((repeat' first | apply And.intro | (intro a; have b := a; try simp only [zH] at b)) <;> first | assumption | omega | (simp only [zH]; omega)))
  · have hil : i < L.length := by omega
    have hat1 := hat1 hil
    have hfin : (o.getD (L.getD i 0).toNat 0 = q ∧ w.getD (L.getD i 0).toNat 0 = q) ∧ aftP L lp i ≠ c.getD (L.getD i 0).toNat 0 → R = false := fun h => by
      rw [Bool.eq_false_iff]
      exact fun h2 => h.2 ((hag.1 h2).1 i hil h.1)
    have hnew : ¬ ((o.getD (L.getD i 0).toNat 0 = q ∧ w.getD (L.getD i 0).toNat 0 = q) ∧ aftP L lp i ≠ c.getD (L.getD i 0).toNat 0) → ∀ j : Nat, j < i + 1 → o.getD (L.getD j 0).toNat 0 = q ∧ w.getD (L.getD j 0).toNat 0 = q → aftP L lp j = c.getD (L.getD j 0).toNat 0 := fun h j hj => by
      rcases Nat.lt_succ_iff_lt_or_eq.1 hj with h2 | rfl
      · exact hk j h2
      · exact fun h3 => Classical.byContradiction fun h4 => h ⟨h3, h4⟩
    repeat' first
      | with_reducible first | apply Zar | apply Zan | apply Zaa | apply Zad | apply Zah | apply Zao | apply Zag | apply Zaj | apply Zaq | apply Zas | apply Zap | apply Zal | apply Zac | apply Zak
      | ((with_reducible refine Zai ?_ ?_); exact rfl) | ((with_reducible refine Zat ?_); refine Zam rfl ?_ ?_ <;> intro hb <;> (try simp only [zH] at hb)) | ((with_reducible refine Zau 8 ?_ ?_); (· exact rfl); (with_reducible refine Zau 9 ?_ ?_); (· exact rfl); (first | refine Zaf htb hmz Zbs fF rfl rfl ?_ | refine Zae hmo htb hmz Zbs fF rfl rfl (by kernel_rfl) ?_); intro _ _ _ _ h; simp only [zE, evp, evx, ev1, evLoad, evStore, evBin, evIf, Zab, forall_const, z38, tb, reduceAdd, reduceSub, reduceMul, reduceEqDiff, reduceLeDiff, reduceLT, Nat.reduceBEq, Nat.reduceBNe, ↓reduceIte, reduceIte, spAg, allS, aftS, wonS] at h; obtain ⟨rfl, rfl, rfl, rfl⟩ := h; refine ⟨?_, ?_⟩) | ((with_reducible refine Ob.mk ?_); first | exact trivial | (intros; omega) | ((repeat' first | apply And.intro | (intro a; have b := a; try simp only [zH] at b)) <;> first | assumption | omega | (simp only [zH]; omega)))
    · have hlb := hb
      clear hb
      rw [decide_eq_false hlb, Bool.not_false, Bool.or_true] at hlv1
      repeat' first
        | with_reducible first | apply Zar | apply Zan | apply Zaa | apply Zad | apply Zah | apply Zao | apply Zag | apply Zaj | apply Zaq | apply Zas | apply Zap | apply Zal | apply Zac | apply Zak
        | ((with_reducible refine Zai ?_ ?_); exact rfl) | ((with_reducible refine Zat ?_); refine Zam rfl ?_ ?_ <;> intro hb <;> (try simp only [zH] at hb)) | ((with_reducible refine Zau 9 ?_ ?_); (· exact rfl); (first | refine Zaf htb hmz Zbs fF rfl rfl ?_ | refine Zae hmo htb hmz Zbs fF rfl rfl (by kernel_rfl) ?_); intro _ _ _ _ h; simp only [zE, evp, evx, ev1, evLoad, evStore, evBin, evIf, Zab, forall_const, z38, tb, reduceAdd, reduceSub, reduceMul, reduceEqDiff, reduceLeDiff, reduceLT, Nat.reduceBEq, Nat.reduceBNe, ↓reduceIte, reduceIte, spAg, allS, aftS, wonS] at h; obtain ⟨rfl, rfl, rfl, rfl⟩ := h; refine ⟨?_, ?_⟩) | ((with_reducible refine Ob.mk ?_); first | exact trivial | (intros; omega) | ((repeat' first | apply And.intro | (intro a; have b := a; try simp only [zH] at b)) <;> first | assumption | omega | (simp only [zH]; omega)))
      repeat' first
        | with_reducible first | apply Zar | apply Zan | apply Zaa | apply Zad | apply Zah | apply Zao | apply Zag | apply Zaj | apply Zaq | apply Zas | apply Zap | apply Zal | apply Zac | apply Zak
        | ((with_reducible refine Zai ?_ ?_); exact rfl) | ((with_reducible refine Zat ?_); refine Zam rfl ?_ ?_ <;> intro hb <;> (try simp only [zH] at hb)) | ((with_reducible refine Zau 10 ?_ ?_); (· exact rfl); (with_reducible refine Zau 11 ?_ ?_); (· exact rfl); (first | refine Zaf htb hmz Zbs fF rfl rfl ?_ | refine Zae hmo htb hmz Zbs fF rfl rfl (by kernel_rfl) ?_); intro _ _ _ _ h; simp only [zE, evp, evx, ev1, evLoad, evStore, evBin, evIf, Zab, forall_const, z38, tb, reduceAdd, reduceSub, reduceMul, reduceEqDiff, reduceLeDiff, reduceLT, Nat.reduceBEq, Nat.reduceBNe, ↓reduceIte, reduceIte, spAg, allS, aftS, wonS] at h; obtain ⟨rfl, rfl, rfl, rfl⟩ := h; refine ⟨?_, ?_⟩) | ((with_reducible refine Ob.mk ?_); first | exact trivial | (intros; omega) | ((repeat' first | apply And.intro | (intro a; have b := a; try simp only [zH] at b)) <;> first | assumption | omega | (simp only [zH]; omega)))
      · rw [hfin hb]
        repeat' first
          | with_reducible first | apply Zar | apply Zan | apply Zaa | apply Zad | apply Zah | apply Zao | apply Zag | apply Zaj | apply Zaq | apply Zas | apply Zap | apply Zal | apply Zac | apply Zak
          | ((with_reducible refine Zai ?_ ?_); exact rfl) | ((with_reducible refine Zat ?_); refine Zam rfl ?_ ?_ <;> intro hb <;> (try simp only [zH] at hb)) | ((with_reducible refine Za3 ?_); (first | refine Zaf htb hmz Zbs fF rfl rfl ?_ | refine Zae hmo htb hmz Zbs fF rfl rfl (by kernel_rfl) ?_); intro _ _ _ _ h; simp only [zE, evp, evx, ev1, evLoad, evStore, evBin, evIf, Zab, forall_const, z38, tb, reduceAdd, reduceSub, reduceMul, reduceEqDiff, reduceLeDiff, reduceLT, Nat.reduceBEq, Nat.reduceBNe, ↓reduceIte, reduceIte, spAg, allS, aftS, wonS] at h; obtain ⟨rfl, rfl, rfl, rfl⟩ := h; refine ⟨?_, ?_⟩) | ((with_reducible refine Ob.mk ?_); first | exact trivial | (intros; omega) | ((repeat' first | apply And.intro | (intro a; have b := a; try simp only [zH] at b)) <;> first | assumption | omega | (simp only [zH]; omega)))
        refine Zaz rfl rfl (Zav rfl ?_ rfl)
        rfl
      · have hb2 := hnew (by
          rintro ⟨⟨h1, h2⟩, h3⟩
          rcases hb with (h | h) | h
          · exact h h1
          · exact h h2
          · exact h3 h)
        repeat' first
          | with_reducible first | apply Zar | apply Zan | apply Zaa | apply Zad | apply Zah | apply Zao | apply Zag | apply Zaj | apply Zaq | apply Zas | apply Zap | apply Zal | apply Zac | apply Zak
          | ((with_reducible refine Zai ?_ ?_); exact rfl) | ((with_reducible refine Zat ?_); refine Zam rfl ?_ ?_ <;> intro hb <;> (try simp only [zH] at hb)) | ((with_reducible refine Za3 ?_); (first | refine Zaf htb hmz Zbs fF rfl rfl ?_ | refine Zae hmo htb hmz Zbs fF rfl rfl (by kernel_rfl) ?_); intro _ _ _ _ h; simp only [zE, evp, evx, ev1, evLoad, evStore, evBin, evIf, Zab, forall_const, z38, tb, reduceAdd, reduceSub, reduceMul, reduceEqDiff, reduceLeDiff, reduceLT, Nat.reduceBEq, Nat.reduceBNe, ↓reduceIte, reduceIte, spAg, allS, aftS, wonS] at h; obtain ⟨rfl, rfl, rfl, rfl⟩ := h; refine ⟨?_, ?_⟩) | ((with_reducible refine Ob.mk ?_); first | exact trivial | (intros; omega) | ((repeat' first | apply And.intro | (intro a; have b := a; try simp only [zH] at b)) <;> first | assumption | omega | (simp only [zH]; omega)))
        refine back (i + 1) [] ?_ ⟨by omega, hb2⟩ (by omega)
        (refine ⟨rfl, ?_, ?_⟩ <;> simp only [zE, evp, evx, ev1, evLoad, evStore, evBin, evIf, Zab, forall_const, z38, tb, reduceAdd, reduceSub, reduceMul, reduceEqDiff, reduceLeDiff, reduceLT, Nat.reduceBEq, Nat.reduceBNe, ↓reduceIte, reduceIte, spAg, allS, aftS, wonS, zI])
        rw [hlv1]
    · have hlb := hb
      clear hb
      rw [decide_eq_true hlb, Bool.not_true, Bool.or_false] at hlv1
      repeat' first
        | with_reducible first | apply Zar | apply Zan | apply Zaa | apply Zad | apply Zah | apply Zao | apply Zag | apply Zaj | apply Zaq | apply Zas | apply Zap | apply Zal | apply Zac | apply Zak
        | ((with_reducible refine Zai ?_ ?_); exact rfl) | ((with_reducible refine Zat ?_); refine Zam rfl ?_ ?_ <;> intro hb <;> (try simp only [zH] at hb)) | ((with_reducible refine Zau 10 ?_ ?_); (· exact rfl); (with_reducible refine Zau 11 ?_ ?_); (· exact rfl); (first | refine Zaf htb hmz Zbs fF rfl rfl ?_ | refine Zae hmo htb hmz Zbs fF rfl rfl (by kernel_rfl) ?_); intro _ _ _ _ h; simp only [zE, evp, evx, ev1, evLoad, evStore, evBin, evIf, Zab, forall_const, z38, tb, reduceAdd, reduceSub, reduceMul, reduceEqDiff, reduceLeDiff, reduceLT, Nat.reduceBEq, Nat.reduceBNe, ↓reduceIte, reduceIte, spAg, allS, aftS, wonS] at h; obtain ⟨rfl, rfl, rfl, rfl⟩ := h; refine ⟨?_, ?_⟩) | ((with_reducible refine Ob.mk ?_); first | exact trivial | (intros; omega) | ((repeat' first | apply And.intro | (intro a; have b := a; try simp only [zH] at b)) <;> first | assumption | omega | (simp only [zH]; omega)))
      · rw [hfin hb]
        repeat' first
          | with_reducible first | apply Zar | apply Zan | apply Zaa | apply Zad | apply Zah | apply Zao | apply Zag | apply Zaj | apply Zaq | apply Zas | apply Zap | apply Zal | apply Zac | apply Zak
          | ((with_reducible refine Zai ?_ ?_); exact rfl) | ((with_reducible refine Zat ?_); refine Zam rfl ?_ ?_ <;> intro hb <;> (try simp only [zH] at hb)) | ((with_reducible refine Za3 ?_); (first | refine Zaf htb hmz Zbs fF rfl rfl ?_ | refine Zae hmo htb hmz Zbs fF rfl rfl (by kernel_rfl) ?_); intro _ _ _ _ h; simp only [zE, evp, evx, ev1, evLoad, evStore, evBin, evIf, Zab, forall_const, z38, tb, reduceAdd, reduceSub, reduceMul, reduceEqDiff, reduceLeDiff, reduceLT, Nat.reduceBEq, Nat.reduceBNe, ↓reduceIte, reduceIte, spAg, allS, aftS, wonS] at h; obtain ⟨rfl, rfl, rfl, rfl⟩ := h; refine ⟨?_, ?_⟩) | ((with_reducible refine Ob.mk ?_); first | exact trivial | (intros; omega) | ((repeat' first | apply And.intro | (intro a; have b := a; try simp only [zH] at b)) <;> first | assumption | omega | (simp only [zH]; omega)))
        refine Zaz rfl rfl (Zav rfl ?_ rfl)
        rfl
      · have hb2 := hnew (by
          rintro ⟨⟨h1, h2⟩, h3⟩
          rcases hb with (h | h) | h
          · exact h h1
          · exact h h2
          · exact h3 h)
        repeat' first
          | with_reducible first | apply Zar | apply Zan | apply Zaa | apply Zad | apply Zah | apply Zao | apply Zag | apply Zaj | apply Zaq | apply Zas | apply Zap | apply Zal | apply Zac | apply Zak
          | ((with_reducible refine Zai ?_ ?_); exact rfl) | ((with_reducible refine Zat ?_); refine Zam rfl ?_ ?_ <;> intro hb <;> (try simp only [zH] at hb)) | ((with_reducible refine Za3 ?_); (first | refine Zaf htb hmz Zbs fF rfl rfl ?_ | refine Zae hmo htb hmz Zbs fF rfl rfl (by kernel_rfl) ?_); intro _ _ _ _ h; simp only [zE, evp, evx, ev1, evLoad, evStore, evBin, evIf, Zab, forall_const, z38, tb, reduceAdd, reduceSub, reduceMul, reduceEqDiff, reduceLeDiff, reduceLT, Nat.reduceBEq, Nat.reduceBNe, ↓reduceIte, reduceIte, spAg, allS, aftS, wonS] at h; obtain ⟨rfl, rfl, rfl, rfl⟩ := h; refine ⟨?_, ?_⟩) | ((with_reducible refine Ob.mk ?_); first | exact trivial | (intros; omega) | ((repeat' first | apply And.intro | (intro a; have b := a; try simp only [zH] at b)) <;> first | assumption | omega | (simp only [zH]; omega)))
        refine back (i + 1) [] ?_ ⟨by omega, hb2⟩ (by omega)
        (refine ⟨rfl, ?_, ?_⟩ <;> simp only [zE, evp, evx, ev1, evLoad, evStore, evBin, evIf, Zab, forall_const, z38, tb, reduceAdd, reduceSub, reduceMul, reduceEqDiff, reduceLeDiff, reduceLT, Nat.reduceBEq, Nat.reduceBNe, ↓reduceIte, reduceIte, spAg, allS, aftS, wonS, zI])
        rw [hlv1]
  · have hie : i = L.length := by omega
    subst hie
    have e : R = (lvB w L q L.length || !decide (wonP ⟨o, p, x⟩ lp = q)) := by
      rw [Bool.eq_iff_iff, hag, Bool.or_eq_true, Bool.not_eq_true', decide_eq_false_iff_not]
      exact ⟨fun h => h.2, fun h => ⟨hk, h⟩⟩
    repeat' first
      | with_reducible first | apply Zar | apply Zan | apply Zaa | apply Zad | apply Zah | apply Zao | apply Zag | apply Zaj | apply Zaq | apply Zas | apply Zap | apply Zal | apply Zac | apply Zak
      | ((with_reducible refine Zai ?_ ?_); exact rfl) | ((with_reducible refine Zat ?_); refine Zam rfl ?_ ?_ <;> intro hb <;> (try simp only [zH] at hb)) | ((with_reducible refine Za3 ?_); (first | refine Zaf htb hmz Zbs fF rfl rfl ?_ | refine Zae hmo htb hmz Zbs fF rfl rfl (by kernel_rfl) ?_); intro _ _ _ _ h; simp only [zE, evp, evx, ev1, evLoad, evStore, evBin, evIf, Zab, forall_const, z38, tb, reduceAdd, reduceSub, reduceMul, reduceEqDiff, reduceLeDiff, reduceLT, Nat.reduceBEq, Nat.reduceBNe, ↓reduceIte, reduceIte, spAg, allS, aftS, wonS] at h; obtain ⟨rfl, rfl, rfl, rfl⟩ := h; refine ⟨?_, ?_⟩) | ((with_reducible refine Ob.mk ?_); first | exact trivial | (intros; omega) | ((repeat' first | apply And.intro | (intro a; have b := a; try simp only [zH] at b)) <;> first | assumption | omega | (simp only [zH]; omega)))
    · exact Ob.mk fun h => ⟨h, hwl2⟩
    refine Zaz rfl rfl (Zav rfl ?_ rfl)
    rw [e]
    rfl
open Go Pl
def rvI (l : List Int) (i : Nat) : List Int := (List.range l.length).map fun k => if k < i ∨ l.length - 1 - k < i then l.getD (l.length - 1 - k) 0 else l.getD k 0
theorem Zdj {l : List Int} {i : Nat} : (rvI l i).length = l.length := by simp [rvI]
theorem Zff {l : List Int} {i k : Nat} (h : k < l.length) : (rvI l i).getD k 0 = if k < i ∨ l.length - 1 - k < i then l.getD (l.length - 1 - k) 0 else l.getD k 0 := by
  simp [rvI, List.getD_eq_getElem?_getD, h]
theorem rvI_zero {l : List Int} : rvI l 0 = l := by
  refine ext0 Zdj fun j hj => ?_
  rw [Zdj] at hj
  rw [Zff hj, if_neg (by omega)]
theorem rvI_next {l : List Int} {i : Nat} (h : i < l.length - 1 - i) : ((rvI l i).set i ((rvI l i).getD (l.length - 1 - i) 0)).set (l.length - 1 - i) ((rvI l i).getD i 0) = rvI l (i + 1) := by
  refine ext0 (by rw [List.length_set, List.length_set, Zdj, Zdj]) fun j hj => ?_
  rw [List.length_set, List.length_set, Zdj] at hj
  rw [Zff (i := i + 1) hj, Zff (i := i) (k := i) (by omega), Zff (i := i) (k := l.length - 1 - i) (by omega), if_neg (by omega), if_neg (by omega)]
  have hs : ∀ {m : List Int} {a : Nat} {y : Int}, a < m.length → (m.set a y).getD j 0 = if j = a then y else m.getD j 0 := fun {m a y} ha => by
    simp only [List.getD_eq_getElem?_getD, List.getElem?_set]
    by_cases e : a = j
    · subst e; simp [ha]
    · rw [if_neg e, if_neg (fun h => e h.symm)]
  rw [hs (by rw [List.length_set, Zdj]; omega), hs (by rw [Zdj]; omega), Zff hj]
  by_cases e1 : j = l.length - 1 - i
  · subst e1
    rw [if_pos rfl, if_pos (by omega), show l.length - 1 - (l.length - 1 - i) = i by omega]
  · rw [if_neg e1]
    by_cases e2 : j = i
    · subst e2
      rw [if_pos rfl, if_pos (by omega)]
    · rw [if_neg e2]
      by_cases e3 : j < i ∨ l.length - 1 - j < i
      · rw [if_pos e3, if_pos (by omega)]
      · rw [if_neg e3, if_neg (by omega)]
theorem rvI_end {l : List Int} {i : Nat} (h : l.length - 1 - i ≤ i) : rvI l i = l.reverse := by
  refine ext0 (by rw [Zdj, List.length_reverse]) fun j hj => ?_
  rw [Zdj] at hj
  rw [Zff hj]
  have e : l.reverse.getD j 0 = l.getD (l.length - 1 - j) 0 := by
    rw [List.getD_eq_getElem?_getD, List.getD_eq_getElem?_getD, List.getElem?_reverse hj]
  rw [e]
  split
  · rfl
  · have : j = l.length - 1 - j := by omega
    rw [← this]
set_option maxRecDepth 4000 in
set_option maxHeartbeats 4000000 in
theorem reverse_fg {l : List Int} (hl9 : l.length ≤ 1000000000) : FG Tryd.prog 65 [.own 0] [(0, some (.ints l))] 1 fun g => g = ⟨1, resV [], [(0, some (.ints l.reverse))]⟩ := by
  refine Zho htb (fn := Tryd.f65) (by kernel_rfl) (by kernel_rfl) rfl (Nat.le_of_ble_eq_true rfl) fun hl => ?_
  simp only [lenP, mkL, lim] at hl
  repeat' first
    | with_reducible first | apply Zar | apply Zan | apply Zaa | apply Zad | apply Zah | apply Zao | apply Zag | apply Zaj | apply Zaq | apply Zas | apply Zap | apply Zal | apply Zac | apply Zak
    | ((with_reducible refine Zai ?_ ?_); exact rfl) | ((with_reducible refine Zat ?_); refine Zam rfl ?_ ?_ <;> intro hb <;> (try simp only [zH] at hb)) | ((with_reducible refine Za3 ?_); (first | refine Zaf htb hmz noSp fF rfl rfl ?_ | refine Zae hmo htb hmz noSp fF rfl rfl (by kernel_rfl) ?_); intro _ _ _ _ h; simp only [zE, evp, evx, ev1, evLoad, evStore, evBin, evIf, Zab, forall_const, z38, tb, reduceAdd, reduceSub, reduceMul, reduceEqDiff, reduceLeDiff, reduceLT, Nat.reduceBEq, Nat.reduceBNe, ↓reduceIte, reduceIte] at h; obtain ⟨rfl, rfl, rfl, rfl⟩ := h; refine ⟨?_, ?_⟩) | ((with_reducible refine Ob.mk ?_); first | exact trivial | (intros; omega) | ((repeat' first | apply And.intro | (intro a; have b := a; try simp only [zH] at b)) <;> first | assumption | omega | (simp only [zH]; omega)))
  refine Za6 (τ := Nat) (fun i => i ≤ l.length) (fun i => ⟨6, [(3, .int .i64 ((l.length : Int) - 1 - i)), (2, .int .i64 i), (0, .own 0)], [(0, some (.ints (rvI l i)))], []⟩) (fun i => l.length - i) 0 [] ?_ (Nat.zero_le _) ?_
  · (refine ⟨rfl, ?_, ?_⟩ <;> simp only [zE, evp, evx, ev1, evLoad, evStore, evBin, evIf, Zab, forall_const, z38, tb, reduceAdd, reduceSub, reduceMul, reduceEqDiff, reduceLeDiff, reduceLT, Nat.reduceBEq, Nat.reduceBNe, ↓reduceIte, reduceIte, zI])
    · omega
    · exact rvI_zero.symm
  intro i hi
  have hrl := Zdj (l := l) (i := i)
  have hnx := @rvI_next l i
  have hen := @rvI_end l i
  repeat' first
    | with_reducible first | apply Zar | apply Zan | apply Zaa | apply Zad | apply Zah | apply Zao | apply Zag | apply Zaj | apply Zaq | apply Zas | apply Zap | apply Zal | apply Zac | apply Zak
    | ((with_reducible refine Zai ?_ ?_); exact rfl) | ((with_reducible refine Zat ?_); refine Zam rfl ?_ ?_ <;> intro hb <;> (try simp only [zH] at hb)) | ((with_reducible refine Zau 3 ?_ ?_); (· exact rfl); (with_reducible refine Zau 4 ?_ ?_); (· exact rfl); (first | refine Zaf htb hmz noSp fF rfl rfl ?_ | refine Zae hmo htb hmz noSp fF rfl rfl (by kernel_rfl) ?_); intro _ _ _ _ h; simp only [zE, evp, evx, ev1, evLoad, evStore, evBin, evIf, Zab, forall_const, z38, tb, reduceAdd, reduceSub, reduceMul, reduceEqDiff, reduceLeDiff, reduceLT, Nat.reduceBEq, Nat.reduceBNe, ↓reduceIte, reduceIte] at h; obtain ⟨rfl, rfl, rfl, rfl⟩ := h; refine ⟨?_, ?_⟩) | ((with_reducible refine Ob.mk ?_); first | exact trivial | (intros; omega) | ((repeat' first | apply And.intro | (intro a; have b := a; try simp only [zH] at b)) <;> first | assumption | omega | (simp only [zH]; omega)))
  · have h2 : i < l.length - 1 - i := by omega
    have hnx := hnx h2
    have ej : (l.length : Int) - 1 - i = ((l.length - 1 - i : Nat) : Int) := by omega
    rw [ej]
    clear hen
    repeat' first
      | with_reducible first | apply Zar | apply Zan | apply Zaa | apply Zad | apply Zah | apply Zao | apply Zag | apply Zaj | apply Zaq | apply Zas | apply Zap | apply Zal | apply Zac | apply Zak
      | ((with_reducible refine Zai ?_ ?_); exact rfl) | ((with_reducible refine Zat ?_); refine Zam rfl ?_ ?_ <;> intro hb <;> (try simp only [zH] at hb)) | ((with_reducible refine Za3 ?_); (first | refine Zaf htb hmz noSp fF rfl rfl ?_ | refine Zae hmo htb hmz noSp fF rfl rfl (by kernel_rfl) ?_); intro _ _ _ _ h; simp only [zE, evp, evx, ev1, evLoad, evStore, evBin, evIf, Zab, forall_const, z38, tb, reduceAdd, reduceSub, reduceMul, reduceEqDiff, reduceLeDiff, reduceLT, Nat.reduceBEq, Nat.reduceBNe, ↓reduceIte, reduceIte] at h; obtain ⟨rfl, rfl, rfl, rfl⟩ := h; refine ⟨?_, ?_⟩) | ((with_reducible refine Ob.mk ?_); first | exact trivial | (intros; omega) | ((repeat' first | apply And.intro | (intro a; have b := a; try simp only [zH] at b)) <;> first | assumption | omega | (simp only [zH]; omega)))
    refine back (i + 1) [] ?_ (by omega) (by omega)
    (refine ⟨rfl, ?_, ?_⟩ <;> simp only [zE, evp, evx, ev1, evLoad, evStore, evBin, evIf, Zab, forall_const, z38, tb, reduceAdd, reduceSub, reduceMul, reduceEqDiff, reduceLeDiff, reduceLT, Nat.reduceBEq, Nat.reduceBNe, ↓reduceIte, reduceIte, zI])
    · omega
    · exact hnx
  · rw [hen (by omega)]
    refine fin_normal rfl rfl (Zdc (⟨1, resV [], [(0, some (.ints l.reverse))]⟩) ([]) rfl rfl (Zbz rfl) ?_)
    simp only [grR, zE, evp, evx, ev1, evLoad, evStore, evBin, evIf, Zab, forall_const, z38, tb, reduceAdd, reduceSub, reduceMul, reduceEqDiff, reduceLeDiff, reduceLT, Nat.reduceBEq, Nat.reduceBNe, ↓reduceIte, reduceIte]
section
open Go Pl
variable {nx : Nat → List Nat} {thr : Nat → Prop} {n fr : Nat} {L : List (Nat × Nat)} {S : List Nat} {ex : List Nat} {u w j : Nat}
structure SQ (nx : Nat → List Nat) (thr : Nat → Prop) (n fr : Nat) (L : List (Nat × Nat)) (S ex : List Nat) (d : Nat) : Prop where
  nd : (L.map Prod.fst).Nodup
  lt : ∀ v, v ∈ qF fr L → v < n
  fv : fr ∉ L.map Prod.fst
  ed : ∀ (k w u : Nat), L[k]? = some (w, u) → w ∈ nx u ∧ thr w ∧ u ∈ (qF fr L).take (k + 1)
  ss : ∀ u, u ∈ S → u ∈ qF fr L
  cl : ∀ u, u ∈ qF fr L → u ∉ S → u ∉ ex → ∀ w, w ∈ nx u → thr w → w ∈ L.map Prod.fst
  ls : S.length + d ≤ L.length + 1
structure SF (nx : Nat → List Nat) (thr : Nat → Prop) (n fr : Nat) (L : List (Nat × Nat)) : Prop where
  nd : (L.map Prod.fst).Nodup
  lt : ∀ v, v ∈ qF fr L → v < n
  ed : ∀ (k w u : Nat), L[k]? = some (w, u) → w ∈ nx u ∧ thr w ∧ u ∈ (qF fr L).take (k + 1)
  fv : fr ∈ L.map Prod.fst
theorem Ziy {d : Nat} (h : SQ nx thr n fr L S ex d) : L.length ≤ n := by
  have := Ze2 n _ h.nd fun x hx => h.lt x (List.mem_cons_of_mem _ hx)
  rwa [List.length_map] at this
theorem SQ_first (hf : fr < n) : SQ nx thr n fr [] [fr] [] 0 :=
  ⟨by simp, (fun v hv => by rw [show qF fr [] = [fr] from rfl, List.mem_singleton] at hv; omega), by simp, (fun k w u h => by simp at h), (fun u h => h), (fun u h h2 => absurd h h2), Nat.le_refl _⟩
theorem SQ_pop (h : SQ nx thr n fr L (S ++ [u]) [] 0) : SQ nx thr n fr L S [u] 1 :=
  ⟨h.nd, h.lt, h.fv, h.ed, fun v hv => h.ss v (List.mem_append_left _ hv), fun v hv hs he => h.cl v hv (fun hm => by
    rcases List.mem_append.1 hm with hm | hm
    · exact hs hm
    · exact he hm) (by simp), by have := h.ls; simp only [List.length_append, List.length_singleton] at this; omega⟩
theorem SQ_add (h : SQ nx thr n fr L S [u] 1) (hu : u ∈ qF fr L) (hw : w ∈ nx u) (hwn : w < n) (hnew : w ∉ L.map Prod.fst) (ht : thr w) (hne : w ≠ fr) : SQ nx thr n fr (L ++ [(w, u)]) (S ++ [w]) [u] 1 := by
  have hm : ∀ {x}, x ∈ L.map Prod.fst → x ∈ (L ++ [(w, u)]).map Prod.fst := fun {x} hx => by rw [List.map_append]; exact List.mem_append_left _ hx
  refine ⟨?_, fun v hv => ?_, fun hv => ?_, fun k w' u' hk => ?_, fun v hv => ?_, fun u' hu' hs he w' hw' ht' => ?_, ?_⟩
  · rw [List.map_append, List.nodup_append]
    refine ⟨h.nd, by simp, fun a ha b hb => ?_⟩
    rw [List.map_cons, List.map_nil, List.mem_singleton] at hb
    intro e
    have hb : b = w := hb
    exact hnew (by rw [← hb, ← e]; exact ha)
  · rw [Zeo, List.mem_append, List.mem_singleton] at hv
    rcases hv with hv | rfl
    · exact h.lt v hv
    · exact hwn
  · rw [List.map_append, List.mem_append] at hv
    rcases hv with hv | hv
    · exact h.fv hv
    · exact hne (List.mem_singleton.1 hv).symm
  · rw [Zeo]
    rcases Nat.lt_or_ge k L.length with hkl | hkl
    · rw [List.getElem?_append_left hkl] at hk
      obtain ⟨e1, e2, e3⟩ := h.ed k w' u' hk
      rw [Zfo (by rw [Zgl]; omega)]
      exact ⟨e1, e2, e3⟩
    · rw [List.getElem?_append_right hkl] at hk
      have hk0 : k - L.length = 0 := by
        have := (List.getElem?_eq_some_iff.1 hk).1
        simp at this; omega
      rw [hk0] at hk
      simp only [List.getElem?_cons_zero, Option.some.injEq, Prod.mk.injEq] at hk
      obtain ⟨rfl, rfl⟩ := hk
      refine ⟨hw, ht, ?_⟩
      have hkk : k = L.length := by omega
      subst hkk
      rw [Zfo (by rw [Zgl]; exact Nat.le_refl _), List.take_of_length_le (by rw [Zgl]; exact Nat.le_refl _)]
      exact hu
  · rw [Zeo]
    rcases List.mem_append.1 hv with hv | hv
    · exact List.mem_append_left _ (h.ss v hv)
    · exact List.mem_append_right _ hv
  · rw [Zeo, List.mem_append] at hu'
    rcases hu' with hu' | hu'
    · exact hm (h.cl u' hu' (fun h2 => hs (List.mem_append_left _ h2)) he w' hw' ht')
    · exact absurd (List.mem_append_right _ hu') hs
  · have := h.ls
    simp only [List.length_append, List.length_singleton]
    omega
theorem SQ_hit (h : SQ nx thr n fr L S [u] 1) (hu : u ∈ qF fr L) (hw : fr ∈ nx u) (hwn : fr < n) (ht : thr fr) : SF nx thr n fr (L ++ [(fr, u)]) := by
  refine ⟨?_, fun v hv => ?_, fun k w' u' hk => ?_, ?_⟩
  · rw [List.map_append, List.nodup_append]
    refine ⟨h.nd, by simp, fun a ha b hb => ?_⟩
    rw [List.map_cons, List.map_nil, List.mem_singleton] at hb
    intro e
    have hb : b = fr := hb
    exact h.fv (by rw [← hb, ← e]; exact ha)
  · rw [Zeo, List.mem_append, List.mem_singleton] at hv
    rcases hv with hv | rfl
    · exact h.lt v hv
    · exact hwn
  · rw [Zeo]
    rcases Nat.lt_or_ge k L.length with hkl | hkl
    · rw [List.getElem?_append_left hkl] at hk
      obtain ⟨e1, e2, e3⟩ := h.ed k w' u' hk
      rw [Zfo (by rw [Zgl]; omega)]
      exact ⟨e1, e2, e3⟩
    · rw [List.getElem?_append_right hkl] at hk
      have hk0 : k - L.length = 0 := by
        have := (List.getElem?_eq_some_iff.1 hk).1
        simp at this; omega
      rw [hk0] at hk
      simp only [List.getElem?_cons_zero, Option.some.injEq, Prod.mk.injEq] at hk
      obtain ⟨rfl, rfl⟩ := hk
      refine ⟨hw, ht, ?_⟩
      have hkk : k = L.length := by omega
      subst hkk
      rw [Zfo (by rw [Zgl]; exact Nat.le_refl _), List.take_of_length_le (by rw [Zgl]; exact Nat.le_refl _)]
      exact hu
  · rw [List.map_append]; simp
theorem SQ_done (h : SQ nx thr n fr L S [u] 1) (hc : ∀ w, w ∈ nx u → thr w → w ∈ L.map Prod.fst) : SQ nx thr n fr L S [] 0 :=
  ⟨h.nd, h.lt, h.fv, h.ed, h.ss, fun v hv hs _ => by
    by_cases e : v = u
    · subst e; exact hc
    · exact h.cl v hv hs (by simpa using e), by have := h.ls; omega⟩
theorem SQ_no {pri : Nat → Int} (h : SQ nx (fun z => pri z ≤ pri fr) n fr L [] [] 0) : ¬ Cyc (fun a b => b ∈ nx a) pri fr := by
  rintro ⟨t, t1, t2⟩
  have hcl : ∀ u, u ∈ qF fr L → ∀ w, w ∈ nx u → pri w ≤ pri fr → w ∈ L.map Prod.fst := fun u hu => h.cl u hu (by simp) (by simp)
  have : fr ∈ L.map Prod.fst := by
    have key : ∀ z, Rch (Low (fun a b => b ∈ nx a) pri fr) t z → z ∈ L.map Prod.fst := by
      intro z hz
      induction hz with
      | refl => exact hcl fr List.mem_cons_self t t1.1 t1.2
      | step _ e ih => exact hcl _ (List.mem_cons_of_mem _ ih) _ e.1 e.2
    exact key fr t2
  exact h.fv this
structure SB (nx : Nat → List Nat) (fr : Nat) (L : List (Nat × Nat)) (u k : Nat) (t : List Nat) : Prop where
  kl : k ≤ L.length
  um : u ∈ (qF fr L).take (k + 1)
  ch : Chn nx (u :: (t.reverse ++ [fr]))
  nd : t.Nodup
  nt : ∀ z, z ∈ t → z ∈ L.map Prod.fst ∧ z ≠ fr ∧ z ∉ (L.take k).map Prod.fst
theorem take_qF {k : Nat} : (qF fr L).take (k + 1) = fr :: (L.take k).map Prod.fst := by
  show (fr :: L.map Prod.fst).take (k + 1) = _
  rw [List.take_succ_cons, List.map_take]
theorem SB_at (h : SF nx thr n fr L) {w : Nat} (hw : w ∈ L.map Prod.fst) : ∃ k u : Nat, L[k]? = some (w, u) ∧ (w, u) ∈ L := by
  obtain ⟨⟨a, u⟩, hm, rfl⟩ := List.mem_map.1 hw
  obtain ⟨k, hk⟩ := List.mem_iff_getElem?.1 hm
  exact ⟨k, u, hk, hm⟩
theorem SB_first (h : SF nx thr n fr L) : ∃ k u, (fr, u) ∈ L ∧ SB nx fr L u k [] := by
  obtain ⟨k, u, hk, hm⟩ := SB_at h h.fv
  have hkl := (List.getElem?_eq_some_iff.1 hk).1
  obtain ⟨e1, e2, e3⟩ := h.ed k fr u hk
  exact ⟨k, u, hm, by omega, e3, ⟨e1, trivial⟩, List.nodup_nil, fun z hz => by cases hz⟩
theorem SB_next (h : SF nx thr n fr L) {k : Nat} {t : List Nat} (hb : SB nx fr L u k t) (hu : u ≠ fr) : ∃ k' u', k' < k ∧ (u, u') ∈ L ∧ SB nx fr L u' k' (t ++ [u]) := by
  have hum := hb.um
  rw [take_qF] at hum
  have hum : u ∈ (L.take k).map Prod.fst := (List.mem_cons.1 hum).resolve_left hu
  obtain ⟨⟨a, u'⟩, hm, rfl⟩ := List.mem_map.1 hum
  obtain ⟨k', hk⟩ := List.mem_iff_getElem?.1 hm
  have hkl := (List.getElem?_eq_some_iff.1 hk).1
  rw [List.length_take] at hkl
  rw [List.getElem?_take, if_pos (by omega)] at hk
  obtain ⟨e1, e2, e3⟩ := h.ed k' a u' hk
  refine ⟨k', u', by omega, List.mem_of_getElem? hk, by omega, e3, ?_, ?_, fun z hz => ?_⟩
  · rw [List.reverse_append]
    exact ⟨e1, hb.ch⟩
  · rw [List.nodup_append]
    refine ⟨hb.nd, by simp, fun x hx y hy => ?_⟩
    rw [List.mem_singleton] at hy
    subst hy
    intro e
    subst e
    exact (hb.nt x hx).2.2 hum
  · rcases List.mem_append.1 hz with hz | hz
    · obtain ⟨n1, n2, n3⟩ := hb.nt z hz
      refine ⟨n1, n2, fun h2 => n3 ?_⟩
      have : (L.take k').map Prod.fst = ((L.take k).map Prod.fst).take k' := by
        rw [← List.map_take, List.take_take, Nat.min_eq_left (by omega)]
      rw [this] at h2
      exact List.mem_of_mem_take h2
    · rw [List.mem_singleton] at hz
      subst hz
      refine ⟨List.mem_map.2 ⟨_, List.mem_of_getElem? hk, rfl⟩, hu, fun h2 => ?_⟩
      obtain ⟨i, hi, e⟩ := List.getElem_of_mem h2
      have hi2 : i < k' := by simpa using Nat.lt_of_lt_of_le hi (by simp; omega)
      have hnd := h.nd
      have hL1 : (L.map Prod.fst)[i]? = some z := by
        rw [List.getElem?_map]
        rw [List.getElem_map, List.getElem_take] at e
        rw [List.getElem?_eq_getElem (by omega)]
        exact congrArg some e
      have hL2 : (L.map Prod.fst)[k']? = some z := by rw [List.getElem?_map, hk]; rfl
      have h1 := List.getElem?_eq_some_iff.1 hL1
      have h2 := List.getElem?_eq_some_iff.1 hL2
      obtain ⟨h11, h12⟩ := h1
      obtain ⟨h21, h22⟩ := h2
      rw [List.nodup_iff_pairwise_ne, List.pairwise_iff_getElem] at hnd
      exact hnd i k' h11 h21 hi2 (h12.trans h22.symm)
theorem SB_end (h : SF nx thr n fr L) {k : Nat} {t : List Nat} (hb : SB nx fr L fr k t) (hfr : fr < n) : (fr :: t.reverse).Nodup ∧ Chn nx (fr :: t.reverse ++ [fr]) ∧ (∀ z, z ∈ fr :: t.reverse → z < n ∧ thr z) := by
  refine ⟨?_, hb.ch, fun z hz => ?_⟩
  · rw [List.nodup_cons]
    refine ⟨fun hm => ?_, List.nodup_iff_pairwise_ne.2 (List.pairwise_reverse.2 ((List.nodup_iff_pairwise_ne.1 hb.nd).imp fun h e => h e.symm))⟩
    exact (hb.nt fr (List.mem_reverse.1 hm)).2.1 rfl
  · have hin : z ∈ L.map Prod.fst := by
      rcases List.mem_cons.1 hz with rfl | hz
      · exact h.fv
      · exact (hb.nt z (List.mem_reverse.1 hz)).1
    obtain ⟨k, u, hk, _⟩ := SB_at h hin
    exact ⟨h.lt z (List.mem_cons_of_mem _ hin), (h.ed k z u hk).2.1⟩
end
end Go.Proofs.YtdhoadhkkecjjaaDoor.Cal
