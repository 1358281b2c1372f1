/- Own texts of the proof, merged, in order. -/
import Derived.Test.YtbcghiagomkadaaS28
set_option linter.unusedVariables false
set_option linter.unusedSimpArgs false
namespace Go.Proofs.Ytbcghiagomkadaa.Cal
open Go Pl
def exS : Spec
  | [] => some ⟨True, .agg (.cons (.roI [0, 1]) (.cons (.roI [1, 2]) (.cons (.roII [[0, 1], [0, 1]]) .nil))), none⟩
  | _ => none
set_option maxRecDepth 4000 in
set_option maxHeartbeats 4000000 in
theorem ex_ok : FSpec Try.prog 28 exS := by
  refine Zba htb (fn := Try.f28) (by kernel_rfl) (by kernel_rfl) rfl (fun args r hS => ?_) (fun args r hS hob hl => ?_)
  · unfold exS at hS; split at hS <;> first | (cases hS; done) | (cases hS; exact Nat.le_of_ble_eq_true rfl)
  unfold exS at hS
  split at hS
  case h_2 => cases hS
  simp only [Option.some.injEq] at hS
  subst hS
  repeat' first
    | with_reducible first | refine Zas ?_ | refine Zao ?_ | refine Zac ?_ | refine Zad ?_ | refine Zai ?_ | refine Zaq ?_ | refine Zah ?_ | refine Zak ?_ | refine Zar ?_ | refine Zat ?_ | refine Zap ?_ | refine Zam ?_ | refine Zaa ?_ | refine Zae ?_ | refine Zab ?_ | refine Zal ?_
    | ((with_reducible refine Zaj ?_ ?_); exact rfl)
    | ((with_reducible refine Zau ?_); refine Zan rfl ?_ ?_ <;> intro hb <;> (try simp only [zH] at hb))
    | ((with_reducible refine Za0 ?_); (first | refine Zaf htb hmz noSp (fun _ => false) rfl rfl ?_ | refine Zag hmo htb hmz noSp (fun _ => false) rfl rfl (by kernel_rfl) ?_); intro m' e' l' ob h; simp only [zE0, zE1, zE2, zE3, zE4, zE5, evp, evx, ev1, evLoad, evStore, evBin, isBoolK, forall_const, z38, tb, Nat.reduceAdd, Nat.reduceSub, Nat.reduceMul, Nat.reduceEqDiff, Nat.reduceLeDiff, Nat.reduceLT, Nat.reduceBEq, Nat.reduceBNe, ↓reduceIte, reduceIte] at h; obtain ⟨rfl, rfl, rfl, rfl⟩ := h; refine ⟨?_, ?_⟩)
    | ((with_reducible refine Ob.mk ?_); first | exact trivial | (intros; omega) | ((repeat' first | apply And.intro | (intro hg; have hg' := hg; try simp only [zH] at hg')) <;> first | assumption | omega | (simp only [zH]; omega)))
  refine Zay rfl rfl (Zaw rfl ?_ rfl)
  rfl
theorem Zfw : fromL ⟨[0, 1], [1, 2], [[0, 1], [0, 1]]⟩ 0 [0, -1] = [false, false] := exA_from0
theorem Zfv : fromL ⟨[0, 1], [1, 2], [[0, 1], [0, 1]]⟩ 0 [1, -1] = [true, true] := exA_from1
theorem Zfy : asksR ⟨[0, 1], [1, 2], [[0, 1], [0, 1]]⟩ 0 [0, -1] = 0 := Zgk 0 (.inl rfl)
theorem Zfx : asksR ⟨[0, 1], [1, 2], [[0, 1], [0, 1]]⟩ 0 [1, -1] = 0 := Zgk 1 (.inr rfl)
theorem exA_btr : FG Try.prog 11 [.agg (.cons (.roI [0, 1]) (.cons (.roI [1, 2]) (.cons (.roII [[0, 1], [0, 1]]) .nil))), .roI [0, -1]] [] 0 fun g => g = ⟨0, .tup (.cons (.roI [1, -1]) (.cons (.bool true) (.cons (.int .i64 0) .nil))), []⟩ := by
  have h := btr_fg (o := [0, 1]) (p := [1, 2]) (x := [[0, 1], [0, 1]]) (c := [0, -1]) exA_valid (Zgk 0 (.inl rfl)) (by rw [exA_im]; exact exA_run)
  have h1 : fromL ⟨[0, 1], [1, 2], [[0, 1], [0, 1]]⟩ 0 [0, -1] = [false, false] := exA_from0
  have h2 : (List.range [(0 : Int), 1].length).map (fun v => (vIt exH [1, -1] 0 v).e) = [true, true] := exA_won
  rw [h1, h2] at h
  exact h
def awk15S : Spec
  | [] => some ⟨True, .bool true, none⟩
  | _ => none
noncomputable def spAz : Nat → Option Spec
  | 28 => some exS
  | 16 => some rwinS
  | 20 => some bitsS
  | _ => none
theorem Zev : SpOK Try.prog spAz := by
  intro f S h
  unfold spAz at h
  split at h
  · cases h; exact ex_ok
  · cases h; exact iwin_ok
  · cases h; exact bits_ok
  · cases h
set_option maxRecDepth 4000 in
set_option maxHeartbeats 4000000 in
theorem awk15_ok : FSpec Try.prog 9 awk15S := by
  refine Zba htb (fn := Try.f9) (by kernel_rfl) (by kernel_rfl) rfl (fun args r hS => ?_) (fun args r hS hob hl => ?_)
  · unfold awk15S at hS; split at hS <;> first | (cases hS; done) | (cases hS; exact Nat.le_of_ble_eq_true rfl)
  unfold awk15S at hS
  split at hS
  case h_2 => cases hS
  simp only [Option.some.injEq] at hS
  subst hS
  repeat' first
    | with_reducible first | refine Zas ?_ | refine Zao ?_ | refine Zac ?_ | refine Zad ?_ | refine Zai ?_ | refine Zaq ?_ | refine Zah ?_ | refine Zak ?_ | refine Zar ?_ | refine Zat ?_ | refine Zap ?_ | refine Zam ?_ | refine Zaa ?_ | refine Zae ?_ | refine Zab ?_ | refine Zal ?_
    | ((with_reducible refine Zaj ?_ ?_); exact rfl)
    | ((with_reducible refine Zau ?_); refine Zan rfl ?_ ?_ <;> intro hb <;> (try simp only [zH] at hb))
    | ((with_reducible refine Zav 3 ?_ ?_); (· exact rfl); (first | refine Zaf htb hmz Zev (fun _ => false) rfl rfl ?_ | refine Zag hmo htb hmz Zev (fun _ => false) rfl rfl (by kernel_rfl) ?_); intro m' e' l' ob h; simp only [zE0, zE1, zE2, zE3, zE4, zE5, evp, evx, ev1, evLoad, evStore, evBin, isBoolK, forall_const, z38, tb, Nat.reduceAdd, Nat.reduceSub, Nat.reduceMul, Nat.reduceEqDiff, Nat.reduceLeDiff, Nat.reduceLT, Nat.reduceBEq, Nat.reduceBNe, ↓reduceIte, reduceIte, spAz, exS, rwinS, bitsS, Zfw, Zfv, Zfy, Zfx] at h; obtain ⟨rfl, rfl, rfl, rfl⟩ := h; refine ⟨?_, ?_⟩)
    | ((with_reducible refine Ob.mk ?_); first | exact trivial | (intros; omega) | ((repeat' first | apply And.intro | (intro hg; have hg' := hg; try simp only [zH] at hg')) <;> first | assumption | omega | (simp only [zH]; omega)))
  refine Zcg ([_, _]) ([_, _, _, _, _, _, _]) rfl rfl ?_
  refine Zaz htb hmz Zev (fun _ => false) rfl rfl rfl ?_; intro m' e' l' ob h; simp only [zE0, zE1, zE2, zE3, zE4, zE5, evp, evx, ev1, evLoad, evStore, evBin, isBoolK, forall_const, z38, tb, Nat.reduceAdd, Nat.reduceSub, Nat.reduceMul, Nat.reduceEqDiff, Nat.reduceLeDiff, Nat.reduceLT, Nat.reduceBEq, Nat.reduceBNe, ↓reduceIte, reduceIte, spAz, exS, rwinS, bitsS, Zfw, Zfv, Zfy, Zfx] at h; obtain ⟨rfl, rfl, rfl, rfl⟩ := h; refine ⟨?_, Zac ?_⟩
  · first | ((with_reducible refine Ob.mk ?_); first | exact trivial | (intros; omega) | ((repeat' first | apply And.intro | (intro hg; have hg' := hg; try simp only [zH] at hg')) <;> first | assumption | omega | (simp only [zH]; omega))) | skip
  refine Zbh ([]) (exA_btr) rfl rfl rfl rfl rfl rfl rfl rfl rfl (by simp only [rinR, rhoC, zE0, zE1, zE2, zE3, zE4, zE5, evp, evx, ev1, evLoad, evStore, evBin, isBoolK, forall_const, z38, tb, Nat.reduceAdd, Nat.reduceSub, Nat.reduceMul, Nat.reduceEqDiff, Nat.reduceLeDiff, Nat.reduceLT, Nat.reduceBEq, Nat.reduceBNe, ↓reduceIte, reduceIte, spAz, exS, rwinS, bitsS, Zfw, Zfv, Zfy, Zfx]) ?_; intro gm gv gr hq m' e' l' h; simp only [GR.mk.injEq] at hq; obtain ⟨rfl, rfl, rfl⟩ := hq; simp only [rhoC, outR, renR, dels, zE0, zE1, zE2, zE3, zE4, zE5, evp, evx, ev1, evLoad, evStore, evBin, isBoolK, forall_const, z38, tb, Nat.reduceAdd, Nat.reduceSub, Nat.reduceMul, Nat.reduceEqDiff, Nat.reduceLeDiff, Nat.reduceLT, Nat.reduceBEq, Nat.reduceBNe, ↓reduceIte, reduceIte, spAz, exS, rwinS, bitsS, Zfw, Zfv, Zfy, Zfx] at h; obtain ⟨rfl, rfl, rfl⟩ := h; refine Zac ?_
  refine Zaz htb hmz Zev (fun _ => false) rfl rfl rfl ?_; intro m' e' l' ob h; simp only [zE0, zE1, zE2, zE3, zE4, zE5, evp, evx, ev1, evLoad, evStore, evBin, isBoolK, forall_const, z38, tb, Nat.reduceAdd, Nat.reduceSub, Nat.reduceMul, Nat.reduceEqDiff, Nat.reduceLeDiff, Nat.reduceLT, Nat.reduceBEq, Nat.reduceBNe, ↓reduceIte, reduceIte, spAz, exS, rwinS, bitsS, Zfw, Zfv, Zfy, Zfx] at h; obtain ⟨rfl, rfl, rfl, rfl⟩ := h; refine ⟨?_, ?_⟩
  · first | ((with_reducible refine Ob.mk ?_); first | exact trivial | (intros; omega) | ((repeat' first | apply And.intro | (intro hg; have hg' := hg; try simp only [zH] at hg')) <;> first | assumption | omega | (simp only [zH]; omega))) | skip
  refine Zac ?_
  repeat' first
    | with_reducible first | refine Zas ?_ | refine Zao ?_ | refine Zac ?_ | refine Zad ?_ | refine Zai ?_ | refine Zaq ?_ | refine Zah ?_ | refine Zak ?_ | refine Zar ?_ | refine Zat ?_ | refine Zap ?_ | refine Zam ?_ | refine Zaa ?_ | refine Zae ?_ | refine Zab ?_ | refine Zal ?_
    | ((with_reducible refine Zaj ?_ ?_); exact rfl)
    | ((with_reducible refine Zau ?_); refine Zan rfl ?_ ?_ <;> intro hb <;> (try simp only [zH] at hb))
    | ((with_reducible refine Za0 ?_); (first | refine Zaf htb hmz Zev (fun _ => false) rfl rfl ?_ | refine Zag hmo htb hmz Zev (fun _ => false) rfl rfl (by kernel_rfl) ?_); intro m' e' l' ob h; simp only [zE0, zE1, zE2, zE3, zE4, zE5, evp, evx, ev1, evLoad, evStore, evBin, isBoolK, forall_const, z38, tb, Nat.reduceAdd, Nat.reduceSub, Nat.reduceMul, Nat.reduceEqDiff, Nat.reduceLeDiff, Nat.reduceLT, Nat.reduceBEq, Nat.reduceBNe, ↓reduceIte, reduceIte, spAz, exS, rwinS, bitsS, Zfw, Zfv, Zfy, Zfx] at h; obtain ⟨rfl, rfl, rfl, rfl⟩ := h; refine ⟨?_, ?_⟩)
    | ((with_reducible refine Ob.mk ?_); first | exact trivial | (intros; omega) | ((repeat' first | apply And.intro | (intro hg; have hg' := hg; try simp only [zH] at hg')) <;> first | assumption | omega | (simp only [zH]; omega)))
  refine Zay rfl rfl (Zaw rfl ?_ rfl)
  rfl
end Go.Proofs.Ytbcghiagomkadaa.Cal
namespace Go.Proofs.Ytbcghiagomkadaa.Cal
open Go Pl
def allS : Spec
  | [.agg (.cons (.roI s) (.cons (.roI l) .nil))] => some ⟨s.length ≤ 100000 ∧ l.length ≤ 100000, .roI (s ++ l), none⟩
  | _ => none
set_option maxRecDepth 4000 in
set_option maxHeartbeats 4000000 in
theorem all_ok : FSpec Try.prog 41 allS := by
  refine Zba htb (fn := Try.f41) (by kernel_rfl) (by kernel_rfl) rfl (fun args r hS => ?_) (fun args r hS hob hl => ?_)
  · unfold allS at hS; split at hS <;> first | (cases hS; done) | (cases hS; exact Nat.le_of_ble_eq_true rfl)
  unfold allS at hS
  split at hS
  case h_2 => cases hS
  rename_i s l
  simp only [Option.some.injEq] at hS
  subst hS
  simp only [lenP, mkL, lim] at hl
  dsimp only at hob
  obtain ⟨h1, h2⟩ := hob
  repeat' first
    | with_reducible first | refine Zas ?_ | refine Zao ?_ | refine Zac ?_ | refine Zad ?_ | refine Zai ?_ | refine Zaq ?_ | refine Zah ?_ | refine Zak ?_ | refine Zar ?_ | refine Zat ?_ | refine Zap ?_ | refine Zam ?_ | refine Zaa ?_ | refine Zae ?_ | refine Zab ?_ | refine Zal ?_
    | ((with_reducible refine Zaj ?_ ?_); exact rfl)
    | ((with_reducible refine Zau ?_); refine Zan rfl ?_ ?_ <;> intro hb <;> (try simp only [zH] at hb))
    | ((with_reducible refine Zav 1 ?_ ?_); (· exact rfl); (first | refine Zaf htb hmz noSp (fun _ => false) rfl rfl ?_ | refine Zag hmo htb hmz noSp (fun _ => false) rfl rfl (by kernel_rfl) ?_); intro m' e' l' ob h; simp only [zE0, zE1, zE2, zE3, zE4, zE5, evp, evx, ev1, evLoad, evStore, evBin, isBoolK, forall_const, z38, tb, Nat.reduceAdd, Nat.reduceSub, Nat.reduceMul, Nat.reduceEqDiff, Nat.reduceLeDiff, Nat.reduceLT, Nat.reduceBEq, Nat.reduceBNe, ↓reduceIte, reduceIte] at h; obtain ⟨rfl, rfl, rfl, rfl⟩ := h; refine ⟨?_, ?_⟩)
    | ((with_reducible refine Ob.mk ?_); first | exact trivial | (intros; omega) | ((repeat' first | apply And.intro | (intro hg; have hg' := hg; try simp only [zH] at hg')) <;> first | assumption | omega | (simp only [zH]; omega)))
  (refine Zag hmo htb hmz noSp (fun i => Nat.beq i 0) rfl rfl (by kernel_rfl) ?_; intro m' e' l' ob h; simp only [zE0, zE1, zE2, zE3, zE4, zE5, evp, evx, ev1, evLoad, evStore, evBin, isBoolK, forall_const, z38, tb, Nat.reduceAdd, Nat.reduceSub, Nat.reduceMul, Nat.reduceEqDiff, Nat.reduceLeDiff, Nat.reduceLT, Nat.reduceBEq, Nat.reduceBNe, ↓reduceIte, reduceIte] at h; obtain ⟨rfl, rfl, rfl, rfl⟩ := h; refine ⟨?_, ?_⟩)
  · refine Ob.mk ?_; omega
  refine Zac ?_
  refine Zbv 8 (.roI (s ++ l)) (by simp only [Zax, Za4, fzE, fzA, fzR, fzB, set1, nbeq, Nat.reduceEqDiff, decide_true, decide_false, ↓reduceIte, reduceIte, cond_true, cond_false, List.take_length, Option.some.injEq]; rfl) (by first | exact rfl | (refine ⟨?_, rfl⟩; first | rfl | (intros; rfl))) (by simp only [Zax, Za4, fzE, fzA, fzR, fzB, set1, nbeq, Nat.reduceEqDiff, decide_true, decide_false, ↓reduceIte, reduceIte, cond_true, cond_false, List.take_length, Option.some.injEq]; rfl) (by simp only [Zax, Za4, fzE, fzA, fzR, fzB, set1, nbeq, Nat.reduceEqDiff, decide_true, decide_false, ↓reduceIte, reduceIte, cond_true, cond_false, List.take_length, Option.some.injEq]; rfl) ?_
  repeat' first
    | with_reducible first | refine Zas ?_ | refine Zao ?_ | refine Zac ?_ | refine Zad ?_ | refine Zai ?_ | refine Zaq ?_ | refine Zah ?_ | refine Zak ?_ | refine Zar ?_ | refine Zat ?_ | refine Zap ?_ | refine Zam ?_ | refine Zaa ?_ | refine Zae ?_ | refine Zab ?_ | refine Zal ?_
    | ((with_reducible refine Zaj ?_ ?_); exact rfl)
    | ((with_reducible refine Zau ?_); refine Zan rfl ?_ ?_ <;> intro hb <;> (try simp only [zH] at hb))
    | ((with_reducible refine Za0 ?_); (first | refine Zaf htb hmz noSp (fun _ => false) rfl rfl ?_ | refine Zag hmo htb hmz noSp (fun _ => false) rfl rfl (by kernel_rfl) ?_); intro m' e' l' ob h; simp only [zE0, zE1, zE2, zE3, zE4, zE5, evp, evx, ev1, evLoad, evStore, evBin, isBoolK, forall_const, z38, tb, Nat.reduceAdd, Nat.reduceSub, Nat.reduceMul, Nat.reduceEqDiff, Nat.reduceLeDiff, Nat.reduceLT, Nat.reduceBEq, Nat.reduceBNe, ↓reduceIte, reduceIte] at h; obtain ⟨rfl, rfl, rfl, rfl⟩ := h; refine ⟨?_, ?_⟩)
    | ((with_reducible refine Ob.mk ?_); first | exact trivial | (intros; omega) | ((repeat' first | apply And.intro | (intro hg; have hg' := hg; try simp only [zH] at hg')) <;> first | assumption | omega | (simp only [zH]; omega)))
  refine Zay rfl rfl (Zaw rfl ?_ rfl)
  rfl
/-- What follows the place i of a play. -/
def aftP (l loop : List Int) (i : Int) : Int := if i + 1 < l.length then l.getD (i + 1).toNat 0 else loop.getD 0 0
def aftS : Spec
  | [.agg (.cons (.roI s) (.cons (.roI lp) .nil)), .roI l, .int .i64 i] => some ⟨(0 ≤ i ∧ i < l.length) ∧ 0 < lp.length, .int .i64 (aftP l lp i), none⟩
  | _ => none
set_option maxRecDepth 4000 in
set_option maxHeartbeats 4000000 in
theorem aft_ok : FSpec Try.prog 42 aftS := by
  refine Zba htb (fn := Try.f42) (by kernel_rfl) (by kernel_rfl) rfl (fun args r hS => ?_) (fun args r hS hob hl => ?_)
  · unfold aftS at hS; split at hS <;> first | (cases hS; done) | (cases hS; exact Nat.le_of_ble_eq_true rfl)
  unfold aftS at hS
  split at hS
  case h_2 => cases hS
  rename_i s lp l i
  simp only [Option.some.injEq] at hS
  subst hS
  simp only [lenP, mkL, lim] at hl
  dsimp only at hob
  obtain ⟨⟨h1, h2⟩, h3⟩ := hob
  repeat' first
    | with_reducible first | refine Zas ?_ | refine Zao ?_ | refine Zac ?_ | refine Zad ?_ | refine Zai ?_ | refine Zaq ?_ | refine Zah ?_ | refine Zak ?_ | refine Zar ?_ | refine Zat ?_ | refine Zap ?_ | refine Zam ?_ | refine Zaa ?_ | refine Zae ?_ | refine Zab ?_ | refine Zal ?_
    | ((with_reducible refine Zaj ?_ ?_); exact rfl)
    | ((with_reducible refine Zau ?_); refine Zan rfl ?_ ?_ <;> intro hb <;> (try simp only [zH] at hb))
    | ((with_reducible refine Zav 2 ?_ ?_); (· exact rfl); (with_reducible refine Zav 3 ?_ ?_); (· exact rfl); (first | refine Zaf htb hmz noSp (fun _ => false) rfl rfl ?_ | refine Zag hmo htb hmz noSp (fun _ => false) rfl rfl (by kernel_rfl) ?_); intro m' e' l' ob h; simp only [zE0, zE1, zE2, zE3, zE4, zE5, evp, evx, ev1, evLoad, evStore, evBin, isBoolK, forall_const, z38, tb, Nat.reduceAdd, Nat.reduceSub, Nat.reduceMul, Nat.reduceEqDiff, Nat.reduceLeDiff, Nat.reduceLT, Nat.reduceBEq, Nat.reduceBNe, ↓reduceIte, reduceIte] at h; obtain ⟨rfl, rfl, rfl, rfl⟩ := h; refine ⟨?_, ?_⟩)
    | ((with_reducible refine Ob.mk ?_); first | exact trivial | (intros; omega) | ((repeat' first | apply And.intro | (intro hg; have hg' := hg; try simp only [zH] at hg')) <;> first | assumption | omega | (simp only [zH]; omega)))
  · repeat' first
      | with_reducible first | refine Zas ?_ | refine Zao ?_ | refine Zac ?_ | refine Zad ?_ | refine Zai ?_ | refine Zaq ?_ | refine Zah ?_ | refine Zak ?_ | refine Zar ?_ | refine Zat ?_ | refine Zap ?_ | refine Zam ?_ | refine Zaa ?_ | refine Zae ?_ | refine Zab ?_ | refine Zal ?_
      | ((with_reducible refine Zaj ?_ ?_); exact rfl)
      | ((with_reducible refine Zau ?_); refine Zan rfl ?_ ?_ <;> intro hb <;> (try simp only [zH] at hb))
      | ((with_reducible refine Za0 ?_); (first | refine Zaf htb hmz noSp (fun _ => false) rfl rfl ?_ | refine Zag hmo htb hmz noSp (fun _ => false) rfl rfl (by kernel_rfl) ?_); intro m' e' l' ob h; simp only [zE0, zE1, zE2, zE3, zE4, zE5, evp, evx, ev1, evLoad, evStore, evBin, isBoolK, forall_const, z38, tb, Nat.reduceAdd, Nat.reduceSub, Nat.reduceMul, Nat.reduceEqDiff, Nat.reduceLeDiff, Nat.reduceLT, Nat.reduceBEq, Nat.reduceBNe, ↓reduceIte, reduceIte] at h; obtain ⟨rfl, rfl, rfl, rfl⟩ := h; refine ⟨?_, ?_⟩)
      | ((with_reducible refine Ob.mk ?_); first | exact trivial | (intros; omega) | ((repeat' first | apply And.intro | (intro hg; have hg' := hg; try simp only [zH] at hg')) <;> first | assumption | omega | (simp only [zH]; omega)))
    refine Zay rfl rfl (Zaw rfl ?_ rfl)
    show AV.int .i64 _ = AV.int .i64 (aftP l lp i)
    unfold aftP
    rw [if_pos hb]
  · repeat' first
      | with_reducible first | refine Zas ?_ | refine Zao ?_ | refine Zac ?_ | refine Zad ?_ | refine Zai ?_ | refine Zaq ?_ | refine Zah ?_ | refine Zak ?_ | refine Zar ?_ | refine Zat ?_ | refine Zap ?_ | refine Zam ?_ | refine Zaa ?_ | refine Zae ?_ | refine Zab ?_ | refine Zal ?_
      | ((with_reducible refine Zaj ?_ ?_); exact rfl)
      | ((with_reducible refine Zau ?_); refine Zan rfl ?_ ?_ <;> intro hb <;> (try simp only [zH] at hb))
      | ((with_reducible refine Za0 ?_); (first | refine Zaf htb hmz noSp (fun _ => false) rfl rfl ?_ | refine Zag hmo htb hmz noSp (fun _ => false) rfl rfl (by kernel_rfl) ?_); intro m' e' l' ob h; simp only [zE0, zE1, zE2, zE3, zE4, zE5, evp, evx, ev1, evLoad, evStore, evBin, isBoolK, forall_const, z38, tb, Nat.reduceAdd, Nat.reduceSub, Nat.reduceMul, Nat.reduceEqDiff, Nat.reduceLeDiff, Nat.reduceLT, Nat.reduceBEq, Nat.reduceBNe, ↓reduceIte, reduceIte] at h; obtain ⟨rfl, rfl, rfl, rfl⟩ := h; refine ⟨?_, ?_⟩)
      | ((with_reducible refine Ob.mk ?_); first | exact trivial | (intros; omega) | ((repeat' first | apply And.intro | (intro hg; have hg' := hg; try simp only [zH] at hg')) <;> first | assumption | omega | (simp only [zH]; omega)))
    refine Zay rfl rfl (Zaw rfl ?_ rfl)
    show AV.int .i64 _ = AV.int .i64 (aftP l lp i)
    unfold aftP
    rw [if_neg (by omega)]
/-- Whether a stem and a loop are a play. -/
def isP (g : Gm) (s lp : List Int) : Bool := decide (lp ≠ [] ∧ (∀ i, i < (s ++ lp).length → 0 ≤ (s ++ lp).getD i 0 ∧ (s ++ lp).getD i 0 < (g.own.length : Int)) ∧ ∀ i, i < (s ++ lp).length → aftP (s ++ lp) lp i ∈ g.nxt.getD ((s ++ lp).getD i 0).toNat [])
def isS : Spec
  | [.agg (.cons (.roI o) (.cons (.roI p) (.cons (.roII x) .nil))), .agg (.cons (.roI s) (.cons (.roI lp) .nil))] => some ⟨(s.length ≤ 100000 ∧ lp.length ≤ 100000) ∧ x.length = o.length, .bool (isP ⟨o, p, x⟩ s lp), none⟩
  | _ => none
def spIs : Nat → Option Spec
  | 41 => some allS
  | 42 => some aftS
  | 34 => some hasS
  | _ => none
theorem Zbj : SpOK Try.prog spIs := by
  intro f S h
  unfold spIs at h
  split at h
  · cases h; exact all_ok
  · cases h; exact aft_ok
  · cases h; exact has13_ok
  · cases h
set_option maxRecDepth 4000 in
set_option maxHeartbeats 4000000 in
theorem is_ok : FSpec Try.prog 22 isS := by
  refine Zba htb (fn := Try.f22) (by kernel_rfl) (by kernel_rfl) rfl (fun args r hS => ?_) (fun args r hS hob hl => ?_)
  · unfold isS at hS; split at hS <;> first | (cases hS; done) | (cases hS; exact Nat.le_of_ble_eq_true rfl)
  unfold isS at hS
  split at hS
  case h_2 => cases hS
  rename_i o p x s lp
  simp only [Option.some.injEq] at hS
  subst hS
  simp only [lenP, mkL, lim] at hl
  dsimp only at hob
  obtain ⟨⟨h1, h2⟩, h3⟩ := hob
  have hal : (s ++ lp).length = s.length + lp.length := List.length_append ..
  repeat' first
    | with_reducible first | refine Zas ?_ | refine Zao ?_ | refine Zac ?_ | refine Zad ?_ | refine Zai ?_ | refine Zaq ?_ | refine Zah ?_ | refine Zak ?_ | refine Zar ?_ | refine Zat ?_ | refine Zap ?_ | refine Zam ?_ | refine Zaa ?_ | refine Zae ?_ | refine Zab ?_ | refine Zal ?_
    | ((with_reducible refine Zaj ?_ ?_); exact rfl)
    | ((with_reducible refine Zau ?_); refine Zan rfl ?_ ?_ <;> intro hb <;> (try simp only [zH] at hb))
    | ((with_reducible refine Zav 2 ?_ ?_); (· exact rfl); (with_reducible refine Zav 3 ?_ ?_); (· exact rfl); (first | refine Zaf htb hmz Zbj (fun _ => false) rfl rfl ?_ | refine Zag hmo htb hmz Zbj (fun _ => false) rfl rfl (by kernel_rfl) ?_); intro m' e' l' ob h; simp only [zE0, zE1, zE2, zE3, zE4, zE5, evp, evx, ev1, evLoad, evStore, evBin, isBoolK, forall_const, z38, tb, Nat.reduceAdd, Nat.reduceSub, Nat.reduceMul, Nat.reduceEqDiff, Nat.reduceLeDiff, Nat.reduceLT, Nat.reduceBEq, Nat.reduceBNe, ↓reduceIte, reduceIte, spIs, allS, aftS, hasS] at h; obtain ⟨rfl, rfl, rfl, rfl⟩ := h; refine ⟨?_, ?_⟩)
    | ((with_reducible refine Ob.mk ?_); first | exact trivial | (intros; omega) | ((repeat' first | apply And.intro | (intro hg; have hg' := hg; try simp only [zH] at hg')) <;> first | assumption | omega | (simp only [zH]; omega)))
  · repeat' first
      | with_reducible first | refine Zas ?_ | refine Zao ?_ | refine Zac ?_ | refine Zad ?_ | refine Zai ?_ | refine Zaq ?_ | refine Zah ?_ | refine Zak ?_ | refine Zar ?_ | refine Zat ?_ | refine Zap ?_ | refine Zam ?_ | refine Zaa ?_ | refine Zae ?_ | refine Zab ?_ | refine Zal ?_
      | ((with_reducible refine Zaj ?_ ?_); exact rfl)
      | ((with_reducible refine Zau ?_); refine Zan rfl ?_ ?_ <;> intro hb <;> (try simp only [zH] at hb))
      | ((with_reducible refine Za0 ?_); (first | refine Zaf htb hmz Zbj (fun _ => false) rfl rfl ?_ | refine Zag hmo htb hmz Zbj (fun _ => false) rfl rfl (by kernel_rfl) ?_); intro m' e' l' ob h; simp only [zE0, zE1, zE2, zE3, zE4, zE5, evp, evx, ev1, evLoad, evStore, evBin, isBoolK, forall_const, z38, tb, Nat.reduceAdd, Nat.reduceSub, Nat.reduceMul, Nat.reduceEqDiff, Nat.reduceLeDiff, Nat.reduceLT, Nat.reduceBEq, Nat.reduceBNe, ↓reduceIte, reduceIte, spIs, allS, aftS, hasS] at h; obtain ⟨rfl, rfl, rfl, rfl⟩ := h; refine ⟨?_, ?_⟩)
      | ((with_reducible refine Ob.mk ?_); first | exact trivial | (intros; omega) | ((repeat' first | apply And.intro | (intro hg; have hg' := hg; try simp only [zH] at hg')) <;> first | assumption | omega | (simp only [zH]; omega)))
    refine Zay rfl rfl (Zaw rfl ?_ rfl)
    have : isP ⟨o, p, x⟩ s lp = false := decide_eq_false fun h => h.1 (List.length_eq_zero_iff.1 (by omega))
    rw [this]; rfl
  have hlp : lp ≠ [] := fun h => by
    rw [h] at hb; exact absurd rfl hb
  have hl0 : 0 < lp.length := List.length_pos_iff.2 hlp
  have hP : isP ⟨o, p, x⟩ s lp = decide (lp ≠ [] ∧ (∀ i, i < (s ++ lp).length → 0 ≤ (s ++ lp).getD i 0 ∧ (s ++ lp).getD i 0 < (o.length : Int)) ∧ ∀ i : Nat, i < (s ++ lp).length → aftP (s ++ lp) lp i ∈ x.getD ((s ++ lp).getD i 0).toNat []) := by
    unfold isP
    exact decide_eq_decide.2 Iff.rfl
  repeat' first
    | with_reducible first | refine Zas ?_ | refine Zao ?_ | refine Zac ?_ | refine Zad ?_ | refine Zai ?_ | refine Zaq ?_ | refine Zah ?_ | refine Zak ?_ | refine Zar ?_ | refine Zat ?_ | refine Zap ?_ | refine Zam ?_ | refine Zaa ?_ | refine Zae ?_ | refine Zab ?_ | refine Zal ?_
    | ((with_reducible refine Zaj ?_ ?_); exact rfl)
    | ((with_reducible refine Zau ?_); refine Zan rfl ?_ ?_ <;> intro hb <;> (try simp only [zH] at hb))
    | ((with_reducible refine Zav 5 ?_ ?_); (· exact rfl); (first | refine Zaf htb hmz Zbj (fun _ => false) rfl rfl ?_ | refine Zag hmo htb hmz Zbj (fun _ => false) rfl rfl (by kernel_rfl) ?_); intro m' e' l' ob h; simp only [zE0, zE1, zE2, zE3, zE4, zE5, evp, evx, ev1, evLoad, evStore, evBin, isBoolK, forall_const, z38, tb, Nat.reduceAdd, Nat.reduceSub, Nat.reduceMul, Nat.reduceEqDiff, Nat.reduceLeDiff, Nat.reduceLT, Nat.reduceBEq, Nat.reduceBNe, ↓reduceIte, reduceIte, spIs, allS, aftS, hasS] at h; obtain ⟨rfl, rfl, rfl, rfl⟩ := h; refine ⟨?_, ?_⟩)
    | ((with_reducible refine Ob.mk ?_); first | exact trivial | (intros; omega) | ((repeat' first | apply And.intro | (intro hg; have hg' := hg; try simp only [zH] at hg')) <;> first | assumption | omega | (simp only [zH]; omega)))
  generalize s ++ lp = L at *
  refine Za1 (τ := Nat) (fun i => i ≤ L.length ∧ ∀ j, j < i → 0 ≤ L.getD j 0 ∧ L.getD j 0 < (o.length : Int)) (fun i => ⟨13, [(18, .int .i64 i), (17, .int .i64 L.length), (16, .roI L), (5, .roI L), (3, .rop (.agg (.cons (.roI s) (.cons (.roI lp) .nil)))), (2, .rop (.agg (.cons (.roI o) (.cons (.roI p) (.cons (.roII x) .nil)))))], [], []⟩) (fun i => L.length - i) 0 [] ?_ ⟨Nat.zero_le _, fun j hj => absurd hj (Nat.not_lt_zero j)⟩ ?_
  · (refine ⟨rfl, ?_, ?_⟩ <;> simp only [zE0, zE1, zE2, zE3, zE4, zE5, evp, evx, ev1, evLoad, evStore, evBin, isBoolK, forall_const, z38, tb, Nat.reduceAdd, Nat.reduceSub, Nat.reduceMul, Nat.reduceEqDiff, Nat.reduceLeDiff, Nat.reduceLT, Nat.reduceBEq, Nat.reduceBNe, ↓reduceIte, reduceIte, spIs, allS, aftS, hasS, zI])
  rintro i ⟨hi, hk⟩
  repeat' first
    | with_reducible first | refine Zas ?_ | refine Zao ?_ | refine Zac ?_ | refine Zad ?_ | refine Zai ?_ | refine Zaq ?_ | refine Zah ?_ | refine Zak ?_ | refine Zar ?_ | refine Zat ?_ | refine Zap ?_ | refine Zam ?_ | refine Zaa ?_ | refine Zae ?_ | refine Zab ?_ | refine Zal ?_
    | ((with_reducible refine Zaj ?_ ?_); exact rfl)
    | ((with_reducible refine Zau ?_); refine Zan rfl ?_ ?_ <;> intro hb <;> (try simp only [zH] at hb))
    | ((with_reducible refine Zav 6 ?_ ?_); (· exact rfl); (with_reducible refine Zav 10 ?_ ?_); (· exact rfl); (first | refine Zaf htb hmz Zbj (fun _ => false) rfl rfl ?_ | refine Zag hmo htb hmz Zbj (fun _ => false) rfl rfl (by kernel_rfl) ?_); intro m' e' l' ob h; simp only [zE0, zE1, zE2, zE3, zE4, zE5, evp, evx, ev1, evLoad, evStore, evBin, isBoolK, forall_const, z38, tb, Nat.reduceAdd, Nat.reduceSub, Nat.reduceMul, Nat.reduceEqDiff, Nat.reduceLeDiff, Nat.reduceLT, Nat.reduceBEq, Nat.reduceBNe, ↓reduceIte, reduceIte, spIs, allS, aftS, hasS] at h; obtain ⟨rfl, rfl, rfl, rfl⟩ := h; refine ⟨?_, ?_⟩)
    | ((with_reducible refine Ob.mk ?_); first | exact trivial | (intros; omega) | ((repeat' first | apply And.intro | (intro hg; have hg' := hg; try simp only [zH] at hg')) <;> first | assumption | omega | (simp only [zH]; omega)))
  · have hil : i < L.length := by omega
    repeat' first
      | with_reducible first | refine Zas ?_ | refine Zao ?_ | refine Zac ?_ | refine Zad ?_ | refine Zai ?_ | refine Zaq ?_ | refine Zah ?_ | refine Zak ?_ | refine Zar ?_ | refine Zat ?_ | refine Zap ?_ | refine Zam ?_ | refine Zaa ?_ | refine Zae ?_ | refine Zab ?_ | refine Zal ?_
      | ((with_reducible refine Zaj ?_ ?_); exact rfl)
      | ((with_reducible refine Zau ?_); refine Zan rfl ?_ ?_ <;> intro hb <;> (try simp only [zH] at hb))
      | ((with_reducible refine Zav 8 ?_ ?_); (· exact rfl); (with_reducible refine Zav 9 ?_ ?_); (· exact rfl); (first | refine Zaf htb hmz Zbj (fun _ => false) rfl rfl ?_ | refine Zag hmo htb hmz Zbj (fun _ => false) rfl rfl (by kernel_rfl) ?_); intro m' e' l' ob h; simp only [zE0, zE1, zE2, zE3, zE4, zE5, evp, evx, ev1, evLoad, evStore, evBin, isBoolK, forall_const, z38, tb, Nat.reduceAdd, Nat.reduceSub, Nat.reduceMul, Nat.reduceEqDiff, Nat.reduceLeDiff, Nat.reduceLT, Nat.reduceBEq, Nat.reduceBNe, ↓reduceIte, reduceIte, spIs, allS, aftS, hasS] at h; obtain ⟨rfl, rfl, rfl, rfl⟩ := h; refine ⟨?_, ?_⟩)
      | ((with_reducible refine Ob.mk ?_); first | exact trivial | (intros; omega) | ((repeat' first | apply And.intro | (intro hg; have hg' := hg; try simp only [zH] at hg')) <;> first | assumption | omega | (simp only [zH]; omega)))
    · repeat' first
        | with_reducible first | refine Zas ?_ | refine Zao ?_ | refine Zac ?_ | refine Zad ?_ | refine Zai ?_ | refine Zaq ?_ | refine Zah ?_ | refine Zak ?_ | refine Zar ?_ | refine Zat ?_ | refine Zap ?_ | refine Zam ?_ | refine Zaa ?_ | refine Zae ?_ | refine Zab ?_ | refine Zal ?_
        | ((with_reducible refine Zaj ?_ ?_); exact rfl)
        | ((with_reducible refine Zau ?_); refine Zan rfl ?_ ?_ <;> intro hb <;> (try simp only [zH] at hb))
        | ((with_reducible refine Za0 ?_); (first | refine Zaf htb hmz Zbj (fun _ => false) rfl rfl ?_ | refine Zag hmo htb hmz Zbj (fun _ => false) rfl rfl (by kernel_rfl) ?_); intro m' e' l' ob h; simp only [zE0, zE1, zE2, zE3, zE4, zE5, evp, evx, ev1, evLoad, evStore, evBin, isBoolK, forall_const, z38, tb, Nat.reduceAdd, Nat.reduceSub, Nat.reduceMul, Nat.reduceEqDiff, Nat.reduceLeDiff, Nat.reduceLT, Nat.reduceBEq, Nat.reduceBNe, ↓reduceIte, reduceIte, spIs, allS, aftS, hasS] at h; obtain ⟨rfl, rfl, rfl, rfl⟩ := h; refine ⟨?_, ?_⟩)
        | ((with_reducible refine Ob.mk ?_); first | exact trivial | (intros; omega) | ((repeat' first | apply And.intro | (intro hg; have hg' := hg; try simp only [zH] at hg')) <;> first | assumption | omega | (simp only [zH]; omega)))
      refine Zay rfl rfl (Zaw rfl ?_ rfl)
      have hf : isP ⟨o, p, x⟩ s lp = false := by
        rw [hP]
        exact decide_eq_false fun h => by
          have := h.2.1 i hil
          omega
      rw [hf]; rfl
    · repeat' first
        | with_reducible first | refine Zas ?_ | refine Zao ?_ | refine Zac ?_ | refine Zad ?_ | refine Zai ?_ | refine Zaq ?_ | refine Zah ?_ | refine Zak ?_ | refine Zar ?_ | refine Zat ?_ | refine Zap ?_ | refine Zam ?_ | refine Zaa ?_ | refine Zae ?_ | refine Zab ?_ | refine Zal ?_
        | ((with_reducible refine Zaj ?_ ?_); exact rfl)
        | ((with_reducible refine Zau ?_); refine Zan rfl ?_ ?_ <;> intro hb <;> (try simp only [zH] at hb))
        | ((with_reducible refine Za0 ?_); (first | refine Zaf htb hmz Zbj (fun _ => false) rfl rfl ?_ | refine Zag hmo htb hmz Zbj (fun _ => false) rfl rfl (by kernel_rfl) ?_); intro m' e' l' ob h; simp only [zE0, zE1, zE2, zE3, zE4, zE5, evp, evx, ev1, evLoad, evStore, evBin, isBoolK, forall_const, z38, tb, Nat.reduceAdd, Nat.reduceSub, Nat.reduceMul, Nat.reduceEqDiff, Nat.reduceLeDiff, Nat.reduceLT, Nat.reduceBEq, Nat.reduceBNe, ↓reduceIte, reduceIte, spIs, allS, aftS, hasS] at h; obtain ⟨rfl, rfl, rfl, rfl⟩ := h; refine ⟨?_, ?_⟩)
        | ((with_reducible refine Ob.mk ?_); first | exact trivial | (intros; omega) | ((repeat' first | apply And.intro | (intro hg; have hg' := hg; try simp only [zH] at hg')) <;> first | assumption | omega | (simp only [zH]; omega)))
      refine back (i + 1) [] ?_ ⟨by omega, fun j hj => ?_⟩ (by omega)
      · (refine ⟨rfl, ?_, ?_⟩ <;> simp only [zE0, zE1, zE2, zE3, zE4, zE5, evp, evx, ev1, evLoad, evStore, evBin, isBoolK, forall_const, z38, tb, Nat.reduceAdd, Nat.reduceSub, Nat.reduceMul, Nat.reduceEqDiff, Nat.reduceLeDiff, Nat.reduceLT, Nat.reduceBEq, Nat.reduceBNe, ↓reduceIte, reduceIte, spIs, allS, aftS, hasS, zI])
      · rcases Nat.lt_succ_iff_lt_or_eq.1 hj with h | rfl
        · exact hk j h
        · omega
  have hie : i = L.length := by omega
  subst hie
  repeat' first
    | with_reducible first | refine Zas ?_ | refine Zao ?_ | refine Zac ?_ | refine Zad ?_ | refine Zai ?_ | refine Zaq ?_ | refine Zah ?_ | refine Zak ?_ | refine Zar ?_ | refine Zat ?_ | refine Zap ?_ | refine Zam ?_ | refine Zaa ?_ | refine Zae ?_ | refine Zab ?_ | refine Zal ?_
    | ((with_reducible refine Zaj ?_ ?_); exact rfl)
    | ((with_reducible refine Zau ?_); refine Zan rfl ?_ ?_ <;> intro hb <;> (try simp only [zH] at hb))
    | ((with_reducible refine Za0 ?_); (first | refine Zaf htb hmz Zbj (fun _ => false) rfl rfl ?_ | refine Zag hmo htb hmz Zbj (fun _ => false) rfl rfl (by kernel_rfl) ?_); intro m' e' l' ob h; simp only [zE0, zE1, zE2, zE3, zE4, zE5, evp, evx, ev1, evLoad, evStore, evBin, isBoolK, forall_const, z38, tb, Nat.reduceAdd, Nat.reduceSub, Nat.reduceMul, Nat.reduceEqDiff, Nat.reduceLeDiff, Nat.reduceLT, Nat.reduceBEq, Nat.reduceBNe, ↓reduceIte, reduceIte, spIs, allS, aftS, hasS] at h; obtain ⟨rfl, rfl, rfl, rfl⟩ := h; refine ⟨?_, ?_⟩)
    | ((with_reducible refine Ob.mk ?_); first | exact trivial | (intros; omega) | ((repeat' first | apply And.intro | (intro hg; have hg' := hg; try simp only [zH] at hg')) <;> first | assumption | omega | (simp only [zH]; omega)))
  refine Za1 (τ := Nat) (fun i => i ≤ L.length ∧ ∀ j : Nat, j < i → aftP L lp j ∈ x.getD (L.getD j 0).toNat []) (fun i => ⟨17, [(34, .int .i64 i), (33, .int .i64 L.length), (32, .roI L), (5, .roI L), (3, .rop (.agg (.cons (.roI s) (.cons (.roI lp) .nil)))), (2, .rop (.agg (.cons (.roI o) (.cons (.roI p) (.cons (.roII x) .nil)))))], [], []⟩) (fun i => L.length - i) 0 [] ?_ ⟨Nat.zero_le _, fun j hj => absurd hj (Nat.not_lt_zero j)⟩ ?_
  · (refine ⟨rfl, ?_, ?_⟩ <;> simp only [zE0, zE1, zE2, zE3, zE4, zE5, evp, evx, ev1, evLoad, evStore, evBin, isBoolK, forall_const, z38, tb, Nat.reduceAdd, Nat.reduceSub, Nat.reduceMul, Nat.reduceEqDiff, Nat.reduceLeDiff, Nat.reduceLT, Nat.reduceBEq, Nat.reduceBNe, ↓reduceIte, reduceIte, spIs, allS, aftS, hasS, zI])
  rintro i ⟨hi, hk2⟩
  have hk1 := hk i
  repeat' first
    | with_reducible first | refine Zas ?_ | refine Zao ?_ | refine Zac ?_ | refine Zad ?_ | refine Zai ?_ | refine Zaq ?_ | refine Zah ?_ | refine Zak ?_ | refine Zar ?_ | refine Zat ?_ | refine Zap ?_ | refine Zam ?_ | refine Zaa ?_ | refine Zae ?_ | refine Zab ?_ | refine Zal ?_
    | ((with_reducible refine Zaj ?_ ?_); exact rfl)
    | ((with_reducible refine Zau ?_); refine Zan rfl ?_ ?_ <;> intro hb <;> (try simp only [zH] at hb))
    | ((with_reducible refine Zav 12 ?_ ?_); (· exact rfl); (with_reducible refine Zav 16 ?_ ?_); (· exact rfl); (first | refine Zaf htb hmz Zbj (fun _ => false) rfl rfl ?_ | refine Zag hmo htb hmz Zbj (fun _ => false) rfl rfl (by kernel_rfl) ?_); intro m' e' l' ob h; simp only [zE0, zE1, zE2, zE3, zE4, zE5, evp, evx, ev1, evLoad, evStore, evBin, isBoolK, forall_const, z38, tb, Nat.reduceAdd, Nat.reduceSub, Nat.reduceMul, Nat.reduceEqDiff, Nat.reduceLeDiff, Nat.reduceLT, Nat.reduceBEq, Nat.reduceBNe, ↓reduceIte, reduceIte, spIs, allS, aftS, hasS] at h; obtain ⟨rfl, rfl, rfl, rfl⟩ := h; refine ⟨?_, ?_⟩)
    | ((with_reducible refine Ob.mk ?_); first | exact trivial | (intros; omega) | ((repeat' first | apply And.intro | (intro hg; have hg' := hg; try simp only [zH] at hg')) <;> first | assumption | omega | (simp only [zH]; omega)))
  · have hil : i < L.length := by omega
    have hk1 := hk1 hil
    repeat' first
      | with_reducible first | refine Zas ?_ | refine Zao ?_ | refine Zac ?_ | refine Zad ?_ | refine Zai ?_ | refine Zaq ?_ | refine Zah ?_ | refine Zak ?_ | refine Zar ?_ | refine Zat ?_ | refine Zap ?_ | refine Zam ?_ | refine Zaa ?_ | refine Zae ?_ | refine Zab ?_ | refine Zal ?_
      | ((with_reducible refine Zaj ?_ ?_); exact rfl)
      | ((with_reducible refine Zau ?_); refine Zan rfl ?_ ?_ <;> intro hb <;> (try simp only [zH] at hb))
      | ((with_reducible refine Zav 14 ?_ ?_); (· exact rfl); (with_reducible refine Zav 15 ?_ ?_); (· exact rfl); (first | refine Zaf htb hmz Zbj (fun _ => false) rfl rfl ?_ | refine Zag hmo htb hmz Zbj (fun _ => false) rfl rfl (by kernel_rfl) ?_); intro m' e' l' ob h; simp only [zE0, zE1, zE2, zE3, zE4, zE5, evp, evx, ev1, evLoad, evStore, evBin, isBoolK, forall_const, z38, tb, Nat.reduceAdd, Nat.reduceSub, Nat.reduceMul, Nat.reduceEqDiff, Nat.reduceLeDiff, Nat.reduceLT, Nat.reduceBEq, Nat.reduceBNe, ↓reduceIte, reduceIte, spIs, allS, aftS, hasS] at h; obtain ⟨rfl, rfl, rfl, rfl⟩ := h; refine ⟨?_, ?_⟩)
      | ((with_reducible refine Ob.mk ?_); first | exact trivial | (intros; omega) | ((repeat' first | apply And.intro | (intro hg; have hg' := hg; try simp only [zH] at hg')) <;> first | assumption | omega | (simp only [zH]; omega)))
    · repeat' first
        | with_reducible first | refine Zas ?_ | refine Zao ?_ | refine Zac ?_ | refine Zad ?_ | refine Zai ?_ | refine Zaq ?_ | refine Zah ?_ | refine Zak ?_ | refine Zar ?_ | refine Zat ?_ | refine Zap ?_ | refine Zam ?_ | refine Zaa ?_ | refine Zae ?_ | refine Zab ?_ | refine Zal ?_
        | ((with_reducible refine Zaj ?_ ?_); exact rfl)
        | ((with_reducible refine Zau ?_); refine Zan rfl ?_ ?_ <;> intro hb <;> (try simp only [zH] at hb))
        | ((with_reducible refine Za0 ?_); (first | refine Zaf htb hmz Zbj (fun _ => false) rfl rfl ?_ | refine Zag hmo htb hmz Zbj (fun _ => false) rfl rfl (by kernel_rfl) ?_); intro m' e' l' ob h; simp only [zE0, zE1, zE2, zE3, zE4, zE5, evp, evx, ev1, evLoad, evStore, evBin, isBoolK, forall_const, z38, tb, Nat.reduceAdd, Nat.reduceSub, Nat.reduceMul, Nat.reduceEqDiff, Nat.reduceLeDiff, Nat.reduceLT, Nat.reduceBEq, Nat.reduceBNe, ↓reduceIte, reduceIte, spIs, allS, aftS, hasS] at h; obtain ⟨rfl, rfl, rfl, rfl⟩ := h; refine ⟨?_, ?_⟩)
        | ((with_reducible refine Ob.mk ?_); first | exact trivial | (intros; omega) | ((repeat' first | apply And.intro | (intro hg; have hg' := hg; try simp only [zH] at hg')) <;> first | assumption | omega | (simp only [zH]; omega)))
      refine Zay rfl rfl (Zaw rfl ?_ rfl)
      have hf : isP ⟨o, p, x⟩ s lp = false := by
        rw [hP]
        exact decide_eq_false fun h => hb (h.2.2 i hil)
      rw [hf]; rfl
    · repeat' first
        | with_reducible first | refine Zas ?_ | refine Zao ?_ | refine Zac ?_ | refine Zad ?_ | refine Zai ?_ | refine Zaq ?_ | refine Zah ?_ | refine Zak ?_ | refine Zar ?_ | refine Zat ?_ | refine Zap ?_ | refine Zam ?_ | refine Zaa ?_ | refine Zae ?_ | refine Zab ?_ | refine Zal ?_
        | ((with_reducible refine Zaj ?_ ?_); exact rfl)
        | ((with_reducible refine Zau ?_); refine Zan rfl ?_ ?_ <;> intro hb <;> (try simp only [zH] at hb))
        | ((with_reducible refine Za0 ?_); (first | refine Zaf htb hmz Zbj (fun _ => false) rfl rfl ?_ | refine Zag hmo htb hmz Zbj (fun _ => false) rfl rfl (by kernel_rfl) ?_); intro m' e' l' ob h; simp only [zE0, zE1, zE2, zE3, zE4, zE5, evp, evx, ev1, evLoad, evStore, evBin, isBoolK, forall_const, z38, tb, Nat.reduceAdd, Nat.reduceSub, Nat.reduceMul, Nat.reduceEqDiff, Nat.reduceLeDiff, Nat.reduceLT, Nat.reduceBEq, Nat.reduceBNe, ↓reduceIte, reduceIte, spIs, allS, aftS, hasS] at h; obtain ⟨rfl, rfl, rfl, rfl⟩ := h; refine ⟨?_, ?_⟩)
        | ((with_reducible refine Ob.mk ?_); first | exact trivial | (intros; omega) | ((repeat' first | apply And.intro | (intro hg; have hg' := hg; try simp only [zH] at hg')) <;> first | assumption | omega | (simp only [zH]; omega)))
      refine back (i + 1) [] ?_ ⟨by omega, fun j hj => ?_⟩ (by omega)
      · (refine ⟨rfl, ?_, ?_⟩ <;> simp only [zE0, zE1, zE2, zE3, zE4, zE5, evp, evx, ev1, evLoad, evStore, evBin, isBoolK, forall_const, z38, tb, Nat.reduceAdd, Nat.reduceSub, Nat.reduceMul, Nat.reduceEqDiff, Nat.reduceLeDiff, Nat.reduceLT, Nat.reduceBEq, Nat.reduceBNe, ↓reduceIte, reduceIte, spIs, allS, aftS, hasS, zI])
      · rcases Nat.lt_succ_iff_lt_or_eq.1 hj with h | rfl
        · exact hk2 j h
        · exact hb
  have hie : i = L.length := by omega
  subst hie
  repeat' first
    | with_reducible first | refine Zas ?_ | refine Zao ?_ | refine Zac ?_ | refine Zad ?_ | refine Zai ?_ | refine Zaq ?_ | refine Zah ?_ | refine Zak ?_ | refine Zar ?_ | refine Zat ?_ | refine Zap ?_ | refine Zam ?_ | refine Zaa ?_ | refine Zae ?_ | refine Zab ?_ | refine Zal ?_
    | ((with_reducible refine Zaj ?_ ?_); exact rfl)
    | ((with_reducible refine Zau ?_); refine Zan rfl ?_ ?_ <;> intro hb <;> (try simp only [zH] at hb))
    | ((with_reducible refine Za0 ?_); (first | refine Zaf htb hmz Zbj (fun _ => false) rfl rfl ?_ | refine Zag hmo htb hmz Zbj (fun _ => false) rfl rfl (by kernel_rfl) ?_); intro m' e' l' ob h; simp only [zE0, zE1, zE2, zE3, zE4, zE5, evp, evx, ev1, evLoad, evStore, evBin, isBoolK, forall_const, z38, tb, Nat.reduceAdd, Nat.reduceSub, Nat.reduceMul, Nat.reduceEqDiff, Nat.reduceLeDiff, Nat.reduceLT, Nat.reduceBEq, Nat.reduceBNe, ↓reduceIte, reduceIte, spIs, allS, aftS, hasS] at h; obtain ⟨rfl, rfl, rfl, rfl⟩ := h; refine ⟨?_, ?_⟩)
    | ((with_reducible refine Ob.mk ?_); first | exact trivial | (intros; omega) | ((repeat' first | apply And.intro | (intro hg; have hg' := hg; try simp only [zH] at hg')) <;> first | assumption | omega | (simp only [zH]; omega)))
  refine Zay rfl rfl (Zaw rfl ?_ rfl)
  have hf : isP ⟨o, p, x⟩ s lp = true := by
    rw [hP]
    exact decide_eq_true ⟨hlp, hk, hk2⟩
  rw [hf]; rfl
theorem foldl_max0 {f : Int → Int} : ∀ {l : List Int} {a : Int}, 0 ≤ a → 0 ≤ l.foldl (fun a v => max a (f v)) a
  | [], a, h => h
  | v :: l, a, h => foldl_max0 (l := l) (by show 0 ≤ max a (f v); omega)
/-- Who wins a loop. -/
def wonP (g : Gm) (lp : List Int) : Int := (lp.foldl (fun a v => max a (g.pri.getD v.toNat 0)) 0) % 2
def wonS : Spec
  | [.agg (.cons (.roI o) (.cons (.roI p) (.cons (.roII x) .nil))), .agg (.cons (.roI s) (.cons (.roI lp) .nil))] => some ⟨∀ i, i < lp.length → 0 ≤ lp.getD i 0 ∧ lp.getD i 0 < (p.length : Int), .int .i64 (wonP ⟨o, p, x⟩ lp), none⟩
  | _ => none
set_option maxRecDepth 4000 in
set_option maxHeartbeats 4000000 in
theorem won_ok : FSpec Try.prog 23 wonS := by
  refine Zba htb (fn := Try.f23) (by kernel_rfl) (by kernel_rfl) rfl (fun args r hS => ?_) (fun args r hS hob hl => ?_)
  · unfold wonS at hS; split at hS <;> first | (cases hS; done) | (cases hS; exact Nat.le_of_ble_eq_true rfl)
  unfold wonS at hS
  split at hS
  case h_2 => cases hS
  rename_i o p x s lp
  simp only [Option.some.injEq] at hS
  subst hS
  simp only [lenP, mkL, lim] at hl
  dsimp only at hob
  repeat' first
    | with_reducible first | refine Zas ?_ | refine Zao ?_ | refine Zac ?_ | refine Zad ?_ | refine Zai ?_ | refine Zaq ?_ | refine Zah ?_ | refine Zak ?_ | refine Zar ?_ | refine Zat ?_ | refine Zap ?_ | refine Zam ?_ | refine Zaa ?_ | refine Zae ?_ | refine Zab ?_ | refine Zal ?_
    | ((with_reducible refine Zaj ?_ ?_); exact rfl)
    | ((with_reducible refine Zau ?_); refine Zan rfl ?_ ?_ <;> intro hb <;> (try simp only [zH] at hb))
    | ((with_reducible refine Za0 ?_); (first | refine Zaf htb hmz noSp (fun _ => false) rfl rfl ?_ | refine Zag hmo htb hmz noSp (fun _ => false) rfl rfl (by kernel_rfl) ?_); intro m' e' l' ob h; simp only [zE0, zE1, zE2, zE3, zE4, zE5, evp, evx, ev1, evLoad, evStore, evBin, isBoolK, forall_const, z38, tb, Nat.reduceAdd, Nat.reduceSub, Nat.reduceMul, Nat.reduceEqDiff, Nat.reduceLeDiff, Nat.reduceLT, Nat.reduceBEq, Nat.reduceBNe, ↓reduceIte, reduceIte] at h; obtain ⟨rfl, rfl, rfl, rfl⟩ := h; refine ⟨?_, ?_⟩)
    | ((with_reducible refine Ob.mk ?_); first | exact trivial | (intros; omega) | ((repeat' first | apply And.intro | (intro hg; have hg' := hg; try simp only [zH] at hg')) <;> first | assumption | omega | (simp only [zH]; omega)))
  have hf0 : ((lp.take 0).foldl (fun a v => max a (p.getD v.toNat 0)) 0) = 0 := rfl
  have hfn := fun i (hi : i < lp.length) => (show (lp.take (i + 1)).foldl (fun a v => max a (p.getD v.toNat 0)) 0 = max ((lp.take i).foldl (fun a v => max a (p.getD v.toNat 0)) 0) (p.getD (lp.getD i 0).toNat 0) by rw [Zf3 (d := 0) hi, List.foldl_append]; rfl)
  have hfb := foldl_max0 (f := fun v => p.getD v.toNat 0) (l := lp) (Int.le_refl 0)
  refine Za1 (τ := Nat) (fun i => i ≤ lp.length) (fun i => ⟨8, [(11, .int .i64 i), (10, .int .i64 lp.length), (9, .roI lp), (5, .int .i64 ((lp.take i).foldl (fun a v => max a (p.getD v.toNat 0)) 0)), (3, .rop (.agg (.cons (.roI s) (.cons (.roI lp) .nil)))), (2, .rop (.agg (.cons (.roI o) (.cons (.roI p) (.cons (.roII x) .nil)))))], [], []⟩) (fun i => lp.length - i) 0 [] ?_ (Nat.zero_le _) ?_
  · (refine ⟨rfl, ?_, ?_⟩ <;> simp only [zE0, zE1, zE2, zE3, zE4, zE5, evp, evx, ev1, evLoad, evStore, evBin, isBoolK, forall_const, z38, tb, Nat.reduceAdd, Nat.reduceSub, Nat.reduceMul, Nat.reduceEqDiff, Nat.reduceLeDiff, Nat.reduceLT, Nat.reduceBEq, Nat.reduceBNe, ↓reduceIte, reduceIte, zI])
    rfl
  intro i hi
  have hob1 := hob i
  have hfn1 := hfn i
  repeat' first
    | with_reducible first | refine Zas ?_ | refine Zao ?_ | refine Zac ?_ | refine Zad ?_ | refine Zai ?_ | refine Zaq ?_ | refine Zah ?_ | refine Zak ?_ | refine Zar ?_ | refine Zat ?_ | refine Zap ?_ | refine Zam ?_ | refine Zaa ?_ | refine Zae ?_ | refine Zab ?_ | refine Zal ?_
    | ((with_reducible refine Zaj ?_ ?_); exact rfl)
    | ((with_reducible refine Zau ?_); refine Zan rfl ?_ ?_ <;> intro hb <;> (try simp only [zH] at hb))
    | ((with_reducible refine Zav 4 ?_ ?_); (· exact rfl); (with_reducible refine Zav 7 ?_ ?_); (· exact rfl); (first | refine Zaf htb hmz noSp (fun _ => false) rfl rfl ?_ | refine Zag hmo htb hmz noSp (fun _ => false) rfl rfl (by kernel_rfl) ?_); intro m' e' l' ob h; simp only [zE0, zE1, zE2, zE3, zE4, zE5, evp, evx, ev1, evLoad, evStore, evBin, isBoolK, forall_const, z38, tb, Nat.reduceAdd, Nat.reduceSub, Nat.reduceMul, Nat.reduceEqDiff, Nat.reduceLeDiff, Nat.reduceLT, Nat.reduceBEq, Nat.reduceBNe, ↓reduceIte, reduceIte] at h; obtain ⟨rfl, rfl, rfl, rfl⟩ := h; refine ⟨?_, ?_⟩)
    | ((with_reducible refine Ob.mk ?_); first | exact trivial | (intros; omega) | ((repeat' first | apply And.intro | (intro hg; have hg' := hg; try simp only [zH] at hg')) <;> first | assumption | omega | (simp only [zH]; omega)))
  · have hil : i < lp.length := by omega
    have hob1 := hob1 hil
    have hfn1 := hfn1 hil
    repeat' first
      | with_reducible first | refine Zas ?_ | refine Zao ?_ | refine Zac ?_ | refine Zad ?_ | refine Zai ?_ | refine Zaq ?_ | refine Zah ?_ | refine Zak ?_ | refine Zar ?_ | refine Zat ?_ | refine Zap ?_ | refine Zam ?_ | refine Zaa ?_ | refine Zae ?_ | refine Zab ?_ | refine Zal ?_
      | ((with_reducible refine Zaj ?_ ?_); exact rfl)
      | ((with_reducible refine Zau ?_); refine Zan rfl ?_ ?_ <;> intro hb <;> (try simp only [zH] at hb))
      | ((with_reducible refine Za0 ?_); (first | refine Zaf htb hmz noSp (fun _ => false) rfl rfl ?_ | refine Zag hmo htb hmz noSp (fun _ => false) rfl rfl (by kernel_rfl) ?_); intro m' e' l' ob h; simp only [zE0, zE1, zE2, zE3, zE4, zE5, evp, evx, ev1, evLoad, evStore, evBin, isBoolK, forall_const, z38, tb, Nat.reduceAdd, Nat.reduceSub, Nat.reduceMul, Nat.reduceEqDiff, Nat.reduceLeDiff, Nat.reduceLT, Nat.reduceBEq, Nat.reduceBNe, ↓reduceIte, reduceIte] at h; obtain ⟨rfl, rfl, rfl, rfl⟩ := h; refine ⟨?_, ?_⟩)
      | ((with_reducible refine Ob.mk ?_); first | exact trivial | (intros; omega) | ((repeat' first | apply And.intro | (intro hg; have hg' := hg; try simp only [zH] at hg')) <;> first | assumption | omega | (simp only [zH]; omega)))
    refine back (i + 1) [] ?_ (by omega) (by omega)
    (refine ⟨rfl, ?_, ?_⟩ <;> simp only [zE0, zE1, zE2, zE3, zE4, zE5, evp, evx, ev1, evLoad, evStore, evBin, isBoolK, forall_const, z38, tb, Nat.reduceAdd, Nat.reduceSub, Nat.reduceMul, Nat.reduceEqDiff, Nat.reduceLeDiff, Nat.reduceLT, Nat.reduceBEq, Nat.reduceBNe, ↓reduceIte, reduceIte, zI])
    exact hfn1
  have hie : i = lp.length := by omega
  subst hie
  rw [List.take_length]
  repeat' first
    | with_reducible first | refine Zas ?_ | refine Zao ?_ | refine Zac ?_ | refine Zad ?_ | refine Zai ?_ | refine Zaq ?_ | refine Zah ?_ | refine Zak ?_ | refine Zar ?_ | refine Zat ?_ | refine Zap ?_ | refine Zam ?_ | refine Zaa ?_ | refine Zae ?_ | refine Zab ?_ | refine Zal ?_
    | ((with_reducible refine Zaj ?_ ?_); exact rfl)
    | ((with_reducible refine Zau ?_); refine Zan rfl ?_ ?_ <;> intro hb <;> (try simp only [zH] at hb))
    | ((with_reducible refine Za0 ?_); (first | refine Zaf htb hmz noSp (fun _ => false) rfl rfl ?_ | refine Zag hmo htb hmz noSp (fun _ => false) rfl rfl (by kernel_rfl) ?_); intro m' e' l' ob h; simp only [zE0, zE1, zE2, zE3, zE4, zE5, evp, evx, ev1, evLoad, evStore, evBin, isBoolK, forall_const, z38, tb, Nat.reduceAdd, Nat.reduceSub, Nat.reduceMul, Nat.reduceEqDiff, Nat.reduceLeDiff, Nat.reduceLT, Nat.reduceBEq, Nat.reduceBNe, ↓reduceIte, reduceIte] at h; obtain ⟨rfl, rfl, rfl, rfl⟩ := h; refine ⟨?_, ?_⟩)
    | ((with_reducible refine Ob.mk ?_); first | exact trivial | (intros; omega) | ((repeat' first | apply And.intro | (intro hg; have hg' := hg; try simp only [zH] at hg')) <;> first | assumption | omega | (simp only [zH]; omega)))
  refine Zay rfl rfl (Zaw rfl ?_ rfl)
  rfl
end Go.Proofs.Ytbcghiagomkadaa.Cal
namespace Go.Proofs.Ytbcghiagomkadaa.Cal
section
open Go Pl
/-- Each one is a successor of the one before. -/
def Chn (nx : Nat → List Nat) : List Nat → Prop
  | [] => True
  | [_] => True
  | a :: b :: l => b ∈ nx a ∧ Chn nx (b :: l)
variable {nx : Nat → List Nat}
theorem Zhf {w : Nat} {m : List Nat} : ∀ {l : List Nat}, Chn nx (l ++ [w]) → Chn nx (w :: m) → Chn nx (l ++ w :: m)
  | [], _, h => h
  | [a], h, h2 => ⟨h.1, h2⟩
  | a :: b :: l, h, h2 => ⟨h.1, Zhf (l := b :: l) h.2 h2⟩
theorem Zh1 : ∀ {l : List Nat}, Chn nx l → ∀ (k a b : Nat), l[k]? = some a → l[k + 1]? = some b → b ∈ nx a
  | [], _, k, a, b, h, _ => by simp at h
  | [c], _, k, a, b, _, h => by simp at h
  | c :: d :: l, h, 0, a, b, h1, h2 => by
    simp only [List.getElem?_cons_zero, Option.some.injEq, List.getElem?_cons_succ] at h1 h2
    subst h1; subst h2; exact h.1
  | c :: d :: l, h, k + 1, a, b, h1, h2 => Zh1 (l := d :: l) h.2 k a b (by simpa using h1) (by simpa using h2)
theorem Chn_of : ∀ {l : List Nat}, (∀ (k a b : Nat), l[k]? = some a → l[k + 1]? = some b → b ∈ nx a) → Chn nx l
  | [], _ => trivial
  | [_], _ => trivial
  | c :: d :: l, h => ⟨h 0 c d rfl rfl, Chn_of (l := d :: l) fun k a b h1 h2 => h (k + 1) a b (by simpa using h1) (by simpa using h2)⟩
structure WayR (nx : Nat → List Nat) (L : List (Nat × Nat)) (fr to : Nat) (r' : List Nat) : Prop where
  ch : Chn nx (fr :: r' ++ [to])
  nd : (r' ++ [to]).Nodup
  ks : ∀ z, z ∈ r' ++ [to] → z ∈ L.map Prod.fst
  nf : fr ∉ r'
theorem Zhg {L : List (Nat × Nat)} {fr to : Nat} {r : List Nat} (h : BkR nx L fr to r) : ∃ r', r = r' ++ [to] ∧ WayR nx L fr to r' := by
  obtain ⟨o, v, rfl, hb, rfl⟩ := h.ex
  obtain ⟨o', rfl⟩ := hb.hd
  refine ⟨o'.reverse, by simp, ⟨?_, ?_, ?_, ?_⟩⟩
  · have e : v :: o'.reverse ++ [to] = ((to :: o') ++ [v]).reverse := by simp
    rw [e]
    refine Chn_of fun k a b h1 h2 => ?_
    have hk : k + 1 < ((to :: o') ++ [v]).reverse.length := (List.getElem?_eq_some_iff.1 h2).1
    have hm : ((to :: o') ++ [v]).length = (to :: o').length + 1 := by simp
    rw [List.length_reverse, hm] at hk
    rw [List.getElem?_reverse (by rw [hm]; omega), hm] at h1 h2
    have h2' : (to :: o')[(to :: o').length - (k + 1)]? = some b := by
      rw [show (to :: o').length + 1 - 1 - (k + 1) = (to :: o').length - (k + 1) by omega] at h2
      rwa [List.getElem?_append_left (by omega)] at h2
    refine (hb.ch ((to :: o').length - (k + 1)) b a h2' ?_).1
    rw [show (to :: o').length - (k + 1) + 1 = (to :: o').length + 1 - 1 - k by omega]
    exact h1
  · have := hb.nd
    rw [show o'.reverse ++ [to] = (to :: o').reverse by simp]
    exact List.pairwise_reverse.2 (this.imp fun h e => h e.symm)
  · intro z hz
    refine hb.ks z ?_
    rw [show o'.reverse ++ [to] = (to :: o').reverse by simp, List.mem_reverse] at hz
    exact hz
  · intro h
    exact hb.nf v (by simpa using h) rfl
/-- A play from v, by the steps of nx, that the other one than pl wins. -/
structure BrkOK (nx : Nat → List Nat) (pr : Nat → Int) (pl : Int) (n v : Nat) (s l : List Nat) : Prop where
  ne : l ≠ []
  hd : ∃ s', s = v :: s'
  lt : ∀ z, z ∈ s ++ l → z < n
  ch : Chn nx (s ++ l ++ [l.headD 0])
  len : s.length + l.length ≤ 2 * n
  top : ∃ w, w ∈ l ∧ (∀ z, z ∈ l → pr z ≤ pr w) ∧ pr w % 2 ≠ pl
variable {pr : Nat → Int} {pl : Int} {n : Nat}
theorem Zfz {L : List (Nat × Nat)} {fr to : Nat} {r' : List Nat} {thr : Nat → Prop} {i j : Nat} (hR : RQ nx thr n fr L i j) (h : WayR nx L fr to r') : (r' ++ [to]).length ≤ n ∧ (to ≠ fr → 1 + (r' ++ [to]).length ≤ n) ∧ ∀ z, z ∈ r' ++ [to] → z < n := by
  have hlt : ∀ z, z ∈ r' ++ [to] → z < n := fun z hz => hR.lt z (List.mem_cons_of_mem _ (h.ks z hz))
  have hfr : fr < n := hR.lt fr List.mem_cons_self
  refine ⟨Zfl n _ h.nd hlt, fun hne => ?_, hlt⟩
  have h1 : (fr :: (r' ++ [to])).Nodup := by
    refine List.nodup_cons.2 ⟨fun hm => ?_, h.nd⟩
    rcases List.mem_append.1 hm with hm | hm
    · exact h.nf hm
    · exact hne (List.mem_singleton.1 hm).symm
  have := Zfl n _ h1 fun z hz => by
    rcases List.mem_cons.1 hz with rfl | hz
    · exact hfr
    · exact hlt z hz
  rw [List.length_cons] at this
  omega
theorem loop_ch {L : List (Nat × Nat)} {w : Nat} {r' : List Nat} (h : WayR nx L w w r') : Chn nx (w :: (r' ++ [w]) ++ [(r' ++ [w]).headD 0]) := by
  have h0 : Chn nx [w, (r' ++ [w]).headD 0] := by
    have := h.ch
    cases r' with
    | nil => exact ⟨this.1, trivial⟩
    | cons a r' => exact ⟨this.1, trivial⟩
  have := Zhf (l := w :: r') (w := w) (m := [(r' ++ [w]).headD 0]) h.ch h0
  simpa using this
theorem loop_top {L : List (Nat × Nat)} {w : Nat} {r' : List Nat} {i j : Nat} (hR : RQ nx (fun z => pr z ≤ pr w) n w L i j) (h : WayR nx L w w r') : ∀ z, z ∈ r' ++ [w] → pr z ≤ pr w := by
  intro z hz
  obtain ⟨k, u, _, _, _, h4, _⟩ := Zhj hR (h.ks z hz)
  exact h4
theorem brk1 {L : List (Nat × Nat)} {w : Nat} {r : List Nat} {i j : Nat} (hR : RQ nx (fun z => pr z ≤ pr w) n w L i j) (hb : BkR nx L w w r) (hp : pr w % 2 ≠ pl) : BrkOK nx pr pl n w [w] r := by
  obtain ⟨r', rfl, hw⟩ := Zhg hb
  obtain ⟨h1, _, h3⟩ := Zfz hR hw
  have hfr : w < n := hR.lt w List.mem_cons_self
  refine ⟨by simp, ⟨[], rfl⟩, fun z hz => ?_, loop_ch hw, ?_, ⟨w, by simp, loop_top hR hw, hp⟩⟩
  · rcases List.mem_append.1 hz with h | h
    · rw [List.mem_singleton.1 h]; exact hfr
    · exact h3 z h
  · show 1 + (r' ++ [w]).length ≤ 2 * n
    omega
theorem brk2 {L L2 : List (Nat × Nat)} {v w : Nat} {r r2 : List Nat} {thr : Nat → Prop} {i j i2 j2 : Nat} (hR2 : RQ nx thr n v L2 i2 j2) (hb2 : BkR nx L2 v w r2) (hne : w ≠ v) (hR : RQ nx (fun z => pr z ≤ pr w) n w L i j) (hb : BkR nx L w w r) (hp : pr w % 2 ≠ pl) : BrkOK nx pr pl n v (v :: r2) r := by
  obtain ⟨r', rfl, hw⟩ := Zhg hb
  obtain ⟨r2', rfl, hw2⟩ := Zhg hb2
  obtain ⟨h1, _, h3⟩ := Zfz hR hw
  obtain ⟨_, h5, h6⟩ := Zfz hR2 hw2
  have h5 := h5 hne
  have hfr : v < n := hR2.lt v List.mem_cons_self
  refine ⟨by simp, ⟨_, rfl⟩, fun z hz => ?_, ?_, ?_, ⟨w, by simp, loop_top hR hw, hp⟩⟩
  · rcases List.mem_append.1 hz with h | h
    · rcases List.mem_cons.1 h with rfl | h
      · exact hfr
      · exact h6 z h
    · exact h3 z h
  · have := Zhf (l := v :: r2') (w := w) (m := (r' ++ [w]) ++ [(r' ++ [w]).headD 0]) hw2.ch (loop_ch hw)
    simpa using this
  · rw [List.length_cons]
    omega
end
end Go.Proofs.Ytbcghiagomkadaa.Cal
