/- Own texts, merged. -/
import Derived.Test.YtdhoadhkkecjjaaDoorProg
import Derived.WalkKit
import Derived.LaidEql
import Derived.Stop.Asserts
import Derived.RowKitTokens
import Derived.Test.YtdhoadhkkecjjaaDoorS11
set_option linter.unusedVariables false
set_option linter.unusedSimpArgs false
open Nat (reduceAdd reduceSub reduceMul reduceEqDiff reduceLeDiff reduceLT)
namespace Go.Proofs.YtdhoadhkkecjjaaDoor.Cal
open Go Pl
noncomputable def ctrR (g : Gm) (w c s l : List Int) : Bool × Int := if Zbh g = true then (if Zb0 g w c = true ∧ isP g s l = true then (Zcn g w c s l, 0) else (false, 4)) else (false, 1)
noncomputable def ctrS : Spec
  | [.agg (.cons (.roI o) (.cons (.roI p) (.cons (.roII x) .nil))), .agg (.cons (.roI w) (.cons (.roI c) .nil)), .agg (.cons (.roI s) (.cons (.roI lp) .nil))] => some ⟨s.length ≤ 40000 ∧ lp.length ≤ 40000, .tup (.cons (.bool (ctrR ⟨o, p, x⟩ w c s lp).1) (.cons (.int .i64 (ctrR ⟨o, p, x⟩ w c s lp).2) .nil)), none⟩
  | _ => none
theorem isP_lp {o p s lp : List Int} {x : List (List Int)} (hv : Zbh ⟨o, p, x⟩ = true) (h : isP ⟨o, p, x⟩ s lp = true) : ∀ i, i < lp.length → 0 ≤ lp.getD i 0 ∧ lp.getD i 0 < (p.length : Int) := fun i hi => by
  have hpl : p.length = o.length := (gok (validB_iff.1 hv)).pl
  obtain ⟨_, hat, _⟩ := isP_iff.1 h
  have := hat (s.length + i) (by rw [List.length_append]; omega)
  have e : (s ++ lp).getD (s.length + i) 0 = lp.getD i 0 := by
    rw [List.getD_eq_getElem?_getD, List.getElem?_append_right (by omega), List.getD_eq_getElem?_getD]
    congr 2
    omega
  rw [e] at this
  have h2 : lp.getD i 0 < (o.length : Int) := this.2
  exact ⟨this.1, by omega⟩
noncomputable def spWv : Nat → Option Spec
  | 44 => some Za1
  | 28 => some clmS
  | 38 => some plyS
  | 40 => some wonS
  | 39 => some joiS
  | 42 => some nvS
  | 41 => some Za0
  | _ => none
theorem Zbc : SpOK Tryd.prog spWv := by
  intro f S h
  unfold spWv at h
  split at h
  · cases h; exact valid_ok
  · cases h; exact claimOf_ok
  · cases h; exact ply_ok
  · cases h; exact vwon_ok
  · cases h; exact Ze5
  · cases h; exact Zi3
  · cases h; exact Zes
  · cases h
set_option maxRecDepth 4000 in
set_option maxHeartbeats 4000000 in
theorem vctr_ok : Zcm Tryd.prog 17 ctrS := by
  refine Zbe htb (fn := Tryd.f17) (by kernel_rfl) (by kernel_rfl) rfl (fun args r hS => ?_) (fun args r hS hob hl => ?_)
  · unfold ctrS at hS; split at hS <;> first | (cases hS; done) | (cases hS; exact Nat.le_of_ble_eq_true rfl)
  unfold ctrS at hS
  split at hS
  case h_2 => cases hS
  rename_i o p x w c s lp
  simp only [Option.some.injEq] at hS
  subst hS
  simp only [lenP, mkL, lim] at hl
  dsimp only at hob
  obtain ⟨h1, h2⟩ := hob
  have hor := clm_or ⟨o, p, x⟩ w c
  repeat' first
    | with_reducible first | apply Zar | apply Zan | apply Zaa | apply Zad | apply Zah | apply Zao | apply Zag | apply Zaj | apply Zaq | apply Zas | apply Zap | apply Zal | apply Zac | apply Zak
    | ((with_reducible refine Zai ?_ ?_); exact rfl) | ((with_reducible refine Zat ?_); refine Zam rfl ?_ ?_ <;> intro hb <;> (try simp only [zH] at hb)) | ((with_reducible refine Zau 2 ?_ ?_); (· exact rfl); (first | refine Zaf htb hmz Zbc fF rfl rfl ?_ | refine Zae hmo htb hmz Zbc fF rfl rfl (by kernel_rfl) ?_); intro _ _ _ _ h; simp only [zE, evp, evx, ev1, evLoad, evStore, evBin, evIf, Zab, forall_const, z38, tb, reduceAdd, reduceSub, reduceMul, reduceEqDiff, reduceLeDiff, reduceLT, Nat.reduceBEq, Nat.reduceBNe, ↓reduceIte, reduceIte, spWv, Za1, clmS, plyS, wonS, joiS, nvS, Za0] at h; obtain ⟨rfl, rfl, rfl, rfl⟩ := h; refine ⟨?_, ?_⟩) | ((with_reducible refine Ob.mk ?_); first | exact trivial | (intros; omega) | ((repeat' first | apply And.intro | (intro a; have b := a; try simp only [zH] at b)) <;> first | assumption | omega | (simp only [zH]; omega)))
  rcases hor with ⟨hv, hc, he⟩ | ⟨he, hv⟩ | ⟨he, hv, hc⟩
  · rw [he]
    simp only [seI, seII, ↓reduceIte]
    have hG := gok (validB_iff.1 hv)
    have hxl : x.length = o.length := hG.xl
    have hal : (s ++ lp).length = s.length + lp.length := List.length_append ..
    have hfl : [s, lp].flatten = s ++ lp := by simp
    have hfl2 : [s, lp].flatten.length ≤ 100000 := by rw [hfl]; omega
    repeat' first
      | with_reducible first | apply Zar | apply Zan | apply Zaa | apply Zad | apply Zah | apply Zao | apply Zag | apply Zaj | apply Zaq | apply Zas | apply Zap | apply Zal | apply Zac | apply Zak
      | ((with_reducible refine Zai ?_ ?_); exact rfl) | ((with_reducible refine Zat ?_); refine Zam rfl ?_ ?_ <;> intro hb <;> (try simp only [zH] at hb)) | ((with_reducible refine Zau 3 ?_ ?_); (· exact rfl); (with_reducible refine Zau 4 ?_ ?_); (· exact rfl); (first | refine Zaf htb hmz Zbc fF rfl rfl ?_ | refine Zae hmo htb hmz Zbc fF rfl rfl (by kernel_rfl) ?_); intro _ _ _ _ h; simp only [zE, evp, evx, ev1, evLoad, evStore, evBin, evIf, Zab, forall_const, z38, tb, reduceAdd, reduceSub, reduceMul, reduceEqDiff, reduceLeDiff, reduceLT, Nat.reduceBEq, Nat.reduceBNe, ↓reduceIte, reduceIte, spWv, Za1, clmS, plyS, wonS, joiS, nvS, Za0] at h; obtain ⟨rfl, rfl, rfl, rfl⟩ := h; refine ⟨?_, ?_⟩) | ((with_reducible refine Ob.mk ?_); first | exact trivial | (intros; omega) | ((repeat' first | apply And.intro | (intro a; have b := a; try simp only [zH] at b)) <;> first | assumption | omega | (simp only [zH]; omega)))
    · cases hb
    clear hb
    repeat' first
      | with_reducible first | apply Zar | apply Zan | apply Zaa | apply Zad | apply Zah | apply Zao | apply Zag | apply Zaj | apply Zaq | apply Zas | apply Zap | apply Zal | apply Zac | apply Zak
      | ((with_reducible refine Zai ?_ ?_); exact rfl) | ((with_reducible refine Zat ?_); refine Zam rfl ?_ ?_ <;> intro hb <;> (try simp only [zH] at hb)) | ((with_reducible refine Zau 5 ?_ ?_); (· exact rfl); (with_reducible refine Zau 6 ?_ ?_); (· exact rfl); (first | refine Zaf htb hmz Zbc fF rfl rfl ?_ | refine Zae hmo htb hmz Zbc fF rfl rfl (by kernel_rfl) ?_); intro _ _ _ _ h; simp only [zE, evp, evx, ev1, evLoad, evStore, evBin, evIf, Zab, forall_const, z38, tb, reduceAdd, reduceSub, reduceMul, reduceEqDiff, reduceLeDiff, reduceLT, Nat.reduceBEq, Nat.reduceBNe, ↓reduceIte, reduceIte, spWv, Za1, clmS, plyS, wonS, joiS, nvS, Za0] at h; obtain ⟨rfl, rfl, rfl, rfl⟩ := h; refine ⟨?_, ?_⟩) | ((with_reducible refine Ob.mk ?_); first | exact trivial | (intros; omega) | ((repeat' first | apply And.intro | (intro a; have b := a; try simp only [zH] at b)) <;> first | assumption | omega | (simp only [zH]; omega)))
    · have e : ctrR ⟨o, p, x⟩ w c s lp = (false, 4) := by
        unfold ctrR
        rw [if_pos hv, if_neg]
        rintro ⟨h3, h4⟩
        rw [hb] at h4
        cases h4
      rw [e]
      repeat' first
        | with_reducible first | apply Zar | apply Zan | apply Zaa | apply Zad | apply Zah | apply Zao | apply Zag | apply Zaj | apply Zaq | apply Zas | apply Zap | apply Zal | apply Zac | apply Zak
        | ((with_reducible refine Zai ?_ ?_); exact rfl) | ((with_reducible refine Zat ?_); refine Zam rfl ?_ ?_ <;> intro hb <;> (try simp only [zH] at hb)) | ((with_reducible refine Za3 ?_); (first | refine Zaf htb hmz Zbc fF rfl rfl ?_ | refine Zae hmo htb hmz Zbc fF rfl rfl (by kernel_rfl) ?_); intro _ _ _ _ h; simp only [zE, evp, evx, ev1, evLoad, evStore, evBin, evIf, Zab, forall_const, z38, tb, reduceAdd, reduceSub, reduceMul, reduceEqDiff, reduceLeDiff, reduceLT, Nat.reduceBEq, Nat.reduceBNe, ↓reduceIte, reduceIte, spWv, Za1, clmS, plyS, wonS, joiS, nvS, Za0] at h; obtain ⟨rfl, rfl, rfl, rfl⟩ := h; refine ⟨?_, ?_⟩) | ((with_reducible refine Ob.mk ?_); first | exact trivial | (intros; omega) | ((repeat' first | apply And.intro | (intro a; have b := a; try simp only [zH] at b)) <;> first | assumption | omega | (simp only [zH]; omega)))
      refine Zaz rfl rfl (Zav rfl ?_ rfl)
      rfl
    have e : ctrR ⟨o, p, x⟩ w c s lp = (Zcn ⟨o, p, x⟩ w c s lp, 0) := by unfold ctrR; rw [if_pos hv, if_pos ⟨hc, hb⟩]
    rw [e]
    have hag := @agn_b ⟨o, p, x⟩ w c s lp
    simp only [psP] at hag
    obtain ⟨R, hR⟩ : ∃ R, Zcn ⟨o, p, x⟩ w c s lp = R := ⟨_, rfl⟩
    rw [hR] at hag ⊢
    obtain ⟨hwl, hcl2, hcc⟩ := of_decide_eq_true hc
    have hwl : w.length = o.length := hwl
    have hcl2 : c.length = o.length := hcl2
    have hpl : p.length = o.length := hG.pl
    have hn : o.length ≤ 20000 := hG.n
    have hwl2 := isP_lp hv hb
    have hnv := fun q => Zfq hv hc q
    obtain ⟨hne, hat, hmem⟩ := isP_iff.1 hb
    have hl0 : 0 < lp.length := List.length_pos_iff.2 hne
    have hat : ∀ i, i < (s ++ lp).length → 0 ≤ (s ++ lp).getD i 0 ∧ (s ++ lp).getD i 0 < (o.length : Int) := hat
    have hmem : ∀ i : Nat, i < (s ++ lp).length → aftP (s ++ lp) lp i ∈ x.getD ((s ++ lp).getD i 0).toNat [] := hmem
    clear e hb
    repeat' first
      | with_reducible first | apply Zar | apply Zan | apply Zaa | apply Zad | apply Zah | apply Zao | apply Zag | apply Zaj | apply Zaq | apply Zas | apply Zap | apply Zal | apply Zac | apply Zak
      | ((with_reducible refine Zai ?_ ?_); exact rfl) | ((with_reducible refine Zat ?_); refine Zam rfl ?_ ?_ <;> intro hb <;> (try simp only [zH] at hb)) | ((with_reducible refine Zau 7 ?_ ?_); (· exact rfl); (first | refine Zaf htb hmz Zbc fF rfl rfl ?_ | refine Zae hmo htb hmz Zbc fF rfl rfl (by kernel_rfl) ?_); intro _ _ _ _ h; simp only [zE, evp, evx, ev1, evLoad, evStore, evBin, evIf, Zab, forall_const, z38, tb, reduceAdd, reduceSub, reduceMul, reduceEqDiff, reduceLeDiff, reduceLT, Nat.reduceBEq, Nat.reduceBNe, ↓reduceIte, reduceIte, spWv, Za1, clmS, plyS, wonS, joiS, nvS, Za0] at h; obtain ⟨rfl, rfl, rfl, rfl⟩ := h; refine ⟨?_, ?_⟩) | ((with_reducible refine Ob.mk ?_); first | exact trivial | (intros; omega) | ((repeat' first | apply And.intro | (intro a; have b := a; try simp only [zH] at b)) <;> first | assumption | omega | (simp only [zH]; omega)))
    rw [hfl]
    generalize s ++ lp = L at *
    have hL : L.length ≤ 80000 := by omega
    have h00 := hat 0 (by omega)
    clear hfl hfl2
    repeat' first
      | with_reducible first | apply Zar | apply Zan | apply Zaa | apply Zad | apply Zah | apply Zao | apply Zag | apply Zaj | apply Zaq | apply Zas | apply Zap | apply Zal | apply Zac | apply Zak
      | ((with_reducible refine Zai ?_ ?_); exact rfl) | ((with_reducible refine Zat ?_); refine Zam rfl ?_ ?_ <;> intro hb <;> (try simp only [zH] at hb)) | ((with_reducible refine Zau 9 ?_ ?_); (· exact rfl); (first | refine Zaf htb hmz Zbc fF rfl rfl ?_ | refine Zae hmo htb hmz Zbc fF rfl rfl (by kernel_rfl) ?_); intro _ _ _ _ h; simp only [zE, evp, evx, ev1, evLoad, evStore, evBin, evIf, Zab, forall_const, z38, tb, reduceAdd, reduceSub, reduceMul, reduceEqDiff, reduceLeDiff, reduceLT, Nat.reduceBEq, Nat.reduceBNe, ↓reduceIte, reduceIte, spWv, Za1, clmS, plyS, wonS, joiS, nvS, Za0] at h; obtain ⟨rfl, rfl, rfl, rfl⟩ := h; refine ⟨?_, ?_⟩) | ((with_reducible refine Ob.mk ?_); first | exact trivial | (intros; omega) | ((repeat' first | apply And.intro | (intro a; have b := a; try simp only [zH] at b)) <;> first | assumption | omega | (simp only [zH]; omega)))
    · exact Ob.mk hwl2
    obtain ⟨q, hq⟩ : ∃ q, w.getD (L.getD 0 0).toNat 0 = q := ⟨_, rfl⟩
    rw [hq] at hag ⊢
    obtain ⟨wn, hwn⟩ : ∃ wn, wonP ⟨o, p, x⟩ lp = wn := ⟨_, rfl⟩
    rw [hwn] at hag ⊢
    have hlv : ∀ i, lvB w L q (i + 1) = (lvB w L q i || !decide (w.getD (L.getD i 0).toNat 0 = q)) := fun i => lvB_s
    repeat' first
      | with_reducible first | apply Zar | apply Zan | apply Zaa | apply Zad | apply Zah | apply Zao | apply Zag | apply Zaj | apply Zaq | apply Zas | apply Zap | apply Zal | apply Zac | apply Zak
      | ((with_reducible refine Zai ?_ ?_); exact rfl) | ((with_reducible refine Zat ?_); refine Zam rfl ?_ ?_ <;> intro hb <;> (try simp only [zH] at hb)) | ((with_reducible refine Za3 ?_); (first | refine Zaf htb hmz Zbc fF rfl rfl ?_ | refine Zae hmo htb hmz Zbc fF rfl rfl (by kernel_rfl) ?_); intro _ _ _ _ h; simp only [zE, evp, evx, ev1, evLoad, evStore, evBin, evIf, Zab, forall_const, z38, tb, reduceAdd, reduceSub, reduceMul, reduceEqDiff, reduceLeDiff, reduceLT, Nat.reduceBEq, Nat.reduceBNe, ↓reduceIte, reduceIte, spWv, Za1, clmS, plyS, wonS, joiS, nvS, Za0] at h; obtain ⟨rfl, rfl, rfl, rfl⟩ := h; refine ⟨?_, ?_⟩) | ((with_reducible refine Ob.mk ?_); first | exact trivial | (intros; omega) | ((repeat' first | apply And.intro | (intro a; have b := a; try simp only [zH] at b)) <;> first | assumption | omega | (simp only [zH]; omega)))
    refine Za6 (τ := Nat) (fun i => i ≤ L.length ∧ ∀ j : Nat, j < i → o.getD (L.getD j 0).toNat 0 = q ∧ w.getD (L.getD j 0).toNat 0 = q → aftP L lp j = c.getD (L.getD j 0).toNat 0) (fun i => ⟨60, [(49, .int .i64 i), (48, .int .i64 L.length), (47, .roI L), (12, .bool (!decide (wn = q) || lvB w L q i)), (11, .int .i64 q), (10, .roI L), (8, .own 11), (5, .rop (.agg (.cons (.roI s) (.cons (.roI lp) .nil)))), (4, .rop (.agg (.cons (.roI w) (.cons (.roI c) .nil)))), (3, .rop (.agg (.cons (.roI o) (.cons (.roI p) (.cons (.roII x) .nil)))))], [(11, some (.box (.agg (.cons (.roI o) (.cons (.roI p) (.cons (.roII x) (.cons (.roI w) (.cons (.roI c) .nil))))))))], []⟩) (fun i => L.length - i) 0 [] ?_ ⟨Nat.zero_le _, fun j hj => absurd hj (Nat.not_lt_zero j)⟩ ?_
    · (refine ⟨rfl, ?_, ?_⟩ <;> simp only [zE, evp, evx, ev1, evLoad, evStore, evBin, evIf, Zab, forall_const, z38, tb, reduceAdd, reduceSub, reduceMul, reduceEqDiff, reduceLeDiff, reduceLT, Nat.reduceBEq, Nat.reduceBNe, ↓reduceIte, reduceIte, spWv, Za1, clmS, plyS, wonS, joiS, nvS, Za0, zI])
      exact Bool.or_false _
    rintro i ⟨hi, hk⟩
    have hat1 := hat i
    have hlv1 := hlv i
    have hm1 := hmem i
    have hnv := hnv q
    clear hlv hmem
    repeat' first
      | with_reducible first | apply Zar | apply Zan | apply Zaa | apply Zad | apply Zah | apply Zao | apply Zag | apply Zaj | apply Zaq | apply Zas | apply Zap | apply Zal | apply Zac | apply Zak
      | ((with_reducible refine Zai ?_ ?_); exact rfl) | ((with_reducible refine Zat ?_); refine Zam rfl ?_ ?_ <;> intro hb <;> (try simp only [zH] at hb)) | ((with_reducible refine Zau 11 ?_ ?_); (· exact rfl); (with_reducible refine Zau 19 ?_ ?_); (· exact rfl); (first | refine Zaf htb hmz Zbc fF rfl rfl ?_ | refine Zae hmo htb hmz Zbc fF rfl rfl (by kernel_rfl) ?_); intro _ _ _ _ h; simp only [zE, evp, evx, ev1, evLoad, evStore, evBin, evIf, Zab, forall_const, z38, tb, reduceAdd, reduceSub, reduceMul, reduceEqDiff, reduceLeDiff, reduceLT, Nat.reduceBEq, Nat.reduceBNe, ↓reduceIte, reduceIte, spWv, Za1, clmS, plyS, wonS, joiS, nvS, Za0] at h; obtain ⟨rfl, rfl, rfl, rfl⟩ := h; refine ⟨?_, ?_⟩) | ((with_reducible refine Ob.mk ?_); first | exact trivial | (intros; omega) | ((repeat' first | apply And.intro | (intro a; have b := a; try simp only [zH] at b)) <;> first | assumption | omega | (simp only [zH]; omega)))
    · have hil : i < L.length := by omega
      have hat1 := hat1 hil
      have hm1 := hm1 hil
      have hA : aftP L lp i = if (i : Int) + 1 < L.length then L.getD ((i : Int) + 1).toNat 0 else lp.getD 0 0 := rfl
      have hfin : aftP L lp i ∉ nvF o w c x q (L.getD i 0).toNat → R = false := fun h => by
        rw [Bool.eq_false_iff]
        intro h2
        refine h ?_
        unfold nvF
        split
        · rename_i h3
          rw [(hag.1 h2).1 i hil h3]
          exact List.mem_singleton.2 rfl
        · exact hm1
      have hnew : aftP L lp i ∈ nvF o w c x q (L.getD i 0).toNat → ∀ j : Nat, j < i + 1 → o.getD (L.getD j 0).toNat 0 = q ∧ w.getD (L.getD j 0).toNat 0 = q → aftP L lp j = c.getD (L.getD j 0).toNat 0 := fun h j hj => by
        rcases Nat.lt_succ_iff_lt_or_eq.1 hj with h2 | rfl
        · exact hk j h2
        · intro h3
          unfold nvF at h
          rw [if_pos h3] at h
          exact List.mem_singleton.1 h
      obtain ⟨A, hAe⟩ : ∃ A, aftP L lp i = A := ⟨_, rfl⟩
      rw [hAe] at hA hfin hnew hm1
      have hnl := (hnv (L.getD i 0).toNat (by omega)).1
      repeat' first
        | with_reducible first | apply Zar | apply Zan | apply Zaa | apply Zad | apply Zah | apply Zao | apply Zag | apply Zaj | apply Zaq | apply Zas | apply Zap | apply Zal | apply Zac | apply Zak
        | ((with_reducible refine Zai ?_ ?_); exact rfl) | ((with_reducible refine Zat ?_); refine Zam rfl ?_ ?_ <;> intro hb <;> (try simp only [zH] at hb)) | ((with_reducible refine Zau 14 ?_ ?_); (· exact rfl); (with_reducible refine Zau 15 ?_ ?_); (· exact rfl); (first | refine Zaf htb hmz Zbc fF rfl rfl ?_ | refine Zae hmo htb hmz Zbc fF rfl rfl (by kernel_rfl) ?_); intro _ _ _ _ h; simp only [zE, evp, evx, ev1, evLoad, evStore, evBin, evIf, Zab, forall_const, z38, tb, reduceAdd, reduceSub, reduceMul, reduceEqDiff, reduceLeDiff, reduceLT, Nat.reduceBEq, Nat.reduceBNe, ↓reduceIte, reduceIte, spWv, Za1, clmS, plyS, wonS, joiS, nvS, Za0] at h; obtain ⟨rfl, rfl, rfl, rfl⟩ := h; refine ⟨?_, ?_⟩) | ((with_reducible refine Ob.mk ?_); first | exact trivial | (intros; omega) | ((repeat' first | apply And.intro | (intro a; have b := a; try simp only [zH] at b)) <;> first | assumption | omega | (simp only [zH]; omega)))
      · rw [if_pos hb] at hA
        have hb1 := hb
        clear hb
        repeat' first
          | with_reducible first | apply Zar | apply Zan | apply Zaa | apply Zad | apply Zah | apply Zao | apply Zag | apply Zaj | apply Zaq | apply Zas | apply Zap | apply Zal | apply Zac | apply Zak
          | ((with_reducible refine Zai ?_ ?_); exact rfl) | ((with_reducible refine Zat ?_); refine Zam rfl ?_ ?_ <;> intro hb <;> (try simp only [zH] at hb)) | ((with_reducible refine Zau 15 ?_ ?_); (· exact rfl); (first | refine Zaf htb hmz Zbc fF rfl rfl ?_ | refine Zae hmo htb hmz Zbc fF rfl rfl (by kernel_rfl) ?_); intro _ _ _ _ h; simp only [zE, evp, evx, ev1, evLoad, evStore, evBin, evIf, Zab, forall_const, z38, tb, reduceAdd, reduceSub, reduceMul, reduceEqDiff, reduceLeDiff, reduceLT, Nat.reduceBEq, Nat.reduceBNe, ↓reduceIte, reduceIte, spWv, Za1, clmS, plyS, wonS, joiS, nvS, Za0] at h; obtain ⟨rfl, rfl, rfl, rfl⟩ := h; refine ⟨?_, ?_⟩) | ((with_reducible refine Ob.mk ?_); first | exact trivial | (intros; omega) | ((repeat' first | apply And.intro | (intro a; have b := a; try simp only [zH] at b)) <;> first | assumption | omega | (simp only [zH]; omega)))
        rw [← hA]
        repeat' first
          | with_reducible first | apply Zar | apply Zan | apply Zaa | apply Zad | apply Zah | apply Zao | apply Zag | apply Zaj | apply Zaq | apply Zas | apply Zap | apply Zal | apply Zac | apply Zak
          | ((with_reducible refine Zai ?_ ?_); exact rfl) | ((with_reducible refine Zat ?_); refine Zam rfl ?_ ?_ <;> intro hb <;> (try simp only [zH] at hb)) | ((with_reducible refine Zau 16 ?_ ?_); (· exact rfl); (with_reducible refine Zau 17 ?_ ?_); (· exact rfl); (first | refine Zaf htb hmz Zbc fF rfl rfl ?_ | refine Zae hmo htb hmz Zbc fF rfl rfl (by kernel_rfl) ?_); intro _ _ _ _ h; simp only [zE, evp, evx, ev1, evLoad, evStore, evBin, evIf, Zab, forall_const, z38, tb, reduceAdd, reduceSub, reduceMul, reduceEqDiff, reduceLeDiff, reduceLT, Nat.reduceBEq, Nat.reduceBNe, ↓reduceIte, reduceIte, spWv, Za1, clmS, plyS, wonS, joiS, nvS, Za0] at h; obtain ⟨rfl, rfl, rfl, rfl⟩ := h; refine ⟨?_, ?_⟩) | ((with_reducible refine Ob.mk ?_); first | exact trivial | (intros; omega) | ((repeat' first | apply And.intro | (intro a; have b := a; try simp only [zH] at b)) <;> first | assumption | omega | (simp only [zH]; omega)))
        · rw [hfin hb]
          repeat' first
            | with_reducible first | apply Zar | apply Zan | apply Zaa | apply Zad | apply Zah | apply Zao | apply Zag | apply Zaj | apply Zaq | apply Zas | apply Zap | apply Zal | apply Zac | apply Zak
            | ((with_reducible refine Zai ?_ ?_); exact rfl) | ((with_reducible refine Zat ?_); refine Zam rfl ?_ ?_ <;> intro hb <;> (try simp only [zH] at hb)) | ((with_reducible refine Za3 ?_); (first | refine Zaf htb hmz Zbc fF rfl rfl ?_ | refine Zae hmo htb hmz Zbc fF rfl rfl (by kernel_rfl) ?_); intro _ _ _ _ h; simp only [zE, evp, evx, ev1, evLoad, evStore, evBin, evIf, Zab, forall_const, z38, tb, reduceAdd, reduceSub, reduceMul, reduceEqDiff, reduceLeDiff, reduceLT, Nat.reduceBEq, Nat.reduceBNe, ↓reduceIte, reduceIte, spWv, Za1, clmS, plyS, wonS, joiS, nvS, Za0] at h; obtain ⟨rfl, rfl, rfl, rfl⟩ := h; refine ⟨?_, ?_⟩) | ((with_reducible refine Ob.mk ?_); first | exact trivial | (intros; omega) | ((repeat' first | apply And.intro | (intro a; have b := a; try simp only [zH] at b)) <;> first | assumption | omega | (simp only [zH]; omega)))
          refine Zaz rfl rfl (Zav rfl ?_ rfl)
          rfl
        · have hb2 := hnew hb
          clear hb
          repeat' first
            | with_reducible first | apply Zar | apply Zan | apply Zaa | apply Zad | apply Zah | apply Zao | apply Zag | apply Zaj | apply Zaq | apply Zas | apply Zap | apply Zal | apply Zac | apply Zak
            | ((with_reducible refine Zai ?_ ?_); exact rfl) | ((with_reducible refine Zat ?_); refine Zam rfl ?_ ?_ <;> intro hb <;> (try simp only [zH] at hb)) | ((with_reducible refine Za3 ?_); (first | refine Zaf htb hmz Zbc fF rfl rfl ?_ | refine Zae hmo htb hmz Zbc fF rfl rfl (by kernel_rfl) ?_); intro _ _ _ _ h; simp only [zE, evp, evx, ev1, evLoad, evStore, evBin, evIf, Zab, forall_const, z38, tb, reduceAdd, reduceSub, reduceMul, reduceEqDiff, reduceLeDiff, reduceLT, Nat.reduceBEq, Nat.reduceBNe, ↓reduceIte, reduceIte, spWv, Za1, clmS, plyS, wonS, joiS, nvS, Za0] at h; obtain ⟨rfl, rfl, rfl, rfl⟩ := h; refine ⟨?_, ?_⟩) | ((with_reducible refine Ob.mk ?_); first | exact trivial | (intros; omega) | ((repeat' first | apply And.intro | (intro a; have b := a; try simp only [zH] at b)) <;> first | assumption | omega | (simp only [zH]; omega)))
          refine back (i + 1) [] ?_ ⟨by omega, hb2⟩ (by omega)
          (refine ⟨rfl, ?_, ?_⟩ <;> simp only [zE, evp, evx, ev1, evLoad, evStore, evBin, evIf, Zab, forall_const, z38, tb, reduceAdd, reduceSub, reduceMul, reduceEqDiff, reduceLeDiff, reduceLT, Nat.reduceBEq, Nat.reduceBNe, ↓reduceIte, reduceIte, spWv, Za1, clmS, plyS, wonS, joiS, nvS, Za0, zI])
          rw [hlv1, Bool.or_assoc]
      · rw [if_neg (by omega)] at hA
        rw [← hA]
        clear hb
        repeat' first
          | with_reducible first | apply Zar | apply Zan | apply Zaa | apply Zad | apply Zah | apply Zao | apply Zag | apply Zaj | apply Zaq | apply Zas | apply Zap | apply Zal | apply Zac | apply Zak
          | ((with_reducible refine Zai ?_ ?_); exact rfl) | ((with_reducible refine Zat ?_); refine Zam rfl ?_ ?_ <;> intro hb <;> (try simp only [zH] at hb)) | ((with_reducible refine Zau 16 ?_ ?_); (· exact rfl); (with_reducible refine Zau 17 ?_ ?_); (· exact rfl); (first | refine Zaf htb hmz Zbc fF rfl rfl ?_ | refine Zae hmo htb hmz Zbc fF rfl rfl (by kernel_rfl) ?_); intro _ _ _ _ h; simp only [zE, evp, evx, ev1, evLoad, evStore, evBin, evIf, Zab, forall_const, z38, tb, reduceAdd, reduceSub, reduceMul, reduceEqDiff, reduceLeDiff, reduceLT, Nat.reduceBEq, Nat.reduceBNe, ↓reduceIte, reduceIte, spWv, Za1, clmS, plyS, wonS, joiS, nvS, Za0] at h; obtain ⟨rfl, rfl, rfl, rfl⟩ := h; refine ⟨?_, ?_⟩) | ((with_reducible refine Ob.mk ?_); first | exact trivial | (intros; omega) | ((repeat' first | apply And.intro | (intro a; have b := a; try simp only [zH] at b)) <;> first | assumption | omega | (simp only [zH]; omega)))
        · rw [hfin hb]
          repeat' first
            | with_reducible first | apply Zar | apply Zan | apply Zaa | apply Zad | apply Zah | apply Zao | apply Zag | apply Zaj | apply Zaq | apply Zas | apply Zap | apply Zal | apply Zac | apply Zak
            | ((with_reducible refine Zai ?_ ?_); exact rfl) | ((with_reducible refine Zat ?_); refine Zam rfl ?_ ?_ <;> intro hb <;> (try simp only [zH] at hb)) | ((with_reducible refine Za3 ?_); (first | refine Zaf htb hmz Zbc fF rfl rfl ?_ | refine Zae hmo htb hmz Zbc fF rfl rfl (by kernel_rfl) ?_); intro _ _ _ _ h; simp only [zE, evp, evx, ev1, evLoad, evStore, evBin, evIf, Zab, forall_const, z38, tb, reduceAdd, reduceSub, reduceMul, reduceEqDiff, reduceLeDiff, reduceLT, Nat.reduceBEq, Nat.reduceBNe, ↓reduceIte, reduceIte, spWv, Za1, clmS, plyS, wonS, joiS, nvS, Za0] at h; obtain ⟨rfl, rfl, rfl, rfl⟩ := h; refine ⟨?_, ?_⟩) | ((with_reducible refine Ob.mk ?_); first | exact trivial | (intros; omega) | ((repeat' first | apply And.intro | (intro a; have b := a; try simp only [zH] at b)) <;> first | assumption | omega | (simp only [zH]; omega)))
          refine Zaz rfl rfl (Zav rfl ?_ rfl)
          rfl
        · have hb2 := hnew hb
          clear hb
          repeat' first
            | with_reducible first | apply Zar | apply Zan | apply Zaa | apply Zad | apply Zah | apply Zao | apply Zag | apply Zaj | apply Zaq | apply Zas | apply Zap | apply Zal | apply Zac | apply Zak
            | ((with_reducible refine Zai ?_ ?_); exact rfl) | ((with_reducible refine Zat ?_); refine Zam rfl ?_ ?_ <;> intro hb <;> (try simp only [zH] at hb)) | ((with_reducible refine Za3 ?_); (first | refine Zaf htb hmz Zbc fF rfl rfl ?_ | refine Zae hmo htb hmz Zbc fF rfl rfl (by kernel_rfl) ?_); intro _ _ _ _ h; simp only [zE, evp, evx, ev1, evLoad, evStore, evBin, evIf, Zab, forall_const, z38, tb, reduceAdd, reduceSub, reduceMul, reduceEqDiff, reduceLeDiff, reduceLT, Nat.reduceBEq, Nat.reduceBNe, ↓reduceIte, reduceIte, spWv, Za1, clmS, plyS, wonS, joiS, nvS, Za0] at h; obtain ⟨rfl, rfl, rfl, rfl⟩ := h; refine ⟨?_, ?_⟩) | ((with_reducible refine Ob.mk ?_); first | exact trivial | (intros; omega) | ((repeat' first | apply And.intro | (intro a; have b := a; try simp only [zH] at b)) <;> first | assumption | omega | (simp only [zH]; omega)))
          refine back (i + 1) [] ?_ ⟨by omega, hb2⟩ (by omega)
          (refine ⟨rfl, ?_, ?_⟩ <;> simp only [zE, evp, evx, ev1, evLoad, evStore, evBin, evIf, Zab, forall_const, z38, tb, reduceAdd, reduceSub, reduceMul, reduceEqDiff, reduceLeDiff, reduceLT, Nat.reduceBEq, Nat.reduceBNe, ↓reduceIte, reduceIte, spWv, Za1, clmS, plyS, wonS, joiS, nvS, Za0, zI])
          rw [hlv1, Bool.or_assoc]
    · have hie : i = L.length := by omega
      subst hie
      have e : R = (!decide (wn = q) || lvB w L q L.length) := by
        rw [Bool.eq_iff_iff, hag, Bool.or_eq_true, Bool.not_eq_true', decide_eq_false_iff_not]
        exact ⟨fun h => h.2.symm, fun h => ⟨hk, h.symm⟩⟩
      repeat' first
        | with_reducible first | apply Zar | apply Zan | apply Zaa | apply Zad | apply Zah | apply Zao | apply Zag | apply Zaj | apply Zaq | apply Zas | apply Zap | apply Zal | apply Zac | apply Zak
        | ((with_reducible refine Zai ?_ ?_); exact rfl) | ((with_reducible refine Zat ?_); refine Zam rfl ?_ ?_ <;> intro hb <;> (try simp only [zH] at hb)) | ((with_reducible refine Za3 ?_); (first | refine Zaf htb hmz Zbc fF rfl rfl ?_ | refine Zae hmo htb hmz Zbc fF rfl rfl (by kernel_rfl) ?_); intro _ _ _ _ h; simp only [zE, evp, evx, ev1, evLoad, evStore, evBin, evIf, Zab, forall_const, z38, tb, reduceAdd, reduceSub, reduceMul, reduceEqDiff, reduceLeDiff, reduceLT, Nat.reduceBEq, Nat.reduceBNe, ↓reduceIte, reduceIte, spWv, Za1, clmS, plyS, wonS, joiS, nvS, Za0] at h; obtain ⟨rfl, rfl, rfl, rfl⟩ := h; refine ⟨?_, ?_⟩) | ((with_reducible refine Ob.mk ?_); first | exact trivial | (intros; omega) | ((repeat' first | apply And.intro | (intro a; have b := a; try simp only [zH] at b)) <;> first | assumption | omega | (simp only [zH]; omega)))
      refine Zaz rfl rfl (Zav rfl ?_ rfl)
      rw [e]
      rfl
  · have e : ctrR ⟨o, p, x⟩ w c s lp = (false, 1) := by unfold ctrR; rw [if_neg (by rw [hv]; decide)]
    rw [e, he]
    repeat' first
      | with_reducible first | apply Zar | apply Zan | apply Zaa | apply Zad | apply Zah | apply Zao | apply Zag | apply Zaj | apply Zaq | apply Zas | apply Zap | apply Zal | apply Zac | apply Zak
      | ((with_reducible refine Zai ?_ ?_); exact rfl) | ((with_reducible refine Zat ?_); refine Zam rfl ?_ ?_ <;> intro hb <;> (try simp only [zH] at hb)) | ((with_reducible refine Zau 3 ?_ ?_); (· exact rfl); (with_reducible refine Zau 4 ?_ ?_); (· exact rfl); (first | refine Zaf htb hmz Zbc fF rfl rfl ?_ | refine Zae hmo htb hmz Zbc fF rfl rfl (by kernel_rfl) ?_); intro _ _ _ _ h; simp only [zE, evp, evx, ev1, evLoad, evStore, evBin, evIf, Zab, forall_const, z38, tb, reduceAdd, reduceSub, reduceMul, reduceEqDiff, reduceLeDiff, reduceLT, Nat.reduceBEq, Nat.reduceBNe, ↓reduceIte, reduceIte, spWv, Za1, clmS, plyS, wonS, joiS, nvS, Za0] at h; obtain ⟨rfl, rfl, rfl, rfl⟩ := h; refine ⟨?_, ?_⟩) | ((with_reducible refine Ob.mk ?_); first | exact trivial | (intros; omega) | ((repeat' first | apply And.intro | (intro a; have b := a; try simp only [zH] at b)) <;> first | assumption | omega | (simp only [zH]; omega)))
    · repeat' first
        | with_reducible first | apply Zar | apply Zan | apply Zaa | apply Zad | apply Zah | apply Zao | apply Zag | apply Zaj | apply Zaq | apply Zas | apply Zap | apply Zal | apply Zac | apply Zak
        | ((with_reducible refine Zai ?_ ?_); exact rfl) | ((with_reducible refine Zat ?_); refine Zam rfl ?_ ?_ <;> intro hb <;> (try simp only [zH] at hb)) | ((with_reducible refine Za3 ?_); (first | refine Zaf htb hmz Zbc fF rfl rfl ?_ | refine Zae hmo htb hmz Zbc fF rfl rfl (by kernel_rfl) ?_); intro _ _ _ _ h; simp only [zE, evp, evx, ev1, evLoad, evStore, evBin, evIf, Zab, forall_const, z38, tb, reduceAdd, reduceSub, reduceMul, reduceEqDiff, reduceLeDiff, reduceLT, Nat.reduceBEq, Nat.reduceBNe, ↓reduceIte, reduceIte, spWv, Za1, clmS, plyS, wonS, joiS, nvS, Za0] at h; obtain ⟨rfl, rfl, rfl, rfl⟩ := h; refine ⟨?_, ?_⟩) | ((with_reducible refine Ob.mk ?_); first | exact trivial | (intros; omega) | ((repeat' first | apply And.intro | (intro a; have b := a; try simp only [zH] at b)) <;> first | assumption | omega | (simp only [zH]; omega)))
      refine Zaz rfl rfl (Zav rfl ?_ rfl)
      rfl
    · exact absurd hb (by decide)
  · have e : ctrR ⟨o, p, x⟩ w c s lp = (false, 4) := by
      unfold ctrR
      rw [if_pos hv, if_neg]
      rintro ⟨h3, h4⟩
      rw [hc] at h3
      cases h3
    rw [e, he]
    repeat' first
      | with_reducible first | apply Zar | apply Zan | apply Zaa | apply Zad | apply Zah | apply Zao | apply Zag | apply Zaj | apply Zaq | apply Zas | apply Zap | apply Zal | apply Zac | apply Zak
      | ((with_reducible refine Zai ?_ ?_); exact rfl) | ((with_reducible refine Zat ?_); refine Zam rfl ?_ ?_ <;> intro hb <;> (try simp only [zH] at hb)) | ((with_reducible refine Zau 3 ?_ ?_); (· exact rfl); (with_reducible refine Zau 4 ?_ ?_); (· exact rfl); (first | refine Zaf htb hmz Zbc fF rfl rfl ?_ | refine Zae hmo htb hmz Zbc fF rfl rfl (by kernel_rfl) ?_); intro _ _ _ _ h; simp only [zE, evp, evx, ev1, evLoad, evStore, evBin, evIf, Zab, forall_const, z38, tb, reduceAdd, reduceSub, reduceMul, reduceEqDiff, reduceLeDiff, reduceLT, Nat.reduceBEq, Nat.reduceBNe, ↓reduceIte, reduceIte, spWv, Za1, clmS, plyS, wonS, joiS, nvS, Za0] at h; obtain ⟨rfl, rfl, rfl, rfl⟩ := h; refine ⟨?_, ?_⟩) | ((with_reducible refine Ob.mk ?_); first | exact trivial | (intros; omega) | ((repeat' first | apply And.intro | (intro a; have b := a; try simp only [zH] at b)) <;> first | assumption | omega | (simp only [zH]; omega)))
    · repeat' first
        | with_reducible first | apply Zar | apply Zan | apply Zaa | apply Zad | apply Zah | apply Zao | apply Zag | apply Zaj | apply Zaq | apply Zas | apply Zap | apply Zal | apply Zac | apply Zak
        | ((with_reducible refine Zai ?_ ?_); exact rfl) | ((with_reducible refine Zat ?_); refine Zam rfl ?_ ?_ <;> intro hb <;> (try simp only [zH] at hb)) | ((with_reducible refine Za3 ?_); (first | refine Zaf htb hmz Zbc fF rfl rfl ?_ | refine Zae hmo htb hmz Zbc fF rfl rfl (by kernel_rfl) ?_); intro _ _ _ _ h; simp only [zE, evp, evx, ev1, evLoad, evStore, evBin, evIf, Zab, forall_const, z38, tb, reduceAdd, reduceSub, reduceMul, reduceEqDiff, reduceLeDiff, reduceLT, Nat.reduceBEq, Nat.reduceBNe, ↓reduceIte, reduceIte, spWv, Za1, clmS, plyS, wonS, joiS, nvS, Za0] at h; obtain ⟨rfl, rfl, rfl, rfl⟩ := h; refine ⟨?_, ?_⟩) | ((with_reducible refine Ob.mk ?_); first | exact trivial | (intros; omega) | ((repeat' first | apply And.intro | (intro a; have b := a; try simp only [zH] at b)) <;> first | assumption | omega | (simp only [zH]; omega)))
      refine Zaz rfl rfl (Zav rfl ?_ rfl)
      rfl
    · exact absurd hb (by decide)
open Go
section
variable {P : Program} {N κ : Nat} {get : Operand → AV}
def mfA (f : Nat) (u : AV) : List Value → (Nat → Prop) → World → (Nat → Prop) → Prop := fun ys Z w F => (∀ y, ¬ F y) ∧ ∃ v, ys = [.func (.func f) #[v] #[]] ∧ R Z w u nu0 true [v]
def slH (f1 f2 : Nat) (u : AV) (b : Nat) (Z : Nat → Prop) (w : World) : Prop := Z b ∧ ∃ T v1 v2, w.heap[b]? = some (.cells #[.func (.func f1) #[v1] #[], .func (.func f2) #[v2] #[]] T (0, 0)) ∧ R Z w u nu0 true [v1] ∧ R Z w u nu0 true [v2]
def slA (f1 f2 : Nat) (u : AV) : List Value → (Nat → Prop) → World → (Nat → Prop) → Prop := fun ys Z w F => (∀ y, ¬ F y) ∧ ∃ b, ys = [.slice (some ⟨b, 0, none⟩) 2 2] ∧ slH f1 f2 u b Z w
def paA (f1 f2 : Nat) (u : AV) (i : Nat) : List Value → (Nat → Prop) → World → (Nat → Prop) → Prop := fun ys Z w F => (∀ y, ¬ F y) ∧ ∃ b, ys = [.pointer (some ⟨b, i, none⟩)] ∧ slH f1 f2 u b Z w
theorem slH_mono {f1 f2 : Nat} {u : AV} {b : Nat} {Z Z' : Nat → Prop} {w w' : World} (h : slH f1 f2 u b Z w) (hZ : ∀ b, Z b → Z' b) (hw : ∀ b, Z b → w'.heap[b]? = w.heap[b]?) : slH f1 f2 u b Z' w' := by
  obtain ⟨h0, T, v1, v2, h1, h2, h3⟩ := h
  exact ⟨hZ _ h0, T, v1, v2, (hw b h0).trans h1, Zbm hZ hw h2, Zbm hZ hw h3⟩
theorem opsem_first {o : Oper} {f : Nat} {x : Operand} {u : AV} (ho : o.op = .makeFunc (.func f) #[x] #[]) (hu : get x = u) (hm : men noK u = true) (kn : Nat) : OpSem P o get (.own kn) [] [(kn, some (.sem [kn] (mfA f u)))] (some kn) := by
  subst hu
  exact Zez (ks := []) fun K Z ν w ev μ rs h1 hg hx hrd => by
    obtain ⟨rx, _⟩ := hx x (by rw [ho]; simp [Op.operands])
    refine ⟨.func (.func f) #[ev x] #[], ?_, rfl, fun k hk => (by cases hk), fun Z' w' hZ hw => ⟨fun y hy => hy, ev x, rfl, Zct hm (Zbm hZ hw rx)⟩⟩
    simp [execOp, ho, Instr.makeFunc, Sem.run_bind, Result.andThen, Sem.run]
theorem Zgk {K Z : Nat → Prop} {w : World} {ν : Nat → Value} {μ : Nat → Bool} {rs : Rs} {k : Nat} {ks : List Nat} {A : List Value → (Nat → Prop) → World → (Nat → Prop) → Prop} (hg : GoodRs K Z w ν μ rs) (h : rs k = some (.sem ks A)) : ∃ F, A (ks.map ν) Z w F := by
  obtain ⟨Ft, hF⟩ := hg
  obtain ⟨_, _, hs, _⟩ := hF k _ h
  exact ⟨_, hs Z w (fun _ h => h) (fun _ _ => rfl)⟩
theorem opsem_len2 {o : Oper} {t k f1 f2 : Nat} {u : AV} {x : Operand} (ho : o.op = .call ⟨.builtin .len, #[x], #[t]⟩) (hx : get x = .own k)
    (hrun : ∀ (ev : Operand → Value) (w : World) (b : Nat), ev x = .slice (some ⟨b, 0, none⟩) 2 2 → (execOp ev o).run P w = .ok (.value (.int .i64 2)) w) : OpSem P o get (.int .i64 2) [(k, .sem [k] (slA f1 f2 u))] [] none :=
  Zcj fun K Z ν w ev μ rs hone hg hv hrd => by
    obtain ⟨rx, _⟩ := hv x (by rw [ho]; simp [Op.operands, Call.operands])
    rw [hx] at rx
    have hx := one1 rx
    obtain ⟨F, _, b, hy, _⟩ := Zgk hg (hrd (k, .sem [k] (slA f1 f2 u)) (by simp))
    have hk : ν k = .slice (some ⟨b, 0, none⟩) 2 2 := by simpa using hy
    exact ⟨_, hrun ev w b (hx.trans hk), rfl, rfl⟩
theorem opsem_at2 {o : Oper} {t k f1 f2 : Nat} {u : AV} {x y : Operand} {i : Nat} (ho : o.op = .indexAddr t x y) (hx : get x = .own k) (hy : get y = .int .i64 i)
    (hrun : ∀ (ev : Operand → Value) (w : World) (b : Nat), ev x = .slice (some ⟨b, 0, none⟩) 2 2 → ev y = .int .i64 i → (execOp ev o).run P w = .ok (.value (.pointer (some ⟨b, i, none⟩))) w) (kn : Nat) : OpSem P o get (.own kn) [(k, .sem [k] (slA f1 f2 u))] [(kn, some (.sem [kn] (paA f1 f2 u i)))] (some kn) :=
  Zez (ks := []) fun K Z ν w ev μ rs hone hg hv hrd => by
    obtain ⟨rx, _⟩ := hv x (by rw [ho]; simp [Op.operands])
    obtain ⟨ry, _⟩ := hv y (by rw [ho]; simp [Op.operands])
    rw [hx] at rx
    rw [hy] at ry
    have hx := one1 rx
    have hy := one1 ry
    obtain ⟨F, _, b, hs, hH⟩ := Zgk hg (hrd (k, .sem [k] (slA f1 f2 u)) (by simp))
    have hk : ν k = .slice (some ⟨b, 0, none⟩) 2 2 := by simpa using hs
    exact ⟨_, hrun ev w b (hx.trans hk) hy, rfl, fun k hk => (by cases hk), fun Z' w' hZ hw => ⟨fun y hy => hy, b, rfl, slH_mono hH hZ hw⟩⟩
theorem opsem_ld2 {o : Oper} {t k f1 f2 f : Nat} {u : AV} {x : Operand} {i : Nat} (ho : o.op = .load t x) (hx : get x = .own k) (hf : (i = 0 ∧ f = f1) ∨ (i = 1 ∧ f = f2))
    (hrun : ∀ (ev : Operand → Value) (w : World) (b : Nat) (v : Value), ev x = .pointer (some ⟨b, i, none⟩) → w.cell? ⟨b, i, none⟩ = some v → (execOp ev o).run P w = .ok (.value v) w) (kn : Nat) : OpSem P o get (.own kn) [(k, .sem [k] (paA f1 f2 u i))] [(kn, some (.sem [kn] (mfA f u)))] (some kn) :=
  Zez (ks := []) fun K Z ν w ev μ rs hone hg hv hrd => by
    obtain ⟨rx, _⟩ := hv x (by rw [ho]; simp [Op.operands])
    rw [hx] at rx
    have hx := one1 rx
    obtain ⟨F, _, b, hs, hZb, T, v1, v2, hh, r1, r2⟩ := Zgk hg (hrd (k, .sem [k] (paA f1 f2 u i)) (by simp))
    have hk : ν k = .pointer (some ⟨b, i, none⟩) := by simpa using hs
    rcases hf with ⟨rfl, rfl⟩ | ⟨rfl, rfl⟩
    · refine ⟨_, hrun ev w b (.func (.func f) #[v1] #[]) (hx.trans hk) (by simp [World.cell?, hh]), rfl, fun k hk => (by cases hk), fun Z' w' hZ hw => ⟨fun y hy => hy, v1, rfl, Zbm hZ hw r1⟩⟩
    · refine ⟨_, hrun ev w b (.func (.func f) #[v2] #[]) (hx.trans hk) (by simp [World.cell?, hh]), rfl, fun k hk => (by cases hk), fun Z' w' hZ hw => ⟨fun y hy => hy, v2, rfl, Zbm hZ hw r2⟩⟩
theorem opsem_sl2 {o : Oper} {t e k1 k2 f1 f2 : Nat} {u : AV} {x y : Operand} (ho : o.op = .buildSlice t 2 #[(0, x), (1, y)]) (hx : get x = .own k1) (hy : get y = .own k2)
    (hrun : ∀ (ev : Operand → Value) (w : World) (v1 v2 : Value), ev x = .func (.func f1) #[v1] #[] → ev y = .func (.func f2) #[v2] #[] → (execOp ev o).run P w = .ok (.value (.slice (some ⟨w.heap.size, 0, none⟩) 2 2)) (w.alloc (.cells #[.func (.func f1) #[v1] #[], .func (.func f2) #[v2] #[]] e))) (kn : Nat) :
    OpSem P o get (.own kn) [(k1, .sem [k1] (mfA f1 u)), (k2, .sem [k2] (mfA f2 u))] [(kn, some (.sem [kn] (slA f1 f2 u)))] (some kn) :=
  ⟨fun K Z ν w ev μ rs h1 hg hzk hkl hv hrd hkn => by
    have hk2 := hkn kn rfl
    obtain ⟨rx, _⟩ := hv x (by rw [ho]; simp [Op.operands])
    obtain ⟨ry, _⟩ := hv y (by rw [ho]; simp [Op.operands])
    rw [hx] at rx
    rw [hy] at ry
    have hx := one1 rx
    have hy := one1 ry
    obtain ⟨F1, _, v1, hs1, r1⟩ := Zgk hg (hrd (k1, .sem [k1] (mfA f1 u)) (by simp))
    obtain ⟨F2, _, v2, hs2, r2⟩ := Zgk hg (hrd (k2, .sem [k2] (mfA f2 u)) (by simp))
    have e1 : ν k1 = .func (.func f1) #[v1] #[] := by simpa using hs1
    have e2 : ν k2 = .func (.func f2) #[v2] #[] := by simpa using hs2
    have hr := hrun ev w v1 v2 (hx.trans e1) (hy.trans e2)
    have hs := Zc2 (Z := Z) hkl (.cells #[.func (.func f1) #[v1] #[], .func (.func f2) #[v2] #[]] e)
    have hzb : ∀ b, Z b → (w.alloc (.cells #[.func (.func f1) #[v1] #[], .func (.func f2) #[v2] #[]] e)).heap[b]? = w.heap[b]? := fun b hb => Zbl _ (hkl b (hzk b hb))
    have hg1 : GoodRs (un K (fun b => Z b ∨ b = w.heap.size)) (fun b => Z b ∨ b = w.heap.size) (w.alloc (.cells #[.func (.func f1) #[v1] #[], .func (.func f2) #[v2] #[]] e)) ν μ rs := hg.mono (fun _ h => .inl h) hzb (by simp) (fun b hb => by
      rcases hb with h | h | h
      · exact .inl h
      · exact .inl (hzk b h)
      · exact .inr (by omega)) (fun b _ hb => Zbl _ hb)
    have hlt : ∀ b, un K (fun b => Z b ∨ b = w.heap.size) b → b < (w.alloc (.cells #[.func (.func f1) #[v1] #[], .func (.func f2) #[v2] #[]] e)).heap.size := fun b hb => by
      have : b < w.heap.size + 1 := by
        rcases hb with h | h | h
        · have := hkl b h; omega
        · have := hkl b (hzk b h); omega
        · omega
      simpa using this
    have hH : slH f1 f2 u w.heap.size (fun b => Z b ∨ b = w.heap.size) (w.alloc (.cells #[.func (.func f1) #[v1] #[], .func (.func f2) #[v2] #[]] e)) := ⟨.inr rfl, e, v1, v2, Zc0 _, Zbm (fun _ h => .inl h) hzb r1, Zbm (fun _ h => .inl h) hzb r2⟩
    refine ⟨_, _, upN ν kn (.slice (some ⟨w.heap.size, 0, none⟩) 2 2), fun b => Z b ∨ b = w.heap.size, .inl hr, ⟨hs.ext, fun _ h => .inl h, fun b hb => hb.imp id (fun e hK => by have := hkl b hK; omega)⟩, Zbw hk2, Zcp h1 rfl, ?_, ?_, Zbq, fun b hb => hlt b (.inr hb)⟩
    · refine Zdb (F := fun _ => False) hg1 (fun b hb => .inr hb) hlt hk2 (Nat.le_refl _) (fun _ _ => rfl) ?_ (fun k hk => ?_) (fun y hy => hy.elim)
      · intro Z' w' hZ hw
        refine ⟨fun y hy => hy, w.heap.size, ?_, slH_mono hH hZ (fun b hb => hw b (.inl hb))⟩
        show [upN ν kn _ kn] = _
        rw [upN_same]
      · rw [List.mem_singleton.1 hk]; exact Zbq
    · show [_] = [_]; rw [upN_same]⟩
theorem awpL_callB {ro : Option Nat} {o : Oper} {x : Operand} {ts : Array TypeId} {f k m : Nat} {u : AV} {env : List (Nat × AV)} {l : List (Nat × Option Blk)} {ms : List Nat} {Q0 : GR → Prop} {Q : Exit → St → Prop}
    (hS : FG P f [u] [] 0 Q0) (ho : o.op = .call ⟨.value x, #[], ts⟩) (hgd : o.guard.isNone = true) (hd : Zdh N [o] = true) (hx : opv (lke env) x = .own k) (hk : lkr l k = some (.sem [k] (mfA f u))) (hmu : men noK u = true) (hκ : Nat.ble κ m = true)
    (next : ∀ gm gv gr, Q0 ⟨gm, gv, gr⟩ → ∀ m' e' l', (m + (gm - 0) = m' ∧ putE o.dst (ren (rhoC [] m) gv) env = e' ∧ outR [] m gr l = l') → Q .normal (CS.st ⟨m', e', l', ms⟩)) : awpL P ro N κ [o] (CS.st ⟨m, env, l, ms⟩) Q := by
  obtain ⟨⟨fn, hfn, hname, hbody⟩, _⟩ := id hS
  refine awpL_callX (s := ⟨m, env, l, ms⟩) [] (hS.fp (E := fun _ => False)) hgd hd (fun K Z w ν a hg => ?_) (Zb4 (show men noK (mkL [u]) = true by simp [mkL, men, hmu])) rfl hκ (fun j B hj => by cases hj) (fun g hg hle => next g.m g.val g.rs hg _ _ _ ⟨rfl, rfl, rfl⟩) (fun c h => h.elim)
  have rx := Zig hg x
  rw [show opv (CS.st ⟨m, env, l, ms⟩).env x = opv (lke env) x from rfl, hx] at rx
  have ex := one1 rx
  obtain ⟨F, _, v, hs, r⟩ := Zgk hg.rs hk
  have ek : ν k = .func (.func f) #[v] #[] := by simpa using hs
  refine ⟨[v], ?_, R_ren.2 ⟨v, [], rfl, Zct hmu r, rfl⟩⟩
  rw [Zdu (by rw [ho]; intro c hc; cases hc)]
  simp [execOp, ho, resolve, ex, ek, Deferred.ofValue, invoke, callFunc, hfn, Sem.run_bind, Result.andThen, Sem.run, program]
  have hname' : ¬ fn.name = "runtime.NumGoroutine" := by simpa using hname
  cases hb : fn.body with
  | none => rw [hb] at hbody; cases hbody
  | some c => simp [hname', hb, Sem.run]
end
open Go Pl
def errU (u : AV) : Blk := .sem [0] (ifA 65 u)
def sayP (s l : List Int) (u : AV) : Prop := u = .agg (.cons (.roI s) (.cons (.roI l) .nil)) ∨ (s = [] ∧ u = .agg (.cons (.cst (.slice none 0 0)) (.cons (.roI l) .nil)))
theorem Zi1 : Tryd.prog.underlying 68 = some (.interface (Tryd.prog.methodsAt 68)) := by kernel_rfl
def clA (o p : List Int) (x : List (List Int)) (w c : List Int) : AV := .agg (.cons (.roI o) (.cons (.roI p) (.cons (.roII x) (.cons (.roI w) (.cons (.roI c) .nil)))))
theorem left_fg2 {o p w c : List Int} {x : List (List Int)} (hv : Zbh ⟨o, p, x⟩ = true) (hc : Zb0 ⟨o, p, x⟩ w c = true) :
    FG Tryd.prog 52 [clA o p x w c] [] 0 fun g => ((∀ v, v < o.length → ∀ u, u ∈ nxVn ⟨o, p, x⟩ w c (w.getD v 0) v → w.getD u 0 = w.getD v 0) ∧ g = ⟨0, .cst .nilIface, []⟩) ∨ ∃ s l u, CpOK ⟨o, p, x⟩ w c s l ∧ sayP s l u ∧ g = ⟨1, .own 0, [(0, some (errU u))]⟩ :=
  (left_fg hv hc).mono fun g h => h.imp id fun ⟨s, l, h1, h2⟩ => ⟨s, l, _, h1, .inl rfl, h2⟩
theorem lost_fg2 {o p w c : List Int} {x : List (List Int)} (hv : Zbh ⟨o, p, x⟩ = true) (hc : Zb0 ⟨o, p, x⟩ w c = true) :
    FG Tryd.prog 53 [clA o p x w c] [] 0 fun g => ((∀ v, v < o.length → p.getD v 0 % 2 ≠ w.getD v 0 → ¬ Cyc (fun a b => b ∈ nxVn ⟨o, p, x⟩ w c (w.getD v 0) a) (fun v => p.getD v 0) v) ∧ g = ⟨0, .cst .nilIface, []⟩) ∨ ∃ s l u, CpOK ⟨o, p, x⟩ w c s l ∧ sayP s l u ∧ g = ⟨1, .own 0, [(0, some (errU u))]⟩ :=
  (lost_fg hv hc).mono fun g h => h.imp id fun ⟨l, h1, h2⟩ => ⟨[], l, _, h1, .inr ⟨rfl, rfl⟩, h2⟩
theorem len2_run {ev : Operand → Value} {w : World} {b : Nat} {o : Oper} (ho : o.op = .call ⟨.builtin .len, #[.tmp 10], #[99]⟩) (h : ev (.tmp 10) = .slice (some ⟨b, 0, none⟩) 2 2) : (execOp ev o).run Tryd.prog w = .ok (.value (.int .i64 2)) w := by
  simp only [execOp, ho, resolve]
  simp [h]
  kernel_rfl
theorem at2_run {ev : Operand → Value} {w : World} {b i : Nat} {o : Oper} (ho : o.op = .indexAddr 99 (.tmp 10) (.tmp 12)) (h : ev (.tmp 10) = .slice (some ⟨b, 0, none⟩) 2 2) (h2 : ev (.tmp 12) = .int .i64 i) (hi : i = 0 ∨ i = 1) : (execOp ev o).run Tryd.prog w = .ok (.value (.pointer (some ⟨b, i, none⟩))) w := by
  simp only [execOp, ho, h, h2]
  rcases hi with rfl | rfl <;> kernel_rfl
theorem ld2_run {ev : Operand → Value} {w : World} {b i : Nat} {v : Value} {o : Oper} (ho : o.op = .load 69 (.tmp 14)) (h : ev (.tmp 14) = .pointer (some ⟨b, i, none⟩)) (h2 : w.cell? ⟨b, i, none⟩ = some v) : (execOp ev o).run Tryd.prog w = .ok (.value v) w := by
  have hl : (Instr.loadAt 69 (.pointer (some ⟨b, i, none⟩))).run Tryd.prog w = .ok v w := by
    have ha : (isAgg 69).run Tryd.prog w = .ok false w := by kernel_rfl
    simp [Instr.loadAt, Instr.sureAddr, loadVar, Sem.run_bind, ha, Result.andThen, load, Sem.run, h2]
  simp only [execOp, ho, h]
  simp [Sem.run_bind, hl, Result.andThen, Sem.run]
theorem sl2_run {ev : Operand → Value} {w : World} {v1 v2 : Value} {o : Oper} (ho : o.op = .buildSlice 99 2 #[(0, .tmp 7), (1, .tmp 9)]) (h : ev (.tmp 7) = .func (.func 52) #[v1] #[]) (h2 : ev (.tmp 9) = .func (.func 53) #[v2] #[]) : (execOp ev o).run Tryd.prog w = .ok (.value (.slice (some ⟨w.heap.size, 0, none⟩) 2 2)) (w.alloc (.cells #[.func (.func 52) #[v1] #[], .func (.func 53) #[v2] #[]] 69)) := by
  simp only [execOp, ho]
  simp [h, h2]
  kernel_rfl
set_option maxRecDepth 4000 in
set_option maxHeartbeats 4000000 in
theorem right_fg {o p w c : List Int} {x : List (List Int)} (hv : Zbh ⟨o, p, x⟩ = true) (hc : Zb0 ⟨o, p, x⟩ w c = true) :
    FG Tryd.prog 30 [clA o p x w c] [] 0 fun g => (solB ⟨o, p, x⟩ w c = true ∧ g = ⟨0, .cst .nilIface, []⟩) ∨ ∃ s l u, CpOK ⟨o, p, x⟩ w c s l ∧ sayP s l u ∧ g = ⟨1, .own 0, [(0, some (errU u))]⟩ := by
  refine Zho htb (fn := Tryd.f30) (by kernel_rfl) (by kernel_rfl) rfl (Nat.le_of_ble_eq_true rfl) fun hl => ?_
  simp only [lenP, mkL, lim] at hl
  have hl2 := left_fg2 hv hc
  have hl3 := lost_fg2 hv hc
  have hrs := right_sol hv hc
  obtain ⟨U, hU⟩ : ∃ U, clA o p x w c = U := ⟨_, rfl⟩
  have hmU : men noK U = true := by rw [← hU]; rfl
  rw [hU] at hl2 hl3
  unfold clA at hU ⊢
  repeat' first
    | with_reducible first | apply Zar | apply Zan | apply Zaa | apply Zad | apply Zah | apply Zao | apply Zag | apply Zaj | apply Zaq | apply Zas | apply Zap | apply Zal | apply Zac | apply Zak
    | ((with_reducible refine Zai ?_ ?_); exact rfl) | ((with_reducible refine Zat ?_); refine Zam rfl ?_ ?_ <;> intro hb <;> (try simp only [zH] at hb)) | ((with_reducible refine Zau 1 ?_ ?_); (· exact rfl); (first | refine Zaf htb hmz noSp fF rfl rfl ?_ | refine Zae hmo htb hmz noSp fF rfl rfl (by kernel_rfl) ?_); intro _ _ _ _ h; simp only [zE, evp, evx, ev1, evLoad, evStore, evBin, evIf, Zab, forall_const, z38, tb, reduceAdd, reduceSub, reduceMul, reduceEqDiff, reduceLeDiff, reduceLT, Nat.reduceBEq, Nat.reduceBNe, ↓reduceIte, reduceIte] at h; obtain ⟨rfl, rfl, rfl, rfl⟩ := h; refine ⟨?_, ?_⟩) | ((with_reducible refine Ob.mk ?_); first | exact trivial | (intros; omega) | ((repeat' first | apply And.intro | (intro a; have b := a; try simp only [zH] at b)) <;> first | assumption | omega | (simp only [zH]; omega)))
  refine Zc5 rfl ?_
  refine Zcc (l1 := [_]) (l2 := [_, _, _, _, _, _]) ?_
  refine Zbb htb hmz noSp fF rfl rfl rfl ?_; intro _ _ _ _ h; simp only [zE, evp, evx, ev1, evLoad, evStore, evBin, evIf, Zab, forall_const, z38, tb, reduceAdd, reduceSub, reduceMul, reduceEqDiff, reduceLeDiff, reduceLT, Nat.reduceBEq, Nat.reduceBNe, ↓reduceIte, reduceIte] at h; obtain ⟨rfl, rfl, rfl, rfl⟩ := h; refine ⟨?_, Zaa ?_⟩
  · first | ((with_reducible refine Ob.mk ?_); first | exact trivial | (intros; omega) | ((repeat' first | apply And.intro | (intro a; have b := a; try simp only [zH] at b)) <;> first | assumption | omega | (simp only [zH]; omega))) | skip
  refine Zcg (opsem_first rfl hU hmU _) rfl rfl (fun c h => by cases h) Za5 (.inr rfl) rfl ?_
  dsimp only [putE, setW, reduceAdd]
  refine Zcc (l1 := [_]) (l2 := [_, _, _, _]) ?_
  refine Zbb htb hmz noSp fF rfl rfl rfl ?_; intro _ _ _ _ h; simp only [zE, evp, evx, ev1, evLoad, evStore, evBin, evIf, Zab, forall_const, z38, tb, reduceAdd, reduceSub, reduceMul, reduceEqDiff, reduceLeDiff, reduceLT, Nat.reduceBEq, Nat.reduceBNe, ↓reduceIte, reduceIte] at h; obtain ⟨rfl, rfl, rfl, rfl⟩ := h; refine ⟨?_, Zaa ?_⟩
  · first | ((with_reducible refine Ob.mk ?_); first | exact trivial | (intros; omega) | ((repeat' first | apply And.intro | (intro a; have b := a; try simp only [zH] at b)) <;> first | assumption | omega | (simp only [zH]; omega))) | skip
  refine Zcg (opsem_first rfl hU hmU _) rfl rfl (fun c h => by cases h) Za5 (.inr rfl) rfl ?_
  dsimp only [putE, setW, reduceAdd]
  refine Zcg (opsem_sl2 (u := U) rfl rfl rfl (fun ev w v1 v2 => sl2_run rfl) _) rfl rfl (fun c h => by cases h) ?_ (.inr rfl) rfl ?_
  · exact Zb8 rfl (Za9 rfl)
  dsimp only [putE, setW, reduceAdd]
  refine Zcg (opsem_len2 (f1 := 52) (f2 := 53) (u := U) rfl rfl fun ev w b => len2_run rfl) rfl rfl (fun c h => by cases h) ?_ (.inl rfl) rfl ?_
  · exact Za9 rfl
  dsimp only [putE, setW, reduceAdd]
  refine Zbb htb hmz noSp fF rfl rfl rfl ?_; intro _ _ _ _ h; simp only [zE, evp, evx, ev1, evLoad, evStore, evBin, evIf, Zab, forall_const, z38, tb, reduceAdd, reduceSub, reduceMul, reduceEqDiff, reduceLeDiff, reduceLT, Nat.reduceBEq, Nat.reduceBNe, ↓reduceIte, reduceIte] at h; obtain ⟨rfl, rfl, rfl, rfl⟩ := h; refine ⟨?_, ?_⟩
  · first | ((with_reducible refine Ob.mk ?_); first | exact trivial | (intros; omega) | ((repeat' first | apply And.intro | (intro a; have b := a; try simp only [zH] at b)) <;> first | assumption | omega | (simp only [zH]; omega))) | skip
  refine Zaa ?_
  repeat' first
    | with_reducible first | apply Zar | apply Zan | apply Zaa | apply Zad | apply Zah | apply Zao | apply Zag | apply Zaj | apply Zaq | apply Zas | apply Zap | apply Zal | apply Zac | apply Zak
    | ((with_reducible refine Zai ?_ ?_); exact rfl) | ((with_reducible refine Zat ?_); refine Zam rfl ?_ ?_ <;> intro hb <;> (try simp only [zH] at hb)) | ((with_reducible refine Zau 2 ?_ ?_); (· exact rfl); (first | refine Zaf htb hmz noSp fF rfl rfl ?_ | refine Zae hmo htb hmz noSp fF rfl rfl (by kernel_rfl) ?_); intro _ _ _ _ h; simp only [zE, evp, evx, ev1, evLoad, evStore, evBin, evIf, Zab, forall_const, z38, tb, reduceAdd, reduceSub, reduceMul, reduceEqDiff, reduceLeDiff, reduceLT, Nat.reduceBEq, Nat.reduceBNe, ↓reduceIte, reduceIte] at h; obtain ⟨rfl, rfl, rfl, rfl⟩ := h; refine ⟨?_, ?_⟩) | ((with_reducible refine Ob.mk ?_); first | exact trivial | (intros; omega) | ((repeat' first | apply And.intro | (intro a; have b := a; try simp only [zH] at b)) <;> first | assumption | omega | (simp only [zH]; omega)))
  refine Za6 (τ := Nat) (fun i => i ≤ 2 ∧ (0 < i → ∀ v, v < o.length → ∀ u, u ∈ nxVn ⟨o, p, x⟩ w c (w.getD v 0) v → w.getD u 0 = w.getD v 0) ∧ (1 < i → ∀ v, v < o.length → p.getD v 0 % 2 ≠ w.getD v 0 → ¬ Cyc (fun a b => b ∈ nxVn ⟨o, p, x⟩ w c (w.getD v 0) a) (fun v => p.getD v 0) v)) (fun i => ⟨9, [(12, .int .i64 i), (11, .int .i64 2), (10, .own 6), (2, .cst .nilIface)], [(6, some (.sem [6] (slA 52 53 U)))], []⟩) (fun i => 2 - i) 0 [] ?_ ⟨by omega, (fun h => by omega), (fun h => by omega)⟩ ?_
  · (refine ⟨rfl, ?_, ?_⟩ <;> simp only [zE, evp, evx, ev1, evLoad, evStore, evBin, evIf, Zab, forall_const, z38, tb, reduceAdd, reduceSub, reduceMul, reduceEqDiff, reduceLeDiff, reduceLT, Nat.reduceBEq, Nat.reduceBNe, ↓reduceIte, reduceIte, zI])
    intro k hk
    rw [List.mem_singleton.1 hk]
    rfl
  rintro i ⟨hi, hI, hJ⟩
  repeat' first
    | with_reducible first | apply Zar | apply Zan | apply Zaa | apply Zad | apply Zah | apply Zao | apply Zag | apply Zaj | apply Zaq | apply Zas | apply Zap | apply Zal | apply Zac | apply Zak
    | ((with_reducible refine Zai ?_ ?_); exact rfl) | ((with_reducible refine Zat ?_); refine Zam rfl ?_ ?_ <;> intro hb <;> (try simp only [zH] at hb)) | ((with_reducible refine Zau 3 ?_ ?_); (· exact rfl); (first | refine Zaf htb hmz noSp fF rfl rfl ?_ | refine Zae hmo htb hmz noSp fF rfl rfl (by kernel_rfl) ?_); intro _ _ _ _ h; simp only [zE, evp, evx, ev1, evLoad, evStore, evBin, evIf, Zab, forall_const, z38, tb, reduceAdd, reduceSub, reduceMul, reduceEqDiff, reduceLeDiff, reduceLT, Nat.reduceBEq, Nat.reduceBNe, ↓reduceIte, reduceIte] at h; obtain ⟨rfl, rfl, rfl, rfl⟩ := h; refine ⟨?_, ?_⟩) | ((with_reducible refine Ob.mk ?_); first | exact trivial | (intros; omega) | ((repeat' first | apply And.intro | (intro a; have b := a; try simp only [zH] at b)) <;> first | assumption | omega | (simp only [zH]; omega)))
  · have hi2 : i = 0 ∨ i = 1 := by omega
    rcases hi2 with rfl | rfl
    · refine Zc5 rfl ?_
      refine Zcg (opsem_at2 (f1 := 52) (f2 := 53) (u := U) rfl rfl rfl (fun ev w b h h2 => at2_run rfl h h2 (by omega)) _) rfl rfl (fun c h => by cases h) (Za9 rfl) (.inr rfl) rfl ?_
      dsimp only [putE, setW, reduceAdd]
      refine Zcg (opsem_ld2 (f1 := 52) (f2 := 53) (u := U) (f := 52) rfl rfl (.inl ⟨rfl, rfl⟩) (fun ev w b v => ld2_run rfl) _) rfl rfl (fun c h => by cases h) (Za9 rfl) (.inr rfl) rfl ?_
      dsimp only [putE, setW, reduceAdd]
      refine Zbb htb hmz noSp fF rfl rfl rfl ?_; intro _ _ _ _ h; simp only [zE, evp, evx, ev1, evLoad, evStore, evBin, evIf, Zab, forall_const, z38, tb, reduceAdd, reduceSub, reduceMul, reduceEqDiff, reduceLeDiff, reduceLT, Nat.reduceBEq, Nat.reduceBNe, ↓reduceIte, reduceIte] at h; obtain ⟨rfl, rfl, rfl, rfl⟩ := h; refine ⟨?_, ?_⟩
      · first | ((with_reducible refine Ob.mk ?_); first | exact trivial | (intros; omega) | ((repeat' first | apply And.intro | (intro a; have b := a; try simp only [zH] at b)) <;> first | assumption | omega | (simp only [zH]; omega))) | skip
      refine Zaa ?_
      repeat' first
        | with_reducible first | apply Zar | apply Zan | apply Zaa | apply Zad | apply Zah | apply Zao | apply Zag | apply Zaj | apply Zaq | apply Zas | apply Zap | apply Zal | apply Zac | apply Zak
        | ((with_reducible refine Zai ?_ ?_); exact rfl) | ((with_reducible refine Zat ?_); refine Zam rfl ?_ ?_ <;> intro hb <;> (try simp only [zH] at hb)) | ((with_reducible refine Zau 4 ?_ ?_); (· exact rfl); (first | refine Zaf htb hmz noSp fF rfl rfl ?_ | refine Zae hmo htb hmz noSp fF rfl rfl (by kernel_rfl) ?_); intro _ _ _ _ h; simp only [zE, evp, evx, ev1, evLoad, evStore, evBin, evIf, Zab, forall_const, z38, tb, reduceAdd, reduceSub, reduceMul, reduceEqDiff, reduceLeDiff, reduceLT, Nat.reduceBEq, Nat.reduceBNe, ↓reduceIte, reduceIte] at h; obtain ⟨rfl, rfl, rfl, rfl⟩ := h; refine ⟨?_, ?_⟩) | ((with_reducible refine Ob.mk ?_); first | exact trivial | (intros; omega) | ((repeat' first | apply And.intro | (intro a; have b := a; try simp only [zH] at b)) <;> first | assumption | omega | (simp only [zH]; omega)))
      refine Zc5 rfl ?_
      refine Zcc (l1 := [_]) (l2 := [_, _]) ?_
      refine Zbb htb hmz noSp fF rfl rfl rfl ?_; intro _ _ _ _ h; simp only [zE, evp, evx, ev1, evLoad, evStore, evBin, evIf, Zab, forall_const, z38, tb, reduceAdd, reduceSub, reduceMul, reduceEqDiff, reduceLeDiff, reduceLT, Nat.reduceBEq, Nat.reduceBNe, ↓reduceIte, reduceIte] at h; obtain ⟨rfl, rfl, rfl, rfl⟩ := h; refine ⟨?_, Zaa ?_⟩
      · first | ((with_reducible refine Ob.mk ?_); first | exact trivial | (intros; omega) | ((repeat' first | apply And.intro | (intro a; have b := a; try simp only [zH] at b)) <;> first | assumption | omega | (simp only [zH]; omega))) | skip
      refine Zcc (l1 := [_]) (l2 := [_]) ?_
      refine awpL_callB hl2 rfl rfl rfl rfl rfl hmU rfl ?_
      intro gm gv gr hq m' e' l' h
      rcases hq with ⟨hno, hq⟩ | ⟨s, l, u, hcp, hsy, hq⟩
      · simp only [GR.mk.injEq] at hq; obtain ⟨rfl, rfl, rfl⟩ := hq; simp only [rhoC, outR, renR, dels, zE, evp, evx, ev1, evLoad, evStore, evBin, evIf, Zab, forall_const, z38, tb, reduceAdd, reduceSub, reduceMul, reduceEqDiff, reduceLeDiff, reduceLT, Nat.reduceBEq, Nat.reduceBNe, ↓reduceIte, reduceIte] at h; obtain ⟨rfl, rfl, rfl⟩ := h; refine Zaa ?_
        refine Zbb htb hmz noSp fF rfl rfl rfl ?_; intro _ _ _ _ h; simp only [zE, evp, evx, ev1, evLoad, evStore, evBin, evIf, Zab, forall_const, z38, tb, reduceAdd, reduceSub, reduceMul, reduceEqDiff, reduceLeDiff, reduceLT, Nat.reduceBEq, Nat.reduceBNe, ↓reduceIte, reduceIte] at h; obtain ⟨rfl, rfl, rfl, rfl⟩ := h; refine ⟨?_, ?_⟩
        · first | ((with_reducible refine Ob.mk ?_); first | exact trivial | (intros; omega) | ((repeat' first | apply And.intro | (intro a; have b := a; try simp only [zH] at b)) <;> first | assumption | omega | (simp only [zH]; omega))) | skip
        refine Zaa ?_
        repeat' first
          | with_reducible first | apply Zar | apply Zan | apply Zaa | apply Zad | apply Zah | apply Zao | apply Zag | apply Zaj | apply Zaq | apply Zas | apply Zap | apply Zal | apply Zac | apply Zak
          | ((with_reducible refine Zai ?_ ?_); exact rfl) | ((with_reducible refine Zat ?_); refine Zam rfl ?_ ?_ <;> intro hb <;> (try simp only [zH] at hb)) | ((with_reducible refine Zau 5 ?_ ?_); (· exact rfl); (first | refine Zaf htb hmz noSp fF rfl rfl ?_ | refine Zae hmo htb hmz noSp fF rfl rfl (by kernel_rfl) ?_); intro _ _ _ _ h; simp only [zE, evp, evx, ev1, evLoad, evStore, evBin, evIf, Zab, forall_const, z38, tb, reduceAdd, reduceSub, reduceMul, reduceEqDiff, reduceLeDiff, reduceLT, Nat.reduceBEq, Nat.reduceBNe, ↓reduceIte, reduceIte] at h; obtain ⟨rfl, rfl, rfl, rfl⟩ := h; refine ⟨?_, ?_⟩) | ((with_reducible refine Ob.mk ?_); first | exact trivial | (intros; omega) | ((repeat' first | apply And.intro | (intro a; have b := a; try simp only [zH] at b)) <;> first | assumption | omega | (simp only [zH]; omega)))
        refine Zeb ([_]) ([]) rfl rfl ?_
        refine Zbb htb hmz noSp fF rfl rfl rfl ?_; intro _ _ _ _ h; simp only [zE, evp, evx, ev1, evLoad, evStore, evBin, evIf, Zab, forall_const, z38, tb, reduceAdd, reduceSub, reduceMul, reduceEqDiff, reduceLeDiff, reduceLT, Nat.reduceBEq, Nat.reduceBNe, ↓reduceIte, reduceIte] at h; obtain ⟨rfl, rfl, rfl, rfl⟩ := h; refine ⟨?_, Zaa ?_⟩
        · first | ((with_reducible refine Ob.mk ?_); first | exact trivial | (intros; omega) | ((repeat' first | apply And.intro | (intro a; have b := a; try simp only [zH] at b)) <;> first | assumption | omega | (simp only [zH]; omega))) | skip
        refine Zcg (opsem_neqif0 rfl Zi1 rfl rfl) rfl rfl (fun c h => by cases h) Za5 (.inl rfl) rfl ?_
        refine Zcl ?_
        refine Zaa ?_
        refine Zcl ?_
        refine Zaa ?_
        dsimp only [putE, setW, reduceAdd]
        repeat' first
          | with_reducible first | apply Zar | apply Zan | apply Zaa | apply Zad | apply Zah | apply Zao | apply Zag | apply Zaj | apply Zaq | apply Zas | apply Zap | apply Zal | apply Zac | apply Zak
          | ((with_reducible refine Zai ?_ ?_); exact rfl) | ((with_reducible refine Zat ?_); refine Zam rfl ?_ ?_ <;> intro hb <;> (try simp only [zH] at hb)) | ((with_reducible refine Za3 ?_); (first | refine Zaf htb hmz noSp fF rfl rfl ?_ | refine Zae hmo htb hmz noSp fF rfl rfl (by kernel_rfl) ?_); intro _ _ _ _ h; simp only [zE, evp, evx, ev1, evLoad, evStore, evBin, evIf, Zab, forall_const, z38, tb, reduceAdd, reduceSub, reduceMul, reduceEqDiff, reduceLeDiff, reduceLT, Nat.reduceBEq, Nat.reduceBNe, ↓reduceIte, reduceIte] at h; obtain ⟨rfl, rfl, rfl, rfl⟩ := h; refine ⟨?_, ?_⟩) | ((with_reducible refine Ob.mk ?_); first | exact trivial | (intros; omega) | ((repeat' first | apply And.intro | (intro a; have b := a; try simp only [zH] at b)) <;> first | assumption | omega | (simp only [zH]; omega)))
        · cases hb
        · refine back 1 [] ?_ ⟨by omega, (fun _ => hno), (fun h => by omega)⟩ (by omega)
          (refine ⟨rfl, ?_, ?_⟩ <;> simp only [zE, evp, evx, ev1, evLoad, evStore, evBin, evIf, Zab, forall_const, z38, tb, reduceAdd, reduceSub, reduceMul, reduceEqDiff, reduceLeDiff, reduceLT, Nat.reduceBEq, Nat.reduceBNe, ↓reduceIte, reduceIte, zI])
          · rfl
          · intro k hk
            rw [List.mem_singleton.1 hk]; rfl
      · simp only [GR.mk.injEq] at hq; obtain ⟨rfl, rfl, rfl⟩ := hq; simp only [rhoC, outR, renR, dels, zE, evp, evx, ev1, evLoad, evStore, evBin, evIf, Zab, forall_const, z38, tb, reduceAdd, reduceSub, reduceMul, reduceEqDiff, reduceLeDiff, reduceLT, Nat.reduceBEq, Nat.reduceBNe, ↓reduceIte, reduceIte] at h; obtain ⟨rfl, rfl, rfl⟩ := h; refine Zaa ?_
        refine Zbb htb hmz noSp fF rfl rfl rfl ?_; intro _ _ _ _ h; simp only [zE, evp, evx, ev1, evLoad, evStore, evBin, evIf, Zab, forall_const, z38, tb, reduceAdd, reduceSub, reduceMul, reduceEqDiff, reduceLeDiff, reduceLT, Nat.reduceBEq, Nat.reduceBNe, ↓reduceIte, reduceIte] at h; obtain ⟨rfl, rfl, rfl, rfl⟩ := h; refine ⟨?_, ?_⟩
        · first | ((with_reducible refine Ob.mk ?_); first | exact trivial | (intros; omega) | ((repeat' first | apply And.intro | (intro a; have b := a; try simp only [zH] at b)) <;> first | assumption | omega | (simp only [zH]; omega))) | skip
        refine Zaa ?_
        repeat' first
          | with_reducible first | apply Zar | apply Zan | apply Zaa | apply Zad | apply Zah | apply Zao | apply Zag | apply Zaj | apply Zaq | apply Zas | apply Zap | apply Zal | apply Zac | apply Zak
          | ((with_reducible refine Zai ?_ ?_); exact rfl) | ((with_reducible refine Zat ?_); refine Zam rfl ?_ ?_ <;> intro hb <;> (try simp only [zH] at hb)) | ((with_reducible refine Zau 5 ?_ ?_); (· exact rfl); (first | refine Zaf htb hmz noSp fF rfl rfl ?_ | refine Zae hmo htb hmz noSp fF rfl rfl (by kernel_rfl) ?_); intro _ _ _ _ h; simp only [zE, evp, evx, ev1, evLoad, evStore, evBin, evIf, Zab, forall_const, z38, tb, reduceAdd, reduceSub, reduceMul, reduceEqDiff, reduceLeDiff, reduceLT, Nat.reduceBEq, Nat.reduceBNe, ↓reduceIte, reduceIte] at h; obtain ⟨rfl, rfl, rfl, rfl⟩ := h; refine ⟨?_, ?_⟩) | ((with_reducible refine Ob.mk ?_); first | exact trivial | (intros; omega) | ((repeat' first | apply And.intro | (intro a; have b := a; try simp only [zH] at b)) <;> first | assumption | omega | (simp only [zH]; omega)))
        refine Zeb ([_]) ([]) rfl rfl ?_
        refine Zbb htb hmz noSp fF rfl rfl rfl ?_; intro _ _ _ _ h; simp only [zE, evp, evx, ev1, evLoad, evStore, evBin, evIf, Zab, forall_const, z38, tb, reduceAdd, reduceSub, reduceMul, reduceEqDiff, reduceLeDiff, reduceLT, Nat.reduceBEq, Nat.reduceBNe, ↓reduceIte, reduceIte] at h; obtain ⟨rfl, rfl, rfl, rfl⟩ := h; refine ⟨?_, Zaa ?_⟩
        · first | ((with_reducible refine Ob.mk ?_); first | exact trivial | (intros; omega) | ((repeat' first | apply And.intro | (intro a; have b := a; try simp only [zH] at b)) <;> first | assumption | omega | (simp only [zH]; omega))) | skip
        refine Zcg (opsem_neqif (u := u) (t2 := 65) rfl Zi1 rfl rfl) rfl rfl (fun c h => by cases h) (Za9 rfl) (.inl rfl) rfl ?_
        refine Zcl ?_
        refine Zaa ?_
        refine Zcl ?_
        refine Zaa ?_
        dsimp only [putE, setW, reduceAdd]
        repeat' first
          | with_reducible first | apply Zar | apply Zan | apply Zaa | apply Zad | apply Zah | apply Zao | apply Zag | apply Zaj | apply Zaq | apply Zas | apply Zap | apply Zal | apply Zac | apply Zak
          | ((with_reducible refine Zai ?_ ?_); exact rfl) | ((with_reducible refine Zat ?_); refine Zam rfl ?_ ?_ <;> intro hb <;> (try simp only [zH] at hb)) | ((with_reducible refine Za3 ?_); (first | refine Zaf htb hmz noSp fF rfl rfl ?_ | refine Zae hmo htb hmz noSp fF rfl rfl (by kernel_rfl) ?_); intro _ _ _ _ h; simp only [zE, evp, evx, ev1, evLoad, evStore, evBin, evIf, Zab, forall_const, z38, tb, reduceAdd, reduceSub, reduceMul, reduceEqDiff, reduceLeDiff, reduceLT, Nat.reduceBEq, Nat.reduceBNe, ↓reduceIte, reduceIte] at h; obtain ⟨rfl, rfl, rfl, rfl⟩ := h; refine ⟨?_, ?_⟩) | ((with_reducible refine Ob.mk ?_); first | exact trivial | (intros; omega) | ((repeat' first | apply And.intro | (intro a; have b := a; try simp only [zH] at b)) <;> first | assumption | omega | (simp only [zH]; omega)))
        · refine Zaz rfl rfl (Zdc ⟨1, .own 0, [(0, some (errU u))]⟩ [(0, 14)] (.inr ⟨_, _, _, hcp, hsy, rfl⟩) rfl (Zbz rfl) ?_)
          simp only [grR, errU, zE, evp, evx, ev1, evLoad, evStore, evBin, evIf, Zab, forall_const, z38, tb, reduceAdd, reduceSub, reduceMul, reduceEqDiff, reduceLeDiff, reduceLT, Nat.reduceBEq, Nat.reduceBNe, ↓reduceIte, reduceIte]
          intro k hk
          rw [List.mem_singleton.1 hk]; rfl
        · cases hb
    · refine Zc5 rfl ?_
      refine Zcg (opsem_at2 (f1 := 52) (f2 := 53) (u := U) rfl rfl rfl (fun ev w b h h2 => at2_run rfl h h2 (by omega)) _) rfl rfl (fun c h => by cases h) (Za9 rfl) (.inr rfl) rfl ?_
      dsimp only [putE, setW, reduceAdd]
      refine Zcg (opsem_ld2 (f1 := 52) (f2 := 53) (u := U) (f := 53) rfl rfl (.inr ⟨rfl, rfl⟩) (fun ev w b v => ld2_run rfl) _) rfl rfl (fun c h => by cases h) (Za9 rfl) (.inr rfl) rfl ?_
      dsimp only [putE, setW, reduceAdd]
      refine Zbb htb hmz noSp fF rfl rfl rfl ?_; intro _ _ _ _ h; simp only [zE, evp, evx, ev1, evLoad, evStore, evBin, evIf, Zab, forall_const, z38, tb, reduceAdd, reduceSub, reduceMul, reduceEqDiff, reduceLeDiff, reduceLT, Nat.reduceBEq, Nat.reduceBNe, ↓reduceIte, reduceIte] at h; obtain ⟨rfl, rfl, rfl, rfl⟩ := h; refine ⟨?_, ?_⟩
      · first | ((with_reducible refine Ob.mk ?_); first | exact trivial | (intros; omega) | ((repeat' first | apply And.intro | (intro a; have b := a; try simp only [zH] at b)) <;> first | assumption | omega | (simp only [zH]; omega))) | skip
      refine Zaa ?_
      repeat' first
        | with_reducible first | apply Zar | apply Zan | apply Zaa | apply Zad | apply Zah | apply Zao | apply Zag | apply Zaj | apply Zaq | apply Zas | apply Zap | apply Zal | apply Zac | apply Zak
        | ((with_reducible refine Zai ?_ ?_); exact rfl) | ((with_reducible refine Zat ?_); refine Zam rfl ?_ ?_ <;> intro hb <;> (try simp only [zH] at hb)) | ((with_reducible refine Zau 4 ?_ ?_); (· exact rfl); (first | refine Zaf htb hmz noSp fF rfl rfl ?_ | refine Zae hmo htb hmz noSp fF rfl rfl (by kernel_rfl) ?_); intro _ _ _ _ h; simp only [zE, evp, evx, ev1, evLoad, evStore, evBin, evIf, Zab, forall_const, z38, tb, reduceAdd, reduceSub, reduceMul, reduceEqDiff, reduceLeDiff, reduceLT, Nat.reduceBEq, Nat.reduceBNe, ↓reduceIte, reduceIte] at h; obtain ⟨rfl, rfl, rfl, rfl⟩ := h; refine ⟨?_, ?_⟩) | ((with_reducible refine Ob.mk ?_); first | exact trivial | (intros; omega) | ((repeat' first | apply And.intro | (intro a; have b := a; try simp only [zH] at b)) <;> first | assumption | omega | (simp only [zH]; omega)))
      refine Zc5 rfl ?_
      refine Zcc (l1 := [_]) (l2 := [_, _]) ?_
      refine Zbb htb hmz noSp fF rfl rfl rfl ?_; intro _ _ _ _ h; simp only [zE, evp, evx, ev1, evLoad, evStore, evBin, evIf, Zab, forall_const, z38, tb, reduceAdd, reduceSub, reduceMul, reduceEqDiff, reduceLeDiff, reduceLT, Nat.reduceBEq, Nat.reduceBNe, ↓reduceIte, reduceIte] at h; obtain ⟨rfl, rfl, rfl, rfl⟩ := h; refine ⟨?_, Zaa ?_⟩
      · first | ((with_reducible refine Ob.mk ?_); first | exact trivial | (intros; omega) | ((repeat' first | apply And.intro | (intro a; have b := a; try simp only [zH] at b)) <;> first | assumption | omega | (simp only [zH]; omega))) | skip
      refine Zcc (l1 := [_]) (l2 := [_]) ?_
      refine awpL_callB hl3 rfl rfl rfl rfl rfl hmU rfl ?_
      intro gm gv gr hq m' e' l' h
      rcases hq with ⟨hno, hq⟩ | ⟨s, l, u, hcp, hsy, hq⟩
      · simp only [GR.mk.injEq] at hq; obtain ⟨rfl, rfl, rfl⟩ := hq; simp only [rhoC, outR, renR, dels, zE, evp, evx, ev1, evLoad, evStore, evBin, evIf, Zab, forall_const, z38, tb, reduceAdd, reduceSub, reduceMul, reduceEqDiff, reduceLeDiff, reduceLT, Nat.reduceBEq, Nat.reduceBNe, ↓reduceIte, reduceIte] at h; obtain ⟨rfl, rfl, rfl⟩ := h; refine Zaa ?_
        refine Zbb htb hmz noSp fF rfl rfl rfl ?_; intro _ _ _ _ h; simp only [zE, evp, evx, ev1, evLoad, evStore, evBin, evIf, Zab, forall_const, z38, tb, reduceAdd, reduceSub, reduceMul, reduceEqDiff, reduceLeDiff, reduceLT, Nat.reduceBEq, Nat.reduceBNe, ↓reduceIte, reduceIte] at h; obtain ⟨rfl, rfl, rfl, rfl⟩ := h; refine ⟨?_, ?_⟩
        · first | ((with_reducible refine Ob.mk ?_); first | exact trivial | (intros; omega) | ((repeat' first | apply And.intro | (intro a; have b := a; try simp only [zH] at b)) <;> first | assumption | omega | (simp only [zH]; omega))) | skip
        refine Zaa ?_
        repeat' first
          | with_reducible first | apply Zar | apply Zan | apply Zaa | apply Zad | apply Zah | apply Zao | apply Zag | apply Zaj | apply Zaq | apply Zas | apply Zap | apply Zal | apply Zac | apply Zak
          | ((with_reducible refine Zai ?_ ?_); exact rfl) | ((with_reducible refine Zat ?_); refine Zam rfl ?_ ?_ <;> intro hb <;> (try simp only [zH] at hb)) | ((with_reducible refine Zau 5 ?_ ?_); (· exact rfl); (first | refine Zaf htb hmz noSp fF rfl rfl ?_ | refine Zae hmo htb hmz noSp fF rfl rfl (by kernel_rfl) ?_); intro _ _ _ _ h; simp only [zE, evp, evx, ev1, evLoad, evStore, evBin, evIf, Zab, forall_const, z38, tb, reduceAdd, reduceSub, reduceMul, reduceEqDiff, reduceLeDiff, reduceLT, Nat.reduceBEq, Nat.reduceBNe, ↓reduceIte, reduceIte] at h; obtain ⟨rfl, rfl, rfl, rfl⟩ := h; refine ⟨?_, ?_⟩) | ((with_reducible refine Ob.mk ?_); first | exact trivial | (intros; omega) | ((repeat' first | apply And.intro | (intro a; have b := a; try simp only [zH] at b)) <;> first | assumption | omega | (simp only [zH]; omega)))
        refine Zeb ([_]) ([]) rfl rfl ?_
        refine Zbb htb hmz noSp fF rfl rfl rfl ?_; intro _ _ _ _ h; simp only [zE, evp, evx, ev1, evLoad, evStore, evBin, evIf, Zab, forall_const, z38, tb, reduceAdd, reduceSub, reduceMul, reduceEqDiff, reduceLeDiff, reduceLT, Nat.reduceBEq, Nat.reduceBNe, ↓reduceIte, reduceIte] at h; obtain ⟨rfl, rfl, rfl, rfl⟩ := h; refine ⟨?_, Zaa ?_⟩
        · first | ((with_reducible refine Ob.mk ?_); first | exact trivial | (intros; omega) | ((repeat' first | apply And.intro | (intro a; have b := a; try simp only [zH] at b)) <;> first | assumption | omega | (simp only [zH]; omega))) | skip
        refine Zcg (opsem_neqif0 rfl Zi1 rfl rfl) rfl rfl (fun c h => by cases h) Za5 (.inl rfl) rfl ?_
        refine Zcl ?_
        refine Zaa ?_
        refine Zcl ?_
        refine Zaa ?_
        dsimp only [putE, setW, reduceAdd]
        repeat' first
          | with_reducible first | apply Zar | apply Zan | apply Zaa | apply Zad | apply Zah | apply Zao | apply Zag | apply Zaj | apply Zaq | apply Zas | apply Zap | apply Zal | apply Zac | apply Zak
          | ((with_reducible refine Zai ?_ ?_); exact rfl) | ((with_reducible refine Zat ?_); refine Zam rfl ?_ ?_ <;> intro hb <;> (try simp only [zH] at hb)) | ((with_reducible refine Za3 ?_); (first | refine Zaf htb hmz noSp fF rfl rfl ?_ | refine Zae hmo htb hmz noSp fF rfl rfl (by kernel_rfl) ?_); intro _ _ _ _ h; simp only [zE, evp, evx, ev1, evLoad, evStore, evBin, evIf, Zab, forall_const, z38, tb, reduceAdd, reduceSub, reduceMul, reduceEqDiff, reduceLeDiff, reduceLT, Nat.reduceBEq, Nat.reduceBNe, ↓reduceIte, reduceIte] at h; obtain ⟨rfl, rfl, rfl, rfl⟩ := h; refine ⟨?_, ?_⟩) | ((with_reducible refine Ob.mk ?_); first | exact trivial | (intros; omega) | ((repeat' first | apply And.intro | (intro a; have b := a; try simp only [zH] at b)) <;> first | assumption | omega | (simp only [zH]; omega)))
        · cases hb
        · refine back 2 [] ?_ ⟨by omega, (fun _ => hI (by omega)), (fun _ => hno)⟩ (by omega)
          (refine ⟨rfl, ?_, ?_⟩ <;> simp only [zE, evp, evx, ev1, evLoad, evStore, evBin, evIf, Zab, forall_const, z38, tb, reduceAdd, reduceSub, reduceMul, reduceEqDiff, reduceLeDiff, reduceLT, Nat.reduceBEq, Nat.reduceBNe, ↓reduceIte, reduceIte, zI])
          · rfl
          · intro k hk
            rw [List.mem_singleton.1 hk]; rfl
      · simp only [GR.mk.injEq] at hq; obtain ⟨rfl, rfl, rfl⟩ := hq; simp only [rhoC, outR, renR, dels, zE, evp, evx, ev1, evLoad, evStore, evBin, evIf, Zab, forall_const, z38, tb, reduceAdd, reduceSub, reduceMul, reduceEqDiff, reduceLeDiff, reduceLT, Nat.reduceBEq, Nat.reduceBNe, ↓reduceIte, reduceIte] at h; obtain ⟨rfl, rfl, rfl⟩ := h; refine Zaa ?_
        refine Zbb htb hmz noSp fF rfl rfl rfl ?_; intro _ _ _ _ h; simp only [zE, evp, evx, ev1, evLoad, evStore, evBin, evIf, Zab, forall_const, z38, tb, reduceAdd, reduceSub, reduceMul, reduceEqDiff, reduceLeDiff, reduceLT, Nat.reduceBEq, Nat.reduceBNe, ↓reduceIte, reduceIte] at h; obtain ⟨rfl, rfl, rfl, rfl⟩ := h; refine ⟨?_, ?_⟩
        · first | ((with_reducible refine Ob.mk ?_); first | exact trivial | (intros; omega) | ((repeat' first | apply And.intro | (intro a; have b := a; try simp only [zH] at b)) <;> first | assumption | omega | (simp only [zH]; omega))) | skip
        refine Zaa ?_
        repeat' first
          | with_reducible first | apply Zar | apply Zan | apply Zaa | apply Zad | apply Zah | apply Zao | apply Zag | apply Zaj | apply Zaq | apply Zas | apply Zap | apply Zal | apply Zac | apply Zak
          | ((with_reducible refine Zai ?_ ?_); exact rfl) | ((with_reducible refine Zat ?_); refine Zam rfl ?_ ?_ <;> intro hb <;> (try simp only [zH] at hb)) | ((with_reducible refine Zau 5 ?_ ?_); (· exact rfl); (first | refine Zaf htb hmz noSp fF rfl rfl ?_ | refine Zae hmo htb hmz noSp fF rfl rfl (by kernel_rfl) ?_); intro _ _ _ _ h; simp only [zE, evp, evx, ev1, evLoad, evStore, evBin, evIf, Zab, forall_const, z38, tb, reduceAdd, reduceSub, reduceMul, reduceEqDiff, reduceLeDiff, reduceLT, Nat.reduceBEq, Nat.reduceBNe, ↓reduceIte, reduceIte] at h; obtain ⟨rfl, rfl, rfl, rfl⟩ := h; refine ⟨?_, ?_⟩) | ((with_reducible refine Ob.mk ?_); first | exact trivial | (intros; omega) | ((repeat' first | apply And.intro | (intro a; have b := a; try simp only [zH] at b)) <;> first | assumption | omega | (simp only [zH]; omega)))
        refine Zeb ([_]) ([]) rfl rfl ?_
        refine Zbb htb hmz noSp fF rfl rfl rfl ?_; intro _ _ _ _ h; simp only [zE, evp, evx, ev1, evLoad, evStore, evBin, evIf, Zab, forall_const, z38, tb, reduceAdd, reduceSub, reduceMul, reduceEqDiff, reduceLeDiff, reduceLT, Nat.reduceBEq, Nat.reduceBNe, ↓reduceIte, reduceIte] at h; obtain ⟨rfl, rfl, rfl, rfl⟩ := h; refine ⟨?_, Zaa ?_⟩
        · first | ((with_reducible refine Ob.mk ?_); first | exact trivial | (intros; omega) | ((repeat' first | apply And.intro | (intro a; have b := a; try simp only [zH] at b)) <;> first | assumption | omega | (simp only [zH]; omega))) | skip
        refine Zcg (opsem_neqif (u := u) (t2 := 65) rfl Zi1 rfl rfl) rfl rfl (fun c h => by cases h) (Za9 rfl) (.inl rfl) rfl ?_
        refine Zcl ?_
        refine Zaa ?_
        refine Zcl ?_
        refine Zaa ?_
        dsimp only [putE, setW, reduceAdd]
        repeat' first
          | with_reducible first | apply Zar | apply Zan | apply Zaa | apply Zad | apply Zah | apply Zao | apply Zag | apply Zaj | apply Zaq | apply Zas | apply Zap | apply Zal | apply Zac | apply Zak
          | ((with_reducible refine Zai ?_ ?_); exact rfl) | ((with_reducible refine Zat ?_); refine Zam rfl ?_ ?_ <;> intro hb <;> (try simp only [zH] at hb)) | ((with_reducible refine Za3 ?_); (first | refine Zaf htb hmz noSp fF rfl rfl ?_ | refine Zae hmo htb hmz noSp fF rfl rfl (by kernel_rfl) ?_); intro _ _ _ _ h; simp only [zE, evp, evx, ev1, evLoad, evStore, evBin, evIf, Zab, forall_const, z38, tb, reduceAdd, reduceSub, reduceMul, reduceEqDiff, reduceLeDiff, reduceLT, Nat.reduceBEq, Nat.reduceBNe, ↓reduceIte, reduceIte] at h; obtain ⟨rfl, rfl, rfl, rfl⟩ := h; refine ⟨?_, ?_⟩) | ((with_reducible refine Ob.mk ?_); first | exact trivial | (intros; omega) | ((repeat' first | apply And.intro | (intro a; have b := a; try simp only [zH] at b)) <;> first | assumption | omega | (simp only [zH]; omega)))
        · refine Zaz rfl rfl (Zdc ⟨1, .own 0, [(0, some (errU u))]⟩ [(0, 14)] (.inr ⟨_, _, _, hcp, hsy, rfl⟩) rfl (Zbz rfl) ?_)
          simp only [grR, errU, zE, evp, evx, ev1, evLoad, evStore, evBin, evIf, Zab, forall_const, z38, tb, reduceAdd, reduceSub, reduceMul, reduceEqDiff, reduceLeDiff, reduceLT, Nat.reduceBEq, Nat.reduceBNe, ↓reduceIte, reduceIte]
          intro k hk
          rw [List.mem_singleton.1 hk]; rfl
        · cases hb
  · have hie : i = 2 := by omega
    subst hie
    repeat' first
      | with_reducible first | apply Zar | apply Zan | apply Zaa | apply Zad | apply Zah | apply Zao | apply Zag | apply Zaj | apply Zaq | apply Zas | apply Zap | apply Zal | apply Zac | apply Zak
      | ((with_reducible refine Zai ?_ ?_); exact rfl) | ((with_reducible refine Zat ?_); refine Zam rfl ?_ ?_ <;> intro hb <;> (try simp only [zH] at hb)) | ((with_reducible refine Za3 ?_); (first | refine Zaf htb hmz noSp fF rfl rfl ?_ | refine Zae hmo htb hmz noSp fF rfl rfl (by kernel_rfl) ?_); intro _ _ _ _ h; simp only [zE, evp, evx, ev1, evLoad, evStore, evBin, evIf, Zab, forall_const, z38, tb, reduceAdd, reduceSub, reduceMul, reduceEqDiff, reduceLeDiff, reduceLT, Nat.reduceBEq, Nat.reduceBNe, ↓reduceIte, reduceIte] at h; obtain ⟨rfl, rfl, rfl, rfl⟩ := h; refine ⟨?_, ?_⟩) | ((with_reducible refine Ob.mk ?_); first | exact trivial | (intros; omega) | ((repeat' first | apply And.intro | (intro a; have b := a; try simp only [zH] at b)) <;> first | assumption | omega | (simp only [zH]; omega)))
    refine Zaz rfl rfl (Zdc ⟨0, .cst .nilIface, []⟩ [] (.inl ⟨hrs (hI (by omega)) (hJ (by omega)), rfl⟩) rfl (Zbz rfl) trivial)
end Go.Proofs.YtdhoadhkkecjjaaDoor.Cal
namespace Go.Proofs.YtdhoadhkkecjjaaDoor.AsB
open Go Go.Proofs Go.RowKit Go.Extern.Stop Go.Stop Go.Extern
theorem as_nil (t : Value) (w : World) :
    Calls Tryd.prog 29 #[.nilIface, t] w fun e w' => e = .returned (.bool false) ∧ w' = w := by
  go_enter Tryd.func29, Tryd.ntmps29
  go_wp2
  go_ret
  exact ⟨rfl, rfl⟩
theorem valueOf70 (t : Addr) (w : World) : (ReflectliteValue.unpack (.iface 70 (.pointer (some t)))).run Tryd.prog w
    = .ok (.agg #[.pointer (some ⟨1, 70, none⟩), .pointer (some ⟨w.heap.size, 0, none⟩), .int .u64 150]) (w.alloc (.cells #[.pointer (some t)] 70)) := by kernel_rfl
theorem type70 (a : Addr) (w : World) : (ReflectliteValue.methodAny (ReflectliteValue.valueError "reflectlite.Value.Type" 0) (fun t _ _ _ => ReflectliteType.toType t) #[.agg #[.pointer (some ⟨1, 70, none⟩), .pointer (some a), .int .u64 150]]).run Tryd.prog w
    = .ok (.iface 105 (.agg #[.pointer (some ⟨1, 70, none⟩)])) w := by kernel_rfl
theorem kind70 (w : World) : ((ReflectliteType.abiMethod fun t => (fun a : Nat => Value.int IntKind.u8 (a : Int)) <$> Rtype.kind t) #[.pointer (some ⟨1, 70, none⟩)]).run Tryd.prog w = .ok (.int .u8 22) w := by kernel_rfl
theorem kind65 (w : World) : ((ReflectliteType.abiMethod fun t => (fun a : Nat => Value.int IntKind.u8 (a : Int)) <$> Rtype.kind t) #[.pointer (some ⟨1, 65, none⟩)]).run Tryd.prog w = .ok (.int .u8 25) w := by kernel_rfl
theorem rlm (z : Sem Value) (f : TypeId → Addr → Nat → Nat → Sem Value) (v : Value) :
    ReflectliteValue.method z f #[v] = (do match ← ReflectliteValue.parts v with | none => z | some (t, a, fl) => f t a fl (fl % 32)) := rfl
theorem parts70 (a : Addr) (w : World) : (ReflectliteValue.parts (.agg #[.pointer (some ⟨1, 70, none⟩), .pointer (some a), .int .u64 150])).run Tryd.prog w = .ok (some (70, a, 150)) w := by kernel_rfl
theorem isNil70 (a p : Addr) (W : World) (ha : W.cell? a = some (.pointer (some p))) :
    (ReflectliteValue.method (ReflectliteValue.valueError "reflectlite.Value.IsNil" 0) ReflectliteValue.isNil #[.agg #[.pointer (some ⟨1, 70, none⟩), .pointer (some a), .int .u64 150]]).run Tryd.prog W = .ok (.bool false) W := by
  rw [rlm]
  simp only [Sem.run_bind, parts70, Result.andThen]
  simp [ReflectliteValue.isNil, loadVar, isAgg, underlying, Tryd.underlying70, ha, Result.andThen]
theorem elem70 (w : World) : (ReflectliteType.method ReflectliteType.elem #[.agg #[.pointer (some ⟨1, 70, none⟩)]]).run Tryd.prog w = .ok (.iface 105 (.agg #[.pointer (some ⟨1, 65, none⟩)])) w := by kernel_rfl
theorem implements65 (w : World) : (ReflectliteType.relation "Implements" ReflectliteType.implements_ #[.agg #[.pointer (some ⟨1, 65, none⟩)], .iface 105 (.agg #[.pointer (some ⟨1, 68, none⟩)])]).run Tryd.prog w = .ok (.bool true) w := by kernel_rfl
theorem typeOf65 (v : Value) (w : World) : (ReflectliteType.typeOf #[.iface 65 v]).run Tryd.prog w = .ok (.iface 105 (.agg #[.pointer (some ⟨1, 65, none⟩)])) w := by kernel_rfl
theorem assignable65 (w : World) : (ReflectliteType.relation "AssignableTo" ReflectliteType.assignableTo #[.agg #[.pointer (some ⟨1, 65, none⟩)], .iface 105 (.agg #[.pointer (some ⟨1, 65, none⟩)])]).run Tryd.prog w = .ok (.bool true) w := by kernel_rfl
theorem valueOf65 (x y : Value) (w : World) : (ReflectliteValue.unpack (.iface 65 (.agg #[x, y]))).run Tryd.prog w
    = .ok (.agg #[.pointer (some ⟨1, 65, none⟩), .pointer (some ⟨w.heap.size, 0, none⟩), .int .u64 153]) (w.alloc (.cells #[x, y] 65)) := by kernel_rfl
theorem elemOf70 (w : World) : (Rtype.elem? 70).run Tryd.prog w = .ok (some 65) w := by kernel_rfl
theorem mk65 (p : Addr) (w : World) : (ReflectliteValue.mk 65 p ReflectliteValue.flagAddr).run Tryd.prog w = .ok (.agg #[.pointer (some ⟨1, 65, none⟩), .pointer (some p), .int .u64 409]) w := by kernel_rfl
theorem elemV70 (a p : Addr) (W : World) (ha : W.cell? a = some (.pointer (some p))) :
    (ReflectliteValue.method (ReflectliteValue.valueError "reflectlite.Value.Elem" 0) ReflectliteValue.elem #[.agg #[.pointer (some ⟨1, 70, none⟩), .pointer (some a), .int .u64 150]]).run Tryd.prog W
      = .ok (.agg #[.pointer (some ⟨1, 65, none⟩), .pointer (some p), .int .u64 409]) W := by
  rw [rlm]
  simp only [Sem.run_bind, parts70, Result.andThen]
  simp [ReflectliteValue.elem, loadVar, isAgg, underlying, Tryd.underlying70, ha, Result.andThen, elemOf70, mk65]
theorem rls (v x : Value) : ReflectliteValue.set #[v, x] = (do
    let (some (dst, a, fl), some (src, b, _)) := (← ReflectliteValue.parts v, ← ReflectliteValue.parts x)
      | unsupported (.noEntry "extern/(internal/reflectlite.Value).Set.zeroValue")
    if fl / ReflectliteValue.flagAddr % 2 == 0 then unsupported (.noEntry "extern/(internal/reflectlite.Value).Set.unaddressable")
    let val ← loadVar src b
    if ← Rtype.directlyAssignable dst src then storeVar dst a val
    else if ← Rtype.implements dst src then
      if (← Rtype.kind src) == 20 then
        match val with
        | .nilIface => unsupported (.noEntry "extern/reflectlite: a nil value of one interface type handed on as a value of another")
        | _ => storeVar dst a val
      else storeVar dst a (.iface src val)
    else panicString ("reflectlite.Set: value of type " ++ (← Rtype.spelt src) ++ " is not assignable to type " ++ (← Rtype.spelt dst))
    pure (.tuple #[])) := rfl
theorem parts65a (a : Addr) (w : World) : (ReflectliteValue.parts (.agg #[.pointer (some ⟨1, 65, none⟩), .pointer (some a), .int .u64 409])).run Tryd.prog w = .ok (some (65, a, 409)) w := by kernel_rfl
theorem parts65 (a : Addr) (w : World) : (ReflectliteValue.parts (.agg #[.pointer (some ⟨1, 65, none⟩), .pointer (some a), .int .u64 153])).run Tryd.prog w = .ok (some (65, a, 153)) w := by kernel_rfl
theorem direct65 (w : World) : (Rtype.directlyAssignable 65 65).run Tryd.prog w = .ok true w := by kernel_rfl
theorem set65 (ta b : Addr) (x y o1 o2 : Value) (W : World) (hx : x.oneCell' = true) (hy : y.oneCell' = true) (hb : W.cell? b = some x) (hb1 : W.cell? (b.add 1) = some y) (ht : W.cell? ta = some o1) (ht1 : (W.setCell ta x).cell? (ta.add 1) = some o2) (hf : W.frozen? ta = false) (hf1 : (W.setCell ta x).frozen? (ta.add 1) = false) :
    (ReflectliteValue.set #[.agg #[.pointer (some ⟨1, 65, none⟩), .pointer (some ta), .int .u64 409], .agg #[.pointer (some ⟨1, 65, none⟩), .pointer (some b), .int .u64 153]]).run Tryd.prog W
      = .ok (.tuple #[]) ((W.setCell ta x).setCell (ta.add 1) y) := by
  have e0 : ∀ a : Addr, a.add 0 = a := fun a => rfl
  rw [rls]
  simp only [Sem.run_bind, parts65a, parts65, Result.andThen]
  simp [ReflectliteValue.flagAddr, loadVar, loadCells, loadCellsFrom, Tryd.isAgg65, Tryd.sizeOf65, e0, hb, hb1, Result.andThen, direct65, storeVar, Value.cells, storeCells]
  rw [Go.run_store Tryd.prog W ta _ _ hx]
  simp [ht, hf]
  rw [Go.run_store Tryd.prog _ _ _ _ hy]
  simp [ht1, hf1]
abbrev asW (w : World) (t : Addr) (x y : Value) : World := (((w.alloc (.cells #[.pointer (some t)] 70)).alloc (.cells #[.pointer (some ⟨1, 70, none⟩), .pointer (some ⟨w.heap.size, 0, none⟩), .int .u64 150] 90)).alloc (.cells #[.pointer (some ⟨1, 70, none⟩), .pointer (some ⟨w.heap.size, 0, none⟩), .int .u64 150] 90)).alloc (.cells #[x, y] 65)
theorem methodKind (h : Value) (w : World) : (Go.method 253 105 (.agg #[h]) "Kind").run Tryd.prog w = .ok (80, h) w := by kernel_rfl
theorem methodElem (h : Value) (w : World) : (Go.method 253 105 (.agg #[h]) "Elem").run Tryd.prog w = .ok (90, .agg #[h]) w := by kernel_rfl
theorem methodImplements (h : Value) (w : World) : (Go.method 253 105 (.agg #[h]) "Implements").run Tryd.prog w = .ok (91, .agg #[h]) w := by kernel_rfl
theorem methodAssignableTo (h : Value) (w : World) : (Go.method 253 105 (.agg #[h]) "AssignableTo").run Tryd.prog w = .ok (88, .agg #[h]) w := by kernel_rfl
set_option maxRecDepth 20000 in
set_option maxHeartbeats 4000000 in
theorem as_hit (x y : Value) (t : Addr) (o1 o2 : Value) (w : World) (hx : x.oneCell' = true) (hy : y.oneCell' = true) (hg : w.cell? ⟨0, 0, none⟩ = some (.iface 105 (.agg #[.pointer (some ⟨1, 68, none⟩)]))) (htl : t.block < w.heap.size)
    (ht : (asW w t x y).cell? t = some o1) (ht1 : ((asW w t x y).setCell t x).cell? (t.add 1) = some o2) (hf : (asW w t x y).frozen? t = false) (hf1 : ((asW w t x y).setCell t x).frozen? (t.add 1) = false) (ht0 : w.cell? t = some o1) :
    Calls Tryd.prog 29 #[.iface 65 (.agg #[x, y]), .iface 70 (.pointer (some t))] w fun ev w' => ev = .returned (.bool true) ∧ w' = ((asW w t x y).setCell t x).setCell (t.add 1) y := by
  have h48 := @run_callFunc_extern Tryd.prog 48 _ (fun args => ReflectliteValue.unpack (args.getD 0 (.tuple #[]))) Tryd.func48 (by kernel_rfl) (by kernel_rfl) (by kernel_rfl) (by kernel_rfl)
  have h49 := @run_callFunc_extern Tryd.prog 49 _ (ReflectliteValue.methodAny (ReflectliteValue.valueError "reflectlite.Value.Type" 0) (fun t _ _ _ => ReflectliteType.toType t)) Tryd.func49 (by kernel_rfl) (by kernel_rfl) (by kernel_rfl) (by kernel_rfl)
  have h50 := @run_callFunc_extern Tryd.prog 50 _ (ReflectliteValue.method (ReflectliteValue.valueError "reflectlite.Value.IsNil" 0) ReflectliteValue.isNil) Tryd.func50 (by kernel_rfl) (by kernel_rfl) (by kernel_rfl) (by kernel_rfl)
  have h80 := @run_callFunc_extern Tryd.prog 80 _ (ReflectliteType.abiMethod fun t => do pure (.int .u8 (← Rtype.kind t))) Tryd.func80 (by kernel_rfl) (by kernel_rfl) (by kernel_rfl) (by kernel_rfl)
  have h90 := @run_callFunc_extern Tryd.prog 90 _ (ReflectliteType.method ReflectliteType.elem) Tryd.func90 (by kernel_rfl) (by kernel_rfl) (by kernel_rfl) (by kernel_rfl)
  have h91 := @run_callFunc_extern Tryd.prog 91 _ (ReflectliteType.relation "Implements" ReflectliteType.implements_) Tryd.func91 (by kernel_rfl) (by kernel_rfl) (by kernel_rfl) (by kernel_rfl)
  have h59 := @run_callFunc_extern Tryd.prog 59 _ ReflectliteType.typeOf Tryd.func59 (by kernel_rfl) (by kernel_rfl) (by kernel_rfl) (by kernel_rfl)
  have h88 := @run_callFunc_extern Tryd.prog 88 _ (ReflectliteType.relation "AssignableTo" ReflectliteType.assignableTo) Tryd.func88 (by kernel_rfl) (by kernel_rfl) (by kernel_rfl) (by kernel_rfl)
  have h60 := @run_callFunc_extern Tryd.prog 60 _ (ReflectliteValue.method (ReflectliteValue.valueError "reflectlite.Value.Elem" 0) ReflectliteValue.elem) Tryd.func60 (by kernel_rfl) (by kernel_rfl) (by kernel_rfl) (by kernel_rfl)
  have h61 := @run_callFunc_extern Tryd.prog 61 _ ReflectliteValue.set Tryd.func61 (by kernel_rfl) (by kernel_rfl) (by kernel_rfl) (by kernel_rfl)
  have tO := typeOf65
  have mA := methodAssignableTo
  have a65 := assignable65
  have v65 := valueOf65
  have f6 := valueOf70
  have f7 := type70
  have mK := methodKind
  have mE := methodElem
  have mI := methodImplements
  have k70 := kind70
  have k65 := kind65
  have e70 := elem70
  have i65 := implements65
  have n8 := isNil70 ⟨w.heap.size, 0, none⟩ t ((w.alloc (.cells #[.pointer (some t)] 70)).alloc (.cells #[.pointer (some ⟨1, 70, none⟩), .pointer (some ⟨w.heap.size, 0, none⟩), .int .u64 150] 90)) (by simp)
  have hlt : 0 < w.heap.size := by omega
  have hg2 : ((w.alloc (.cells #[.pointer (some t)] 70)).alloc (.cells #[.pointer (some ⟨1, 70, none⟩), .pointer (some ⟨w.heap.size, 0, none⟩), .int .u64 150] 90)).cell? ⟨0, 0, none⟩ = some (.iface 105 (.agg #[.pointer (some ⟨1, 68, none⟩)])) := by
    rw [World.cell?_alloc_lt _ _ ⟨0, 0, none⟩ (by simp), World.cell?_alloc_lt _ _ ⟨0, 0, none⟩ hlt]; exact hg
  have el := elemV70 ⟨w.heap.size, 0, none⟩ t (((w.alloc (.cells #[.pointer (some t)] 70)).alloc (.cells #[.pointer (some ⟨1, 70, none⟩), .pointer (some ⟨w.heap.size, 0, none⟩), .int .u64 150] 90)).alloc (.cells #[.pointer (some ⟨1, 70, none⟩), .pointer (some ⟨w.heap.size, 0, none⟩), .int .u64 150] 90)) (by rw [World.cell?_alloc_lt _ _ ⟨w.heap.size, 0, none⟩ (by simp; omega)]; simp)
  have st := set65 t ⟨w.heap.size + 1 + 1 + 1, 0, none⟩ x y o1 o2 (asW w t x y) hx hy
    (by rw [World.cell?_alloc_at _ _ _ _ (by simp)]; rfl) (by show (asW w t x y).cell? ⟨w.heap.size + 1 + 1 + 1, 1, none⟩ = _; rw [World.cell?_alloc_at _ _ _ _ (by simp)]; rfl) ht ht1 hf hf1
  go_enter Tryd.func29, Tryd.ntmps29
  go_wp2
  refine wp_loop_rounds 1 ?_
  rw [rounds_succ]
  go_wp2
  go_ret
  exact ⟨rfl, rfl⟩
end Go.Proofs.YtdhoadhkkecjjaaDoor.AsB
