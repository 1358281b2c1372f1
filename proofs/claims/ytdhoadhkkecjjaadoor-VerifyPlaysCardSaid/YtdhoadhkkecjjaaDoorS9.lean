/- Own texts, merged. -/
import Derived.WideLaws
import Derived.WalkSpells
import Derived.Test.YtdhoadhkkecjjaaDoorS8
set_option linter.unusedVariables false
set_option linter.unusedSimpArgs false
open Nat (reduceAdd reduceSub reduceMul reduceEqDiff reduceLeDiff reduceLT)
namespace Go.Proofs.YtdhoadhkkecjjaaDoor.Cal
open Go Pl
set_option maxRecDepth 4000 in
set_option maxHeartbeats 4000000 in
theorem vwon_ok : Zb2 Tryd.prog 40 wonS := by
  refine Za8 htb (fn := Tryd.f40) (by kernel_rfl) (by kernel_rfl) rfl (fun args r hS => ?_) (fun args r hS hob hl => ?_)
  · unfold wonS at hS; split at hS <;> first | (cases hS; done) | (cases hS; exact Nat.le_of_ble_eq_true rfl)
  unfold wonS at hS
  split at hS
  case h_2 => cases hS
  rename_i o p x s lp
  simp only [Option.some.injEq] at hS
  subst hS
  simp only [lenP, mkL, lim] at hl
  dsimp only at hob
  repeat' first
    | with_reducible first | apply Zar | apply Zan | apply Zaa | apply Zac | apply Zah | apply Zap | apply Zag | apply Zaj | apply Zaq | apply Zas | apply Zao | apply Zal | apply Zab | apply Zak
    | ((with_reducible refine Zai ?_ ?_); exact rfl) | ((with_reducible refine Zat ?_); refine Zam rfl ?_ ?_ <;> intro hb <;> (try simp only [zH] at hb)) | ((with_reducible refine Zaz ?_); (first | refine Zaf htb hmz noSp fF rfl rfl ?_ | refine Zae hmo htb hmz noSp fF rfl rfl (by kernel_rfl) ?_); intro _ _ _ _ h; simp only [zE, evp, evx, ev1, evLoad, evStore, evBin, evIf, Zad, forall_const, z38, tb, reduceAdd, reduceSub, reduceMul, reduceEqDiff, reduceLeDiff, reduceLT, Nat.reduceBEq, Nat.reduceBNe, ↓reduceIte, reduceIte] at h; obtain ⟨rfl, rfl, rfl, rfl⟩ := h; refine ⟨?_, ?_⟩) | ((with_reducible refine Ob.mk ?_); first | exact trivial | (intros; omega) | ((repeat' first | apply And.intro | (intro a; have b := a; try simp only [zH] at b)) <;> first | assumption | omega | (simp only [zH]; omega)))
  have hf0 : ((lp.take 0).foldl (fun a v => max a (p.getD v.toNat 0)) 0) = 0 := rfl
  have hfn := fun i (hi : i < lp.length) => (show (lp.take (i + 1)).foldl (fun a v => max a (p.getD v.toNat 0)) 0 = max ((lp.take i).foldl (fun a v => max a (p.getD v.toNat 0)) 0) (p.getD (lp.getD i 0).toNat 0) by rw [take1 (d := 0) hi, List.foldl_append]; rfl)
  have hfb := Zfp (f := fun v => p.getD v.toNat 0) (l := lp) (Int.le_refl 0)
  refine Za5 (τ := Nat) (fun i => i ≤ lp.length) (fun i => ⟨8, [(11, .int .i64 i), (10, .int .i64 lp.length), (9, .roI lp), (5, .int .i64 ((lp.take i).foldl (fun a v => max a (p.getD v.toNat 0)) 0)), (3, .rop (.agg (.cons (.roI s) (.cons (.roI lp) .nil)))), (2, .rop (.agg (.cons (.roI o) (.cons (.roI p) (.cons (.roII x) .nil)))))], [], []⟩) (fun i => lp.length - i) 0 [] ?_ (Nat.zero_le _) ?_
  · (refine ⟨rfl, ?_, ?_⟩ <;> simp only [zE, evp, evx, ev1, evLoad, evStore, evBin, evIf, Zad, forall_const, z38, tb, reduceAdd, reduceSub, reduceMul, reduceEqDiff, reduceLeDiff, reduceLT, Nat.reduceBEq, Nat.reduceBNe, ↓reduceIte, reduceIte, zI])
    rfl
  intro i hi
  have hob1 := hob i
  have hfn1 := hfn i
  repeat' first
    | with_reducible first | apply Zar | apply Zan | apply Zaa | apply Zac | apply Zah | apply Zap | apply Zag | apply Zaj | apply Zaq | apply Zas | apply Zao | apply Zal | apply Zab | apply Zak
    | ((with_reducible refine Zai ?_ ?_); exact rfl) | ((with_reducible refine Zat ?_); refine Zam rfl ?_ ?_ <;> intro hb <;> (try simp only [zH] at hb)) | ((with_reducible refine Zau 4 ?_ ?_); (· exact rfl); (with_reducible refine Zau 7 ?_ ?_); (· exact rfl); (first | refine Zaf htb hmz noSp fF rfl rfl ?_ | refine Zae hmo htb hmz noSp fF rfl rfl (by kernel_rfl) ?_); intro _ _ _ _ h; simp only [zE, evp, evx, ev1, evLoad, evStore, evBin, evIf, Zad, forall_const, z38, tb, reduceAdd, reduceSub, reduceMul, reduceEqDiff, reduceLeDiff, reduceLT, Nat.reduceBEq, Nat.reduceBNe, ↓reduceIte, reduceIte] at h; obtain ⟨rfl, rfl, rfl, rfl⟩ := h; refine ⟨?_, ?_⟩) | ((with_reducible refine Ob.mk ?_); first | exact trivial | (intros; omega) | ((repeat' first | apply And.intro | (intro a; have b := a; try simp only [zH] at b)) <;> first | assumption | omega | (simp only [zH]; omega)))
  · have hil : i < lp.length := by omega
    have hob1 := hob1 hil
    have hfn1 := hfn1 hil
    repeat' first
      | with_reducible first | apply Zar | apply Zan | apply Zaa | apply Zac | apply Zah | apply Zap | apply Zag | apply Zaj | apply Zaq | apply Zas | apply Zao | apply Zal | apply Zab | apply Zak
      | ((with_reducible refine Zai ?_ ?_); exact rfl) | ((with_reducible refine Zat ?_); refine Zam rfl ?_ ?_ <;> intro hb <;> (try simp only [zH] at hb)) | ((with_reducible refine Zaz ?_); (first | refine Zaf htb hmz noSp fF rfl rfl ?_ | refine Zae hmo htb hmz noSp fF rfl rfl (by kernel_rfl) ?_); intro _ _ _ _ h; simp only [zE, evp, evx, ev1, evLoad, evStore, evBin, evIf, Zad, forall_const, z38, tb, reduceAdd, reduceSub, reduceMul, reduceEqDiff, reduceLeDiff, reduceLT, Nat.reduceBEq, Nat.reduceBNe, ↓reduceIte, reduceIte] at h; obtain ⟨rfl, rfl, rfl, rfl⟩ := h; refine ⟨?_, ?_⟩) | ((with_reducible refine Ob.mk ?_); first | exact trivial | (intros; omega) | ((repeat' first | apply And.intro | (intro a; have b := a; try simp only [zH] at b)) <;> first | assumption | omega | (simp only [zH]; omega)))
    refine back (i + 1) [] ?_ (by omega) (by omega)
    (refine ⟨rfl, ?_, ?_⟩ <;> simp only [zE, evp, evx, ev1, evLoad, evStore, evBin, evIf, Zad, forall_const, z38, tb, reduceAdd, reduceSub, reduceMul, reduceEqDiff, reduceLeDiff, reduceLT, Nat.reduceBEq, Nat.reduceBNe, ↓reduceIte, reduceIte, zI])
    exact hfn1
  have hie : i = lp.length := by omega
  subst hie
  rw [List.take_length]
  repeat' first
    | with_reducible first | apply Zar | apply Zan | apply Zaa | apply Zac | apply Zah | apply Zap | apply Zag | apply Zaj | apply Zaq | apply Zas | apply Zao | apply Zal | apply Zab | apply Zak
    | ((with_reducible refine Zai ?_ ?_); exact rfl) | ((with_reducible refine Zat ?_); refine Zam rfl ?_ ?_ <;> intro hb <;> (try simp only [zH] at hb)) | ((with_reducible refine Zaz ?_); (first | refine Zaf htb hmz noSp fF rfl rfl ?_ | refine Zae hmo htb hmz noSp fF rfl rfl (by kernel_rfl) ?_); intro _ _ _ _ h; simp only [zE, evp, evx, ev1, evLoad, evStore, evBin, evIf, Zad, forall_const, z38, tb, reduceAdd, reduceSub, reduceMul, reduceEqDiff, reduceLeDiff, reduceLT, Nat.reduceBEq, Nat.reduceBNe, ↓reduceIte, reduceIte] at h; obtain ⟨rfl, rfl, rfl, rfl⟩ := h; refine ⟨?_, ?_⟩) | ((with_reducible refine Ob.mk ?_); first | exact trivial | (intros; omega) | ((repeat' first | apply And.intro | (intro a; have b := a; try simp only [zH] at b)) <;> first | assumption | omega | (simp only [zH]; omega)))
  refine Zax rfl rfl (Zaw rfl ?_ rfl)
  rfl
def lvB (W L : List Int) (q : Int) (i : Nat) : Bool := (List.range i).any fun j => !decide (W.getD (psP L j) 0 = q)
theorem lvB_s {W L : List Int} {q : Int} {i : Nat} : lvB W L q (i + 1) = (lvB W L q i || !decide (W.getD (psP L i) 0 = q)) := by
  unfold lvB
  rw [List.range_succ, List.any_append]
  simp
theorem lvB_iff {W L : List Int} {q : Int} {i : Nat} : lvB W L q i = true ↔ ∃ j, j < i ∧ W.getD (psP L j) 0 ≠ q := by
  unfold lvB
  simp only [List.any_eq_true, List.mem_range, Bool.not_eq_true', decide_eq_false_iff_not]
noncomputable def agnS : Spec
  | [.agg (.cons (.roI o) (.cons (.roI p) (.cons (.roII x) .nil))), .agg (.cons (.roI w) (.cons (.roI c) .nil)), .agg (.cons (.roI s) (.cons (.roI lp) .nil))] => some ⟨(s.length ≤ 40000 ∧ lp.length ≤ 40000) ∧ Zba ⟨o, p, x⟩ = true ∧ Zbn ⟨o, p, x⟩ w c = true ∧ isP ⟨o, p, x⟩ s lp = true, .bool (Zcr ⟨o, p, x⟩ w c s lp), none⟩
  | _ => none
def spAg : Nat → Option Spec
  | 35 => some allS
  | 36 => some aftS
  | 37 => some wonS
  | _ => none
theorem Zbs : SpOK Tryd.prog spAg := by
  intro f S h
  unfold spAg at h
  split at h
  · cases h; exact all_ok
  · cases h; exact aft_ok
  · cases h; exact won_ok
  · cases h
theorem agn_b {g : Gm} {W C s l : List Int} : Zcr g W C s l = true ↔ (∀ i : Nat, i < (s ++ l).length → g.own.getD (psP (s ++ l) i) 0 = W.getD (psP (s ++ l) 0) 0 ∧ W.getD (psP (s ++ l) i) 0 = W.getD (psP (s ++ l) 0) 0 → aftP (s ++ l) l i = C.getD (psP (s ++ l) i) 0) ∧ (lvB W (s ++ l) (W.getD (psP (s ++ l) 0) 0) (s ++ l).length = true ∨ wonP g l ≠ W.getD (psP (s ++ l) 0) 0) := by
  rw [lvB_iff]
  exact against_iff
set_option maxRecDepth 4000 in
set_option maxHeartbeats 4000000 in
theorem agn_ok : Zb2 Tryd.prog 16 agnS := by
  refine Za8 htb (fn := Tryd.f16) (by kernel_rfl) (by kernel_rfl) rfl (fun args r hS => ?_) (fun args r hS hob hl => ?_)
  · unfold agnS at hS; split at hS <;> first | (cases hS; done) | (cases hS; exact Nat.le_of_ble_eq_true rfl)
  unfold agnS at hS
  split at hS
  case h_2 => cases hS
  rename_i o p x w c s lp
  simp only [Option.some.injEq] at hS
  subst hS
  simp only [lenP, mkL, lim] at hl
  dsimp only at hob
  obtain ⟨⟨h1, h2⟩, hv, hcl, hip⟩ := hob
  have hG := gok (validB_iff.1 hv)
  obtain ⟨hwl, hcl2, _⟩ := of_decide_eq_true hcl
  have hwl : w.length = o.length := hwl
  have hcl2 : c.length = o.length := hcl2
  have hpl : p.length = o.length := hG.pl
  have hn : o.length ≤ 20000 := hG.n
  have hal : (s ++ lp).length = s.length + lp.length := List.length_append ..
  obtain ⟨hne, hat, _⟩ := isP_iff.1 hip
  have hl0 : 0 < lp.length := List.length_pos_iff.2 hne
  have hat : ∀ i, i < (s ++ lp).length → 0 ≤ (s ++ lp).getD i 0 ∧ (s ++ lp).getD i 0 < (o.length : Int) := hat
  have hwl2 : ∀ i, i < lp.length → 0 ≤ lp.getD i 0 ∧ lp.getD i 0 < (p.length : Int) := fun i hi => by
    have := hat (s.length + i) (by omega)
    have e : (s ++ lp).getD (s.length + i) 0 = lp.getD i 0 := by
      rw [List.getD_eq_getElem?_getD, List.getElem?_append_right (by omega), List.getD_eq_getElem?_getD]
      congr 2
      omega
    rw [e] at this
    omega
  have hag := @agn_b ⟨o, p, x⟩ w c s lp
  obtain ⟨R, hR⟩ : ∃ R, Zcr ⟨o, p, x⟩ w c s lp = R := ⟨_, rfl⟩
  rw [hR] at hag ⊢
  repeat' first
    | with_reducible first | apply Zar | apply Zan | apply Zaa | apply Zac | apply Zah | apply Zap | apply Zag | apply Zaj | apply Zaq | apply Zas | apply Zao | apply Zal | apply Zab | apply Zak
    | ((with_reducible refine Zai ?_ ?_); exact rfl) | ((with_reducible refine Zat ?_); refine Zam rfl ?_ ?_ <;> intro hb <;> (try simp only [zH] at hb)) | ((with_reducible refine Zau 2 ?_ ?_); (· exact rfl); (first | refine Zaf htb hmz Zbs fF rfl rfl ?_ | refine Zae hmo htb hmz Zbs fF rfl rfl (by kernel_rfl) ?_); intro _ _ _ _ h; simp only [zE, evp, evx, ev1, evLoad, evStore, evBin, evIf, Zad, forall_const, z38, tb, reduceAdd, reduceSub, reduceMul, reduceEqDiff, reduceLeDiff, reduceLT, Nat.reduceBEq, Nat.reduceBNe, ↓reduceIte, reduceIte, spAg, allS, aftS, wonS] at h; obtain ⟨rfl, rfl, rfl, rfl⟩ := h; refine ⟨?_, ?_⟩) | ((with_reducible refine Ob.mk ?_); first | exact trivial | (intros; omega) | ((repeat' first | apply And.intro | (intro a; have b := a; try simp only [zH] at b)) <;> first | assumption | omega | (simp only [zH]; omega)))
  generalize s ++ lp = L at *
  have hL : L.length ≤ 80000 := by omega
  have h00 := hat 0 (by omega)
  repeat' first
    | with_reducible first | apply Zar | apply Zan | apply Zaa | apply Zac | apply Zah | apply Zap | apply Zag | apply Zaj | apply Zaq | apply Zas | apply Zao | apply Zal | apply Zab | apply Zak
    | ((with_reducible refine Zai ?_ ?_); exact rfl) | ((with_reducible refine Zat ?_); refine Zam rfl ?_ ?_ <;> intro hb <;> (try simp only [zH] at hb)) | ((with_reducible refine Zau 4 ?_ ?_); (· exact rfl); (first | refine Zaf htb hmz Zbs fF rfl rfl ?_ | refine Zae hmo htb hmz Zbs fF rfl rfl (by kernel_rfl) ?_); intro _ _ _ _ h; simp only [zE, evp, evx, ev1, evLoad, evStore, evBin, evIf, Zad, forall_const, z38, tb, reduceAdd, reduceSub, reduceMul, reduceEqDiff, reduceLeDiff, reduceLT, Nat.reduceBEq, Nat.reduceBNe, ↓reduceIte, reduceIte, spAg, allS, aftS, wonS] at h; obtain ⟨rfl, rfl, rfl, rfl⟩ := h; refine ⟨?_, ?_⟩) | ((with_reducible refine Ob.mk ?_); first | exact trivial | (intros; omega) | ((repeat' first | apply And.intro | (intro a; have b := a; try simp only [zH] at b)) <;> first | assumption | omega | (simp only [zH]; omega)))
  simp only [psP] at hag
  obtain ⟨q, hq⟩ : ∃ q, w.getD (L.getD 0 0).toNat 0 = q := ⟨_, rfl⟩
  rw [hq] at hag ⊢
  have hlv : ∀ i, lvB w L q (i + 1) = (lvB w L q i || !decide (w.getD (L.getD i 0).toNat 0 = q)) := fun i => lvB_s
  repeat' first
    | with_reducible first | apply Zar | apply Zan | apply Zaa | apply Zac | apply Zah | apply Zap | apply Zag | apply Zaj | apply Zaq | apply Zas | apply Zao | apply Zal | apply Zab | apply Zak
    | ((with_reducible refine Zai ?_ ?_); exact rfl) | ((with_reducible refine Zat ?_); refine Zam rfl ?_ ?_ <;> intro hb <;> (try simp only [zH] at hb)) | ((with_reducible refine Zaz ?_); (first | refine Zaf htb hmz Zbs fF rfl rfl ?_ | refine Zae hmo htb hmz Zbs fF rfl rfl (by kernel_rfl) ?_); intro _ _ _ _ h; simp only [zE, evp, evx, ev1, evLoad, evStore, evBin, evIf, Zad, forall_const, z38, tb, reduceAdd, reduceSub, reduceMul, reduceEqDiff, reduceLeDiff, reduceLT, Nat.reduceBEq, Nat.reduceBNe, ↓reduceIte, reduceIte, spAg, allS, aftS, wonS] at h; obtain ⟨rfl, rfl, rfl, rfl⟩ := h; refine ⟨?_, ?_⟩) | ((with_reducible refine Ob.mk ?_); first | exact trivial | (intros; omega) | ((repeat' first | apply And.intro | (intro a; have b := a; try simp only [zH] at b)) <;> first | assumption | omega | (simp only [zH]; omega)))
  refine Za5 (τ := Nat) (fun i => i ≤ L.length ∧ ∀ j : Nat, j < i → o.getD (L.getD j 0).toNat 0 = q ∧ w.getD (L.getD j 0).toNat 0 = q → aftP L lp j = c.getD (L.getD j 0).toNat 0) (fun i => ⟨19, [(23, .int .i64 i), (22, .int .i64 L.length), (21, .roI L), (9, .bool (lvB w L q i)), (8, .int .i64 q), (7, .roI L), (5, .rop (.agg (.cons (.roI s) (.cons (.roI lp) .nil)))), (4, .rop (.agg (.cons (.roI w) (.cons (.roI c) .nil)))), (3, .rop (.agg (.cons (.roI o) (.cons (.roI p) (.cons (.roII x) .nil)))))], [], []⟩) (fun i => L.length - i) 0 [] ?_ ⟨Nat.zero_le _, fun j hj => absurd hj (Nat.not_lt_zero j)⟩ ?_
  · (refine ⟨rfl, ?_, ?_⟩ <;> simp only [zE, evp, evx, ev1, evLoad, evStore, evBin, evIf, Zad, forall_const, z38, tb, reduceAdd, reduceSub, reduceMul, reduceEqDiff, reduceLeDiff, reduceLT, Nat.reduceBEq, Nat.reduceBNe, ↓reduceIte, reduceIte, spAg, allS, aftS, wonS, zI])
    rfl
  rintro i ⟨hi, hk⟩
  have hat1 := hat i
  have hlv1 := hlv i
  clear hlv
  repeat' first
    | with_reducible first | apply Zar | apply Zan | apply Zaa | apply Zac | apply Zah | apply Zap | apply Zag | apply Zaj | apply Zaq | apply Zas | apply Zao | apply Zal | apply Zab | apply Zak
    | ((with_reducible refine Zai ?_ ?_); exact rfl) | ((with_reducible refine Zat ?_); refine Zam rfl ?_ ?_ <;> intro hb <;> (try simp only [zH] at hb)) | ((with_reducible refine Zau 7 ?_ ?_); (· exact rfl); (with_reducible refine Zau 12 ?_ ?_); (· exact rfl); (first | refine Zaf htb hmz Zbs fF rfl rfl ?_ | refine Zae hmo htb hmz Zbs fF rfl rfl (by kernel_rfl) ?_); intro _ _ _ _ h; simp only [zE, evp, evx, ev1, evLoad, evStore, evBin, evIf, Zad, forall_const, z38, tb, reduceAdd, reduceSub, reduceMul, reduceEqDiff, reduceLeDiff, reduceLT, Nat.reduceBEq, Nat.reduceBNe, ↓reduceIte, reduceIte, spAg, allS, aftS, wonS] at h; obtain ⟨rfl, rfl, rfl, rfl⟩ := h; refine ⟨?_, ?_⟩) | ((with_reducible refine Ob.mk ?_); first | exact trivial | (intros; omega) | ((repeat' first | apply And.intro | (intro a; have b := a; try simp only [zH] at b)) <;> first | assumption | omega | (simp only [zH]; omega)))
  · have hil : i < L.length := by omega
    have hat1 := hat1 hil
    have hfin : (o.getD (L.getD i 0).toNat 0 = q ∧ w.getD (L.getD i 0).toNat 0 = q) ∧ aftP L lp i ≠ c.getD (L.getD i 0).toNat 0 → R = false := fun h => by
      rw [Bool.eq_false_iff]
      exact fun h2 => h.2 ((hag.1 h2).1 i hil h.1)
    have hnew : ¬ ((o.getD (L.getD i 0).toNat 0 = q ∧ w.getD (L.getD i 0).toNat 0 = q) ∧ aftP L lp i ≠ c.getD (L.getD i 0).toNat 0) → ∀ j : Nat, j < i + 1 → o.getD (L.getD j 0).toNat 0 = q ∧ w.getD (L.getD j 0).toNat 0 = q → aftP L lp j = c.getD (L.getD j 0).toNat 0 := fun h j hj => by
      rcases Nat.lt_succ_iff_lt_or_eq.1 hj with h2 | rfl
      · exact hk j h2
      · exact fun h3 => Classical.byContradiction fun h4 => h ⟨h3, h4⟩
    repeat' first
      | with_reducible first | apply Zar | apply Zan | apply Zaa | apply Zac | apply Zah | apply Zap | apply Zag | apply Zaj | apply Zaq | apply Zas | apply Zao | apply Zal | apply Zab | apply Zak
      | ((with_reducible refine Zai ?_ ?_); exact rfl) | ((with_reducible refine Zat ?_); refine Zam rfl ?_ ?_ <;> intro hb <;> (try simp only [zH] at hb)) | ((with_reducible refine Zau 8 ?_ ?_); (· exact rfl); (with_reducible refine Zau 9 ?_ ?_); (· exact rfl); (first | refine Zaf htb hmz Zbs fF rfl rfl ?_ | refine Zae hmo htb hmz Zbs fF rfl rfl (by kernel_rfl) ?_); intro _ _ _ _ h; simp only [zE, evp, evx, ev1, evLoad, evStore, evBin, evIf, Zad, forall_const, z38, tb, reduceAdd, reduceSub, reduceMul, reduceEqDiff, reduceLeDiff, reduceLT, Nat.reduceBEq, Nat.reduceBNe, ↓reduceIte, reduceIte, spAg, allS, aftS, wonS] at h; obtain ⟨rfl, rfl, rfl, rfl⟩ := h; refine ⟨?_, ?_⟩) | ((with_reducible refine Ob.mk ?_); first | exact trivial | (intros; omega) | ((repeat' first | apply And.intro | (intro a; have b := a; try simp only [zH] at b)) <;> first | assumption | omega | (simp only [zH]; omega)))
    · have hlb := hb
      clear hb
      rw [decide_eq_false hlb, Bool.not_false, Bool.or_true] at hlv1
      repeat' first
        | with_reducible first | apply Zar | apply Zan | apply Zaa | apply Zac | apply Zah | apply Zap | apply Zag | apply Zaj | apply Zaq | apply Zas | apply Zao | apply Zal | apply Zab | apply Zak
        | ((with_reducible refine Zai ?_ ?_); exact rfl) | ((with_reducible refine Zat ?_); refine Zam rfl ?_ ?_ <;> intro hb <;> (try simp only [zH] at hb)) | ((with_reducible refine Zau 9 ?_ ?_); (· exact rfl); (first | refine Zaf htb hmz Zbs fF rfl rfl ?_ | refine Zae hmo htb hmz Zbs fF rfl rfl (by kernel_rfl) ?_); intro _ _ _ _ h; simp only [zE, evp, evx, ev1, evLoad, evStore, evBin, evIf, Zad, forall_const, z38, tb, reduceAdd, reduceSub, reduceMul, reduceEqDiff, reduceLeDiff, reduceLT, Nat.reduceBEq, Nat.reduceBNe, ↓reduceIte, reduceIte, spAg, allS, aftS, wonS] at h; obtain ⟨rfl, rfl, rfl, rfl⟩ := h; refine ⟨?_, ?_⟩) | ((with_reducible refine Ob.mk ?_); first | exact trivial | (intros; omega) | ((repeat' first | apply And.intro | (intro a; have b := a; try simp only [zH] at b)) <;> first | assumption | omega | (simp only [zH]; omega)))
      repeat' first
        | with_reducible first | apply Zar | apply Zan | apply Zaa | apply Zac | apply Zah | apply Zap | apply Zag | apply Zaj | apply Zaq | apply Zas | apply Zao | apply Zal | apply Zab | apply Zak
        | ((with_reducible refine Zai ?_ ?_); exact rfl) | ((with_reducible refine Zat ?_); refine Zam rfl ?_ ?_ <;> intro hb <;> (try simp only [zH] at hb)) | ((with_reducible refine Zau 10 ?_ ?_); (· exact rfl); (with_reducible refine Zau 11 ?_ ?_); (· exact rfl); (first | refine Zaf htb hmz Zbs fF rfl rfl ?_ | refine Zae hmo htb hmz Zbs fF rfl rfl (by kernel_rfl) ?_); intro _ _ _ _ h; simp only [zE, evp, evx, ev1, evLoad, evStore, evBin, evIf, Zad, forall_const, z38, tb, reduceAdd, reduceSub, reduceMul, reduceEqDiff, reduceLeDiff, reduceLT, Nat.reduceBEq, Nat.reduceBNe, ↓reduceIte, reduceIte, spAg, allS, aftS, wonS] at h; obtain ⟨rfl, rfl, rfl, rfl⟩ := h; refine ⟨?_, ?_⟩) | ((with_reducible refine Ob.mk ?_); first | exact trivial | (intros; omega) | ((repeat' first | apply And.intro | (intro a; have b := a; try simp only [zH] at b)) <;> first | assumption | omega | (simp only [zH]; omega)))
      · rw [hfin hb]
        repeat' first
          | with_reducible first | apply Zar | apply Zan | apply Zaa | apply Zac | apply Zah | apply Zap | apply Zag | apply Zaj | apply Zaq | apply Zas | apply Zao | apply Zal | apply Zab | apply Zak
          | ((with_reducible refine Zai ?_ ?_); exact rfl) | ((with_reducible refine Zat ?_); refine Zam rfl ?_ ?_ <;> intro hb <;> (try simp only [zH] at hb)) | ((with_reducible refine Zaz ?_); (first | refine Zaf htb hmz Zbs fF rfl rfl ?_ | refine Zae hmo htb hmz Zbs fF rfl rfl (by kernel_rfl) ?_); intro _ _ _ _ h; simp only [zE, evp, evx, ev1, evLoad, evStore, evBin, evIf, Zad, forall_const, z38, tb, reduceAdd, reduceSub, reduceMul, reduceEqDiff, reduceLeDiff, reduceLT, Nat.reduceBEq, Nat.reduceBNe, ↓reduceIte, reduceIte, spAg, allS, aftS, wonS] at h; obtain ⟨rfl, rfl, rfl, rfl⟩ := h; refine ⟨?_, ?_⟩) | ((with_reducible refine Ob.mk ?_); first | exact trivial | (intros; omega) | ((repeat' first | apply And.intro | (intro a; have b := a; try simp only [zH] at b)) <;> first | assumption | omega | (simp only [zH]; omega)))
        refine Zax rfl rfl (Zaw rfl ?_ rfl)
        rfl
      · have hb2 := hnew (by
          rintro ⟨⟨h1, h2⟩, h3⟩
          rcases hb with (h | h) | h
          · exact h h1
          · exact h h2
          · exact h3 h)
        repeat' first
          | with_reducible first | apply Zar | apply Zan | apply Zaa | apply Zac | apply Zah | apply Zap | apply Zag | apply Zaj | apply Zaq | apply Zas | apply Zao | apply Zal | apply Zab | apply Zak
          | ((with_reducible refine Zai ?_ ?_); exact rfl) | ((with_reducible refine Zat ?_); refine Zam rfl ?_ ?_ <;> intro hb <;> (try simp only [zH] at hb)) | ((with_reducible refine Zaz ?_); (first | refine Zaf htb hmz Zbs fF rfl rfl ?_ | refine Zae hmo htb hmz Zbs fF rfl rfl (by kernel_rfl) ?_); intro _ _ _ _ h; simp only [zE, evp, evx, ev1, evLoad, evStore, evBin, evIf, Zad, forall_const, z38, tb, reduceAdd, reduceSub, reduceMul, reduceEqDiff, reduceLeDiff, reduceLT, Nat.reduceBEq, Nat.reduceBNe, ↓reduceIte, reduceIte, spAg, allS, aftS, wonS] at h; obtain ⟨rfl, rfl, rfl, rfl⟩ := h; refine ⟨?_, ?_⟩) | ((with_reducible refine Ob.mk ?_); first | exact trivial | (intros; omega) | ((repeat' first | apply And.intro | (intro a; have b := a; try simp only [zH] at b)) <;> first | assumption | omega | (simp only [zH]; omega)))
        refine back (i + 1) [] ?_ ⟨by omega, hb2⟩ (by omega)
        (refine ⟨rfl, ?_, ?_⟩ <;> simp only [zE, evp, evx, ev1, evLoad, evStore, evBin, evIf, Zad, forall_const, z38, tb, reduceAdd, reduceSub, reduceMul, reduceEqDiff, reduceLeDiff, reduceLT, Nat.reduceBEq, Nat.reduceBNe, ↓reduceIte, reduceIte, spAg, allS, aftS, wonS, zI])
        rw [hlv1]
    · have hlb := hb
      clear hb
      rw [decide_eq_true hlb, Bool.not_true, Bool.or_false] at hlv1
      repeat' first
        | with_reducible first | apply Zar | apply Zan | apply Zaa | apply Zac | apply Zah | apply Zap | apply Zag | apply Zaj | apply Zaq | apply Zas | apply Zao | apply Zal | apply Zab | apply Zak
        | ((with_reducible refine Zai ?_ ?_); exact rfl) | ((with_reducible refine Zat ?_); refine Zam rfl ?_ ?_ <;> intro hb <;> (try simp only [zH] at hb)) | ((with_reducible refine Zau 10 ?_ ?_); (· exact rfl); (with_reducible refine Zau 11 ?_ ?_); (· exact rfl); (first | refine Zaf htb hmz Zbs fF rfl rfl ?_ | refine Zae hmo htb hmz Zbs fF rfl rfl (by kernel_rfl) ?_); intro _ _ _ _ h; simp only [zE, evp, evx, ev1, evLoad, evStore, evBin, evIf, Zad, forall_const, z38, tb, reduceAdd, reduceSub, reduceMul, reduceEqDiff, reduceLeDiff, reduceLT, Nat.reduceBEq, Nat.reduceBNe, ↓reduceIte, reduceIte, spAg, allS, aftS, wonS] at h; obtain ⟨rfl, rfl, rfl, rfl⟩ := h; refine ⟨?_, ?_⟩) | ((with_reducible refine Ob.mk ?_); first | exact trivial | (intros; omega) | ((repeat' first | apply And.intro | (intro a; have b := a; try simp only [zH] at b)) <;> first | assumption | omega | (simp only [zH]; omega)))
      · rw [hfin hb]
        repeat' first
          | with_reducible first | apply Zar | apply Zan | apply Zaa | apply Zac | apply Zah | apply Zap | apply Zag | apply Zaj | apply Zaq | apply Zas | apply Zao | apply Zal | apply Zab | apply Zak
          | ((with_reducible refine Zai ?_ ?_); exact rfl) | ((with_reducible refine Zat ?_); refine Zam rfl ?_ ?_ <;> intro hb <;> (try simp only [zH] at hb)) | ((with_reducible refine Zaz ?_); (first | refine Zaf htb hmz Zbs fF rfl rfl ?_ | refine Zae hmo htb hmz Zbs fF rfl rfl (by kernel_rfl) ?_); intro _ _ _ _ h; simp only [zE, evp, evx, ev1, evLoad, evStore, evBin, evIf, Zad, forall_const, z38, tb, reduceAdd, reduceSub, reduceMul, reduceEqDiff, reduceLeDiff, reduceLT, Nat.reduceBEq, Nat.reduceBNe, ↓reduceIte, reduceIte, spAg, allS, aftS, wonS] at h; obtain ⟨rfl, rfl, rfl, rfl⟩ := h; refine ⟨?_, ?_⟩) | ((with_reducible refine Ob.mk ?_); first | exact trivial | (intros; omega) | ((repeat' first | apply And.intro | (intro a; have b := a; try simp only [zH] at b)) <;> first | assumption | omega | (simp only [zH]; omega)))
        refine Zax rfl rfl (Zaw rfl ?_ rfl)
        rfl
      · have hb2 := hnew (by
          rintro ⟨⟨h1, h2⟩, h3⟩
          rcases hb with (h | h) | h
          · exact h h1
          · exact h h2
          · exact h3 h)
        repeat' first
          | with_reducible first | apply Zar | apply Zan | apply Zaa | apply Zac | apply Zah | apply Zap | apply Zag | apply Zaj | apply Zaq | apply Zas | apply Zao | apply Zal | apply Zab | apply Zak
          | ((with_reducible refine Zai ?_ ?_); exact rfl) | ((with_reducible refine Zat ?_); refine Zam rfl ?_ ?_ <;> intro hb <;> (try simp only [zH] at hb)) | ((with_reducible refine Zaz ?_); (first | refine Zaf htb hmz Zbs fF rfl rfl ?_ | refine Zae hmo htb hmz Zbs fF rfl rfl (by kernel_rfl) ?_); intro _ _ _ _ h; simp only [zE, evp, evx, ev1, evLoad, evStore, evBin, evIf, Zad, forall_const, z38, tb, reduceAdd, reduceSub, reduceMul, reduceEqDiff, reduceLeDiff, reduceLT, Nat.reduceBEq, Nat.reduceBNe, ↓reduceIte, reduceIte, spAg, allS, aftS, wonS] at h; obtain ⟨rfl, rfl, rfl, rfl⟩ := h; refine ⟨?_, ?_⟩) | ((with_reducible refine Ob.mk ?_); first | exact trivial | (intros; omega) | ((repeat' first | apply And.intro | (intro a; have b := a; try simp only [zH] at b)) <;> first | assumption | omega | (simp only [zH]; omega)))
        refine back (i + 1) [] ?_ ⟨by omega, hb2⟩ (by omega)
        (refine ⟨rfl, ?_, ?_⟩ <;> simp only [zE, evp, evx, ev1, evLoad, evStore, evBin, evIf, Zad, forall_const, z38, tb, reduceAdd, reduceSub, reduceMul, reduceEqDiff, reduceLeDiff, reduceLT, Nat.reduceBEq, Nat.reduceBNe, ↓reduceIte, reduceIte, spAg, allS, aftS, wonS, zI])
        rw [hlv1]
  · have hie : i = L.length := by omega
    subst hie
    have e : R = (lvB w L q L.length || !decide (wonP ⟨o, p, x⟩ lp = q)) := by
      rw [Bool.eq_iff_iff, hag, Bool.or_eq_true, Bool.not_eq_true', decide_eq_false_iff_not]
      exact ⟨fun h => h.2, fun h => ⟨hk, h⟩⟩
    repeat' first
      | with_reducible first | apply Zar | apply Zan | apply Zaa | apply Zac | apply Zah | apply Zap | apply Zag | apply Zaj | apply Zaq | apply Zas | apply Zao | apply Zal | apply Zab | apply Zak
      | ((with_reducible refine Zai ?_ ?_); exact rfl) | ((with_reducible refine Zat ?_); refine Zam rfl ?_ ?_ <;> intro hb <;> (try simp only [zH] at hb)) | ((with_reducible refine Zaz ?_); (first | refine Zaf htb hmz Zbs fF rfl rfl ?_ | refine Zae hmo htb hmz Zbs fF rfl rfl (by kernel_rfl) ?_); intro _ _ _ _ h; simp only [zE, evp, evx, ev1, evLoad, evStore, evBin, evIf, Zad, forall_const, z38, tb, reduceAdd, reduceSub, reduceMul, reduceEqDiff, reduceLeDiff, reduceLT, Nat.reduceBEq, Nat.reduceBNe, ↓reduceIte, reduceIte, spAg, allS, aftS, wonS] at h; obtain ⟨rfl, rfl, rfl, rfl⟩ := h; refine ⟨?_, ?_⟩) | ((with_reducible refine Ob.mk ?_); first | exact trivial | (intros; omega) | ((repeat' first | apply And.intro | (intro a; have b := a; try simp only [zH] at b)) <;> first | assumption | omega | (simp only [zH]; omega)))
    · exact Ob.mk fun h => ⟨h, hwl2⟩
    refine Zax rfl rfl (Zaw rfl ?_ rfl)
    rw [e]
    rfl
open Go Pl
def rvI (l : List Int) (i : Nat) : List Int := (List.range l.length).map fun k => if k < i ∨ l.length - 1 - k < i then l.getD (l.length - 1 - k) 0 else l.getD k 0
theorem Zdo {l : List Int} {i : Nat} : (rvI l i).length = l.length := by simp [rvI]
theorem Zfm {l : List Int} {i k : Nat} (h : k < l.length) : (rvI l i).getD k 0 = if k < i ∨ l.length - 1 - k < i then l.getD (l.length - 1 - k) 0 else l.getD k 0 := by
  simp [rvI, List.getD_eq_getElem?_getD, h]
theorem rvI_zero {l : List Int} : rvI l 0 = l := by
  refine ext0 Zdo fun j hj => ?_
  rw [Zdo] at hj
  rw [Zfm hj, if_neg (by omega)]
theorem rvI_next {l : List Int} {i : Nat} (h : i < l.length - 1 - i) : ((rvI l i).set i ((rvI l i).getD (l.length - 1 - i) 0)).set (l.length - 1 - i) ((rvI l i).getD i 0) = rvI l (i + 1) := by
  refine ext0 (by rw [List.length_set, List.length_set, Zdo, Zdo]) fun j hj => ?_
  rw [List.length_set, List.length_set, Zdo] at hj
  rw [Zfm (i := i + 1) hj, Zfm (i := i) (k := i) (by omega), Zfm (i := i) (k := l.length - 1 - i) (by omega), if_neg (by omega), if_neg (by omega)]
  have hs : ∀ {m : List Int} {a : Nat} {y : Int}, a < m.length → (m.set a y).getD j 0 = if j = a then y else m.getD j 0 := fun {m a y} ha => by
    simp only [List.getD_eq_getElem?_getD, List.getElem?_set]
    by_cases e : a = j
    · subst e; simp [ha]
    · rw [if_neg e, if_neg (fun h => e h.symm)]
  rw [hs (by rw [List.length_set, Zdo]; omega), hs (by rw [Zdo]; omega), Zfm hj]
  by_cases e1 : j = l.length - 1 - i
  · subst e1
    rw [if_pos rfl, if_pos (by omega), show l.length - 1 - (l.length - 1 - i) = i by omega]
  · rw [if_neg e1]
    by_cases e2 : j = i
    · subst e2
      rw [if_pos rfl, if_pos (by omega)]
    · rw [if_neg e2]
      by_cases e3 : j < i ∨ l.length - 1 - j < i
      · rw [if_pos e3, if_pos (by omega)]
      · rw [if_neg e3, if_neg (by omega)]
theorem rvI_end {l : List Int} {i : Nat} (h : l.length - 1 - i ≤ i) : rvI l i = l.reverse := by
  refine ext0 (by rw [Zdo, List.length_reverse]) fun j hj => ?_
  rw [Zdo] at hj
  rw [Zfm hj]
  have e : l.reverse.getD j 0 = l.getD (l.length - 1 - j) 0 := by
    rw [List.getD_eq_getElem?_getD, List.getD_eq_getElem?_getD, List.getElem?_reverse hj]
  rw [e]
  split
  · rfl
  · have : j = l.length - 1 - j := by omega
    rw [← this]
set_option maxRecDepth 4000 in
set_option maxHeartbeats 4000000 in
theorem reverse_fg {l : List Int} (hl9 : l.length ≤ 1000000000) : FG Tryd.prog 65 [.own 0] [(0, some (.ints l))] 1 fun g => g = ⟨1, resV [], [(0, some (.ints l.reverse))]⟩ := by
  refine Zhv htb (fn := Tryd.f65) (by kernel_rfl) (by kernel_rfl) rfl (Nat.le_of_ble_eq_true rfl) fun hl => ?_
  simp only [lenP, mkL, lim] at hl
  repeat' first
    | with_reducible first | apply Zar | apply Zan | apply Zaa | apply Zac | apply Zah | apply Zap | apply Zag | apply Zaj | apply Zaq | apply Zas | apply Zao | apply Zal | apply Zab | apply Zak
    | ((with_reducible refine Zai ?_ ?_); exact rfl) | ((with_reducible refine Zat ?_); refine Zam rfl ?_ ?_ <;> intro hb <;> (try simp only [zH] at hb)) | ((with_reducible refine Zaz ?_); (first | refine Zaf htb hmz noSp fF rfl rfl ?_ | refine Zae hmo htb hmz noSp fF rfl rfl (by kernel_rfl) ?_); intro _ _ _ _ h; simp only [zE, evp, evx, ev1, evLoad, evStore, evBin, evIf, Zad, forall_const, z38, tb, reduceAdd, reduceSub, reduceMul, reduceEqDiff, reduceLeDiff, reduceLT, Nat.reduceBEq, Nat.reduceBNe, ↓reduceIte, reduceIte] at h; obtain ⟨rfl, rfl, rfl, rfl⟩ := h; refine ⟨?_, ?_⟩) | ((with_reducible refine Ob.mk ?_); first | exact trivial | (intros; omega) | ((repeat' first | apply And.intro | (intro a; have b := a; try simp only [zH] at b)) <;> first | assumption | omega | (simp only [zH]; omega)))
  refine Za5 (τ := Nat) (fun i => i ≤ l.length) (fun i => ⟨6, [(3, .int .i64 ((l.length : Int) - 1 - i)), (2, .int .i64 i), (0, .own 0)], [(0, some (.ints (rvI l i)))], []⟩) (fun i => l.length - i) 0 [] ?_ (Nat.zero_le _) ?_
  · (refine ⟨rfl, ?_, ?_⟩ <;> simp only [zE, evp, evx, ev1, evLoad, evStore, evBin, evIf, Zad, forall_const, z38, tb, reduceAdd, reduceSub, reduceMul, reduceEqDiff, reduceLeDiff, reduceLT, Nat.reduceBEq, Nat.reduceBNe, ↓reduceIte, reduceIte, zI])
    · omega
    · exact rvI_zero.symm
  intro i hi
  have hrl := Zdo (l := l) (i := i)
  have hnx := @rvI_next l i
  have hen := @rvI_end l i
  repeat' first
    | with_reducible first | apply Zar | apply Zan | apply Zaa | apply Zac | apply Zah | apply Zap | apply Zag | apply Zaj | apply Zaq | apply Zas | apply Zao | apply Zal | apply Zab | apply Zak
    | ((with_reducible refine Zai ?_ ?_); exact rfl) | ((with_reducible refine Zat ?_); refine Zam rfl ?_ ?_ <;> intro hb <;> (try simp only [zH] at hb)) | ((with_reducible refine Zau 3 ?_ ?_); (· exact rfl); (with_reducible refine Zau 4 ?_ ?_); (· exact rfl); (first | refine Zaf htb hmz noSp fF rfl rfl ?_ | refine Zae hmo htb hmz noSp fF rfl rfl (by kernel_rfl) ?_); intro _ _ _ _ h; simp only [zE, evp, evx, ev1, evLoad, evStore, evBin, evIf, Zad, forall_const, z38, tb, reduceAdd, reduceSub, reduceMul, reduceEqDiff, reduceLeDiff, reduceLT, Nat.reduceBEq, Nat.reduceBNe, ↓reduceIte, reduceIte] at h; obtain ⟨rfl, rfl, rfl, rfl⟩ := h; refine ⟨?_, ?_⟩) | ((with_reducible refine Ob.mk ?_); first | exact trivial | (intros; omega) | ((repeat' first | apply And.intro | (intro a; have b := a; try simp only [zH] at b)) <;> first | assumption | omega | (simp only [zH]; omega)))
  · have h2 : i < l.length - 1 - i := by omega
    have hnx := hnx h2
    have ej : (l.length : Int) - 1 - i = ((l.length - 1 - i : Nat) : Int) := by omega
    rw [ej]
    clear hen
    repeat' first
      | with_reducible first | apply Zar | apply Zan | apply Zaa | apply Zac | apply Zah | apply Zap | apply Zag | apply Zaj | apply Zaq | apply Zas | apply Zao | apply Zal | apply Zab | apply Zak
      | ((with_reducible refine Zai ?_ ?_); exact rfl) | ((with_reducible refine Zat ?_); refine Zam rfl ?_ ?_ <;> intro hb <;> (try simp only [zH] at hb)) | ((with_reducible refine Zaz ?_); (first | refine Zaf htb hmz noSp fF rfl rfl ?_ | refine Zae hmo htb hmz noSp fF rfl rfl (by kernel_rfl) ?_); intro _ _ _ _ h; simp only [zE, evp, evx, ev1, evLoad, evStore, evBin, evIf, Zad, forall_const, z38, tb, reduceAdd, reduceSub, reduceMul, reduceEqDiff, reduceLeDiff, reduceLT, Nat.reduceBEq, Nat.reduceBNe, ↓reduceIte, reduceIte] at h; obtain ⟨rfl, rfl, rfl, rfl⟩ := h; refine ⟨?_, ?_⟩) | ((with_reducible refine Ob.mk ?_); first | exact trivial | (intros; omega) | ((repeat' first | apply And.intro | (intro a; have b := a; try simp only [zH] at b)) <;> first | assumption | omega | (simp only [zH]; omega)))
    refine back (i + 1) [] ?_ (by omega) (by omega)
    (refine ⟨rfl, ?_, ?_⟩ <;> simp only [zE, evp, evx, ev1, evLoad, evStore, evBin, evIf, Zad, forall_const, z38, tb, reduceAdd, reduceSub, reduceMul, reduceEqDiff, reduceLeDiff, reduceLT, Nat.reduceBEq, Nat.reduceBNe, ↓reduceIte, reduceIte, zI])
    · omega
    · exact hnx
  · rw [hen (by omega)]
    refine fin_normal rfl rfl (Zdv (⟨1, resV [], [(0, some (.ints l.reverse))]⟩) ([]) rfl rfl (Zca rfl) ?_)
    simp only [grR, zE, evp, evx, ev1, evLoad, evStore, evBin, evIf, Zad, forall_const, z38, tb, reduceAdd, reduceSub, reduceMul, reduceEqDiff, reduceLeDiff, reduceLT, Nat.reduceBEq, Nat.reduceBNe, ↓reduceIte, reduceIte]
section
open Go Pl
variable {nx : Nat → List Nat} {thr : Nat → Prop} {n fr : Nat} {L : List (Nat × Nat)} {S : List Nat} {ex : List Nat} {u w j : Nat}
structure SQ (nx : Nat → List Nat) (thr : Nat → Prop) (n fr : Nat) (L : List (Nat × Nat)) (S ex : List Nat) (d : Nat) : Prop where
  nd : (L.map Prod.fst).Nodup
  lt : ∀ v, v ∈ qF fr L → v < n
  fv : fr ∉ L.map Prod.fst
  ed : ∀ (k w u : Nat), L[k]? = some (w, u) → w ∈ nx u ∧ thr w ∧ u ∈ (qF fr L).take (k + 1)
  ss : ∀ u, u ∈ S → u ∈ qF fr L
  cl : ∀ u, u ∈ qF fr L → u ∉ S → u ∉ ex → ∀ w, w ∈ nx u → thr w → w ∈ L.map Prod.fst
  ls : S.length + d ≤ L.length + 1
structure SF (nx : Nat → List Nat) (thr : Nat → Prop) (n fr : Nat) (L : List (Nat × Nat)) : Prop where
  nd : (L.map Prod.fst).Nodup
  lt : ∀ v, v ∈ qF fr L → v < n
  ed : ∀ (k w u : Nat), L[k]? = some (w, u) → w ∈ nx u ∧ thr w ∧ u ∈ (qF fr L).take (k + 1)
  fv : fr ∈ L.map Prod.fst
theorem Zi5 {d : Nat} (h : SQ nx thr n fr L S ex d) : L.length ≤ n := by
  have := Zfb n _ h.nd fun x hx => h.lt x (List.mem_cons_of_mem _ hx)
  rwa [List.length_map] at this
theorem SQ_first (hf : fr < n) : SQ nx thr n fr [] [fr] [] 0 :=
  ⟨by simp, (fun v hv => by rw [show qF fr [] = [fr] from rfl, List.mem_singleton] at hv; omega), by simp, (fun k w u h => by simp at h), (fun u h => h), (fun u h h2 => absurd h h2), Nat.le_refl _⟩
theorem SQ_pop (h : SQ nx thr n fr L (S ++ [u]) [] 0) : SQ nx thr n fr L S [u] 1 :=
  ⟨h.nd, h.lt, h.fv, h.ed, fun v hv => h.ss v (List.mem_append_left _ hv), fun v hv hs he => h.cl v hv (fun hm => by
    rcases List.mem_append.1 hm with hm | hm
    · exact hs hm
    · exact he hm) (by simp), by have := h.ls; simp only [List.length_append, List.length_singleton] at this; omega⟩
theorem SQ_add (h : SQ nx thr n fr L S [u] 1) (hu : u ∈ qF fr L) (hw : w ∈ nx u) (hwn : w < n) (hnew : w ∉ L.map Prod.fst) (ht : thr w) (hne : w ≠ fr) : SQ nx thr n fr (L ++ [(w, u)]) (S ++ [w]) [u] 1 := by
  have hm : ∀ {x}, x ∈ L.map Prod.fst → x ∈ (L ++ [(w, u)]).map Prod.fst := fun {x} hx => by rw [List.map_append]; exact List.mem_append_left _ hx
  refine ⟨?_, fun v hv => ?_, fun hv => ?_, fun k w' u' hk => ?_, fun v hv => ?_, fun u' hu' hs he w' hw' ht' => ?_, ?_⟩
  · rw [List.map_append, List.nodup_append]
    refine ⟨h.nd, by simp, fun a ha b hb => ?_⟩
    rw [List.map_cons, List.map_nil, List.mem_singleton] at hb
    intro e
    have hb : b = w := hb
    exact hnew (by rw [← hb, ← e]; exact ha)
  · rw [Zez, List.mem_append, List.mem_singleton] at hv
    rcases hv with hv | rfl
    · exact h.lt v hv
    · exact hwn
  · rw [List.map_append, List.mem_append] at hv
    rcases hv with hv | hv
    · exact h.fv hv
    · exact hne (List.mem_singleton.1 hv).symm
  · rw [Zez]
    rcases Nat.lt_or_ge k L.length with hkl | hkl
    · rw [List.getElem?_append_left hkl] at hk
      obtain ⟨e1, e2, e3⟩ := h.ed k w' u' hk
      rw [Zfx (by rw [Zgr]; omega)]
      exact ⟨e1, e2, e3⟩
    · rw [List.getElem?_append_right hkl] at hk
      have hk0 : k - L.length = 0 := by
        have := (List.getElem?_eq_some_iff.1 hk).1
        simp at this; omega
      rw [hk0] at hk
      simp only [List.getElem?_cons_zero, Option.some.injEq, Prod.mk.injEq] at hk
      obtain ⟨rfl, rfl⟩ := hk
      refine ⟨hw, ht, ?_⟩
      have hkk : k = L.length := by omega
      subst hkk
      rw [Zfx (by rw [Zgr]; exact Nat.le_refl _), List.take_of_length_le (by rw [Zgr]; exact Nat.le_refl _)]
      exact hu
  · rw [Zez]
    rcases List.mem_append.1 hv with hv | hv
    · exact List.mem_append_left _ (h.ss v hv)
    · exact List.mem_append_right _ hv
  · rw [Zez, List.mem_append] at hu'
    rcases hu' with hu' | hu'
    · exact hm (h.cl u' hu' (fun h2 => hs (List.mem_append_left _ h2)) he w' hw' ht')
    · exact absurd (List.mem_append_right _ hu') hs
  · have := h.ls
    simp only [List.length_append, List.length_singleton]
    omega
theorem SQ_hit (h : SQ nx thr n fr L S [u] 1) (hu : u ∈ qF fr L) (hw : fr ∈ nx u) (hwn : fr < n) (ht : thr fr) : SF nx thr n fr (L ++ [(fr, u)]) := by
  refine ⟨?_, fun v hv => ?_, fun k w' u' hk => ?_, ?_⟩
  · rw [List.map_append, List.nodup_append]
    refine ⟨h.nd, by simp, fun a ha b hb => ?_⟩
    rw [List.map_cons, List.map_nil, List.mem_singleton] at hb
    intro e
    have hb : b = fr := hb
    exact h.fv (by rw [← hb, ← e]; exact ha)
  · rw [Zez, List.mem_append, List.mem_singleton] at hv
    rcases hv with hv | rfl
    · exact h.lt v hv
    · exact hwn
  · rw [Zez]
    rcases Nat.lt_or_ge k L.length with hkl | hkl
    · rw [List.getElem?_append_left hkl] at hk
      obtain ⟨e1, e2, e3⟩ := h.ed k w' u' hk
      rw [Zfx (by rw [Zgr]; omega)]
      exact ⟨e1, e2, e3⟩
    · rw [List.getElem?_append_right hkl] at hk
      have hk0 : k - L.length = 0 := by
        have := (List.getElem?_eq_some_iff.1 hk).1
        simp at this; omega
      rw [hk0] at hk
      simp only [List.getElem?_cons_zero, Option.some.injEq, Prod.mk.injEq] at hk
      obtain ⟨rfl, rfl⟩ := hk
      refine ⟨hw, ht, ?_⟩
      have hkk : k = L.length := by omega
      subst hkk
      rw [Zfx (by rw [Zgr]; exact Nat.le_refl _), List.take_of_length_le (by rw [Zgr]; exact Nat.le_refl _)]
      exact hu
  · rw [List.map_append]; simp
theorem SQ_done (h : SQ nx thr n fr L S [u] 1) (hc : ∀ w, w ∈ nx u → thr w → w ∈ L.map Prod.fst) : SQ nx thr n fr L S [] 0 :=
  ⟨h.nd, h.lt, h.fv, h.ed, h.ss, fun v hv hs _ => by
    by_cases e : v = u
    · subst e; exact hc
    · exact h.cl v hv hs (by simpa using e), by have := h.ls; omega⟩
theorem SQ_no {pri : Nat → Int} (h : SQ nx (fun z => pri z ≤ pri fr) n fr L [] [] 0) : ¬ Cyc (fun a b => b ∈ nx a) pri fr := by
  rintro ⟨t, t1, t2⟩
  have hcl : ∀ u, u ∈ qF fr L → ∀ w, w ∈ nx u → pri w ≤ pri fr → w ∈ L.map Prod.fst := fun u hu => h.cl u hu (by simp) (by simp)
  have : fr ∈ L.map Prod.fst := by
    have key : ∀ z, Rch (Low (fun a b => b ∈ nx a) pri fr) t z → z ∈ L.map Prod.fst := by
      intro z hz
      induction hz with
      | refl => exact hcl fr List.mem_cons_self t t1.1 t1.2
      | step _ e ih => exact hcl _ (List.mem_cons_of_mem _ ih) _ e.1 e.2
    exact key fr t2
  exact h.fv this
structure SB (nx : Nat → List Nat) (fr : Nat) (L : List (Nat × Nat)) (u k : Nat) (t : List Nat) : Prop where
  kl : k ≤ L.length
  um : u ∈ (qF fr L).take (k + 1)
  ch : Chn nx (u :: (t.reverse ++ [fr]))
  nd : t.Nodup
  nt : ∀ z, z ∈ t → z ∈ L.map Prod.fst ∧ z ≠ fr ∧ z ∉ (L.take k).map Prod.fst
theorem take_qF {k : Nat} : (qF fr L).take (k + 1) = fr :: (L.take k).map Prod.fst := by
  show (fr :: L.map Prod.fst).take (k + 1) = _
  rw [List.take_succ_cons, List.map_take]
theorem SB_at (h : SF nx thr n fr L) {w : Nat} (hw : w ∈ L.map Prod.fst) : ∃ k u : Nat, L[k]? = some (w, u) ∧ (w, u) ∈ L := by
  obtain ⟨⟨a, u⟩, hm, rfl⟩ := List.mem_map.1 hw
  obtain ⟨k, hk⟩ := List.mem_iff_getElem?.1 hm
  exact ⟨k, u, hk, hm⟩
theorem SB_first (h : SF nx thr n fr L) : ∃ k u, (fr, u) ∈ L ∧ SB nx fr L u k [] := by
  obtain ⟨k, u, hk, hm⟩ := SB_at h h.fv
  have hkl := (List.getElem?_eq_some_iff.1 hk).1
  obtain ⟨e1, e2, e3⟩ := h.ed k fr u hk
  exact ⟨k, u, hm, by omega, e3, ⟨e1, trivial⟩, List.nodup_nil, fun z hz => by cases hz⟩
theorem SB_next (h : SF nx thr n fr L) {k : Nat} {t : List Nat} (hb : SB nx fr L u k t) (hu : u ≠ fr) : ∃ k' u', k' < k ∧ (u, u') ∈ L ∧ SB nx fr L u' k' (t ++ [u]) := by
  have hum := hb.um
  rw [take_qF] at hum
  have hum : u ∈ (L.take k).map Prod.fst := (List.mem_cons.1 hum).resolve_left hu
  obtain ⟨⟨a, u'⟩, hm, rfl⟩ := List.mem_map.1 hum
  obtain ⟨k', hk⟩ := List.mem_iff_getElem?.1 hm
  have hkl := (List.getElem?_eq_some_iff.1 hk).1
  rw [List.length_take] at hkl
  rw [List.getElem?_take, if_pos (by omega)] at hk
  obtain ⟨e1, e2, e3⟩ := h.ed k' a u' hk
  refine ⟨k', u', by omega, List.mem_of_getElem? hk, by omega, e3, ?_, ?_, fun z hz => ?_⟩
  · rw [List.reverse_append]
    exact ⟨e1, hb.ch⟩
  · rw [List.nodup_append]
    refine ⟨hb.nd, by simp, fun x hx y hy => ?_⟩
    rw [List.mem_singleton] at hy
    subst hy
    intro e
    subst e
    exact (hb.nt x hx).2.2 hum
  · rcases List.mem_append.1 hz with hz | hz
    · obtain ⟨n1, n2, n3⟩ := hb.nt z hz
      refine ⟨n1, n2, fun h2 => n3 ?_⟩
      have : (L.take k').map Prod.fst = ((L.take k).map Prod.fst).take k' := by
        rw [← List.map_take, List.take_take, Nat.min_eq_left (by omega)]
      rw [this] at h2
      exact List.mem_of_mem_take h2
    · rw [List.mem_singleton] at hz
      subst hz
      refine ⟨List.mem_map.2 ⟨_, List.mem_of_getElem? hk, rfl⟩, hu, fun h2 => ?_⟩
      obtain ⟨i, hi, e⟩ := List.getElem_of_mem h2
      have hi2 : i < k' := by simpa using Nat.lt_of_lt_of_le hi (by simp; omega)
      have hnd := h.nd
      have hL1 : (L.map Prod.fst)[i]? = some z := by
        rw [List.getElem?_map]
        rw [List.getElem_map, List.getElem_take] at e
        rw [List.getElem?_eq_getElem (by omega)]
        exact congrArg some e
      have hL2 : (L.map Prod.fst)[k']? = some z := by rw [List.getElem?_map, hk]; rfl
      have h1 := List.getElem?_eq_some_iff.1 hL1
      have h2 := List.getElem?_eq_some_iff.1 hL2
      obtain ⟨h11, h12⟩ := h1
      obtain ⟨h21, h22⟩ := h2
      rw [List.nodup_iff_pairwise_ne, List.pairwise_iff_getElem] at hnd
      exact hnd i k' h11 h21 hi2 (h12.trans h22.symm)
theorem SB_end (h : SF nx thr n fr L) {k : Nat} {t : List Nat} (hb : SB nx fr L fr k t) (hfr : fr < n) : (fr :: t.reverse).Nodup ∧ Chn nx (fr :: t.reverse ++ [fr]) ∧ (∀ z, z ∈ fr :: t.reverse → z < n ∧ thr z) := by
  refine ⟨?_, hb.ch, fun z hz => ?_⟩
  · rw [List.nodup_cons]
    refine ⟨fun hm => ?_, List.nodup_iff_pairwise_ne.2 (List.pairwise_reverse.2 ((List.nodup_iff_pairwise_ne.1 hb.nd).imp fun h e => h e.symm))⟩
    exact (hb.nt fr (List.mem_reverse.1 hm)).2.1 rfl
  · have hin : z ∈ L.map Prod.fst := by
      rcases List.mem_cons.1 hz with rfl | hz
      · exact h.fv
      · exact (hb.nt z (List.mem_reverse.1 hz)).1
    obtain ⟨k, u, hk, _⟩ := SB_at h hin
    exact ⟨h.lt z (List.mem_cons_of_mem _ hin), (h.ed k z u hk).2.1⟩
end
open Go Pl
structure LpS where
  L : List (Nat × Nat)
  S : List Nat
  es : List (Int × Int × Nat)
  clk : Nat
structure LbS where
  u : Nat
  k : Nat
  t : List Nat
structure LqS where
  L : List (Nat × Nat)
  S : List Nat
  j : Nat
  es : List (Int × Int × Nat)
  clk : Nat
noncomputable def spLp : Nat → Option Spec
  | 42 => some nvS
  | _ => none
theorem Za9 : SpOK Tryd.prog spLp := by
  intro f S h
  unfold spLp at h
  split at h
  · cases h; exact Zi8
  · cases h
def LpOK (g : Gm) (W C : List Int) (v : Nat) (l : List Nat) : Prop := (∃ r, l = v :: r) ∧ (∀ z, z ∈ l → z < g.own.length) ∧ l.Nodup ∧ Chn (nxVn g W C (W.getD v 0)) (l ++ [v]) ∧ ∀ z, z ∈ l → g.pri.getD z 0 ≤ g.pri.getD v 0
set_option maxRecDepth 4000 in
set_option maxHeartbeats 4000000 in
theorem loop_fg {o p w c : List Int} {x : List (List Int)} {v : Nat} (hn : o.length ≤ 20000) (hpl : p.length = o.length) (hxl : x.length = o.length) (hwl : w.length = o.length) (hcl : c.length = o.length) (hv : v < o.length)
    (hrow : ∀ u, u < o.length → (nvF o w c x (w.getD v 0) u).length ≤ 64 ∧ ∀ j, j < (nvF o w c x (w.getD v 0) u).length → 0 ≤ (nvF o w c x (w.getD v 0) u).getD j 0 ∧ (nvF o w c x (w.getD v 0) u).getD j 0 < (o.length : Int)) :
    FG Tryd.prog 63 [.agg (.cons (.roI o) (.cons (.roI p) (.cons (.roII x) (.cons (.roI w) (.cons (.roI c) .nil))))), .int .i64 v] [] 0 fun g => (¬ Cyc (fun a b => b ∈ nxVn ⟨o, p, x⟩ w c (w.getD v 0) a) (fun v => p.getD v 0) v ∧ g = ⟨0, .cst (.slice none 0 0), []⟩) ∨ ∃ l, LpOK ⟨o, p, x⟩ w c v l ∧ g = ⟨0, .roI (Zbe l), []⟩ := by
  refine Zhv htb (fn := Tryd.f63) (by kernel_rfl) (by kernel_rfl) rfl (Nat.le_of_ble_eq_true rfl) fun hl => ?_
  simp only [lenP, mkL, lim] at hl
  repeat' first
    | with_reducible first | apply Zar | apply Zan | apply Zaa | apply Zac | apply Zah | apply Zap | apply Zag | apply Zaj | apply Zaq | apply Zas | apply Zao | apply Zal | apply Zab | apply Zak
    | ((with_reducible refine Zai ?_ ?_); exact rfl) | ((with_reducible refine Zat ?_); refine Zam rfl ?_ ?_ <;> intro hb <;> (try simp only [zH] at hb)) | ((with_reducible refine Zau 1 ?_ ?_); (· exact rfl); (first | refine Zaf htb hmz Za9 fF rfl rfl ?_ | refine Zae hmo htb hmz Za9 fF rfl rfl (by kernel_rfl) ?_); intro _ _ _ _ h; simp only [zE, evp, evx, ev1, evLoad, evStore, evBin, evIf, Zad, forall_const, z38, tb, reduceAdd, reduceSub, reduceMul, reduceEqDiff, reduceLeDiff, reduceLT, Nat.reduceBEq, Nat.reduceBNe, ↓reduceIte, reduceIte, spLp, nvS] at h; obtain ⟨rfl, rfl, rfl, rfl⟩ := h; refine ⟨?_, ?_⟩) | ((with_reducible refine Ob.mk ?_); first | exact trivial | (intros; omega) | ((repeat' first | apply And.intro | (intro a; have b := a; try simp only [zH] at b)) <;> first | assumption | omega | (simp only [zH]; omega)))
  (refine Zae hmo htb hmz Za9 fF rfl rfl (by kernel_rfl) ?_; intro _ _ _ _ h; simp only [zE, evp, evx, ev1, evLoad, evStore, evBin, evIf, Zad, forall_const, z38, tb, reduceAdd, reduceSub, reduceMul, reduceEqDiff, reduceLeDiff, reduceLT, Nat.reduceBEq, Nat.reduceBNe, ↓reduceIte, reduceIte, spLp, nvS] at h; obtain ⟨rfl, rfl, rfl, rfl⟩ := h; refine ⟨?_, ?_⟩)
  repeat' first
    | with_reducible first | apply Zar | apply Zan | apply Zaa | apply Zac | apply Zah | apply Zap | apply Zag | apply Zaj | apply Zaq | apply Zas | apply Zao | apply Zal | apply Zab | apply Zak
    | ((with_reducible refine Zai ?_ ?_); exact rfl) | ((with_reducible refine Zat ?_); refine Zam rfl ?_ ?_ <;> intro hb <;> (try simp only [zH] at hb)) | ((with_reducible refine Zau 3 ?_ ?_); (· exact rfl); (first | refine Zaf htb hmz Za9 fF rfl rfl ?_ | refine Zae hmo htb hmz Za9 fF rfl rfl (by kernel_rfl) ?_); intro _ _ _ _ h; simp only [zE, evp, evx, ev1, evLoad, evStore, evBin, evIf, Zad, forall_const, z38, tb, reduceAdd, reduceSub, reduceMul, reduceEqDiff, reduceLeDiff, reduceLT, Nat.reduceBEq, Nat.reduceBNe, ↓reduceIte, reduceIte, spLp, nvS] at h; obtain ⟨rfl, rfl, rfl, rfl⟩ := h; refine ⟨?_, ?_⟩) | ((with_reducible refine Ob.mk ?_); first | exact trivial | (intros; omega) | ((repeat' first | apply And.intro | (intro a; have b := a; try simp only [zH] at b)) <;> first | assumption | omega | (simp only [zH]; omega)))
  (refine Zaf htb hmz Za9 (fun i => Nat.beq i 1) rfl rfl ?_; intro _ _ _ _ h; simp only [zE, evp, evx, ev1, evLoad, evStore, evBin, evIf, Zad, forall_const, z38, tb, reduceAdd, reduceSub, reduceMul, reduceEqDiff, reduceLeDiff, reduceLT, Nat.reduceBEq, Nat.reduceBNe, ↓reduceIte, reduceIte, spLp, nvS] at h; obtain ⟨rfl, rfl, rfl, rfl⟩ := h; refine ⟨?_, ?_⟩)
  · first | ((with_reducible refine Ob.mk ?_); first | exact trivial | (intros; omega) | ((repeat' first | apply And.intro | (intro a; have b := a; try simp only [zH] at b)) <;> first | assumption | omega | (simp only [zH]; omega))) | skip
  refine Zaa ?_
  have hF : ∀ u, nxVn ⟨o, p, x⟩ w c (w.getD v 0) u = (nvF o w c x (w.getD v 0) u).map Int.toNat := fun u => rfl
  obtain ⟨q, hq⟩ : ∃ q, w.getD v 0 = q := ⟨_, rfl⟩
  obtain ⟨b, hb0⟩ : ∃ b, p.getD v 0 = b := ⟨_, rfl⟩
  rw [hq] at hrow hF
  rw [hq, hb0]
  repeat' first
    | with_reducible first | apply Zar | apply Zan | apply Zaa | apply Zac | apply Zah | apply Zap | apply Zag | apply Zaj | apply Zaq | apply Zas | apply Zao | apply Zal | apply Zab | apply Zak
    | ((with_reducible refine Zai ?_ ?_); exact rfl) | ((with_reducible refine Zat ?_); refine Zam rfl ?_ ?_ <;> intro hb <;> (try simp only [zH] at hb)) | ((with_reducible refine Zau 4 ?_ ?_); (· exact rfl); (first | refine Zaf htb hmz Za9 fF rfl rfl ?_ | refine Zae hmo htb hmz Za9 fF rfl rfl (by kernel_rfl) ?_); intro _ _ _ _ h; simp only [zE, evp, evx, ev1, evLoad, evStore, evBin, evIf, Zad, forall_const, z38, tb, reduceAdd, reduceSub, reduceMul, reduceEqDiff, reduceLeDiff, reduceLT, Nat.reduceBEq, Nat.reduceBNe, ↓reduceIte, reduceIte, spLp, nvS] at h; obtain ⟨rfl, rfl, rfl, rfl⟩ := h; refine ⟨?_, ?_⟩) | ((with_reducible refine Ob.mk ?_); first | exact trivial | (intros; omega) | ((repeat' first | apply And.intro | (intro a; have b := a; try simp only [zH] at b)) <;> first | assumption | omega | (simp only [zH]; omega)))
  refine Za5 (τ := LpS) (fun s => SQ (nxVn ⟨o, p, x⟩ w c q) (fun z => p.getD z 0 ≤ b) o.length v s.L s.S [] 0 ∧ MQ s.es s.L) (fun s => ⟨21, [(8, .own 19), (7, .own 16), (6, .int .i64 b), (5, .int .i64 q), (4, .cst (.slice none 0 0)), (2, .rop (.agg (.cons (.roI o) (.cons (.roI p) (.cons (.roII x) (.cons (.roI w) (.cons (.roI c) .nil))))))), (1, .int .i64 v)], [(19, some (.ints (Zbe s.S))), (16, some (.mp s.es s.clk))], []⟩) (fun s => 2 * (o.length - s.L.length) + s.S.length) ⟨[], [v], [], 0⟩ [] ?_ ⟨SQ_first hv, MQ_nil⟩ ?_
  · (refine ⟨rfl, ?_, ?_⟩ <;> simp only [zE, evp, evx, ev1, evLoad, evStore, evBin, evIf, Zad, forall_const, z38, tb, reduceAdd, reduceSub, reduceMul, reduceEqDiff, reduceLeDiff, reduceLT, Nat.reduceBEq, Nat.reduceBNe, ↓reduceIte, reduceIte, spLp, nvS, zI])
    all_goals rfl
  rintro ⟨L, S, es, clk⟩ ⟨hS, hM⟩
  dsimp only at hS hM ⊢
  have hLn := Zi5 hS
  have hSl := hS.ls
  have hcs : (Zbe S).length = S.length := List.length_map ..
  repeat' first
    | with_reducible first | apply Zar | apply Zan | apply Zaa | apply Zac | apply Zah | apply Zap | apply Zag | apply Zaj | apply Zaq | apply Zas | apply Zao | apply Zal | apply Zab | apply Zak
    | ((with_reducible refine Zai ?_ ?_); exact rfl) | ((with_reducible refine Zat ?_); refine Zam rfl ?_ ?_ <;> intro hb <;> (try simp only [zH] at hb)) | ((with_reducible refine Zau 5 ?_ ?_); (· exact rfl); (with_reducible refine Zau 16 ?_ ?_); (· exact rfl); (first | refine Zaf htb hmz Za9 fF rfl rfl ?_ | refine Zae hmo htb hmz Za9 fF rfl rfl (by kernel_rfl) ?_); intro _ _ _ _ h; simp only [zE, evp, evx, ev1, evLoad, evStore, evBin, evIf, Zad, forall_const, z38, tb, reduceAdd, reduceSub, reduceMul, reduceEqDiff, reduceLeDiff, reduceLT, Nat.reduceBEq, Nat.reduceBNe, ↓reduceIte, reduceIte, spLp, nvS] at h; obtain ⟨rfl, rfl, rfl, rfl⟩ := h; refine ⟨?_, ?_⟩) | ((with_reducible refine Ob.mk ?_); first | exact trivial | (intros; omega) | ((repeat' first | apply And.intro | (intro a; have b := a; try simp only [zH] at b)) <;> first | assumption | omega | (simp only [zH]; omega)))
  · have hS0 : 0 < S.length := by omega
    obtain ⟨S', u, rfl⟩ : ∃ S' u, S = S' ++ [u] := ⟨S.dropLast, S.getLast (by intro h; subst h; simp at hS0), (List.dropLast_concat_getLast _).symm⟩
    have hu := hS.ss u (by simp)
    have hun := hS.lt u hu
    have hP := SQ_pop hS
    rw [List.length_append, List.length_singleton] at hSl hcs
    have hg : (Zbe (S' ++ [u])).getD S'.length 0 = (u : Int) := by
      rw [Zes]
      simp [List.getD_eq_getElem?_getD]
    have htk : (Zbe (S' ++ [u])).take S'.length = Zbe S' := by
      unfold Zbe
      rw [List.map_append, List.take_append_of_le_length (by simp), List.take_of_length_le (by simp)]
    have hci : (((Zbe (S' ++ [u])).length : Int) - 1).toNat = S'.length := by omega
    have hrw := hrow u hun
    repeat' first
      | with_reducible first | apply Zar | apply Zan | apply Zaa | apply Zac | apply Zah | apply Zap | apply Zag | apply Zaj | apply Zaq | apply Zas | apply Zao | apply Zal | apply Zab | apply Zak
      | ((with_reducible refine Zai ?_ ?_); exact rfl) | ((with_reducible refine Zat ?_); refine Zam rfl ?_ ?_ <;> intro hb <;> (try simp only [zH] at hb)) | ((with_reducible refine Zau 6 ?_ ?_); (· exact rfl); (first | refine Zaf htb hmz Za9 fF rfl rfl ?_ | refine Zae hmo htb hmz Za9 fF rfl rfl (by kernel_rfl) ?_); intro _ _ _ _ h; simp only [zE, evp, evx, ev1, evLoad, evStore, evBin, evIf, Zad, forall_const, z38, tb, reduceAdd, reduceSub, reduceMul, reduceEqDiff, reduceLeDiff, reduceLT, Nat.reduceBEq, Nat.reduceBNe, ↓reduceIte, reduceIte, spLp, nvS] at h; obtain ⟨rfl, rfl, rfl, rfl⟩ := h; refine ⟨?_, ?_⟩) | ((with_reducible refine Ob.mk ?_); first | exact trivial | (intros; omega) | ((repeat' first | apply And.intro | (intro a; have b := a; try simp only [zH] at b)) <;> first | assumption | omega | (simp only [zH]; omega)))
    rw [hci, hg]
    repeat' first
      | with_reducible first | apply Zar | apply Zan | apply Zaa | apply Zac | apply Zah | apply Zap | apply Zag | apply Zaj | apply Zaq | apply Zas | apply Zao | apply Zal | apply Zab | apply Zak
      | ((with_reducible refine Zai ?_ ?_); exact rfl) | ((with_reducible refine Zat ?_); refine Zam rfl ?_ ?_ <;> intro hb <;> (try simp only [zH] at hb)) | ((with_reducible refine Zau 7 ?_ ?_); (· exact rfl); (first | refine Zaf htb hmz Za9 fF rfl rfl ?_ | refine Zae hmo htb hmz Za9 fF rfl rfl (by kernel_rfl) ?_); intro _ _ _ _ h; simp only [zE, evp, evx, ev1, evLoad, evStore, evBin, evIf, Zad, forall_const, z38, tb, reduceAdd, reduceSub, reduceMul, reduceEqDiff, reduceLeDiff, reduceLT, Nat.reduceBEq, Nat.reduceBNe, ↓reduceIte, reduceIte, spLp, nvS] at h; obtain ⟨rfl, rfl, rfl, rfl⟩ := h; refine ⟨?_, ?_⟩) | ((with_reducible refine Ob.mk ?_); first | exact trivial | (intros; omega) | ((repeat' first | apply And.intro | (intro a; have b := a; try simp only [zH] at b)) <;> first | assumption | omega | (simp only [zH]; omega)))
    rw [hci, htk]
    have hat : ∀ j, j < (nvF o w c x q u).length → (nxVn ⟨o, p, x⟩ w c q u)[j]? = some ((nvF o w c x q u).getD j 0).toNat := fun j hj => by
      rw [hF, List.getElem?_map, List.getD_eq_getElem?_getD, List.getElem?_eq_getElem hj]; rfl
    have hxl2 : (nxVn ⟨o, p, x⟩ w c q u).length = (nvF o w c x q u).length := by rw [hF, List.length_map]
    repeat' first
      | with_reducible first | apply Zar | apply Zan | apply Zaa | apply Zac | apply Zah | apply Zap | apply Zag | apply Zaj | apply Zaq | apply Zas | apply Zao | apply Zal | apply Zab | apply Zak
      | ((with_reducible refine Zai ?_ ?_); exact rfl) | ((with_reducible refine Zat ?_); refine Zam rfl ?_ ?_ <;> intro hb <;> (try simp only [zH] at hb)) | ((with_reducible refine Zau 8 ?_ ?_); (· exact rfl); (first | refine Zaf htb hmz Za9 fF rfl rfl ?_ | refine Zae hmo htb hmz Za9 fF rfl rfl (by kernel_rfl) ?_); intro _ _ _ _ h; simp only [zE, evp, evx, ev1, evLoad, evStore, evBin, evIf, Zad, forall_const, z38, tb, reduceAdd, reduceSub, reduceMul, reduceEqDiff, reduceLeDiff, reduceLT, Nat.reduceBEq, Nat.reduceBNe, ↓reduceIte, reduceIte, spLp, nvS] at h; obtain ⟨rfl, rfl, rfl, rfl⟩ := h; refine ⟨?_, ?_⟩) | ((with_reducible refine Ob.mk ?_); first | exact trivial | (intros; omega) | ((repeat' first | apply And.intro | (intro a; have b := a; try simp only [zH] at b)) <;> first | assumption | omega | (simp only [zH]; omega)))
    obtain ⟨hr64, hrb⟩ := hrw
    generalize nvF o w c x q u = rw at *
    refine Za5 (τ := LqS) (fun s => SQ (nxVn ⟨o, p, x⟩ w c q) (fun z => p.getD z 0 ≤ b) o.length v s.L s.S [u] 1 ∧ MQ s.es s.L ∧ u ∈ qF v s.L ∧ s.j ≤ rw.length ∧ (∀ z, z ∈ (nxVn ⟨o, p, x⟩ w c q u).take s.j → p.getD z 0 ≤ b → z ∈ s.L.map Prod.fst) ∧ 2 * (o.length - s.L.length) + s.S.length ≤ 2 * (o.length - L.length) + S'.length) (fun s => ⟨43, [(52, .int .i64 s.j), (51, .int .i64 rw.length), (50, .roI rw), (9, .int .i64 u), (8, .own 35), (7, .own 16), (6, .int .i64 b), (5, .int .i64 q), (4, .cst (.slice none 0 0)), (2, .rop (.agg (.cons (.roI o) (.cons (.roI p) (.cons (.roII x) (.cons (.roI w) (.cons (.roI c) .nil))))))), (1, .int .i64 v)], [(35, some (.ints (Zbe s.S))), (16, some (.mp s.es s.clk))], []⟩) (fun s => rw.length - s.j) ⟨L, S', 0, es, clk⟩ [] ?_ ⟨hP, hM, hu, Nat.zero_le _, (fun z hz => by rw [List.take_zero] at hz; cases hz), Nat.le_refl _⟩ ?_
    · (refine ⟨rfl, ?_, ?_⟩ <;> simp only [zE, evp, evx, ev1, evLoad, evStore, evBin, evIf, Zad, forall_const, z38, tb, reduceAdd, reduceSub, reduceMul, reduceEqDiff, reduceLeDiff, reduceLT, Nat.reduceBEq, Nat.reduceBNe, ↓reduceIte, reduceIte, spLp, nvS, zI])
    rintro ⟨L2, S2, j, es2, clk2⟩ ⟨hS2, hM2, hu2, hj, hcj, hmu⟩
    dsimp only at hS2 hM2 hu2 hj hcj hmu ⊢
    have hLn2 := Zi5 hS2
    have hSl2 := hS2.ls
    have hcs2 : (Zbe S2).length = S2.length := List.length_map ..
    repeat' first
      | with_reducible first | apply Zar | apply Zan | apply Zaa | apply Zac | apply Zah | apply Zap | apply Zag | apply Zaj | apply Zaq | apply Zas | apply Zao | apply Zal | apply Zab | apply Zak
      | ((with_reducible refine Zai ?_ ?_); exact rfl) | ((with_reducible refine Zat ?_); refine Zam rfl ?_ ?_ <;> intro hb <;> (try simp only [zH] at hb)) | ((with_reducible refine Zau 9 ?_ ?_); (· exact rfl); (with_reducible refine Zau 16 ?_ ?_); (· exact rfl); (first | refine Zaf htb hmz Za9 fF rfl rfl ?_ | refine Zae hmo htb hmz Za9 fF rfl rfl (by kernel_rfl) ?_); intro _ _ _ _ h; simp only [zE, evp, evx, ev1, evLoad, evStore, evBin, evIf, Zad, forall_const, z38, tb, reduceAdd, reduceSub, reduceMul, reduceEqDiff, reduceLeDiff, reduceLT, Nat.reduceBEq, Nat.reduceBNe, ↓reduceIte, reduceIte, spLp, nvS] at h; obtain ⟨rfl, rfl, rfl, rfl⟩ := h; refine ⟨?_, ?_⟩) | ((with_reducible refine Ob.mk ?_); first | exact trivial | (intros; omega) | ((repeat' first | apply And.intro | (intro a; have b := a; try simp only [zH] at b)) <;> first | assumption | omega | (simp only [zH]; omega)))
    · have hjl : j < rw.length := by omega
      obtain ⟨b1, b2⟩ := hrb j hjl
      obtain ⟨z, hz⟩ := Int.eq_ofNat_of_zero_le b1
      have hjz := hat j hjl
      rw [hz] at hjz b2
      rw [Int.toNat_natCast] at hjz
      have hzn : z < o.length := by omega
      have hhas := hM2.has z
      have hzm : z ∈ nxVn ⟨o, p, x⟩ w c q u := List.mem_of_getElem? hjz
      have htj : (nxVn ⟨o, p, x⟩ w c q u).take (j + 1) = (nxVn ⟨o, p, x⟩ w c q u).take j ++ [z] := by rw [List.take_add_one, hjz]; rfl
      repeat' first
        | with_reducible first | apply Zar | apply Zan | apply Zaa | apply Zac | apply Zah | apply Zap | apply Zag | apply Zaj | apply Zaq | apply Zas | apply Zao | apply Zal | apply Zab | apply Zak
        | ((with_reducible refine Zai ?_ ?_); exact rfl) | ((with_reducible refine Zat ?_); refine Zam rfl ?_ ?_ <;> intro hb <;> (try simp only [zH] at hb)) | ((with_reducible refine Zau 10 ?_ ?_); (· exact rfl); (first | refine Zaf htb hmz Za9 fF rfl rfl ?_ | refine Zae hmo htb hmz Za9 fF rfl rfl (by kernel_rfl) ?_); intro _ _ _ _ h; simp only [zE, evp, evx, ev1, evLoad, evStore, evBin, evIf, Zad, forall_const, z38, tb, reduceAdd, reduceSub, reduceMul, reduceEqDiff, reduceLeDiff, reduceLT, Nat.reduceBEq, Nat.reduceBNe, ↓reduceIte, reduceIte, spLp, nvS] at h; obtain ⟨rfl, rfl, rfl, rfl⟩ := h; refine ⟨?_, ?_⟩) | ((with_reducible refine Ob.mk ?_); first | exact trivial | (intros; omega) | ((repeat' first | apply And.intro | (intro a; have b := a; try simp only [zH] at b)) <;> first | assumption | omega | (simp only [zH]; omega)))
      rw [hz]
      repeat' first
        | with_reducible first | apply Zar | apply Zan | apply Zaa | apply Zac | apply Zah | apply Zap | apply Zag | apply Zaj | apply Zaq | apply Zas | apply Zao | apply Zal | apply Zab | apply Zak
        | ((with_reducible refine Zai ?_ ?_); exact rfl) | ((with_reducible refine Zat ?_); refine Zam rfl ?_ ?_ <;> intro hb <;> (try simp only [zH] at hb)) | ((with_reducible refine Zau 12 ?_ ?_); (· exact rfl); (with_reducible refine Zau 15 ?_ ?_); (· exact rfl); (first | refine Zaf htb hmz Za9 fF rfl rfl ?_ | refine Zae hmo htb hmz Za9 fF rfl rfl (by kernel_rfl) ?_); intro _ _ _ _ h; simp only [zE, evp, evx, ev1, evLoad, evStore, evBin, evIf, Zad, forall_const, z38, tb, reduceAdd, reduceSub, reduceMul, reduceEqDiff, reduceLeDiff, reduceLT, Nat.reduceBEq, Nat.reduceBNe, ↓reduceIte, reduceIte, spLp, nvS] at h; obtain ⟨rfl, rfl, rfl, rfl⟩ := h; refine ⟨?_, ?_⟩) | ((with_reducible refine Ob.mk ?_); first | exact trivial | (intros; omega) | ((repeat' first | apply And.intro | (intro a; have b := a; try simp only [zH] at b)) <;> first | assumption | omega | (simp only [zH]; omega)))
      · have hskip : p.getD z 0 ≤ b → z ∈ L2.map Prod.fst := fun hle => by
          rcases hb with hb | hb
          · rw [hhas] at hb; exact of_decide_eq_true hb
          · omega
        repeat' first
          | with_reducible first | apply Zar | apply Zan | apply Zaa | apply Zac | apply Zah | apply Zap | apply Zag | apply Zaj | apply Zaq | apply Zas | apply Zao | apply Zal | apply Zab | apply Zak
          | ((with_reducible refine Zai ?_ ?_); exact rfl) | ((with_reducible refine Zat ?_); refine Zam rfl ?_ ?_ <;> intro hb <;> (try simp only [zH] at hb)) | ((with_reducible refine Zaz ?_); (first | refine Zaf htb hmz Za9 fF rfl rfl ?_ | refine Zae hmo htb hmz Za9 fF rfl rfl (by kernel_rfl) ?_); intro _ _ _ _ h; simp only [zE, evp, evx, ev1, evLoad, evStore, evBin, evIf, Zad, forall_const, z38, tb, reduceAdd, reduceSub, reduceMul, reduceEqDiff, reduceLeDiff, reduceLT, Nat.reduceBEq, Nat.reduceBNe, ↓reduceIte, reduceIte, spLp, nvS] at h; obtain ⟨rfl, rfl, rfl, rfl⟩ := h; refine ⟨?_, ?_⟩) | ((with_reducible refine Ob.mk ?_); first | exact trivial | (intros; omega) | ((repeat' first | apply And.intro | (intro a; have b := a; try simp only [zH] at b)) <;> first | assumption | omega | (simp only [zH]; omega)))
        refine back ⟨L2, S2, j + 1, es2, clk2⟩ [] ?_ ⟨hS2, hM2, hu2, by dsimp only; omega, fun z' hz' hle => ?_, hmu⟩ (by dsimp only; omega)
        · (refine ⟨rfl, ?_, ?_⟩ <;> simp only [zE, evp, evx, ev1, evLoad, evStore, evBin, evIf, Zad, forall_const, z38, tb, reduceAdd, reduceSub, reduceMul, reduceEqDiff, reduceLeDiff, reduceLT, Nat.reduceBEq, Nat.reduceBNe, ↓reduceIte, reduceIte, spLp, nvS, zI])
        · rw [show (LqS.mk L2 S2 (j + 1) es2 clk2).j = j + 1 from rfl, htj] at hz'
          rcases List.mem_append.1 hz' with h | h
          · exact hcj z' h hle
          · obtain rfl := List.mem_singleton.1 h
            exact hskip hle
      · have hnew : z ∉ L2.map Prod.fst := fun hm => by
          rw [hhas, decide_eq_true hm] at hb
          exact absurd hb.1 (by decide)
        have hb1 := hb
        have hM3 := MQ_put (u := u) (c := clk2) hM2 hnew
        repeat' first
          | with_reducible first | apply Zar | apply Zan | apply Zaa | apply Zac | apply Zah | apply Zap | apply Zag | apply Zaj | apply Zaq | apply Zas | apply Zao | apply Zal | apply Zab | apply Zak
          | ((with_reducible refine Zai ?_ ?_); exact rfl) | ((with_reducible refine Zat ?_); refine Zam rfl ?_ ?_ <;> intro hb <;> (try simp only [zH] at hb)) | ((with_reducible refine Zau 14 ?_ ?_); (· exact rfl); (with_reducible refine Zau 16 ?_ ?_); (· exact rfl); (first | refine Zaf htb hmz Za9 fF rfl rfl ?_ | refine Zae hmo htb hmz Za9 fF rfl rfl (by kernel_rfl) ?_); intro _ _ _ _ h; simp only [zE, evp, evx, ev1, evLoad, evStore, evBin, evIf, Zad, forall_const, z38, tb, reduceAdd, reduceSub, reduceMul, reduceEqDiff, reduceLeDiff, reduceLT, Nat.reduceBEq, Nat.reduceBNe, ↓reduceIte, reduceIte, spLp, nvS] at h; obtain ⟨rfl, rfl, rfl, rfl⟩ := h; refine ⟨?_, ?_⟩) | ((with_reducible refine Ob.mk ?_); first | exact trivial | (intros; omega) | ((repeat' first | apply And.intro | (intro a; have b := a; try simp only [zH] at b)) <;> first | assumption | omega | (simp only [zH]; omega)))
        · obtain rfl : z = v := by omega
          have hSF := SQ_hit hS2 hu2 hzm hv (by rw [hb0]; exact Int.le_refl _)
          generalize mput (z : Int) u clk2 es2 = es3 at *
          generalize mclk (z : Int) clk2 es2 = clk3 at *
          generalize L2 ++ [(z, u)] = L3 at *
          have hhz : mhas (z : Int) es3 = true := by rw [hM3.has]; exact decide_eq_true hSF.fv
          obtain ⟨k0, u0, hm0, hB0⟩ := SB_first hSF
          have hg0 : mget (z : Int) es3 = u0 := hM3.get z u0 hm0
          repeat' first
            | with_reducible first | apply Zar | apply Zan | apply Zaa | apply Zac | apply Zah | apply Zap | apply Zag | apply Zaj | apply Zaq | apply Zas | apply Zao | apply Zal | apply Zab | apply Zak
            | ((with_reducible refine Zai ?_ ?_); exact rfl) | ((with_reducible refine Zat ?_); refine Zam rfl ?_ ?_ <;> intro hb <;> (try simp only [zH] at hb)) | ((with_reducible refine Zau 19 ?_ ?_); (· exact rfl); (first | refine Zaf htb hmz Za9 fF rfl rfl ?_ | refine Zae hmo htb hmz Za9 fF rfl rfl (by kernel_rfl) ?_); intro _ _ _ _ h; simp only [zE, evp, evx, ev1, evLoad, evStore, evBin, evIf, Zad, forall_const, z38, tb, reduceAdd, reduceSub, reduceMul, reduceEqDiff, reduceLeDiff, reduceLT, Nat.reduceBEq, Nat.reduceBNe, ↓reduceIte, reduceIte, spLp, nvS] at h; obtain ⟨rfl, rfl, rfl, rfl⟩ := h; refine ⟨?_, ?_⟩) | ((with_reducible refine Ob.mk ?_); first | exact trivial | (intros; omega) | ((repeat' first | apply And.intro | (intro a; have b := a; try simp only [zH] at b)) <;> first | assumption | omega | (simp only [zH]; omega)))
          · rw [hhz] at hb; cases hb
          (refine Zaf htb hmz Za9 (fun i => Nat.beq i 1) rfl rfl ?_; intro _ _ _ _ h; simp only [zE, evp, evx, ev1, evLoad, evStore, evBin, evIf, Zad, forall_const, z38, tb, reduceAdd, reduceSub, reduceMul, reduceEqDiff, reduceLeDiff, reduceLT, Nat.reduceBEq, Nat.reduceBNe, ↓reduceIte, reduceIte, spLp, nvS] at h; obtain ⟨rfl, rfl, rfl, rfl⟩ := h; refine ⟨?_, ?_⟩)
          · first | ((with_reducible refine Ob.mk ?_); first | exact trivial | (intros; omega) | ((repeat' first | apply And.intro | (intro a; have b := a; try simp only [zH] at b)) <;> first | assumption | omega | (simp only [zH]; omega))) | skip
          refine Zaa ?_
          repeat' first
            | with_reducible first | apply Zar | apply Zan | apply Zaa | apply Zac | apply Zah | apply Zap | apply Zag | apply Zaj | apply Zaq | apply Zas | apply Zao | apply Zal | apply Zab | apply Zak
            | ((with_reducible refine Zai ?_ ?_); exact rfl) | ((with_reducible refine Zat ?_); refine Zam rfl ?_ ?_ <;> intro hb <;> (try simp only [zH] at hb)) | ((with_reducible refine Zau 21 ?_ ?_); (· exact rfl); (first | refine Zaf htb hmz Za9 fF rfl rfl ?_ | refine Zae hmo htb hmz Za9 fF rfl rfl (by kernel_rfl) ?_); intro _ _ _ _ h; simp only [zE, evp, evx, ev1, evLoad, evStore, evBin, evIf, Zad, forall_const, z38, tb, reduceAdd, reduceSub, reduceMul, reduceEqDiff, reduceLeDiff, reduceLT, Nat.reduceBEq, Nat.reduceBNe, ↓reduceIte, reduceIte, spLp, nvS] at h; obtain ⟨rfl, rfl, rfl, rfl⟩ := h; refine ⟨?_, ?_⟩) | ((with_reducible refine Ob.mk ?_); first | exact trivial | (intros; omega) | ((repeat' first | apply And.intro | (intro a; have b := a; try simp only [zH] at b)) <;> first | assumption | omega | (simp only [zH]; omega)))
          rw [hg0]
          refine Za5 (τ := LbS) (fun s => SB (nxVn ⟨o, p, x⟩ w c q) z L3 s.u s.k s.t) (fun s => ⟨85, [(17, .int .i64 s.u), (16, .own 84), (7, .own 16), (4, .cst (.slice none 0 0)), (1, .int .i64 z)], [(84, some (.ints (Zbe (z :: s.t)))), (16, some (.mp es3 clk3))], []⟩) (fun s => s.k) ⟨u0, k0, []⟩ [] ?_ hB0 ?_
          · (refine ⟨rfl, ?_, ?_⟩ <;> simp only [zE, evp, evx, ev1, evLoad, evStore, evBin, evIf, Zad, forall_const, z38, tb, reduceAdd, reduceSub, reduceMul, reduceEqDiff, reduceLeDiff, reduceLT, Nat.reduceBEq, Nat.reduceBNe, ↓reduceIte, reduceIte, spLp, nvS, zI])
            rfl
          rintro ⟨y, k, t⟩ hB
          dsimp only at hB ⊢
          have hct : (Zbe (z :: t)).length = t.length + 1 := List.length_map ..
          have htn : t.length ≤ o.length := Zfb _ _ hB.nd fun z' hz' => hSF.lt z' (List.mem_cons_of_mem _ (hB.nt z' hz').1)
          repeat' first
            | with_reducible first | apply Zar | apply Zan | apply Zaa | apply Zac | apply Zah | apply Zap | apply Zag | apply Zaj | apply Zaq | apply Zas | apply Zao | apply Zal | apply Zab | apply Zak
            | ((with_reducible refine Zai ?_ ?_); exact rfl) | ((with_reducible refine Zat ?_); refine Zam rfl ?_ ?_ <;> intro hb <;> (try simp only [zH] at hb)) | ((with_reducible refine Zau 23 ?_ ?_); (· exact rfl); (with_reducible refine Zau 24 ?_ ?_); (· exact rfl); (first | refine Zaf htb hmz Za9 fF rfl rfl ?_ | refine Zae hmo htb hmz Za9 fF rfl rfl (by kernel_rfl) ?_); intro _ _ _ _ h; simp only [zE, evp, evx, ev1, evLoad, evStore, evBin, evIf, Zad, forall_const, z38, tb, reduceAdd, reduceSub, reduceMul, reduceEqDiff, reduceLeDiff, reduceLT, Nat.reduceBEq, Nat.reduceBNe, ↓reduceIte, reduceIte, spLp, nvS] at h; obtain ⟨rfl, rfl, rfl, rfl⟩ := h; refine ⟨?_, ?_⟩) | ((with_reducible refine Ob.mk ?_); first | exact trivial | (intros; omega) | ((repeat' first | apply And.intro | (intro a; have b := a; try simp only [zH] at b)) <;> first | assumption | omega | (simp only [zH]; omega)))
          · obtain ⟨k', y', hk', hm', hB'⟩ := SB_next hSF hB (by omega)
            have hg' : mget (y : Int) es3 = y' := hM3.get y y' hm'
            have hca : Zbe (z :: t) ++ [(y : Int)] = Zbe (z :: (t ++ [y])) := by unfold Zbe; rw [← List.cons_append, List.map_append]; rfl
            repeat' first
              | with_reducible first | apply Zar | apply Zan | apply Zaa | apply Zac | apply Zah | apply Zap | apply Zag | apply Zaj | apply Zaq | apply Zas | apply Zao | apply Zal | apply Zab | apply Zak
              | ((with_reducible refine Zai ?_ ?_); exact rfl) | ((with_reducible refine Zat ?_); refine Zam rfl ?_ ?_ <;> intro hb <;> (try simp only [zH] at hb)) | ((with_reducible refine Zaz ?_); (first | refine Zaf htb hmz Za9 fF rfl rfl ?_ | refine Zae hmo htb hmz Za9 fF rfl rfl (by kernel_rfl) ?_); intro _ _ _ _ h; simp only [zE, evp, evx, ev1, evLoad, evStore, evBin, evIf, Zad, forall_const, z38, tb, reduceAdd, reduceSub, reduceMul, reduceEqDiff, reduceLeDiff, reduceLT, Nat.reduceBEq, Nat.reduceBNe, ↓reduceIte, reduceIte, spLp, nvS] at h; obtain ⟨rfl, rfl, rfl, rfl⟩ := h; refine ⟨?_, ?_⟩) | ((with_reducible refine Ob.mk ?_); first | exact trivial | (intros; omega) | ((repeat' first | apply And.intro | (intro a; have b := a; try simp only [zH] at b)) <;> first | assumption | omega | (simp only [zH]; omega)))
            refine back ⟨y', k', t ++ [y]⟩ [(84, 91)] ?_ hB' hk'
            (refine ⟨rfl, ?_, ?_⟩ <;> simp only [zE, evp, evx, ev1, evLoad, evStore, evBin, evIf, Zad, forall_const, z38, tb, reduceAdd, reduceSub, reduceMul, reduceEqDiff, reduceLeDiff, reduceLT, Nat.reduceBEq, Nat.reduceBNe, ↓reduceIte, reduceIte, spLp, nvS, zI])
            · exact hg'.symm
            · exact hca
          · obtain rfl : y = z := by omega
            have hE := SB_end hSF hB hv
            refine Zej ([_]) ([]) rfl rfl ?_
            refine Zbd htb hmz Za9 fF rfl rfl rfl ?_; intro _ _ _ _ h; simp only [zE, evp, evx, ev1, evLoad, evStore, evBin, evIf, Zad, forall_const, z38, tb, reduceAdd, reduceSub, reduceMul, reduceEqDiff, reduceLeDiff, reduceLT, Nat.reduceBEq, Nat.reduceBNe, ↓reduceIte, reduceIte, spLp, nvS] at h; obtain ⟨rfl, rfl, rfl, rfl⟩ := h; refine ⟨?_, Zaa ?_⟩
            · first | ((with_reducible refine Ob.mk ?_); first | exact trivial | (intros; omega) | ((repeat' first | apply And.intro | (intro a; have b := a; try simp only [zH] at b)) <;> first | assumption | omega | (simp only [zH]; omega))) | skip
            refine Zb8 ([84]) (reverse_fg (l := Zbe (y :: t)) (by omega)) rfl rfl rfl rfl rfl rfl rfl rfl rfl (by simp only [rinR, rhoC, zE, evp, evx, ev1, evLoad, evStore, evBin, evIf, Zad, forall_const, z38, tb, reduceAdd, reduceSub, reduceMul, reduceEqDiff, reduceLeDiff, reduceLT, Nat.reduceBEq, Nat.reduceBNe, ↓reduceIte, reduceIte, spLp, nvS]) ?_; intro gm gv gr hq m' e' l' h; simp only [GR.mk.injEq] at hq; obtain ⟨rfl, rfl, rfl⟩ := hq; simp only [rhoC, outR, renR, dels, zE, evp, evx, ev1, evLoad, evStore, evBin, evIf, Zad, forall_const, z38, tb, reduceAdd, reduceSub, reduceMul, reduceEqDiff, reduceLeDiff, reduceLT, Nat.reduceBEq, Nat.reduceBNe, ↓reduceIte, reduceIte, spLp, nvS] at h; obtain ⟨rfl, rfl, rfl⟩ := h; refine Zaa ?_
            refine Zcq ?_
            refine Zaa ?_
            have hrv : (Zbe (y :: t)).reverse = Zbe t.reverse ++ [(y : Int)] := by unfold Zbe; rw [← List.map_reverse, List.reverse_cons, List.map_append]; rfl
            rw [hrv]
            have hrl : (Zbe t.reverse ++ [(y : Int)]).length = t.length + 1 := by simp [Zbe]
            have hrt : (Zbe t.reverse ++ [(y : Int)]).take t.length = Zbe t.reverse := by
              rw [List.take_append_of_le_length (by simp [Zbe]), List.take_of_length_le (by simp [Zbe])]
            have hrt2 : (Zbe t.reverse).length = t.length := by simp [Zbe]
            repeat' first
              | with_reducible first | apply Zar | apply Zan | apply Zaa | apply Zac | apply Zah | apply Zap | apply Zag | apply Zaj | apply Zaq | apply Zas | apply Zao | apply Zal | apply Zab | apply Zak
              | ((with_reducible refine Zai ?_ ?_); exact rfl) | ((with_reducible refine Zat ?_); refine Zam rfl ?_ ?_ <;> intro hb <;> (try simp only [zH] at hb)) | ((with_reducible refine Zau 25 ?_ ?_); (· exact rfl); (first | refine Zaf htb hmz Za9 fF rfl rfl ?_ | refine Zae hmo htb hmz Za9 fF rfl rfl (by kernel_rfl) ?_); intro _ _ _ _ h; simp only [zE, evp, evx, ev1, evLoad, evStore, evBin, evIf, Zad, forall_const, z38, tb, reduceAdd, reduceSub, reduceMul, reduceEqDiff, reduceLeDiff, reduceLT, Nat.reduceBEq, Nat.reduceBNe, ↓reduceIte, reduceIte, spLp, nvS] at h; obtain ⟨rfl, rfl, rfl, rfl⟩ := h; refine ⟨?_, ?_⟩) | ((with_reducible refine Ob.mk ?_); first | exact trivial | (intros; omega) | ((repeat' first | apply And.intro | (intro a; have b := a; try simp only [zH] at b)) <;> first | assumption | omega | (simp only [zH]; omega)))
            have hrn : (((Zbe t.reverse ++ [(y : Int)]).length : Int) - 1).toNat = t.length := by omega
            (refine Zaf htb hmz Za9 (fun i => Nat.beq i 1) rfl rfl ?_; intro _ _ _ _ h; simp only [zE, evp, evx, ev1, evLoad, evStore, evBin, evIf, Zad, forall_const, z38, tb, reduceAdd, reduceSub, reduceMul, reduceEqDiff, reduceLeDiff, reduceLT, Nat.reduceBEq, Nat.reduceBNe, ↓reduceIte, reduceIte, spLp, nvS] at h; obtain ⟨rfl, rfl, rfl, rfl⟩ := h; refine ⟨?_, ?_⟩)
            · refine Ob.mk ?_
              rw [hrn, hrt, hrl]
              omega
            refine Zaa ?_
            have hrc : (y : Int) :: Zbe t.reverse = Zbe (y :: t.reverse) := rfl
            rw [hrn, hrt, hrc]
            refine Zei 96 (.roI (Zbe (y :: t.reverse))) (by simp only [Zbb, Zbu, fzE, fzA, fzR, fzB, set1, nbeq, reduceEqDiff, decide_true, decide_false, ↓reduceIte, reduceIte, cond_true, cond_false, List.take_length, Option.some.injEq]; rfl) (by first | exact rfl | (refine ⟨?_, rfl⟩; first | rfl | (intros; rfl))) (by simp only [Zbb, Zbu, fzE, fzA, fzR, fzB, set1, nbeq, reduceEqDiff, decide_true, decide_false, ↓reduceIte, reduceIte, cond_true, cond_false, List.take_length, Option.some.injEq]; rfl) (by simp only [Zbb, Zbu, fzE, fzA, fzR, fzB, set1, nbeq, reduceEqDiff, decide_true, decide_false, ↓reduceIte, reduceIte, cond_true, cond_false, List.take_length, Option.some.injEq]; rfl) ?_
            repeat' first
              | with_reducible first | apply Zar | apply Zan | apply Zaa | apply Zac | apply Zah | apply Zap | apply Zag | apply Zaj | apply Zaq | apply Zas | apply Zao | apply Zal | apply Zab | apply Zak
              | ((with_reducible refine Zai ?_ ?_); exact rfl) | ((with_reducible refine Zat ?_); refine Zam rfl ?_ ?_ <;> intro hb <;> (try simp only [zH] at hb)) | ((with_reducible refine Zaz ?_); (first | refine Zaf htb hmz Za9 fF rfl rfl ?_ | refine Zae hmo htb hmz Za9 fF rfl rfl (by kernel_rfl) ?_); intro _ _ _ _ h; simp only [zE, evp, evx, ev1, evLoad, evStore, evBin, evIf, Zad, forall_const, z38, tb, reduceAdd, reduceSub, reduceMul, reduceEqDiff, reduceLeDiff, reduceLT, Nat.reduceBEq, Nat.reduceBNe, ↓reduceIte, reduceIte, spLp, nvS] at h; obtain ⟨rfl, rfl, rfl, rfl⟩ := h; refine ⟨?_, ?_⟩) | ((with_reducible refine Ob.mk ?_); first | exact trivial | (intros; omega) | ((repeat' first | apply And.intro | (intro a; have b := a; try simp only [zH] at b)) <;> first | assumption | omega | (simp only [zH]; omega)))
            refine Zax rfl rfl (Zdv ⟨0, .roI (Zbe (y :: t.reverse)), []⟩ [] (.inr ⟨y :: t.reverse, ⟨⟨_, rfl⟩, fun z' hz' => (hE.2.2 z' hz').1, hE.1, ?_, fun z' hz' => ?_⟩, rfl⟩) rfl (Zca rfl) trivial)
            · rw [hq]
              exact hE.2.1
            · show p.getD z' 0 ≤ p.getD y 0
              rw [hb0]
              exact (hE.2.2 z' hz').2
        · have hne : z ≠ v := by omega
          have hS3 := SQ_add hS2 hu2 hzm hzn hnew hb1.2 hne
          have hL3 := Zi5 hS3
          have hcs3 : Zbe S2 ++ [(z : Int)] = Zbe (S2 ++ [z]) := by unfold Zbe; rw [List.map_append]; rfl
          repeat' first
            | with_reducible first | apply Zar | apply Zan | apply Zaa | apply Zac | apply Zah | apply Zap | apply Zag | apply Zaj | apply Zaq | apply Zas | apply Zao | apply Zal | apply Zab | apply Zak
            | ((with_reducible refine Zai ?_ ?_); exact rfl) | ((with_reducible refine Zat ?_); refine Zam rfl ?_ ?_ <;> intro hb <;> (try simp only [zH] at hb)) | ((with_reducible refine Zaz ?_); (first | refine Zaf htb hmz Za9 fF rfl rfl ?_ | refine Zae hmo htb hmz Za9 fF rfl rfl (by kernel_rfl) ?_); intro _ _ _ _ h; simp only [zE, evp, evx, ev1, evLoad, evStore, evBin, evIf, Zad, forall_const, z38, tb, reduceAdd, reduceSub, reduceMul, reduceEqDiff, reduceLeDiff, reduceLT, Nat.reduceBEq, Nat.reduceBNe, ↓reduceIte, reduceIte, spLp, nvS] at h; obtain ⟨rfl, rfl, rfl, rfl⟩ := h; refine ⟨?_, ?_⟩) | ((with_reducible refine Ob.mk ?_); first | exact trivial | (intros; omega) | ((repeat' first | apply And.intro | (intro a; have b := a; try simp only [zH] at b)) <;> first | assumption | omega | (simp only [zH]; omega)))
          refine back ⟨L2 ++ [(z, u)], S2 ++ [z], j + 1, mput z u clk2 es2, mclk z clk2 es2⟩ [(35, 76)] ?_ ⟨hS3, hM3, (by rw [Zez]; exact List.mem_append_left _ hu2), by dsimp only; omega, fun z' hz' hle => ?_, ?_⟩ (by dsimp only; omega)
          · (refine ⟨rfl, ?_, ?_⟩ <;> simp only [zE, evp, evx, ev1, evLoad, evStore, evBin, evIf, Zad, forall_const, z38, tb, reduceAdd, reduceSub, reduceMul, reduceEqDiff, reduceLeDiff, reduceLT, Nat.reduceBEq, Nat.reduceBNe, ↓reduceIte, reduceIte, spLp, nvS, zI])
            exact hcs3
          · rw [show (LqS.mk (L2 ++ [(z, u)]) (S2 ++ [z]) (j + 1) (mput z u clk2 es2) (mclk z clk2 es2)).j = j + 1 from rfl, htj] at hz'
            show z' ∈ (L2 ++ [(z, u)]).map Prod.fst
            rw [List.map_append]
            rcases List.mem_append.1 hz' with h | h
            · exact List.mem_append_left _ (hcj z' h hle)
            · obtain rfl := List.mem_singleton.1 h
              exact List.mem_append_right _ (by simp)
          · dsimp only
            rw [List.length_append, List.length_singleton] at hL3
            simp only [List.length_append, List.length_singleton]
            omega
    have hje : j = rw.length := by omega
    subst hje
    have hS4 := SQ_done hS2 (fun z hz hle => hcj z (by rw [List.take_of_length_le (by rw [hxl2]; exact Nat.le_refl _)]; exact hz) hle)
    refine back ⟨L2, S2, es2, clk2⟩ [(19, 35)] ?_ ⟨hS4, hM2⟩ (by dsimp only; rw [List.length_append, List.length_singleton]; omega)
    (refine ⟨rfl, ?_, ?_⟩ <;> simp only [zE, evp, evx, ev1, evLoad, evStore, evBin, evIf, Zad, forall_const, z38, tb, reduceAdd, reduceSub, reduceMul, reduceEqDiff, reduceLeDiff, reduceLT, Nat.reduceBEq, Nat.reduceBNe, ↓reduceIte, reduceIte, spLp, nvS, zI])
  have hS0 : S = [] := List.eq_nil_of_length_eq_zero (by omega)
  subst hS0
  have hhv : mhas (v : Int) es = false := by rw [hM.has]; exact decide_eq_false hS.fv
  repeat' first
    | with_reducible first | apply Zar | apply Zan | apply Zaa | apply Zac | apply Zah | apply Zap | apply Zag | apply Zaj | apply Zaq | apply Zas | apply Zao | apply Zal | apply Zab | apply Zak
    | ((with_reducible refine Zai ?_ ?_); exact rfl) | ((with_reducible refine Zat ?_); refine Zam rfl ?_ ?_ <;> intro hb <;> (try simp only [zH] at hb)) | ((with_reducible refine Zau 18 ?_ ?_); (· exact rfl); (first | refine Zaf htb hmz Za9 fF rfl rfl ?_ | refine Zae hmo htb hmz Za9 fF rfl rfl (by kernel_rfl) ?_); intro _ _ _ _ h; simp only [zE, evp, evx, ev1, evLoad, evStore, evBin, evIf, Zad, forall_const, z38, tb, reduceAdd, reduceSub, reduceMul, reduceEqDiff, reduceLeDiff, reduceLT, Nat.reduceBEq, Nat.reduceBNe, ↓reduceIte, reduceIte, spLp, nvS] at h; obtain ⟨rfl, rfl, rfl, rfl⟩ := h; refine ⟨?_, ?_⟩) | ((with_reducible refine Ob.mk ?_); first | exact trivial | (intros; omega) | ((repeat' first | apply And.intro | (intro a; have b := a; try simp only [zH] at b)) <;> first | assumption | omega | (simp only [zH]; omega)))
  · subst hb0
    repeat' first
      | with_reducible first | apply Zar | apply Zan | apply Zaa | apply Zac | apply Zah | apply Zap | apply Zag | apply Zaj | apply Zaq | apply Zas | apply Zao | apply Zal | apply Zab | apply Zak
      | ((with_reducible refine Zai ?_ ?_); exact rfl) | ((with_reducible refine Zat ?_); refine Zam rfl ?_ ?_ <;> intro hb <;> (try simp only [zH] at hb)) | ((with_reducible refine Zaz ?_); (first | refine Zaf htb hmz Za9 fF rfl rfl ?_ | refine Zae hmo htb hmz Za9 fF rfl rfl (by kernel_rfl) ?_); intro _ _ _ _ h; simp only [zE, evp, evx, ev1, evLoad, evStore, evBin, evIf, Zad, forall_const, z38, tb, reduceAdd, reduceSub, reduceMul, reduceEqDiff, reduceLeDiff, reduceLT, Nat.reduceBEq, Nat.reduceBNe, ↓reduceIte, reduceIte, spLp, nvS] at h; obtain ⟨rfl, rfl, rfl, rfl⟩ := h; refine ⟨?_, ?_⟩) | ((with_reducible refine Ob.mk ?_); first | exact trivial | (intros; omega) | ((repeat' first | apply And.intro | (intro a; have b := a; try simp only [zH] at b)) <;> first | assumption | omega | (simp only [zH]; omega)))
    refine Zax rfl rfl (Zdv ⟨0, .cst (.slice none 0 0), []⟩ [] (.inl ⟨?_, rfl⟩) rfl (Zca rfl) trivial)
    exact SQ_no (pri := fun z => p.getD z 0) hS
  · rw [hhv] at hb
    cases hb
open Go
section
variable {P : Program} {N κ : Nat}
theorem Zck {o : Oper} {t : List Oper} {m : Nat} {env : List (Nat × AV)} {l : List (Nat × Option Blk)} {ms : List Nat} {val : AV} {rd : List (Nat × Blk)} {wr : List (Nat × Option Blk)} {kn : Option Nat} {Q : Exit → St → Prop}
    (hop : OpSem P o (opv (lke env)) val rd wr kn) (hd : Zdj N [o] = true) (hgd : o.guard = none) (hnd : ∀ c, o.op ≠ .defer c) (hrd : RdIn l rd) (hkn : kn = none ∨ kn = some m) (hκ : Nat.ble κ m = true)
    (h : awpL P none N κ t (CS.st ⟨m + 1, putE o.dst val env, setW wr l, ms⟩) Q) : awpL P none N κ (o :: t) (CS.st ⟨m, env, l, ms⟩) Q := by
  intro n K Z ν w a hg
  have hw : Region.wanted o (yielded #[] a.tmps) = true := Zcu (by rw [hgd]; rfl) _
  simp only [wpListIn, hw, if_true]
  refine ⟨fun f hf => trivial, ?_⟩
  have hf : Fits N ⟨o.dst, [], val, rd, wr, kn⟩ (CS.st ⟨m, env, l, ms⟩) := by
    refine ⟨fun p hp => (by cases hp), fun p hp => hrd p hp, fun k hk => ?_, fun d hd2 => ?_⟩
    · have hk : kn = some k := hk
      rcases hkn with h1 | h1
      · rw [h1] at hk; cases hk
      · rw [h1] at hk; cases hk
        show Nat.blt m m = false
        cases hb : Nat.blt m m with
        | false => rfl
        | true => rw [Nat.blt_eq] at hb; omega
    · have hd2 : o.dst = some d := hd2
      simp [Zdj, hd2] at hd; exact hd
  refine (Zcp (ro := none) hnd hop) n K Z ν w a (ltK m) (lkr l) hg.one hg.rs hg.zk hg.kl (fun x _ => ⟨Zim hg x, Zg4 hg x⟩) hf.rd hf.kn _ _ ?_
  intro y Z' ν' w' hst hν h1 hrs hr hm hz
  have hg2 := hg.next hf hst hν h1 hrs hr hm hz
  have e : (Item.app ⟨o.dst, [], val, rd, wr, kn⟩ (CS.st ⟨m, env, l, ms⟩)) = ⟨addK (ltK m) kn, lke (putE o.dst val env), lkr (setW wr l), ms⟩ := by
    show St.mk _ _ _ _ = St.mk _ _ _ _
    rw [Zg3, Zf2]; rfl
  rw [e] at hg2
  have hg3 := hg2.widen (μ' := ltK (m + 1)) (fun k hk => by
    rcases hkn with h1 | h1
    · rw [h1] at hk
      have hk : Nat.blt k m = true := hk
      show Nat.blt k (m + 1) = true
      rw [Nat.blt_eq] at hk ⊢; omega
    · rw [h1] at hk
      have hk : (Nat.blt k m || Nat.beq k m) = true := hk
      show Nat.blt k (m + 1) = true
      rw [Nat.blt_eq]
      rcases Bool.or_eq_true_iff.1 hk with h2 | h2
      · rw [Nat.blt_eq] at h2; omega
      · have := Nat.eq_of_beq_eq_true h2; omega)
  have hh := h n (un K Z') Z' ν' w' _ hg3
  refine Zcb (fun e a2 w2 hp => ?_) hh
  refine hp.trans hst (fun k hk => hν k ?_)
  have := Nat.le_of_ble_eq_true hκ
  show Nat.blt k m = true
  rw [Nat.blt_eq]; omega
theorem Ze8 {o : Oper} {get : Operand → AV} {rd : List (Nat × Blk)} {kn : Nat} {ks : List Nat} {A : List Value → (Nat → Prop) → World → (Nat → Prop) → Prop}
    (h : ∀ (K Z : Nat → Prop) (ν : Nat → Value) (w : World) (ev : Operand → Value) (μ : Nat → Bool) (rs : Rs), (∀ k, (ν k).oneCell' = true) → GoodRs K Z w ν μ rs → (∀ x, x ∈ o.op.operands → R Z w (get x) ν true [ev x] ∧ men μ (get x) = true) → (∀ p, p ∈ rd → rs p.1 = some p.2) →
      ∃ y, (execOp ev o).run P w = .ok (.value y) w ∧ y.oneCell' = true ∧ (∀ k, k ∈ ks → μ k = true) ∧ ∀ (Z' : Nat → Prop) (w' : World), (∀ b, Z b → Z' b) → (∀ b, Z b → w'.heap[b]? = w.heap[b]?) → A (y :: ks.map ν) Z' w' (fun _ => False)) :
    OpSem P o get (.own kn) rd [(kn, some (.sem (kn :: ks) A))] (some kn) :=
  ⟨fun K Z ν w ev μ rs h1 hg hzk hkl hx hrd hkn => by
    have hk2 := hkn kn rfl
    obtain ⟨y, hrun, hy, hks, hA⟩ := h K Z ν w ev μ rs h1 hg hx hrd
    refine ⟨_, w, upN ν kn y, Z, .inl hrun, Step.refl K Z w, Zbx hk2, Zc0 h1 hy, ?_, ?_, Zbo, fun b hb => hkl b (hzk b hb)⟩
    · rw [Zbp hzk]
      refine Zdq (F := fun _ => False) hg hzk hkl hk2 (Nat.le_refl _) (fun _ _ => rfl) ?_ (fun k hk => ?_) (fun y hy => hy.elim)
      · intro Z' w' hZ hw
        have e : (kn :: ks).map (upN ν kn y) = y :: ks.map ν := by
          rw [List.map_cons, upN_same]
          exact congrArg _ (List.map_congr_left fun k hk => Zbx hk2 k (hks k hk))
        rw [e]
        exact hA Z' w' hZ (fun b hb => hw b (.inl hb))
      · rcases List.mem_cons.1 hk with rfl | hk
        · exact Zbo
        · exact Zb9 k (hks k hk)
    · show [_] = [_]; rw [upN_same]⟩
theorem opsem_neqnil {o : Oper} {t e yt : Nat} {x : Operand} {get : Operand → AV} {l : List Int} (ho : o.op = .binOp .neq t x (.const (.slice none 0 0)) yt) (ht : P.underlying t = some (.slice e)) (hx : get x = .roI l) (hl : 0 < l.length) (hc : get (.const (.slice none 0 0)) = .cst (.slice none 0 0)) : OpSem P o get (.bool true) [] [] none :=
  Zco fun K Z ν w ev μ rs hone hg hv hrd => by
    obtain ⟨rx, _⟩ := hv x (by rw [ho]; simp [Op.operands])
    obtain ⟨ry, _⟩ := hv (.const (.slice none 0 0)) (by rw [ho]; simp [Op.operands])
    rw [hx] at rx
    rw [hc] at ry
    have hy := one1 ry
    obtain ⟨A, cap, hcs, _, _, hA⟩ := rx
    injection hcs with hcs _
    obtain ⟨b, f, hA, _⟩ := hA hl
    subst hA
    refine ⟨.bool true, ?_, rfl, rfl⟩
    have hq := run_neq_slice_nil_any (P := P) w t e (some ⟨b, f, none⟩) l.length cap 0 0 ht
    simp only [execOp, ho, hcs, hy]
    simp [eqGuard, hq, Sem.run_bind, Result.andThen, Sem.run]
theorem opsem_neqnil0 {o : Oper} {t e yt : Nat} {x : Operand} {get : Operand → AV} (ho : o.op = .binOp .neq t x (.const (.slice none 0 0)) yt) (ht : P.underlying t = some (.slice e)) (hx : get x = .cst (.slice none 0 0)) (hc : get (.const (.slice none 0 0)) = .cst (.slice none 0 0)) : OpSem P o get (.bool false) [] [] none :=
  Zco fun K Z ν w ev μ rs hone hg hv hrd => by
    obtain ⟨rx, _⟩ := hv x (by rw [ho]; simp [Op.operands])
    obtain ⟨ry, _⟩ := hv (.const (.slice none 0 0)) (by rw [ho]; simp [Op.operands])
    rw [hx] at rx
    rw [hc] at ry
    have hx := one1 rx
    have hy := one1 ry
    refine ⟨.bool false, ?_, rfl, rfl⟩
    have hq := run_neq_slice_nil_any (P := P) w t e none 0 0 0 0 ht
    simp only [execOp, ho, hx, hy]
    simp [eqGuard, hq, Sem.run_bind, Result.andThen, Sem.run]
theorem opsem_neqif {o : Oper} {t yt t2 k : Nat} {x : Operand} {get : Operand → AV} {u : AV} (ho : o.op = .binOp .neq t x (.const .nilIface) yt) (ht : P.underlying t = some (.interface (P.methodsAt t))) (hx : get x = .own k) (hc : get (.const .nilIface) = .cst .nilIface) : OpSem P o get (.bool true) [(k, .sem [k] (ifA t2 u))] [] none :=
  Zco fun K Z ν w ev μ rs hone hg hv hrd => by
    obtain ⟨rx, _⟩ := hv x (by rw [ho]; simp [Op.operands])
    obtain ⟨ry, _⟩ := hv (.const .nilIface) (by rw [ho]; simp [Op.operands])
    rw [hx] at rx
    rw [hc] at ry
    have hx := one1 rx
    have hy := one1 ry
    obtain ⟨Ft, hF⟩ := hg
    obtain ⟨_, _, hs, _⟩ := hF k _ (hrd (k, .sem [k] (ifA t2 u)) (by simp))
    obtain ⟨_, v, hv2, _⟩ := hs Z w (fun _ h => h) (fun _ _ => rfl)
    have hk : ν k = .iface t2 v := by simpa using hv2
    refine ⟨.bool true, ?_, rfl, rfl⟩
    have hq := run_neq_held_nil (P := P) w t t2 v ht
    simp only [execOp, ho, hx, hk, hy]
    simp [eqGuard, hq, Sem.run_bind, Result.andThen, Sem.run]
theorem opsem_neqif0 {o : Oper} {t yt : Nat} {x : Operand} {get : Operand → AV} (ho : o.op = .binOp .neq t x (.const .nilIface) yt) (ht : P.underlying t = some (.interface (P.methodsAt t))) (hx : get x = .cst .nilIface) (hc : get (.const .nilIface) = .cst .nilIface) : OpSem P o get (.bool false) [] [] none :=
  Zco fun K Z ν w ev μ rs hone hg hv hrd => by
    obtain ⟨rx, _⟩ := hv x (by rw [ho]; simp [Op.operands])
    obtain ⟨ry, _⟩ := hv (.const .nilIface) (by rw [ho]; simp [Op.operands])
    rw [hx] at rx
    rw [hc] at ry
    have hx := one1 rx
    have hy := one1 ry
    refine ⟨.bool false, ?_, rfl, rfl⟩
    have hq := run_neq_nil_nil (P := P) w t ht
    simp only [execOp, ho, hx, hy]
    simp [eqGuard, hq, Sem.run_bind, Result.andThen, Sem.run]
end
end Go.Proofs.YtdhoadhkkecjjaaDoor.Cal
