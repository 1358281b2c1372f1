/- Own texts, merged. -/
import Derived.Test.YtdhoadhkkecjjaaDoorS6
set_option linter.unusedVariables false
set_option linter.unusedSimpArgs false
open Nat (reduceAdd reduceSub reduceMul reduceEqDiff reduceLeDiff reduceLT)
namespace Go.Proofs.YtdhoadhkkecjjaaDoor.Cal
open Go Pl
noncomputable def Zb7 : Spec
  | [.agg (.cons (.roI o) (.cons (.roI p) (.cons (.roII x) .nil))), .agg (.cons (.roI w) (.cons (.roI c) .nil))] => some ⟨Zba ⟨o, p, x⟩ = true, .bool (Zbn ⟨o, p, x⟩ w c), none⟩
  | _ => none
noncomputable def spCl : Nat → Option Spec
  | 31 => some hasS
  | _ => none
theorem Zch : SpOK Tryd.prog spCl := by
  intro f S h
  unfold spCl at h
  split at h
  · cases h; exact Zhe
  · cases h
set_option maxRecDepth 4000 in
set_option maxHeartbeats 4000000 in
theorem claim_ok : Zb2 Tryd.prog 11 Zb7 := by
  refine Za8 htb (fn := Tryd.f11) (by kernel_rfl) (by kernel_rfl) rfl (fun args r hS => ?_) (fun args r hS hob hl => ?_)
  · unfold Zb7 at hS; split at hS <;> first | (cases hS; done) | (cases hS; exact Nat.le_of_ble_eq_true rfl)
  unfold Zb7 at hS
  split at hS
  case h_2 => cases hS
  rename_i o p x w c
  simp only [Option.some.injEq] at hS
  subst hS
  simp only [lenP, mkL, lim] at hl
  dsimp only at hob
  have hv := hob
  have hG := gok (validB_iff.1 hob)
  have hpl : p.length = o.length := hG.pl
  have hxl : x.length = o.length := hG.xl
  have hn : o.length ≤ 20000 := hG.n
  have hno : ∀ v, v < o.length → ¬ ((w.getD v 0 = 0 ∨ w.getD v 0 = 1) ∧ (o.getD v 0 = w.getD v 0 → c.getD v 0 ∈ x.getD v []) ∧ (o.getD v 0 ≠ w.getD v 0 → c.getD v 0 = -1)) → Zbn ⟨o, p, x⟩ w c = false := fun v hv h => decide_eq_false fun h2 => h (h2.2.2 v hv)
  repeat' first
    | with_reducible first | apply Zar | apply Zan | apply Zaa | apply Zac | apply Zah | apply Zap | apply Zag | apply Zaj | apply Zaq | apply Zas | apply Zao | apply Zal | apply Zab | apply Zak
    | ((with_reducible refine Zai ?_ ?_); exact rfl) | ((with_reducible refine Zat ?_); refine Zam rfl ?_ ?_ <;> intro hb <;> (try simp only [zH] at hb)) | ((with_reducible refine Zau 2 ?_ ?_); (· exact rfl); (with_reducible refine Zau 3 ?_ ?_); (· exact rfl); (first | refine Zaf htb hmz Zch fF rfl rfl ?_ | refine Zae hmo htb hmz Zch fF rfl rfl (by kernel_rfl) ?_); intro _ _ _ _ h; simp only [zE, evp, evx, ev1, evLoad, evStore, evBin, evIf, Zad, forall_const, z38, tb, reduceAdd, reduceSub, reduceMul, reduceEqDiff, reduceLeDiff, reduceLT, Nat.reduceBEq, Nat.reduceBNe, ↓reduceIte, reduceIte, spCl, hasS] at h; obtain ⟨rfl, rfl, rfl, rfl⟩ := h; refine ⟨?_, ?_⟩) | ((with_reducible refine Ob.mk ?_); first | exact trivial | (intros; omega) | ((repeat' first | apply And.intro | (intro a; have b := a; try simp only [zH] at b)) <;> first | assumption | omega | (simp only [zH]; omega)))
  · have hcb : Zbn ⟨o, p, x⟩ w c = false := decide_eq_false fun h => by
      have h1 : w.length = o.length := h.1
      have h2 : c.length = o.length := h.2.1
      omega
    repeat' first
      | with_reducible first | apply Zar | apply Zan | apply Zaa | apply Zac | apply Zah | apply Zap | apply Zag | apply Zaj | apply Zaq | apply Zas | apply Zao | apply Zal | apply Zab | apply Zak
      | ((with_reducible refine Zai ?_ ?_); exact rfl) | ((with_reducible refine Zat ?_); refine Zam rfl ?_ ?_ <;> intro hb <;> (try simp only [zH] at hb)) | ((with_reducible refine Zaz ?_); (first | refine Zaf htb hmz Zch fF rfl rfl ?_ | refine Zae hmo htb hmz Zch fF rfl rfl (by kernel_rfl) ?_); intro _ _ _ _ h; simp only [zE, evp, evx, ev1, evLoad, evStore, evBin, evIf, Zad, forall_const, z38, tb, reduceAdd, reduceSub, reduceMul, reduceEqDiff, reduceLeDiff, reduceLT, Nat.reduceBEq, Nat.reduceBNe, ↓reduceIte, reduceIte, spCl, hasS] at h; obtain ⟨rfl, rfl, rfl, rfl⟩ := h; refine ⟨?_, ?_⟩) | ((with_reducible refine Ob.mk ?_); first | exact trivial | (intros; omega) | ((repeat' first | apply And.intro | (intro a; have b := a; try simp only [zH] at b)) <;> first | assumption | omega | (simp only [zH]; omega)))
    refine Zax rfl rfl (Zaw rfl ?_ rfl)
    rw [hcb]; rfl
  have hwl : w.length = o.length := by omega
  have hcl : c.length = o.length := by omega
  clear hb
  have hrl : ∀ v, v < o.length → (x.getD v []).length ≤ 64 := fun v h => (hG.len v h).2
  repeat' first
    | with_reducible first | apply Zar | apply Zan | apply Zaa | apply Zac | apply Zah | apply Zap | apply Zag | apply Zaj | apply Zaq | apply Zas | apply Zao | apply Zal | apply Zab | apply Zak
    | ((with_reducible refine Zai ?_ ?_); exact rfl) | ((with_reducible refine Zat ?_); refine Zam rfl ?_ ?_ <;> intro hb <;> (try simp only [zH] at hb)) | ((with_reducible refine Zaz ?_); (first | refine Zaf htb hmz Zch fF rfl rfl ?_ | refine Zae hmo htb hmz Zch fF rfl rfl (by kernel_rfl) ?_); intro _ _ _ _ h; simp only [zE, evp, evx, ev1, evLoad, evStore, evBin, evIf, Zad, forall_const, z38, tb, reduceAdd, reduceSub, reduceMul, reduceEqDiff, reduceLeDiff, reduceLT, Nat.reduceBEq, Nat.reduceBNe, ↓reduceIte, reduceIte, spCl, hasS] at h; obtain ⟨rfl, rfl, rfl, rfl⟩ := h; refine ⟨?_, ?_⟩) | ((with_reducible refine Ob.mk ?_); first | exact trivial | (intros; omega) | ((repeat' first | apply And.intro | (intro a; have b := a; try simp only [zH] at b)) <;> first | assumption | omega | (simp only [zH]; omega)))
  refine Za5 (τ := Nat) (fun i => i ≤ o.length ∧ ∀ v, v < i → (w.getD v 0 = 0 ∨ w.getD v 0 = 1) ∧ (o.getD v 0 = w.getD v 0 → c.getD v 0 ∈ x.getD v []) ∧ (o.getD v 0 ≠ w.getD v 0 → c.getD v 0 = -1)) (fun i => ⟨23, [(26, .int .i64 i), (25, .int .i64 w.length), (24, .roI w), (3, .rop (.agg (.cons (.roI w) (.cons (.roI c) .nil)))), (2, (.rop (.agg (.cons (.roI o) (.cons (.roI p) (.cons (.roII x) .nil))))))], [], []⟩) (fun i => o.length - i) 0 [] ?_ ⟨Nat.zero_le _, fun v hv => absurd hv (Nat.not_lt_zero v)⟩ ?_
  · (refine ⟨rfl, ?_, ?_⟩ <;> simp only [zE, evp, evx, ev1, evLoad, evStore, evBin, evIf, Zad, forall_const, z38, tb, reduceAdd, reduceSub, reduceMul, reduceEqDiff, reduceLeDiff, reduceLT, Nat.reduceBEq, Nat.reduceBNe, ↓reduceIte, reduceIte, spCl, hasS, zI])
  rintro i ⟨hi, hk⟩
  have hno1 := hno i
  have hrl1 := hrl i
  clear hno hrl
  repeat' first
    | with_reducible first | apply Zar | apply Zan | apply Zaa | apply Zac | apply Zah | apply Zap | apply Zag | apply Zaj | apply Zaq | apply Zas | apply Zao | apply Zal | apply Zab | apply Zak
    | ((with_reducible refine Zai ?_ ?_); exact rfl) | ((with_reducible refine Zat ?_); refine Zam rfl ?_ ?_ <;> intro hb <;> (try simp only [zH] at hb)) | ((with_reducible refine Zau 7 ?_ ?_); (· exact rfl); (with_reducible refine Zau 8 ?_ ?_); (· exact rfl); (first | refine Zaf htb hmz Zch fF rfl rfl ?_ | refine Zae hmo htb hmz Zch fF rfl rfl (by kernel_rfl) ?_); intro _ _ _ _ h; simp only [zE, evp, evx, ev1, evLoad, evStore, evBin, evIf, Zad, forall_const, z38, tb, reduceAdd, reduceSub, reduceMul, reduceEqDiff, reduceLeDiff, reduceLT, Nat.reduceBEq, Nat.reduceBNe, ↓reduceIte, reduceIte, spCl, hasS] at h; obtain ⟨rfl, rfl, rfl, rfl⟩ := h; refine ⟨?_, ?_⟩) | ((with_reducible refine Ob.mk ?_); first | exact trivial | (intros; omega) | ((repeat' first | apply And.intro | (intro a; have b := a; try simp only [zH] at b)) <;> first | assumption | omega | (simp only [zH]; omega)))
  · rw [hno1 (by omega) fun h => by omega] at *
    repeat' first
      | with_reducible first | apply Zar | apply Zan | apply Zaa | apply Zac | apply Zah | apply Zap | apply Zag | apply Zaj | apply Zaq | apply Zas | apply Zao | apply Zal | apply Zab | apply Zak
      | ((with_reducible refine Zai ?_ ?_); exact rfl) | ((with_reducible refine Zat ?_); refine Zam rfl ?_ ?_ <;> intro hb <;> (try simp only [zH] at hb)) | ((with_reducible refine Zaz ?_); (first | refine Zaf htb hmz Zch fF rfl rfl ?_ | refine Zae hmo htb hmz Zch fF rfl rfl (by kernel_rfl) ?_); intro _ _ _ _ h; simp only [zE, evp, evx, ev1, evLoad, evStore, evBin, evIf, Zad, forall_const, z38, tb, reduceAdd, reduceSub, reduceMul, reduceEqDiff, reduceLeDiff, reduceLT, Nat.reduceBEq, Nat.reduceBNe, ↓reduceIte, reduceIte, spCl, hasS] at h; obtain ⟨rfl, rfl, rfl, rfl⟩ := h; refine ⟨?_, ?_⟩) | ((with_reducible refine Ob.mk ?_); first | exact trivial | (intros; omega) | ((repeat' first | apply And.intro | (intro a; have b := a; try simp only [zH] at b)) <;> first | assumption | omega | (simp only [zH]; omega)))
    refine Zax rfl rfl (Zaw rfl ?_ rfl)
    rfl
  · (refine Zae hmo htb hmz Zch fF rfl rfl (by kernel_rfl) ?_; intro _ _ _ _ h; simp only [zE, evp, evx, ev1, evLoad, evStore, evBin, evIf, Zad, forall_const, z38, tb, reduceAdd, reduceSub, reduceMul, reduceEqDiff, reduceLeDiff, reduceLT, Nat.reduceBEq, Nat.reduceBNe, ↓reduceIte, reduceIte, spCl, hasS] at h; obtain ⟨rfl, rfl, rfl, rfl⟩ := h; refine ⟨?_, ?_⟩)
    · first | ((with_reducible refine Ob.mk ?_); first | exact trivial | (intros; omega) | ((repeat' first | apply And.intro | (intro a; have b := a; try simp only [zH] at b)) <;> first | assumption | omega | (simp only [zH]; omega))) | skip
    repeat' first
      | with_reducible first | apply Zar | apply Zan | apply Zaa | apply Zac | apply Zah | apply Zap | apply Zag | apply Zaj | apply Zaq | apply Zas | apply Zao | apply Zal | apply Zab | apply Zak
      | ((with_reducible refine Zai ?_ ?_); exact rfl) | ((with_reducible refine Zat ?_); refine Zam rfl ?_ ?_ <;> intro hb <;> (try simp only [zH] at hb)) | ((with_reducible refine Zau 9 ?_ ?_); (· exact rfl); (with_reducible refine Zau 10 ?_ ?_); (· exact rfl); (first | refine Zaf htb hmz Zch fF rfl rfl ?_ | refine Zae hmo htb hmz Zch fF rfl rfl (by kernel_rfl) ?_); intro _ _ _ _ h; simp only [zE, evp, evx, ev1, evLoad, evStore, evBin, evIf, Zad, forall_const, z38, tb, reduceAdd, reduceSub, reduceMul, reduceEqDiff, reduceLeDiff, reduceLT, Nat.reduceBEq, Nat.reduceBNe, ↓reduceIte, reduceIte, spCl, hasS] at h; obtain ⟨rfl, rfl, rfl, rfl⟩ := h; refine ⟨?_, ?_⟩) | ((with_reducible refine Ob.mk ?_); first | exact trivial | (intros; omega) | ((repeat' first | apply And.intro | (intro a; have b := a; try simp only [zH] at b)) <;> first | assumption | omega | (simp only [zH]; omega)))
    · rename_i hb1
      repeat' first
        | with_reducible first | apply Zar | apply Zan | apply Zaa | apply Zac | apply Zah | apply Zap | apply Zag | apply Zaj | apply Zaq | apply Zas | apply Zao | apply Zal | apply Zab | apply Zak
        | ((with_reducible refine Zai ?_ ?_); exact rfl) | ((with_reducible refine Zat ?_); refine Zam rfl ?_ ?_ <;> intro hb <;> (try simp only [zH] at hb)) | ((with_reducible refine Zaz ?_); (first | refine Zaf htb hmz Zch fF rfl rfl ?_ | refine Zae hmo htb hmz Zch fF rfl rfl (by kernel_rfl) ?_); intro _ _ _ _ h; simp only [zE, evp, evx, ev1, evLoad, evStore, evBin, evIf, Zad, forall_const, z38, tb, reduceAdd, reduceSub, reduceMul, reduceEqDiff, reduceLeDiff, reduceLT, Nat.reduceBEq, Nat.reduceBNe, ↓reduceIte, reduceIte, spCl, hasS] at h; obtain ⟨rfl, rfl, rfl, rfl⟩ := h; refine ⟨?_, ?_⟩) | ((with_reducible refine Ob.mk ?_); first | exact trivial | (intros; omega) | ((repeat' first | apply And.intro | (intro a; have b := a; try simp only [zH] at b)) <;> first | assumption | omega | (simp only [zH]; omega)))
      refine Zax rfl rfl (Zaw rfl ?_ rfl)
      rw [hno1 (by omega) fun h => hb.2 (h.2.1 hb.1)]
      rfl
    rename_i hb1
    repeat' first
      | with_reducible first | apply Zar | apply Zan | apply Zaa | apply Zac | apply Zah | apply Zap | apply Zag | apply Zaj | apply Zaq | apply Zas | apply Zao | apply Zal | apply Zab | apply Zak
      | ((with_reducible refine Zai ?_ ?_); exact rfl) | ((with_reducible refine Zat ?_); refine Zam rfl ?_ ?_ <;> intro hb <;> (try simp only [zH] at hb)) | ((with_reducible refine Zaz ?_); (first | refine Zaf htb hmz Zch fF rfl rfl ?_ | refine Zae hmo htb hmz Zch fF rfl rfl (by kernel_rfl) ?_); intro _ _ _ _ h; simp only [zE, evp, evx, ev1, evLoad, evStore, evBin, evIf, Zad, forall_const, z38, tb, reduceAdd, reduceSub, reduceMul, reduceEqDiff, reduceLeDiff, reduceLT, Nat.reduceBEq, Nat.reduceBNe, ↓reduceIte, reduceIte, spCl, hasS] at h; obtain ⟨rfl, rfl, rfl, rfl⟩ := h; refine ⟨?_, ?_⟩) | ((with_reducible refine Ob.mk ?_); first | exact trivial | (intros; omega) | ((repeat' first | apply And.intro | (intro a; have b := a; try simp only [zH] at b)) <;> first | assumption | omega | (simp only [zH]; omega)))
    · refine Zax rfl rfl (Zaw rfl ?_ rfl)
      rw [hno1 (by omega) fun h => hb.2 (h.2.2 hb.1)]
      rfl
    · rename_i hb2
      refine back (i + 1) [] ?_ ⟨by omega, fun v hv => ?_⟩ (by omega)
      · (refine ⟨rfl, ?_, ?_⟩ <;> simp only [zE, evp, evx, ev1, evLoad, evStore, evBin, evIf, Zad, forall_const, z38, tb, reduceAdd, reduceSub, reduceMul, reduceEqDiff, reduceLeDiff, reduceLT, Nat.reduceBEq, Nat.reduceBNe, ↓reduceIte, reduceIte, spCl, hasS, zI])
      · rcases Nat.lt_succ_iff_lt_or_eq.1 hv with h | rfl
        · exact hk v h
        · refine ⟨by omega, fun h => ?_, fun h => ?_⟩
          · rcases hb2 with h2 | h2
            · exact absurd h h2
            · exact h2
          · rcases hb with h2 | h2
            · exact absurd h2 h
            · exact h2
  have hie : i = o.length := by omega
  subst hie
  refine Zax rfl rfl (Zaw rfl ?_ rfl)
  have hcb : Zbn ⟨o, p, x⟩ w c = true := decide_eq_true ⟨hwl, hcl, hk⟩
  rw [hcb]
  rfl
open Go Pl
noncomputable def clmE (g : Gm) (W C : List Int) : Int := if Zba g = true then (if Zbn g W C = true then 0 else 4) else 1
theorem clm_1 {g : Gm} {W C : List Int} (h : Zba g = false) : clmE g W C = 1 := by unfold clmE; rw [if_neg (by rw [h]; decide)]
theorem Zji {g : Gm} {W C : List Int} (h : Zba g = true) (h2 : Zbn g W C = false) : clmE g W C = 4 := by unfold clmE; rw [if_pos h, if_neg (by rw [h2]; decide)]
theorem clm_0 {g : Gm} {W C : List Int} (h : Zba g = true) (h2 : Zbn g W C = true) : clmE g W C = 0 := by unfold clmE; rw [if_pos h, if_pos h2]
theorem Zii (g : Gm) (W C : List Int) : (Zba g = true ∧ Zbn g W C = true ∧ clmE g W C = 0) ∨ (clmE g W C = 1 ∧ Zba g = false) ∨ (clmE g W C = 4 ∧ Zba g = true ∧ Zbn g W C = false) := by
  cases h : Zba g with
  | false => exact .inr (.inl ⟨clm_1 h, rfl⟩)
  | true =>
    cases h2 : Zbn g W C with
    | false => exact .inr (.inr ⟨Zji h h2, rfl, rfl⟩)
    | true => exact .inl ⟨rfl, rfl, clm_0 h h2⟩
def seI (e : Int) (l : List Int) : List Int := if e = 0 then l else []
def seII (e : Int) (l : List (List Int)) : List (List Int) := if e = 0 then l else []
noncomputable def clmS : Spec
  | [.agg (.cons (.roI o) (.cons (.roI p) (.cons (.roII x) .nil))), .agg (.cons (.roI w) (.cons (.roI c) .nil))] => some ⟨True, .tup (.cons (.agg (.cons (.roI (seI (clmE ⟨o, p, x⟩ w c) o)) (.cons (.roI (seI (clmE ⟨o, p, x⟩ w c) p)) (.cons (.roII (seII (clmE ⟨o, p, x⟩ w c) x)) (.cons (.roI (seI (clmE ⟨o, p, x⟩ w c) w)) (.cons (.roI (seI (clmE ⟨o, p, x⟩ w c) c)) .nil)))))) (.cons (.int .i64 (clmE ⟨o, p, x⟩ w c)) .nil)), none⟩
  | _ => none
theorem Zhj {e e' : Int} {o p w c : List Int} {x : List (List Int)} (h : e = e') (h2 : e' ≠ 0) : Imp (.tup (.cons (.agg (.cons (.cst (.slice none 0 0)) (.cons (.cst (.slice none 0 0)) (.cons (.cst (.slice none 0 0)) (.cons (.cst (.slice none 0 0)) (.cons (.cst (.slice none 0 0)) .nil)))))) (.cons (.int .i64 e') .nil)))
    (.tup (.cons (.agg (.cons (.roI (seI e o)) (.cons (.roI (seI e p)) (.cons (.roII (seII e x)) (.cons (.roI (seI e w)) (.cons (.roI (seI e c)) .nil)))))) (.cons (.int .i64 e) .nil))) := by
  subst h
  have e1 : ∀ l, seI e l = [] := fun l => if_neg h2
  have e2 : ∀ l, seII e l = [] := fun l => if_neg h2
  rw [e1, e1, e1, e1, e2]
  exact Zgk (Zb3 (Zhd (Zb3 Zb0 (Zb3 Zb0 (Zb3 imp_nilII (Zb3 Zb0 (Zb3 Zb0 (Zca rfl))))))) (Zca rfl))
noncomputable def spCo : Nat → Option Spec
  | 44 => some Zay
  | 41 => some Zav
  | _ => none
theorem Zbw : SpOK Tryd.prog spCo := by
  intro f S h
  unfold spCo at h
  split at h
  · cases h; exact Zfw
  · cases h; exact Zdk
  · cases h
set_option maxRecDepth 4000 in
set_option maxHeartbeats 4000000 in
theorem Zfr : Zb2 Tryd.prog 28 clmS := by
  refine Za8 htb (fn := Tryd.f28) (by kernel_rfl) (by kernel_rfl) rfl (fun args r hS => ?_) (fun args r hS hob hl => ?_)
  · unfold clmS at hS; split at hS <;> first | (cases hS; done) | (cases hS; exact Nat.le_of_ble_eq_true rfl)
  unfold clmS at hS
  split at hS
  case h_2 => cases hS
  rename_i o p x w c
  simp only [Option.some.injEq] at hS
  subst hS
  simp only [lenP, mkL, lim] at hl
  dsimp only at hob
  repeat' first
    | with_reducible first | apply Zar | apply Zan | apply Zaa | apply Zac | apply Zah | apply Zap | apply Zag | apply Zaj | apply Zaq | apply Zas | apply Zao | apply Zal | apply Zab | apply Zak
    | ((with_reducible refine Zai ?_ ?_); exact rfl) | ((with_reducible refine Zat ?_); refine Zam rfl ?_ ?_ <;> intro hb <;> (try simp only [zH] at hb)) | ((with_reducible refine Zau 2 ?_ ?_); (· exact rfl); (with_reducible refine Zau 3 ?_ ?_); (· exact rfl); (first | refine Zaf htb hmz Zbw fF rfl rfl ?_ | refine Zae hmo htb hmz Zbw fF rfl rfl (by kernel_rfl) ?_); intro _ _ _ _ h; simp only [zE, evp, evx, ev1, evLoad, evStore, evBin, evIf, Zad, forall_const, z38, tb, reduceAdd, reduceSub, reduceMul, reduceEqDiff, reduceLeDiff, reduceLT, Nat.reduceBEq, Nat.reduceBNe, ↓reduceIte, reduceIte, spCo, Zay, Zav] at h; obtain ⟨rfl, rfl, rfl, rfl⟩ := h; refine ⟨?_, ?_⟩) | ((with_reducible refine Ob.mk ?_); first | exact trivial | (intros; omega) | ((repeat' first | apply And.intro | (intro a; have b := a; try simp only [zH] at b)) <;> first | assumption | omega | (simp only [zH]; omega)))
  · repeat' first
      | with_reducible first | apply Zar | apply Zan | apply Zaa | apply Zac | apply Zah | apply Zap | apply Zag | apply Zaj | apply Zaq | apply Zas | apply Zao | apply Zal | apply Zab | apply Zak
      | ((with_reducible refine Zai ?_ ?_); exact rfl) | ((with_reducible refine Zat ?_); refine Zam rfl ?_ ?_ <;> intro hb <;> (try simp only [zH] at hb)) | ((with_reducible refine Zaz ?_); (first | refine Zaf htb hmz Zbw fF rfl rfl ?_ | refine Zae hmo htb hmz Zbw fF rfl rfl (by kernel_rfl) ?_); intro _ _ _ _ h; simp only [zE, evp, evx, ev1, evLoad, evStore, evBin, evIf, Zad, forall_const, z38, tb, reduceAdd, reduceSub, reduceMul, reduceEqDiff, reduceLeDiff, reduceLT, Nat.reduceBEq, Nat.reduceBNe, ↓reduceIte, reduceIte, spCo, Zay, Zav] at h; obtain ⟨rfl, rfl, rfl, rfl⟩ := h; refine ⟨?_, ?_⟩) | ((with_reducible refine Ob.mk ?_); first | exact trivial | (intros; omega) | ((repeat' first | apply And.intro | (intro a; have b := a; try simp only [zH] at b)) <;> first | assumption | omega | (simp only [zH]; omega)))
    refine Zax rfl rfl (Zcg rfl ?_ rfl)
    exact Zhj (clm_1 hb) (by decide)
  have hv : Zba ⟨o, p, x⟩ = true := by cases h : Zba ⟨o, p, x⟩ with | true => rfl | false => rw [h] at hb; simp at hb
  clear hb
  have hG := gok (validB_iff.1 hv)
  have hxl : x.length = o.length := hG.xl
  have hn : o.length ≤ 20000 := hG.n
  have hno : ∀ v, v < o.length → ¬ ((w.getD v 0 = 0 ∨ w.getD v 0 = 1) ∧ (o.getD v 0 = w.getD v 0 → c.getD v 0 ∈ x.getD v []) ∧ (o.getD v 0 ≠ w.getD v 0 → c.getD v 0 = -1)) → clmE ⟨o, p, x⟩ w c = 4 := fun v hv2 h => Zji hv (decide_eq_false fun h2 => h (h2.2.2 v hv2))
  repeat' first
    | with_reducible first | apply Zar | apply Zan | apply Zaa | apply Zac | apply Zah | apply Zap | apply Zag | apply Zaj | apply Zaq | apply Zas | apply Zao | apply Zal | apply Zab | apply Zak
    | ((with_reducible refine Zai ?_ ?_); exact rfl) | ((with_reducible refine Zat ?_); refine Zam rfl ?_ ?_ <;> intro hb <;> (try simp only [zH] at hb)) | ((with_reducible refine Zau 4 ?_ ?_); (· exact rfl); (with_reducible refine Zau 5 ?_ ?_); (· exact rfl); (first | refine Zaf htb hmz Zbw fF rfl rfl ?_ | refine Zae hmo htb hmz Zbw fF rfl rfl (by kernel_rfl) ?_); intro _ _ _ _ h; simp only [zE, evp, evx, ev1, evLoad, evStore, evBin, evIf, Zad, forall_const, z38, tb, reduceAdd, reduceSub, reduceMul, reduceEqDiff, reduceLeDiff, reduceLT, Nat.reduceBEq, Nat.reduceBNe, ↓reduceIte, reduceIte, spCo, Zay, Zav] at h; obtain ⟨rfl, rfl, rfl, rfl⟩ := h; refine ⟨?_, ?_⟩) | ((with_reducible refine Ob.mk ?_); first | exact trivial | (intros; omega) | ((repeat' first | apply And.intro | (intro a; have b := a; try simp only [zH] at b)) <;> first | assumption | omega | (simp only [zH]; omega)))
  · have hcb : clmE ⟨o, p, x⟩ w c = 4 := Zji hv (decide_eq_false fun h => by
      have h1 : w.length = o.length := h.1
      have h2 : c.length = o.length := h.2.1
      omega)
    repeat' first
      | with_reducible first | apply Zar | apply Zan | apply Zaa | apply Zac | apply Zah | apply Zap | apply Zag | apply Zaj | apply Zaq | apply Zas | apply Zao | apply Zal | apply Zab | apply Zak
      | ((with_reducible refine Zai ?_ ?_); exact rfl) | ((with_reducible refine Zat ?_); refine Zam rfl ?_ ?_ <;> intro hb <;> (try simp only [zH] at hb)) | ((with_reducible refine Zaz ?_); (first | refine Zaf htb hmz Zbw fF rfl rfl ?_ | refine Zae hmo htb hmz Zbw fF rfl rfl (by kernel_rfl) ?_); intro _ _ _ _ h; simp only [zE, evp, evx, ev1, evLoad, evStore, evBin, evIf, Zad, forall_const, z38, tb, reduceAdd, reduceSub, reduceMul, reduceEqDiff, reduceLeDiff, reduceLT, Nat.reduceBEq, Nat.reduceBNe, ↓reduceIte, reduceIte, spCo, Zay, Zav] at h; obtain ⟨rfl, rfl, rfl, rfl⟩ := h; refine ⟨?_, ?_⟩) | ((with_reducible refine Ob.mk ?_); first | exact trivial | (intros; omega) | ((repeat' first | apply And.intro | (intro a; have b := a; try simp only [zH] at b)) <;> first | assumption | omega | (simp only [zH]; omega)))
    refine Zax rfl rfl (Zcg rfl ?_ rfl)
    exact Zhj hcb (by decide)
  have hwl : w.length = o.length := by omega
  have hcl : c.length = o.length := by omega
  clear hb
  have hrl : ∀ v, v < o.length → (x.getD v []).length ≤ 64 := fun v h => (hG.len v h).2
  repeat' first
    | with_reducible first | apply Zar | apply Zan | apply Zaa | apply Zac | apply Zah | apply Zap | apply Zag | apply Zaj | apply Zaq | apply Zas | apply Zao | apply Zal | apply Zab | apply Zak
    | ((with_reducible refine Zai ?_ ?_); exact rfl) | ((with_reducible refine Zat ?_); refine Zam rfl ?_ ?_ <;> intro hb <;> (try simp only [zH] at hb)) | ((with_reducible refine Zaz ?_); (first | refine Zaf htb hmz Zbw fF rfl rfl ?_ | refine Zae hmo htb hmz Zbw fF rfl rfl (by kernel_rfl) ?_); intro _ _ _ _ h; simp only [zE, evp, evx, ev1, evLoad, evStore, evBin, evIf, Zad, forall_const, z38, tb, reduceAdd, reduceSub, reduceMul, reduceEqDiff, reduceLeDiff, reduceLT, Nat.reduceBEq, Nat.reduceBNe, ↓reduceIte, reduceIte, spCo, Zay, Zav] at h; obtain ⟨rfl, rfl, rfl, rfl⟩ := h; refine ⟨?_, ?_⟩) | ((with_reducible refine Ob.mk ?_); first | exact trivial | (intros; omega) | ((repeat' first | apply And.intro | (intro a; have b := a; try simp only [zH] at b)) <;> first | assumption | omega | (simp only [zH]; omega)))
  refine Za5 (τ := Nat) (fun i => i ≤ o.length ∧ ∀ v, v < i → (w.getD v 0 = 0 ∨ w.getD v 0 = 1) ∧ (o.getD v 0 = w.getD v 0 → c.getD v 0 ∈ x.getD v []) ∧ (o.getD v 0 ≠ w.getD v 0 → c.getD v 0 = -1)) (fun i => ⟨27, [(32, .int .i64 i), (31, .int .i64 w.length), (30, .roI w), (5, .int .i64 0), (4, .own 2), (3, .rop (.agg (.cons (.roI w) (.cons (.roI c) .nil)))), (2, (.rop (.agg (.cons (.roI o) (.cons (.roI p) (.cons (.roII x) .nil))))))], [(2, some (.box (.agg (.cons (.cst (.slice none 0 0)) (.cons (.cst (.slice none 0 0)) (.cons (.cst (.slice none 0 0)) (.cons (.cst (.slice none 0 0)) (.cons (.cst (.slice none 0 0)) .nil))))))))], []⟩) (fun i => o.length - i) 0 [] ?_ ⟨Nat.zero_le _, fun v hv => absurd hv (Nat.not_lt_zero v)⟩ ?_
  · (refine ⟨rfl, ?_, ?_⟩ <;> simp only [zE, evp, evx, ev1, evLoad, evStore, evBin, evIf, Zad, forall_const, z38, tb, reduceAdd, reduceSub, reduceMul, reduceEqDiff, reduceLeDiff, reduceLT, Nat.reduceBEq, Nat.reduceBNe, ↓reduceIte, reduceIte, spCo, Zay, Zav, zI])
  rintro i ⟨hi, hk⟩
  have hno1 := hno i
  have hrl1 := hrl i
  clear hno hrl
  repeat' first
    | with_reducible first | apply Zar | apply Zan | apply Zaa | apply Zac | apply Zah | apply Zap | apply Zag | apply Zaj | apply Zaq | apply Zas | apply Zao | apply Zal | apply Zab | apply Zak
    | ((with_reducible refine Zai ?_ ?_); exact rfl) | ((with_reducible refine Zat ?_); refine Zam rfl ?_ ?_ <;> intro hb <;> (try simp only [zH] at hb)) | ((with_reducible refine Zau 9 ?_ ?_); (· exact rfl); (with_reducible refine Zau 10 ?_ ?_); (· exact rfl); (first | refine Zaf htb hmz Zbw fF rfl rfl ?_ | refine Zae hmo htb hmz Zbw fF rfl rfl (by kernel_rfl) ?_); intro _ _ _ _ h; simp only [zE, evp, evx, ev1, evLoad, evStore, evBin, evIf, Zad, forall_const, z38, tb, reduceAdd, reduceSub, reduceMul, reduceEqDiff, reduceLeDiff, reduceLT, Nat.reduceBEq, Nat.reduceBNe, ↓reduceIte, reduceIte, spCo, Zay, Zav] at h; obtain ⟨rfl, rfl, rfl, rfl⟩ := h; refine ⟨?_, ?_⟩) | ((with_reducible refine Ob.mk ?_); first | exact trivial | (intros; omega) | ((repeat' first | apply And.intro | (intro a; have b := a; try simp only [zH] at b)) <;> first | assumption | omega | (simp only [zH]; omega)))
  · repeat' first
      | with_reducible first | apply Zar | apply Zan | apply Zaa | apply Zac | apply Zah | apply Zap | apply Zag | apply Zaj | apply Zaq | apply Zas | apply Zao | apply Zal | apply Zab | apply Zak
      | ((with_reducible refine Zai ?_ ?_); exact rfl) | ((with_reducible refine Zat ?_); refine Zam rfl ?_ ?_ <;> intro hb <;> (try simp only [zH] at hb)) | ((with_reducible refine Zaz ?_); (first | refine Zaf htb hmz Zbw fF rfl rfl ?_ | refine Zae hmo htb hmz Zbw fF rfl rfl (by kernel_rfl) ?_); intro _ _ _ _ h; simp only [zE, evp, evx, ev1, evLoad, evStore, evBin, evIf, Zad, forall_const, z38, tb, reduceAdd, reduceSub, reduceMul, reduceEqDiff, reduceLeDiff, reduceLT, Nat.reduceBEq, Nat.reduceBNe, ↓reduceIte, reduceIte, spCo, Zay, Zav] at h; obtain ⟨rfl, rfl, rfl, rfl⟩ := h; refine ⟨?_, ?_⟩) | ((with_reducible refine Ob.mk ?_); first | exact trivial | (intros; omega) | ((repeat' first | apply And.intro | (intro a; have b := a; try simp only [zH] at b)) <;> first | assumption | omega | (simp only [zH]; omega)))
    refine Zax rfl rfl (Zcg rfl ?_ rfl)
    exact Zhj (hno1 (by omega) fun h => by omega) (by decide)
  · (refine Zae hmo htb hmz Zbw fF rfl rfl (by kernel_rfl) ?_; intro _ _ _ _ h; simp only [zE, evp, evx, ev1, evLoad, evStore, evBin, evIf, Zad, forall_const, z38, tb, reduceAdd, reduceSub, reduceMul, reduceEqDiff, reduceLeDiff, reduceLT, Nat.reduceBEq, Nat.reduceBNe, ↓reduceIte, reduceIte, spCo, Zay, Zav] at h; obtain ⟨rfl, rfl, rfl, rfl⟩ := h; refine ⟨?_, ?_⟩)
    · first | ((with_reducible refine Ob.mk ?_); first | exact trivial | (intros; omega) | ((repeat' first | apply And.intro | (intro a; have b := a; try simp only [zH] at b)) <;> first | assumption | omega | (simp only [zH]; omega))) | skip
    repeat' first
      | with_reducible first | apply Zar | apply Zan | apply Zaa | apply Zac | apply Zah | apply Zap | apply Zag | apply Zaj | apply Zaq | apply Zas | apply Zao | apply Zal | apply Zab | apply Zak
      | ((with_reducible refine Zai ?_ ?_); exact rfl) | ((with_reducible refine Zat ?_); refine Zam rfl ?_ ?_ <;> intro hb <;> (try simp only [zH] at hb)) | ((with_reducible refine Zau 11 ?_ ?_); (· exact rfl); (with_reducible refine Zau 12 ?_ ?_); (· exact rfl); (first | refine Zaf htb hmz Zbw fF rfl rfl ?_ | refine Zae hmo htb hmz Zbw fF rfl rfl (by kernel_rfl) ?_); intro _ _ _ _ h; simp only [zE, evp, evx, ev1, evLoad, evStore, evBin, evIf, Zad, forall_const, z38, tb, reduceAdd, reduceSub, reduceMul, reduceEqDiff, reduceLeDiff, reduceLT, Nat.reduceBEq, Nat.reduceBNe, ↓reduceIte, reduceIte, spCo, Zay, Zav] at h; obtain ⟨rfl, rfl, rfl, rfl⟩ := h; refine ⟨?_, ?_⟩) | ((with_reducible refine Ob.mk ?_); first | exact trivial | (intros; omega) | ((repeat' first | apply And.intro | (intro a; have b := a; try simp only [zH] at b)) <;> first | assumption | omega | (simp only [zH]; omega)))
    · rename_i hb1
      repeat' first
        | with_reducible first | apply Zar | apply Zan | apply Zaa | apply Zac | apply Zah | apply Zap | apply Zag | apply Zaj | apply Zaq | apply Zas | apply Zao | apply Zal | apply Zab | apply Zak
        | ((with_reducible refine Zai ?_ ?_); exact rfl) | ((with_reducible refine Zat ?_); refine Zam rfl ?_ ?_ <;> intro hb <;> (try simp only [zH] at hb)) | ((with_reducible refine Zaz ?_); (first | refine Zaf htb hmz Zbw fF rfl rfl ?_ | refine Zae hmo htb hmz Zbw fF rfl rfl (by kernel_rfl) ?_); intro _ _ _ _ h; simp only [zE, evp, evx, ev1, evLoad, evStore, evBin, evIf, Zad, forall_const, z38, tb, reduceAdd, reduceSub, reduceMul, reduceEqDiff, reduceLeDiff, reduceLT, Nat.reduceBEq, Nat.reduceBNe, ↓reduceIte, reduceIte, spCo, Zay, Zav] at h; obtain ⟨rfl, rfl, rfl, rfl⟩ := h; refine ⟨?_, ?_⟩) | ((with_reducible refine Ob.mk ?_); first | exact trivial | (intros; omega) | ((repeat' first | apply And.intro | (intro a; have b := a; try simp only [zH] at b)) <;> first | assumption | omega | (simp only [zH]; omega)))
      refine Zax rfl rfl (Zcg rfl ?_ rfl)
      refine Zhj (hno1 (by omega) fun h => ?_) (by decide)
      rcases hb with ⟨h1, h2⟩ | ⟨h1, h2⟩
      · exact h2 (h.2.1 h1.symm)
      · exact h2 (h.2.2 fun h3 => h1 h3.symm)
    · rename_i hb1
      repeat' first
        | with_reducible first | apply Zar | apply Zan | apply Zaa | apply Zac | apply Zah | apply Zap | apply Zag | apply Zaj | apply Zaq | apply Zas | apply Zao | apply Zal | apply Zab | apply Zak
        | ((with_reducible refine Zai ?_ ?_); exact rfl) | ((with_reducible refine Zat ?_); refine Zam rfl ?_ ?_ <;> intro hb <;> (try simp only [zH] at hb)) | ((with_reducible refine Zaz ?_); (first | refine Zaf htb hmz Zbw fF rfl rfl ?_ | refine Zae hmo htb hmz Zbw fF rfl rfl (by kernel_rfl) ?_); intro _ _ _ _ h; simp only [zE, evp, evx, ev1, evLoad, evStore, evBin, evIf, Zad, forall_const, z38, tb, reduceAdd, reduceSub, reduceMul, reduceEqDiff, reduceLeDiff, reduceLT, Nat.reduceBEq, Nat.reduceBNe, ↓reduceIte, reduceIte, spCo, Zay, Zav] at h; obtain ⟨rfl, rfl, rfl, rfl⟩ := h; refine ⟨?_, ?_⟩) | ((with_reducible refine Ob.mk ?_); first | exact trivial | (intros; omega) | ((repeat' first | apply And.intro | (intro a; have b := a; try simp only [zH] at b)) <;> first | assumption | omega | (simp only [zH]; omega)))
      refine back (i + 1) [] ?_ ⟨by omega, fun v hv => ?_⟩ (by omega)
      · (refine ⟨rfl, ?_, ?_⟩ <;> simp only [zE, evp, evx, ev1, evLoad, evStore, evBin, evIf, Zad, forall_const, z38, tb, reduceAdd, reduceSub, reduceMul, reduceEqDiff, reduceLeDiff, reduceLT, Nat.reduceBEq, Nat.reduceBNe, ↓reduceIte, reduceIte, spCo, Zay, Zav, zI])
      · rcases Nat.lt_succ_iff_lt_or_eq.1 hv with h | rfl
        · exact hk v h
        · refine ⟨hb1, fun h => ?_, fun h => ?_⟩
          · exact hb.1.resolve_left (fun h2 => h2 h.symm)
          · exact hb.2.resolve_left fun h2 => h h2.symm
  have hie : i = o.length := by omega
  subst hie
  have hcb : clmE ⟨o, p, x⟩ w c = 0 := clm_0 hv (decide_eq_true ⟨hwl, hcl, hk⟩)
  repeat' first
    | with_reducible first | apply Zar | apply Zan | apply Zaa | apply Zac | apply Zah | apply Zap | apply Zag | apply Zaj | apply Zaq | apply Zas | apply Zao | apply Zal | apply Zab | apply Zak
    | ((with_reducible refine Zai ?_ ?_); exact rfl) | ((with_reducible refine Zat ?_); refine Zam rfl ?_ ?_ <;> intro hb <;> (try simp only [zH] at hb)) | ((with_reducible refine Zaz ?_); (first | refine Zaf htb hmz Zbw fF rfl rfl ?_ | refine Zae hmo htb hmz Zbw fF rfl rfl (by kernel_rfl) ?_); intro _ _ _ _ h; simp only [zE, evp, evx, ev1, evLoad, evStore, evBin, evIf, Zad, forall_const, z38, tb, reduceAdd, reduceSub, reduceMul, reduceEqDiff, reduceLeDiff, reduceLT, Nat.reduceBEq, Nat.reduceBNe, ↓reduceIte, reduceIte, spCo, Zay, Zav] at h; obtain ⟨rfl, rfl, rfl, rfl⟩ := h; refine ⟨?_, ?_⟩) | ((with_reducible refine Ob.mk ?_); first | exact trivial | (intros; omega) | ((repeat' first | apply And.intro | (intro a; have b := a; try simp only [zH] at b)) <;> first | assumption | omega | (simp only [zH]; omega)))
  refine Zax rfl rfl (Zaw rfl ?_ rfl)
  rw [hcb]
  rfl
def nvF (o w c : List Int) (x : List (List Int)) (q : Int) (v : Nat) : List Int := if o.getD v 0 = q ∧ w.getD v 0 = q then [c.getD v 0] else x.getD v []
def nvS : Spec
  | [.agg (.cons (.roI o) (.cons (.roI p) (.cons (.roII x) (.cons (.roI w) (.cons (.roI c) .nil))))), .int .i64 v, .int .i64 q] => some ⟨(0 ≤ v ∧ v < o.length) ∧ x.length = o.length ∧ w.length = o.length ∧ c.length = o.length, .roI (nvF o w c x q v.toNat), none⟩
  | _ => none
set_option maxRecDepth 4000 in
set_option maxHeartbeats 4000000 in
theorem Zi8 : Zb2 Tryd.prog 42 nvS := by
  refine Za8 htb (fn := Tryd.f42) (by kernel_rfl) (by kernel_rfl) rfl (fun args r hS => ?_) (fun args r hS hob hl => ?_)
  · unfold nvS at hS; split at hS <;> first | (cases hS; done) | (cases hS; exact Nat.le_of_ble_eq_true rfl)
  unfold nvS at hS
  split at hS
  case h_2 => cases hS
  rename_i o p x w c v q
  simp only [Option.some.injEq] at hS
  subst hS
  simp only [lenP, mkL, lim] at hl
  dsimp only at hob
  obtain ⟨⟨h0, h1⟩, h2, h3, h4⟩ := hob
  obtain ⟨u, rfl⟩ := Int.eq_ofNat_of_zero_le h0
  rw [Int.toNat_natCast]
  have e : nvF o w c x q u = if o.getD u 0 = q ∧ w.getD u 0 = q then [c.getD u 0] else x.getD u [] := rfl
  repeat' first
    | with_reducible first | apply Zar | apply Zan | apply Zaa | apply Zac | apply Zah | apply Zap | apply Zag | apply Zaj | apply Zaq | apply Zas | apply Zao | apply Zal | apply Zab | apply Zak
    | ((with_reducible refine Zai ?_ ?_); exact rfl) | ((with_reducible refine Zat ?_); refine Zam rfl ?_ ?_ <;> intro hb <;> (try simp only [zH] at hb)) | ((with_reducible refine Zau 2 ?_ ?_); (· exact rfl); (with_reducible refine Zau 3 ?_ ?_); (· exact rfl); (first | refine Zaf htb hmz noSp fF rfl rfl ?_ | refine Zae hmo htb hmz noSp fF rfl rfl (by kernel_rfl) ?_); intro _ _ _ _ h; simp only [zE, evp, evx, ev1, evLoad, evStore, evBin, evIf, Zad, forall_const, z38, tb, reduceAdd, reduceSub, reduceMul, reduceEqDiff, reduceLeDiff, reduceLT, Nat.reduceBEq, Nat.reduceBNe, ↓reduceIte, reduceIte] at h; obtain ⟨rfl, rfl, rfl, rfl⟩ := h; refine ⟨?_, ?_⟩) | ((with_reducible refine Ob.mk ?_); first | exact trivial | (intros; omega) | ((repeat' first | apply And.intro | (intro a; have b := a; try simp only [zH] at b)) <;> first | assumption | omega | (simp only [zH]; omega)))
  · repeat' first
      | with_reducible first | apply Zar | apply Zan | apply Zaa | apply Zac | apply Zah | apply Zap | apply Zag | apply Zaj | apply Zaq | apply Zas | apply Zao | apply Zal | apply Zab | apply Zak
      | ((with_reducible refine Zai ?_ ?_); exact rfl) | ((with_reducible refine Zat ?_); refine Zam rfl ?_ ?_ <;> intro hb <;> (try simp only [zH] at hb)) | ((with_reducible refine Zaz ?_); (first | refine Zaf htb hmz noSp fF rfl rfl ?_ | refine Zae hmo htb hmz noSp fF rfl rfl (by kernel_rfl) ?_); intro _ _ _ _ h; simp only [zE, evp, evx, ev1, evLoad, evStore, evBin, evIf, Zad, forall_const, z38, tb, reduceAdd, reduceSub, reduceMul, reduceEqDiff, reduceLeDiff, reduceLT, Nat.reduceBEq, Nat.reduceBNe, ↓reduceIte, reduceIte] at h; obtain ⟨rfl, rfl, rfl, rfl⟩ := h; refine ⟨?_, ?_⟩) | ((with_reducible refine Ob.mk ?_); first | exact trivial | (intros; omega) | ((repeat' first | apply And.intro | (intro a; have b := a; try simp only [zH] at b)) <;> first | assumption | omega | (simp only [zH]; omega)))
    refine Zax rfl rfl (Zaw rfl ?_ rfl)
    rw [e, if_pos hb]
    rfl
  · repeat' first
      | with_reducible first | apply Zar | apply Zan | apply Zaa | apply Zac | apply Zah | apply Zap | apply Zag | apply Zaj | apply Zaq | apply Zas | apply Zao | apply Zal | apply Zab | apply Zak
      | ((with_reducible refine Zai ?_ ?_); exact rfl) | ((with_reducible refine Zat ?_); refine Zam rfl ?_ ?_ <;> intro hb <;> (try simp only [zH] at hb)) | ((with_reducible refine Zaz ?_); (first | refine Zaf htb hmz noSp fF rfl rfl ?_ | refine Zae hmo htb hmz noSp fF rfl rfl (by kernel_rfl) ?_); intro _ _ _ _ h; simp only [zE, evp, evx, ev1, evLoad, evStore, evBin, evIf, Zad, forall_const, z38, tb, reduceAdd, reduceSub, reduceMul, reduceEqDiff, reduceLeDiff, reduceLT, Nat.reduceBEq, Nat.reduceBNe, ↓reduceIte, reduceIte] at h; obtain ⟨rfl, rfl, rfl, rfl⟩ := h; refine ⟨?_, ?_⟩) | ((with_reducible refine Ob.mk ?_); first | exact trivial | (intros; omega) | ((repeat' first | apply And.intro | (intro a; have b := a; try simp only [zH] at b)) <;> first | assumption | omega | (simp only [zH]; omega)))
    refine Zax rfl rfl (Zaw rfl ?_ rfl)
    rw [e, if_neg (by omega)]
    rfl
open Go
theorem Zff {k : Int} : ∀ {es : List (Int × Int × Nat)} {i : Nat}, fnd k es (i + 1) = (fnd k es i).map fun p => (p.1 + 1, p.2)
  | [], _ => rfl
  | e :: t, i => by
    unfold fnd
    split
    · rfl
    · exact Zff
theorem Zec {k : Int} {e : Int × Int × Nat} {t : List (Int × Int × Nat)} : mget k (e :: t) = if k = e.1 then e.2.1 else mget k t := by
  unfold mget
  rw [fnd]
  by_cases h : k = e.1
  · rw [if_pos h, if_pos h]
  · rw [if_neg h, if_neg h, Zff]
    cases fnd k t 0 <;> rfl
theorem mput_cons {k v : Int} {c : Nat} {e : Int × Int × Nat} {t : List (Int × Int × Nat)} : mput k v c (e :: t) = if k = e.1 then (k, v, e.2.2) :: t else e :: mput k v c t := by
  unfold mput
  rw [fnd]
  by_cases h : k = e.1
  · rw [if_pos h, if_pos h]; rfl
  · rw [if_neg h, if_neg h, Zff]
    cases fnd k t 0 <;> rfl
theorem Zgh {k k' v : Int} {c : Nat} : ∀ {es : List (Int × Int × Nat)}, mget k (mput k' v c es) = if k = k' then v else mget k es
  | [] => by
    have : mput k' v c [] = [(k', v, c)] := rfl
    rw [this, Zec]
  | e :: t => by
    rw [mput_cons]
    by_cases h : k' = e.1
    · rw [if_pos h, Zec, Zec]
      dsimp only
      rw [← h]
      split <;> rfl
    · rw [if_neg h, Zec, Zec, Zgh (es := t)]
      by_cases h2 : k = e.1
      · rw [if_pos h2, if_pos h2, if_neg (fun e2 : k = k' => h (by rw [← e2]; exact h2))]
      · rw [if_neg h2, if_neg h2]
theorem Zeb {k : Int} {e : Int × Int × Nat} {t : List (Int × Int × Nat)} : mhas k (e :: t) = if k = e.1 then true else mhas k t := by
  unfold mhas
  rw [fnd]
  by_cases h : k = e.1
  · rw [if_pos h, if_pos h]
  · rw [if_neg h, if_neg h, Zff]
    cases fnd k t 0 <;> rfl
theorem Zgg {k k' v : Int} {c : Nat} : ∀ {es : List (Int × Int × Nat)}, mhas k (mput k' v c es) = if k = k' then true else mhas k es
  | [] => by
    have : mput k' v c [] = [(k', v, c)] := rfl
    rw [this, Zeb]
  | e :: t => by
    rw [mput_cons]
    by_cases h : k' = e.1
    · rw [if_pos h, Zeb, Zeb]
      dsimp only
      rw [← h]
      split <;> rfl
    · rw [if_neg h, Zeb, Zeb, Zgg (es := t)]
      by_cases h2 : k = e.1
      · rw [if_pos h2, if_pos h2]
        split <;> rfl
      · rw [if_neg h2, if_neg h2]
open Go Pl
def joiS : Spec
  | [.roII l] => some ⟨l.flatten.length ≤ 100000, .roI l.flatten, none⟩
  | _ => none
theorem flat_take_le {l : List (List Int)} (i : Nat) : (l.take i).flatten.length ≤ l.flatten.length := by
  conv => rhs; rw [← List.take_append_drop i l]
  rw [List.flatten_append, List.length_append]
  omega
theorem flat_take_s {l : List (List Int)} {i : Nat} (h : i < l.length) : (l.take (i + 1)).flatten = (l.take i).flatten ++ l.getD i [] := by
  rw [List.take_add_one, List.flatten_append, List.getElem?_eq_getElem h]
  simp [List.getD_eq_getElem?_getD, List.getElem?_eq_getElem h]
set_option maxRecDepth 4000 in
set_option maxHeartbeats 4000000 in
theorem Zee : Zb2 Tryd.prog 39 joiS := by
  refine Za8 htb (fn := Tryd.f39) (by kernel_rfl) (by kernel_rfl) rfl (fun args r hS => ?_) (fun args r hS hob hl => ?_)
  · unfold joiS at hS; split at hS <;> first | (cases hS; done) | (cases hS; exact Nat.le_of_ble_eq_true rfl)
  unfold joiS at hS
  split at hS
  case h_2 => cases hS
  rename_i l
  simp only [Option.some.injEq] at hS
  subst hS
  simp only [lenP, mkL, lim] at hl
  dsimp only at hob
  repeat' first
    | with_reducible first | apply Zar | apply Zan | apply Zaa | apply Zac | apply Zah | apply Zap | apply Zag | apply Zaj | apply Zaq | apply Zas | apply Zao | apply Zal | apply Zab | apply Zak
    | ((with_reducible refine Zai ?_ ?_); exact rfl) | ((with_reducible refine Zat ?_); refine Zam rfl ?_ ?_ <;> intro hb <;> (try simp only [zH] at hb)) | ((with_reducible refine Zau 1 ?_ ?_); (· exact rfl); (first | refine Zaf htb hmz noSp fF rfl rfl ?_ | refine Zae hmo htb hmz noSp fF rfl rfl (by kernel_rfl) ?_); intro _ _ _ _ h; simp only [zE, evp, evx, ev1, evLoad, evStore, evBin, evIf, Zad, forall_const, z38, tb, reduceAdd, reduceSub, reduceMul, reduceEqDiff, reduceLeDiff, reduceLT, Nat.reduceBEq, Nat.reduceBNe, ↓reduceIte, reduceIte] at h; obtain ⟨rfl, rfl, rfl, rfl⟩ := h; refine ⟨?_, ?_⟩) | ((with_reducible refine Ob.mk ?_); first | exact trivial | (intros; omega) | ((repeat' first | apply And.intro | (intro a; have b := a; try simp only [zH] at b)) <;> first | assumption | omega | (simp only [zH]; omega)))
  (refine Zaf htb hmz noSp (fun _ => true) rfl rfl ?_; intro _ _ _ _ h; simp only [zE, evp, evx, ev1, evLoad, evStore, evBin, evIf, Zad, forall_const, z38, tb, reduceAdd, reduceSub, reduceMul, reduceEqDiff, reduceLeDiff, reduceLT, Nat.reduceBEq, Nat.reduceBNe, ↓reduceIte, reduceIte] at h; obtain ⟨rfl, rfl, rfl, rfl⟩ := h; refine ⟨?_, ?_⟩)
  repeat' first
    | with_reducible first | apply Zar | apply Zan | apply Zaa | apply Zac | apply Zah | apply Zap | apply Zag | apply Zaj | apply Zaq | apply Zas | apply Zao | apply Zal | apply Zab | apply Zak
    | ((with_reducible refine Zai ?_ ?_); exact rfl) | ((with_reducible refine Zat ?_); refine Zam rfl ?_ ?_ <;> intro hb <;> (try simp only [zH] at hb)) | ((with_reducible refine Zaz ?_); (first | refine Zaf htb hmz noSp fF rfl rfl ?_ | refine Zae hmo htb hmz noSp fF rfl rfl (by kernel_rfl) ?_); intro _ _ _ _ h; simp only [zE, evp, evx, ev1, evLoad, evStore, evBin, evIf, Zad, forall_const, z38, tb, reduceAdd, reduceSub, reduceMul, reduceEqDiff, reduceLeDiff, reduceLT, Nat.reduceBEq, Nat.reduceBNe, ↓reduceIte, reduceIte] at h; obtain ⟨rfl, rfl, rfl, rfl⟩ := h; refine ⟨?_, ?_⟩) | ((with_reducible refine Ob.mk ?_); first | exact trivial | (intros; omega) | ((repeat' first | apply And.intro | (intro a; have b := a; try simp only [zH] at b)) <;> first | assumption | omega | (simp only [zH]; omega)))
  refine Za5 (τ := Nat) (fun i => i ≤ l.length) (fun i => ⟨3, [(9, .int .i64 i), (8, .int .i64 l.length), (7, .roII l), (3, .own 1), (2, .cst (.slice none 0 0))], [(1, some (.ints (l.take i).flatten))], []⟩) (fun i => l.length - i) 0 [] ?_ (Nat.zero_le _) ?_
  · (refine ⟨rfl, ?_, ?_⟩ <;> simp only [zE, evp, evx, ev1, evLoad, evStore, evBin, evIf, Zad, forall_const, z38, tb, reduceAdd, reduceSub, reduceMul, reduceEqDiff, reduceLeDiff, reduceLT, Nat.reduceBEq, Nat.reduceBNe, ↓reduceIte, reduceIte, zI])
    rfl
  intro i hi
  have hle : i < l.length → (l.take i).flatten.length + (l.getD i []).length ≤ 100000 := fun h => by
    have h1 := flat_take_le (l := l) (i + 1)
    rw [flat_take_s h, List.length_append] at h1
    omega
  repeat' first
    | with_reducible first | apply Zar | apply Zan | apply Zaa | apply Zac | apply Zah | apply Zap | apply Zag | apply Zaj | apply Zaq | apply Zas | apply Zao | apply Zal | apply Zab | apply Zak
    | ((with_reducible refine Zai ?_ ?_); exact rfl) | ((with_reducible refine Zat ?_); refine Zam rfl ?_ ?_ <;> intro hb <;> (try simp only [zH] at hb)) | ((with_reducible refine Zau 7 ?_ ?_); (· exact rfl); (first | refine Zaf htb hmz noSp fF rfl rfl ?_ | refine Zae hmo htb hmz noSp fF rfl rfl (by kernel_rfl) ?_); intro _ _ _ _ h; simp only [zE, evp, evx, ev1, evLoad, evStore, evBin, evIf, Zad, forall_const, z38, tb, reduceAdd, reduceSub, reduceMul, reduceEqDiff, reduceLeDiff, reduceLT, Nat.reduceBEq, Nat.reduceBNe, ↓reduceIte, reduceIte] at h; obtain ⟨rfl, rfl, rfl, rfl⟩ := h; refine ⟨?_, ?_⟩) | ((with_reducible refine Ob.mk ?_); first | exact trivial | (intros; omega) | ((repeat' first | apply And.intro | (intro a; have b := a; try simp only [zH] at b)) <;> first | assumption | omega | (simp only [zH]; omega)))
  · refine back (i + 1) [(1, 9)] ?_ (by omega) (by omega)
    (refine ⟨rfl, ?_, ?_⟩ <;> simp only [zE, evp, evx, ev1, evLoad, evStore, evBin, evIf, Zad, forall_const, z38, tb, reduceAdd, reduceSub, reduceMul, reduceEqDiff, reduceLeDiff, reduceLT, Nat.reduceBEq, Nat.reduceBNe, ↓reduceIte, reduceIte, zI])
    rw [flat_take_s (by omega)]
  have hie : i = l.length := by omega
  subst hie
  rw [List.take_length]
  refine Zei 1 (.roI l.flatten) (by simp only [Zbb, Zbu, fzE, fzA, fzR, fzB, set1, nbeq, reduceEqDiff, decide_true, decide_false, ↓reduceIte, reduceIte, cond_true, cond_false, List.take_length, Option.some.injEq]; rfl) (by first | exact rfl | (refine ⟨?_, rfl⟩; first | rfl | (intros; rfl))) (by simp only [Zbb, Zbu, fzE, fzA, fzR, fzB, set1, nbeq, reduceEqDiff, decide_true, decide_false, ↓reduceIte, reduceIte, cond_true, cond_false, List.take_length, Option.some.injEq]; rfl) (by simp only [Zbb, Zbu, fzE, fzA, fzR, fzB, set1, nbeq, reduceEqDiff, decide_true, decide_false, ↓reduceIte, reduceIte, cond_true, cond_false, List.take_length, Option.some.injEq]; rfl) ?_
  repeat' first
    | with_reducible first | apply Zar | apply Zan | apply Zaa | apply Zac | apply Zah | apply Zap | apply Zag | apply Zaj | apply Zaq | apply Zas | apply Zao | apply Zal | apply Zab | apply Zak
    | ((with_reducible refine Zai ?_ ?_); exact rfl) | ((with_reducible refine Zat ?_); refine Zam rfl ?_ ?_ <;> intro hb <;> (try simp only [zH] at hb)) | ((with_reducible refine Zaz ?_); (first | refine Zaf htb hmz noSp fF rfl rfl ?_ | refine Zae hmo htb hmz noSp fF rfl rfl (by kernel_rfl) ?_); intro _ _ _ _ h; simp only [zE, evp, evx, ev1, evLoad, evStore, evBin, evIf, Zad, forall_const, z38, tb, reduceAdd, reduceSub, reduceMul, reduceEqDiff, reduceLeDiff, reduceLT, Nat.reduceBEq, Nat.reduceBNe, ↓reduceIte, reduceIte] at h; obtain ⟨rfl, rfl, rfl, rfl⟩ := h; refine ⟨?_, ?_⟩) | ((with_reducible refine Ob.mk ?_); first | exact trivial | (intros; omega) | ((repeat' first | apply And.intro | (intro a; have b := a; try simp only [zH] at b)) <;> first | assumption | omega | (simp only [zH]; omega)))
  refine Zax rfl rfl (Zaw rfl ?_ rfl)
  rfl
def onN (o w c : List Int) (x : List (List Int)) (q : Int) (v : Nat) : Nat := ((nvF o w c x q v).getD 0 0).toNat
def orL (F : Nat → Nat) (v k : Nat) : List Int := (List.range k).map fun j => (orb F v j : Int)
theorem Zh6 {F : Nat → Nat} {v k : Nat} : (orL F v k).length = k := by simp [orL]
theorem orL_s {F : Nat → Nat} {v k : Nat} : orL F v (k + 1) = orL F v k ++ [(orb F v k : Int)] := by unfold orL; rw [List.range_succ, List.map_append]; rfl
noncomputable def agA (F : Nat → Nat) (v : Nat) : Nat × Nat := open Classical in if h : ∃ p : Nat × Nat, Ze5 F v p.1 p.2 then Classical.choose h else (0, 0)
theorem agA_eq {F : Nat → Nat} {v L k : Nat} (h : Ze5 F v L k) : agA F v = (L, k) := by
  unfold agA
  have hex : ∃ p : Nat × Nat, Ze5 F v p.1 p.2 := ⟨(L, k), h⟩
  rw [dif_pos hex]
  have := again_unique (Classical.choose_spec hex) h
  exact Prod.ext this.1 this.2
noncomputable def onS1 (F : Nat → Nat) (v : Nat) : List Int := (orL F v (agA F v).1).take (agA F v).2
noncomputable def onL1 (F : Nat → Nat) (v : Nat) : List Int := (orL F v (agA F v).1).drop (agA F v).2
noncomputable def onS : Spec
  | [.agg (.cons (.roI o) (.cons (.roI p) (.cons (.roII x) (.cons (.roI w) (.cons (.roI c) .nil))))), .int .i64 v, .int .i64 q] => some ⟨(0 ≤ v ∧ v < o.length) ∧ x.length = o.length ∧ w.length = o.length ∧ c.length = o.length ∧ o.length ≤ 20000 ∧ (∀ u, u < o.length → 0 < (nvF o w c x q u).length ∧ 0 ≤ (nvF o w c x q u).getD 0 0 ∧ (nvF o w c x q u).getD 0 0 < o.length), .agg (.cons (.roI (onS1 (onN o w c x q) v.toNat)) (.cons (.roI (onL1 (onN o w c x q) v.toNat)) .nil)), none⟩
  | _ => none
structure OnS where
  k : Nat
  es : List (Int × Int × Nat)
  clk : Nat
structure OnI (F : Nat → Nat) (v : Nat) (s : OnS) : Prop where
  fr : Zhp F v s.k
  mp : ∀ u : Nat, (mhas (u : Int) s.es = true ↔ ∃ j, j < s.k ∧ orb F v j = u)
  mg : ∀ j, j < s.k → mget (orb F v j : Int) s.es = j
theorem OnI_nil {F : Nat → Nat} {v clk : Nat} : OnI F v ⟨0, [], clk⟩ := ⟨fun i j _ h => absurd h (Nat.not_lt_zero j), fun u => ⟨fun h => (by cases h), fun ⟨j, h, _⟩ => absurd h (Nat.not_lt_zero j)⟩, fun j h => absurd h (Nat.not_lt_zero j)⟩
theorem OnI_put {F : Nat → Nat} {v k clk clk' c : Nat} {es : List (Int × Int × Nat)} (h : OnI F v ⟨k, es, clk⟩) (hh : mhas (orb F v k : Int) es ≠ true) : OnI F v ⟨k + 1, mput (orb F v k : Int) k c es, clk'⟩ := by
  have hne : ∀ j, j < k → orb F v j ≠ orb F v k := fun j hj e => hh ((h.mp _).2 ⟨j, hj, e⟩)
  refine ⟨Zdx h.fr hne, fun u => ?_, fun j hj => ?_⟩
  · show mhas _ (mput _ _ _ _) = true ↔ _
    rw [Zgg]
    by_cases e : (u : Int) = orb F v k
    · rw [if_pos e]
      exact ⟨fun _ => ⟨k, Nat.lt_succ_self k, by omega⟩, fun _ => rfl⟩
    · rw [if_neg e]
      refine (h.mp u).trans ⟨fun ⟨j, hj, e2⟩ => ⟨j, Nat.lt_succ_of_lt hj, e2⟩, fun ⟨j, hj, e2⟩ => ⟨j, ?_, e2⟩⟩
      rcases Nat.lt_succ_iff_lt_or_eq.1 hj with hj | rfl
      · exact hj
      · exact absurd (congrArg Nat.cast e2.symm) e
  · show mget _ (mput _ _ _ _) = _
    rw [Zgh]
    rcases Nat.lt_succ_iff_lt_or_eq.1 hj with hj | rfl
    · rw [if_neg (fun e => hne j hj (by omega))]
      exact h.mg j hj
    · rw [if_pos rfl]
noncomputable def spOn : Nat → Option Spec
  | 42 => some nvS
  | 39 => some joiS
  | _ => none
theorem Zd0 : SpOK Tryd.prog spOn := by
  intro f S h
  unfold spOn at h
  split at h
  · cases h; exact Zi8
  · cases h; exact Zee
  · cases h
set_option maxRecDepth 4000 in
set_option maxHeartbeats 4000000 in
theorem on_ok : Zb2 Tryd.prog 62 onS := by
  refine Za8 htb (fn := Tryd.f62) (by kernel_rfl) (by kernel_rfl) rfl (fun args r hS => ?_) (fun args r hS hob hl => ?_)
  · unfold onS at hS; split at hS <;> first | (cases hS; done) | (cases hS; exact Nat.le_of_ble_eq_true rfl)
  unfold onS at hS
  split at hS
  case h_2 => cases hS
  rename_i o p x w c v q
  simp only [Option.some.injEq] at hS
  subst hS
  simp only [lenP, mkL, lim] at hl
  dsimp only at hob
  obtain ⟨⟨h0, h1⟩, h2, h3, h4, hn, hnx⟩ := hob
  obtain ⟨u, rfl⟩ := Int.eq_ofNat_of_zero_le h0
  rw [Int.toNat_natCast]
  have horb : ∀ j, orb (onN o w c x q) u j < o.length := fun j => by
    induction j with
    | zero => show u < _; omega
    | succ j ih => show ((nvF o w c x q (orb (onN o w c x q) u j)).getD 0 0).toNat < _; have := hnx _ ih; omega
  have hstep : ∀ j, (nvF o w c x q (orb (onN o w c x q) u j)).getD 0 0 = (orb (onN o w c x q) u (j + 1) : Nat) ∧ 0 < (nvF o w c x q (orb (onN o w c x q) u j)).length := fun j => by
    have h := hnx _ (horb j)
    exact ⟨(Int.toNat_of_nonneg h.2.1).symm, h.1⟩
  repeat' first
    | with_reducible first | apply Zar | apply Zan | apply Zaa | apply Zac | apply Zah | apply Zap | apply Zag | apply Zaj | apply Zaq | apply Zas | apply Zao | apply Zal | apply Zab | apply Zak
    | ((with_reducible refine Zai ?_ ?_); exact rfl) | ((with_reducible refine Zat ?_); refine Zam rfl ?_ ?_ <;> intro hb <;> (try simp only [zH] at hb)) | ((with_reducible refine Zaz ?_); (first | refine Zaf htb hmz Zd0 fF rfl rfl ?_ | refine Zae hmo htb hmz Zd0 fF rfl rfl (by kernel_rfl) ?_); intro _ _ _ _ h; simp only [zE, evp, evx, ev1, evLoad, evStore, evBin, evIf, Zad, forall_const, z38, tb, reduceAdd, reduceSub, reduceMul, reduceEqDiff, reduceLeDiff, reduceLT, Nat.reduceBEq, Nat.reduceBNe, ↓reduceIte, reduceIte, spOn, nvS, joiS] at h; obtain ⟨rfl, rfl, rfl, rfl⟩ := h; refine ⟨?_, ?_⟩) | ((with_reducible refine Ob.mk ?_); first | exact trivial | (intros; omega) | ((repeat' first | apply And.intro | (intro a; have b := a; try simp only [zH] at b)) <;> first | assumption | omega | (simp only [zH]; omega)))
  refine Zfs 8 (.ints []) (by simp only [zE, evp, evx, ev1, evLoad, evStore, evBin, evIf, Zad, forall_const, z38, tb, reduceAdd, reduceSub, reduceMul, reduceEqDiff, reduceLeDiff, reduceLT, Nat.reduceBEq, Nat.reduceBNe, ↓reduceIte, reduceIte, spOn, nvS, joiS]) (.inl rfl) rfl ?_
  obtain ⟨F, hF⟩ : ∃ F, onN o w c x q = F := ⟨_, rfl⟩
  simp only [hF] at horb hstep ⊢
  refine Za5 (τ := OnS) (fun s => OnI F u s) (fun s => ⟨6, [(8, .own 5), (7, .own 2), (6, .own 1), (3, (.rop (.agg (.cons (.roI o) (.cons (.roI p) (.cons (.roII x) (.cons (.roI w) (.cons (.roI c) .nil)))))))), (1, .int .i64 (orb F u s.k)), (2, .int .i64 q)], [(1, some (.box (.agg (.cons (.cst (.slice none 0 0)) (.cons (.cst (.slice none 0 0)) .nil))))), (2, some (.mp s.es s.clk)), (5, some (.ints (orL F u s.k)))], []⟩) (fun s => o.length - s.k) ⟨0, [], 0⟩ [] ?_ OnI_nil ?_
  · (refine ⟨rfl, ?_, ?_⟩ <;> simp only [zE, evp, evx, ev1, evLoad, evStore, evBin, evIf, Zad, forall_const, z38, tb, reduceAdd, reduceSub, reduceMul, reduceEqDiff, reduceLeDiff, reduceLT, Nat.reduceBEq, Nat.reduceBNe, ↓reduceIte, reduceIte, spOn, nvS, joiS, zI])
    all_goals rfl
  rintro ⟨k, es, clk⟩ hI
  dsimp only at hI ⊢
  have hkn : k ≤ o.length := Zd3 horb hI.fr
  have hhas : mhas (orb F u k : Int) es = true ↔ ∃ j, j < k ∧ orb F u j = orb F u k := hI.mp (orb F u k)
  have hok := horb k
  have hst := hstep k
  have hol : (orL F u k).length = k := Zh6
  repeat' first
    | with_reducible first | apply Zar | apply Zan | apply Zaa | apply Zac | apply Zah | apply Zap | apply Zag | apply Zaj | apply Zaq | apply Zas | apply Zao | apply Zal | apply Zab | apply Zak
    | ((with_reducible refine Zai ?_ ?_); exact rfl) | ((with_reducible refine Zat ?_); refine Zam rfl ?_ ?_ <;> intro hb <;> (try simp only [zH] at hb)) | ((with_reducible refine Zau 5 ?_ ?_); (· exact rfl); (with_reducible refine Zau 6 ?_ ?_); (· exact rfl); (first | refine Zaf htb hmz Zd0 fF rfl rfl ?_ | refine Zae hmo htb hmz Zd0 fF rfl rfl (by kernel_rfl) ?_); intro _ _ _ _ h; simp only [zE, evp, evx, ev1, evLoad, evStore, evBin, evIf, Zad, forall_const, z38, tb, reduceAdd, reduceSub, reduceMul, reduceEqDiff, reduceLeDiff, reduceLT, Nat.reduceBEq, Nat.reduceBNe, ↓reduceIte, reduceIte, spOn, nvS, joiS] at h; obtain ⟨rfl, rfl, rfl, rfl⟩ := h; refine ⟨?_, ?_⟩) | ((with_reducible refine Ob.mk ?_); first | exact trivial | (intros; omega) | ((repeat' first | apply And.intro | (intro a; have b := a; try simp only [zH] at b)) <;> first | assumption | omega | (simp only [zH]; omega)))
  · obtain ⟨j, hj, e⟩ := hhas.1 hb
    have hmg : mget (orb F u j : Int) es = j := hI.mg j hj
    rw [e] at hmg
    rw [hmg]
    have hag : Ze5 F u k j := ⟨hI.fr, hj, e.symm⟩
    have ha := agA_eq hag
    refine Zei 5 (.roI (orL F u k)) (by simp only [Zbb, Zbu, fzE, fzA, fzR, fzB, set1, nbeq, reduceEqDiff, decide_true, decide_false, ↓reduceIte, reduceIte, cond_true, cond_false, List.take_length, Option.some.injEq]; rfl) (by first | exact rfl | (refine ⟨?_, rfl⟩; first | rfl | (intros; rfl))) (by simp only [Zbb, Zbu, fzE, fzA, fzR, fzB, set1, nbeq, reduceEqDiff, decide_true, decide_false, ↓reduceIte, reduceIte, cond_true, cond_false, List.take_length, Option.some.injEq]; rfl) (by simp only [Zbb, Zbu, fzE, fzA, fzR, fzB, set1, nbeq, reduceEqDiff, decide_true, decide_false, ↓reduceIte, reduceIte, cond_true, cond_false, List.take_length, Option.some.injEq]; rfl) ?_
    have hl1 : [(orL F u k).take j].flatten.length ≤ 100000 := by
      simp only [List.flatten_cons, List.flatten_nil, List.append_nil, List.length_take]; omega
    have hl2 : [(orL F u k).drop j].flatten.length ≤ 100000 := by
      have hd : ((orL F u k).drop j).length = (orL F u k).length - j := List.length_drop ..
      rw [List.flatten_cons, List.flatten_nil, List.append_nil, hd, hol]; omega
    have hda : (orL F u k).length = k := Zh6
    (refine Zae hmo htb hmz Zd0 fF rfl rfl (by kernel_rfl) ?_; intro _ _ _ _ h; simp only [zE, evp, evx, ev1, evLoad, evStore, evBin, evIf, Zad, forall_const, z38, tb, reduceAdd, reduceSub, reduceMul, reduceEqDiff, reduceLeDiff, reduceLT, Nat.reduceBEq, Nat.reduceBNe, ↓reduceIte, reduceIte, spOn, nvS, joiS] at h; obtain ⟨rfl, rfl, rfl, rfl⟩ := h; refine ⟨?_, ?_⟩)
    · exact ⟨⟨⟨⟨Int.le_refl _, by omega, by omega⟩, hl1⟩, by omega⟩, hl2⟩
    repeat' first
      | with_reducible first | apply Zar | apply Zan | apply Zaa | apply Zac | apply Zah | apply Zap | apply Zag | apply Zaj | apply Zaq | apply Zas | apply Zao | apply Zal | apply Zab | apply Zak
      | ((with_reducible refine Zai ?_ ?_); exact rfl) | ((with_reducible refine Zat ?_); refine Zam rfl ?_ ?_ <;> intro hb <;> (try simp only [zH] at hb)) | ((with_reducible refine Zaz ?_); (first | refine Zaf htb hmz Zd0 fF rfl rfl ?_ | refine Zae hmo htb hmz Zd0 fF rfl rfl (by kernel_rfl) ?_); intro _ _ _ _ h; simp only [zE, evp, evx, ev1, evLoad, evStore, evBin, evIf, Zad, forall_const, z38, tb, reduceAdd, reduceSub, reduceMul, reduceEqDiff, reduceLeDiff, reduceLT, Nat.reduceBEq, Nat.reduceBNe, ↓reduceIte, reduceIte, spOn, nvS, joiS] at h; obtain ⟨rfl, rfl, rfl, rfl⟩ := h; refine ⟨?_, ?_⟩) | ((with_reducible refine Ob.mk ?_); first | exact trivial | (intros; omega) | ((repeat' first | apply And.intro | (intro a; have b := a; try simp only [zH] at b)) <;> first | assumption | omega | (simp only [zH]; omega)))
    refine Zax rfl rfl (Zaw rfl ?_ rfl)
    show AV.agg _ = AV.agg _
    unfold onS1 onL1
    rw [ha]
    simp only [List.flatten_cons, List.flatten_nil, List.append_nil]
    rfl
  · have hh : mhas (orb F u k : Int) es ≠ true := by rw [hb]; decide
    have hol2 : (orL F u k).length ≤ 999999999999 := by omega
    repeat' first
      | with_reducible first | apply Zar | apply Zan | apply Zaa | apply Zac | apply Zah | apply Zap | apply Zag | apply Zaj | apply Zaq | apply Zas | apply Zao | apply Zal | apply Zab | apply Zak
      | ((with_reducible refine Zai ?_ ?_); exact rfl) | ((with_reducible refine Zat ?_); refine Zam rfl ?_ ?_ <;> intro hb <;> (try simp only [zH] at hb)) | ((with_reducible refine Zaz ?_); (first | refine Zaf htb hmz Zd0 fF rfl rfl ?_ | refine Zae hmo htb hmz Zd0 fF rfl rfl (by kernel_rfl) ?_); intro _ _ _ _ h; simp only [zE, evp, evx, ev1, evLoad, evStore, evBin, evIf, Zad, forall_const, z38, tb, reduceAdd, reduceSub, reduceMul, reduceEqDiff, reduceLeDiff, reduceLT, Nat.reduceBEq, Nat.reduceBNe, ↓reduceIte, reduceIte, spOn, nvS, joiS] at h; obtain ⟨rfl, rfl, rfl, rfl⟩ := h; refine ⟨?_, ?_⟩) | ((with_reducible refine Ob.mk ?_); first | exact trivial | (intros; omega) | ((repeat' first | apply And.intro | (intro a; have b := a; try simp only [zH] at b)) <;> first | assumption | omega | (simp only [zH]; omega)))
    have hI2 := OnI_put (clk' := mclk (orb F u k : Int) clk es) (c := clk) hI hh
    have hk1 : k + 1 ≤ o.length := Zd3 horb hI2.fr
    refine back ⟨k + 1, _, _⟩ [(5, 23)] ?_ hI2 (by dsimp only; omega)
    (refine ⟨rfl, ?_, ?_⟩ <;> simp only [zE, evp, evx, ev1, evLoad, evStore, evBin, evIf, Zad, forall_const, z38, tb, reduceAdd, reduceSub, reduceMul, reduceEqDiff, reduceLeDiff, reduceLT, Nat.reduceBEq, Nat.reduceBNe, ↓reduceIte, reduceIte, spOn, nvS, joiS, zI])
    · exact hst.1.symm
    · exact ⟨by rw [hol], orL_s.symm⟩
end Go.Proofs.YtdhoadhkkecjjaaDoor.Cal
