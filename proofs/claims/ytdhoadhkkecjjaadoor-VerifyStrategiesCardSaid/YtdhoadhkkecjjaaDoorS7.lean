/- Own texts, merged. -/
import Derived.Test.YtdhoadhkkecjjaaDoorS6
set_option linter.unusedVariables false
set_option linter.unusedSimpArgs false
open Nat (reduceAdd reduceSub reduceMul reduceEqDiff reduceLeDiff reduceLT)
namespace Go.Proofs.YtdhoadhkkecjjaaDoor.Cal
open Go Pl
noncomputable def clmE (g : Gm) (W C : List Int) : Int := if Zbb g = true then (if Zb9 g W C = true then 0 else 4) else 1
theorem clm_1 {g : Gm} {W C : List Int} (h : Zbb g = false) : clmE g W C = 1 := by unfold clmE; rw [if_neg (by rw [h]; decide)]
theorem Zje {g : Gm} {W C : List Int} (h : Zbb g = true) (h2 : Zb9 g W C = false) : clmE g W C = 4 := by unfold clmE; rw [if_pos h, if_neg (by rw [h2]; decide)]
theorem clm_0 {g : Gm} {W C : List Int} (h : Zbb g = true) (h2 : Zb9 g W C = true) : clmE g W C = 0 := by unfold clmE; rw [if_pos h, if_pos h2]
theorem clm_or (g : Gm) (W C : List Int) : (Zbb g = true ∧ Zb9 g W C = true ∧ clmE g W C = 0) ∨ (clmE g W C = 1 ∧ Zbb g = false) ∨ (clmE g W C = 4 ∧ Zbb g = true ∧ Zb9 g W C = false) := by
  cases h : Zbb g with
  | false => exact .inr (.inl ⟨clm_1 h, rfl⟩)
  | true =>
    cases h2 : Zb9 g W C with
    | false => exact .inr (.inr ⟨Zje h h2, rfl, rfl⟩)
    | true => exact .inl ⟨rfl, rfl, clm_0 h h2⟩
def seI (e : Int) (l : List Int) : List Int := if e = 0 then l else []
def seII (e : Int) (l : List (List Int)) : List (List Int) := if e = 0 then l else []
noncomputable def clmS : Spec
  | [.agg (.cons (.roI o) (.cons (.roI p) (.cons (.roII x) .nil))), .agg (.cons (.roI w) (.cons (.roI c) .nil))] => some ⟨True, .tup (.cons (.agg (.cons (.roI (seI (clmE ⟨o, p, x⟩ w c) o)) (.cons (.roI (seI (clmE ⟨o, p, x⟩ w c) p)) (.cons (.roII (seII (clmE ⟨o, p, x⟩ w c) x)) (.cons (.roI (seI (clmE ⟨o, p, x⟩ w c) w)) (.cons (.roI (seI (clmE ⟨o, p, x⟩ w c) c)) .nil)))))) (.cons (.int .i64 (clmE ⟨o, p, x⟩ w c)) .nil)), none⟩
  | _ => none
theorem Zhd {e e' : Int} {o p w c : List Int} {x : List (List Int)} (h : e = e') (h2 : e' ≠ 0) : Imp (.tup (.cons (.agg (.cons (.cst (.slice none 0 0)) (.cons (.cst (.slice none 0 0)) (.cons (.cst (.slice none 0 0)) (.cons (.cst (.slice none 0 0)) (.cons (.cst (.slice none 0 0)) .nil)))))) (.cons (.int .i64 e') .nil)))
    (.tup (.cons (.agg (.cons (.roI (seI e o)) (.cons (.roI (seI e p)) (.cons (.roII (seII e x)) (.cons (.roI (seI e w)) (.cons (.roI (seI e c)) .nil)))))) (.cons (.int .i64 e) .nil))) := by
  subst h
  have e1 : ∀ l, seI e l = [] := fun l => if_neg h2
  have e2 : ∀ l, seII e l = [] := fun l => if_neg h2
  rw [e1, e1, e1, e1, e2]
  exact Zgh (Zb2 (Zgi (Zb2 Zbw (Zb2 Zbw (Zb2 imp_nilII (Zb2 Zbw (Zb2 Zbw (Zb0 rfl))))))) (Zb0 rfl))
noncomputable def spCo : Nat → Option Spec
  | 44 => some Za4
  | 41 => some Zau
  | _ => none
theorem Zbz : SpOK Tryd.prog spCo := by
  intro f S h
  unfold spCo at h
  split at h
  · cases h; exact Zfo
  · cases h; exact Zdf
  · cases h
set_option maxRecDepth 4000 in
set_option maxHeartbeats 4000000 in
theorem claimOf_ok : Zda Tryd.prog 28 clmS := by
  refine Zbs htb (fn := Tryd.f28) (by kernel_rfl) (by kernel_rfl) rfl (fun args r hS => ?_) (fun args r hS hob hl => ?_)
  · unfold clmS at hS; split at hS <;> first | (cases hS; done) | (cases hS; exact Nat.le_of_ble_eq_true rfl)
  unfold clmS at hS
  split at hS
  case h_2 => cases hS
  rename_i o p x w c
  simp only [Option.some.injEq] at hS
  subst hS
  simp only [lenP, mkL, lim] at hl
  dsimp only at hob
  repeat' first
    | with_reducible first | apply Zar | apply Zan | apply Zaa | apply Zad | apply Zah | apply Zap | apply Zag | apply Zaj | apply Zaq | apply Zas | apply Zao | apply Zal | apply Zac | apply Zak
    | ((with_reducible refine Zai ?_ ?_); exact rfl) | ((with_reducible refine Zat ?_); refine Zam rfl ?_ ?_ <;> intro hb <;> (try simp only [zH] at hb)) | ((with_reducible refine Zay 2 ?_ ?_); (· exact rfl); (with_reducible refine Zay 3 ?_ ?_); (· exact rfl); (first | refine Zae htb hmz Zbz fF rfl rfl ?_ | refine Zaf hmo htb hmz Zbz fF rfl rfl (by kernel_rfl) ?_); intro _ _ _ _ h; simp only [zE, evp, evx, ev1, evLoad, evStore, evBin, evIf, Zab, forall_const, z38, tb, reduceAdd, reduceSub, reduceMul, reduceEqDiff, reduceLeDiff, reduceLT, Nat.reduceBEq, Nat.reduceBNe, ↓reduceIte, reduceIte, spCo, Za4, Zau] at h; obtain ⟨rfl, rfl, rfl, rfl⟩ := h; refine ⟨?_, ?_⟩) | ((with_reducible refine Ob.mk ?_); first | exact trivial | (intros; omega) | ((repeat' first | apply And.intro | (intro a; have b := a; try simp only [zH] at b)) <;> first | assumption | omega | (simp only [zH]; omega)))
  · repeat' first
      | with_reducible first | apply Zar | apply Zan | apply Zaa | apply Zad | apply Zah | apply Zap | apply Zag | apply Zaj | apply Zaq | apply Zas | apply Zao | apply Zal | apply Zac | apply Zak
      | ((with_reducible refine Zai ?_ ?_); exact rfl) | ((with_reducible refine Zat ?_); refine Zam rfl ?_ ?_ <;> intro hb <;> (try simp only [zH] at hb)) | ((with_reducible refine Za7 ?_); (first | refine Zae htb hmz Zbz fF rfl rfl ?_ | refine Zaf hmo htb hmz Zbz fF rfl rfl (by kernel_rfl) ?_); intro _ _ _ _ h; simp only [zE, evp, evx, ev1, evLoad, evStore, evBin, evIf, Zab, forall_const, z38, tb, reduceAdd, reduceSub, reduceMul, reduceEqDiff, reduceLeDiff, reduceLT, Nat.reduceBEq, Nat.reduceBNe, ↓reduceIte, reduceIte, spCo, Za4, Zau] at h; obtain ⟨rfl, rfl, rfl, rfl⟩ := h; refine ⟨?_, ?_⟩) | ((with_reducible refine Ob.mk ?_); first | exact trivial | (intros; omega) | ((repeat' first | apply And.intro | (intro a; have b := a; try simp only [zH] at b)) <;> first | assumption | omega | (simp only [zH]; omega)))
    refine Zaz rfl rfl (Zcu rfl ?_ rfl)
    exact Zhd (clm_1 hb) (by decide)
  have hv : Zbb ⟨o, p, x⟩ = true := by cases h : Zbb ⟨o, p, x⟩ with | true => rfl | false => rw [h] at hb; simp at hb
  clear hb
  have hG := gok (validB_iff.1 hv)
  have hxl : x.length = o.length := hG.xl
  have hn : o.length ≤ 20000 := hG.n
  have hno : ∀ v, v < o.length → ¬ ((w.getD v 0 = 0 ∨ w.getD v 0 = 1) ∧ (o.getD v 0 = w.getD v 0 → c.getD v 0 ∈ x.getD v []) ∧ (o.getD v 0 ≠ w.getD v 0 → c.getD v 0 = -1)) → clmE ⟨o, p, x⟩ w c = 4 := fun v hv2 h => Zje hv (decide_eq_false fun h2 => h (h2.2.2 v hv2))
  repeat' first
    | with_reducible first | apply Zar | apply Zan | apply Zaa | apply Zad | apply Zah | apply Zap | apply Zag | apply Zaj | apply Zaq | apply Zas | apply Zao | apply Zal | apply Zac | apply Zak
    | ((with_reducible refine Zai ?_ ?_); exact rfl) | ((with_reducible refine Zat ?_); refine Zam rfl ?_ ?_ <;> intro hb <;> (try simp only [zH] at hb)) | ((with_reducible refine Zay 4 ?_ ?_); (· exact rfl); (with_reducible refine Zay 5 ?_ ?_); (· exact rfl); (first | refine Zae htb hmz Zbz fF rfl rfl ?_ | refine Zaf hmo htb hmz Zbz fF rfl rfl (by kernel_rfl) ?_); intro _ _ _ _ h; simp only [zE, evp, evx, ev1, evLoad, evStore, evBin, evIf, Zab, forall_const, z38, tb, reduceAdd, reduceSub, reduceMul, reduceEqDiff, reduceLeDiff, reduceLT, Nat.reduceBEq, Nat.reduceBNe, ↓reduceIte, reduceIte, spCo, Za4, Zau] at h; obtain ⟨rfl, rfl, rfl, rfl⟩ := h; refine ⟨?_, ?_⟩) | ((with_reducible refine Ob.mk ?_); first | exact trivial | (intros; omega) | ((repeat' first | apply And.intro | (intro a; have b := a; try simp only [zH] at b)) <;> first | assumption | omega | (simp only [zH]; omega)))
  · have hcb : clmE ⟨o, p, x⟩ w c = 4 := Zje hv (decide_eq_false fun h => by
      have h1 : w.length = o.length := h.1
      have h2 : c.length = o.length := h.2.1
      omega)
    repeat' first
      | with_reducible first | apply Zar | apply Zan | apply Zaa | apply Zad | apply Zah | apply Zap | apply Zag | apply Zaj | apply Zaq | apply Zas | apply Zao | apply Zal | apply Zac | apply Zak
      | ((with_reducible refine Zai ?_ ?_); exact rfl) | ((with_reducible refine Zat ?_); refine Zam rfl ?_ ?_ <;> intro hb <;> (try simp only [zH] at hb)) | ((with_reducible refine Za7 ?_); (first | refine Zae htb hmz Zbz fF rfl rfl ?_ | refine Zaf hmo htb hmz Zbz fF rfl rfl (by kernel_rfl) ?_); intro _ _ _ _ h; simp only [zE, evp, evx, ev1, evLoad, evStore, evBin, evIf, Zab, forall_const, z38, tb, reduceAdd, reduceSub, reduceMul, reduceEqDiff, reduceLeDiff, reduceLT, Nat.reduceBEq, Nat.reduceBNe, ↓reduceIte, reduceIte, spCo, Za4, Zau] at h; obtain ⟨rfl, rfl, rfl, rfl⟩ := h; refine ⟨?_, ?_⟩) | ((with_reducible refine Ob.mk ?_); first | exact trivial | (intros; omega) | ((repeat' first | apply And.intro | (intro a; have b := a; try simp only [zH] at b)) <;> first | assumption | omega | (simp only [zH]; omega)))
    refine Zaz rfl rfl (Zcu rfl ?_ rfl)
    exact Zhd hcb (by decide)
  have hwl : w.length = o.length := by omega
  have hcl : c.length = o.length := by omega
  clear hb
  have hrl : ∀ v, v < o.length → (x.getD v []).length ≤ 64 := fun v h => (hG.len v h).2
  repeat' first
    | with_reducible first | apply Zar | apply Zan | apply Zaa | apply Zad | apply Zah | apply Zap | apply Zag | apply Zaj | apply Zaq | apply Zas | apply Zao | apply Zal | apply Zac | apply Zak
    | ((with_reducible refine Zai ?_ ?_); exact rfl) | ((with_reducible refine Zat ?_); refine Zam rfl ?_ ?_ <;> intro hb <;> (try simp only [zH] at hb)) | ((with_reducible refine Za7 ?_); (first | refine Zae htb hmz Zbz fF rfl rfl ?_ | refine Zaf hmo htb hmz Zbz fF rfl rfl (by kernel_rfl) ?_); intro _ _ _ _ h; simp only [zE, evp, evx, ev1, evLoad, evStore, evBin, evIf, Zab, forall_const, z38, tb, reduceAdd, reduceSub, reduceMul, reduceEqDiff, reduceLeDiff, reduceLT, Nat.reduceBEq, Nat.reduceBNe, ↓reduceIte, reduceIte, spCo, Za4, Zau] at h; obtain ⟨rfl, rfl, rfl, rfl⟩ := h; refine ⟨?_, ?_⟩) | ((with_reducible refine Ob.mk ?_); first | exact trivial | (intros; omega) | ((repeat' first | apply And.intro | (intro a; have b := a; try simp only [zH] at b)) <;> first | assumption | omega | (simp only [zH]; omega)))
  refine Zbc (τ := Nat) (fun i => i ≤ o.length ∧ ∀ v, v < i → (w.getD v 0 = 0 ∨ w.getD v 0 = 1) ∧ (o.getD v 0 = w.getD v 0 → c.getD v 0 ∈ x.getD v []) ∧ (o.getD v 0 ≠ w.getD v 0 → c.getD v 0 = -1)) (fun i => ⟨27, [(32, .int .i64 i), (31, .int .i64 w.length), (30, .roI w), (5, .int .i64 0), (4, .own 2), (3, .rop (.agg (.cons (.roI w) (.cons (.roI c) .nil)))), (2, (.rop (.agg (.cons (.roI o) (.cons (.roI p) (.cons (.roII x) .nil))))))], [(2, some (.box (.agg (.cons (.cst (.slice none 0 0)) (.cons (.cst (.slice none 0 0)) (.cons (.cst (.slice none 0 0)) (.cons (.cst (.slice none 0 0)) (.cons (.cst (.slice none 0 0)) .nil))))))))], []⟩) (fun i => o.length - i) 0 [] ?_ ⟨Nat.zero_le _, fun v hv => absurd hv (Nat.not_lt_zero v)⟩ ?_
  · (refine ⟨rfl, ?_, ?_⟩ <;> simp only [zE, evp, evx, ev1, evLoad, evStore, evBin, evIf, Zab, forall_const, z38, tb, reduceAdd, reduceSub, reduceMul, reduceEqDiff, reduceLeDiff, reduceLT, Nat.reduceBEq, Nat.reduceBNe, ↓reduceIte, reduceIte, spCo, Za4, Zau, zI])
  rintro i ⟨hi, hk⟩
  have hno1 := hno i
  have hrl1 := hrl i
  clear hno hrl
  repeat' first
    | with_reducible first | apply Zar | apply Zan | apply Zaa | apply Zad | apply Zah | apply Zap | apply Zag | apply Zaj | apply Zaq | apply Zas | apply Zao | apply Zal | apply Zac | apply Zak
    | ((with_reducible refine Zai ?_ ?_); exact rfl) | ((with_reducible refine Zat ?_); refine Zam rfl ?_ ?_ <;> intro hb <;> (try simp only [zH] at hb)) | ((with_reducible refine Zay 9 ?_ ?_); (· exact rfl); (with_reducible refine Zay 10 ?_ ?_); (· exact rfl); (first | refine Zae htb hmz Zbz fF rfl rfl ?_ | refine Zaf hmo htb hmz Zbz fF rfl rfl (by kernel_rfl) ?_); intro _ _ _ _ h; simp only [zE, evp, evx, ev1, evLoad, evStore, evBin, evIf, Zab, forall_const, z38, tb, reduceAdd, reduceSub, reduceMul, reduceEqDiff, reduceLeDiff, reduceLT, Nat.reduceBEq, Nat.reduceBNe, ↓reduceIte, reduceIte, spCo, Za4, Zau] at h; obtain ⟨rfl, rfl, rfl, rfl⟩ := h; refine ⟨?_, ?_⟩) | ((with_reducible refine Ob.mk ?_); first | exact trivial | (intros; omega) | ((repeat' first | apply And.intro | (intro a; have b := a; try simp only [zH] at b)) <;> first | assumption | omega | (simp only [zH]; omega)))
  · repeat' first
      | with_reducible first | apply Zar | apply Zan | apply Zaa | apply Zad | apply Zah | apply Zap | apply Zag | apply Zaj | apply Zaq | apply Zas | apply Zao | apply Zal | apply Zac | apply Zak
      | ((with_reducible refine Zai ?_ ?_); exact rfl) | ((with_reducible refine Zat ?_); refine Zam rfl ?_ ?_ <;> intro hb <;> (try simp only [zH] at hb)) | ((with_reducible refine Za7 ?_); (first | refine Zae htb hmz Zbz fF rfl rfl ?_ | refine Zaf hmo htb hmz Zbz fF rfl rfl (by kernel_rfl) ?_); intro _ _ _ _ h; simp only [zE, evp, evx, ev1, evLoad, evStore, evBin, evIf, Zab, forall_const, z38, tb, reduceAdd, reduceSub, reduceMul, reduceEqDiff, reduceLeDiff, reduceLT, Nat.reduceBEq, Nat.reduceBNe, ↓reduceIte, reduceIte, spCo, Za4, Zau] at h; obtain ⟨rfl, rfl, rfl, rfl⟩ := h; refine ⟨?_, ?_⟩) | ((with_reducible refine Ob.mk ?_); first | exact trivial | (intros; omega) | ((repeat' first | apply And.intro | (intro a; have b := a; try simp only [zH] at b)) <;> first | assumption | omega | (simp only [zH]; omega)))
    refine Zaz rfl rfl (Zcu rfl ?_ rfl)
    exact Zhd (hno1 (by omega) fun h => by omega) (by decide)
  · (refine Zaf hmo htb hmz Zbz fF rfl rfl (by kernel_rfl) ?_; intro _ _ _ _ h; simp only [zE, evp, evx, ev1, evLoad, evStore, evBin, evIf, Zab, forall_const, z38, tb, reduceAdd, reduceSub, reduceMul, reduceEqDiff, reduceLeDiff, reduceLT, Nat.reduceBEq, Nat.reduceBNe, ↓reduceIte, reduceIte, spCo, Za4, Zau] at h; obtain ⟨rfl, rfl, rfl, rfl⟩ := h; refine ⟨?_, ?_⟩)
    · first | ((with_reducible refine Ob.mk ?_); first | exact trivial | (intros; omega) | ((repeat' first | apply And.intro | (intro a; have b := a; try simp only [zH] at b)) <;> first | assumption | omega | (simp only [zH]; omega))) | skip
    repeat' first
      | with_reducible first | apply Zar | apply Zan | apply Zaa | apply Zad | apply Zah | apply Zap | apply Zag | apply Zaj | apply Zaq | apply Zas | apply Zao | apply Zal | apply Zac | apply Zak
      | ((with_reducible refine Zai ?_ ?_); exact rfl) | ((with_reducible refine Zat ?_); refine Zam rfl ?_ ?_ <;> intro hb <;> (try simp only [zH] at hb)) | ((with_reducible refine Zay 11 ?_ ?_); (· exact rfl); (with_reducible refine Zay 12 ?_ ?_); (· exact rfl); (first | refine Zae htb hmz Zbz fF rfl rfl ?_ | refine Zaf hmo htb hmz Zbz fF rfl rfl (by kernel_rfl) ?_); intro _ _ _ _ h; simp only [zE, evp, evx, ev1, evLoad, evStore, evBin, evIf, Zab, forall_const, z38, tb, reduceAdd, reduceSub, reduceMul, reduceEqDiff, reduceLeDiff, reduceLT, Nat.reduceBEq, Nat.reduceBNe, ↓reduceIte, reduceIte, spCo, Za4, Zau] at h; obtain ⟨rfl, rfl, rfl, rfl⟩ := h; refine ⟨?_, ?_⟩) | ((with_reducible refine Ob.mk ?_); first | exact trivial | (intros; omega) | ((repeat' first | apply And.intro | (intro a; have b := a; try simp only [zH] at b)) <;> first | assumption | omega | (simp only [zH]; omega)))
    · rename_i hb1
      repeat' first
        | with_reducible first | apply Zar | apply Zan | apply Zaa | apply Zad | apply Zah | apply Zap | apply Zag | apply Zaj | apply Zaq | apply Zas | apply Zao | apply Zal | apply Zac | apply Zak
        | ((with_reducible refine Zai ?_ ?_); exact rfl) | ((with_reducible refine Zat ?_); refine Zam rfl ?_ ?_ <;> intro hb <;> (try simp only [zH] at hb)) | ((with_reducible refine Za7 ?_); (first | refine Zae htb hmz Zbz fF rfl rfl ?_ | refine Zaf hmo htb hmz Zbz fF rfl rfl (by kernel_rfl) ?_); intro _ _ _ _ h; simp only [zE, evp, evx, ev1, evLoad, evStore, evBin, evIf, Zab, forall_const, z38, tb, reduceAdd, reduceSub, reduceMul, reduceEqDiff, reduceLeDiff, reduceLT, Nat.reduceBEq, Nat.reduceBNe, ↓reduceIte, reduceIte, spCo, Za4, Zau] at h; obtain ⟨rfl, rfl, rfl, rfl⟩ := h; refine ⟨?_, ?_⟩) | ((with_reducible refine Ob.mk ?_); first | exact trivial | (intros; omega) | ((repeat' first | apply And.intro | (intro a; have b := a; try simp only [zH] at b)) <;> first | assumption | omega | (simp only [zH]; omega)))
      refine Zaz rfl rfl (Zcu rfl ?_ rfl)
      refine Zhd (hno1 (by omega) fun h => ?_) (by decide)
      rcases hb with ⟨h1, h2⟩ | ⟨h1, h2⟩
      · exact h2 (h.2.1 h1.symm)
      · exact h2 (h.2.2 fun h3 => h1 h3.symm)
    · rename_i hb1
      repeat' first
        | with_reducible first | apply Zar | apply Zan | apply Zaa | apply Zad | apply Zah | apply Zap | apply Zag | apply Zaj | apply Zaq | apply Zas | apply Zao | apply Zal | apply Zac | apply Zak
        | ((with_reducible refine Zai ?_ ?_); exact rfl) | ((with_reducible refine Zat ?_); refine Zam rfl ?_ ?_ <;> intro hb <;> (try simp only [zH] at hb)) | ((with_reducible refine Za7 ?_); (first | refine Zae htb hmz Zbz fF rfl rfl ?_ | refine Zaf hmo htb hmz Zbz fF rfl rfl (by kernel_rfl) ?_); intro _ _ _ _ h; simp only [zE, evp, evx, ev1, evLoad, evStore, evBin, evIf, Zab, forall_const, z38, tb, reduceAdd, reduceSub, reduceMul, reduceEqDiff, reduceLeDiff, reduceLT, Nat.reduceBEq, Nat.reduceBNe, ↓reduceIte, reduceIte, spCo, Za4, Zau] at h; obtain ⟨rfl, rfl, rfl, rfl⟩ := h; refine ⟨?_, ?_⟩) | ((with_reducible refine Ob.mk ?_); first | exact trivial | (intros; omega) | ((repeat' first | apply And.intro | (intro a; have b := a; try simp only [zH] at b)) <;> first | assumption | omega | (simp only [zH]; omega)))
      refine back (i + 1) [] ?_ ⟨by omega, fun v hv => ?_⟩ (by omega)
      · (refine ⟨rfl, ?_, ?_⟩ <;> simp only [zE, evp, evx, ev1, evLoad, evStore, evBin, evIf, Zab, forall_const, z38, tb, reduceAdd, reduceSub, reduceMul, reduceEqDiff, reduceLeDiff, reduceLT, Nat.reduceBEq, Nat.reduceBNe, ↓reduceIte, reduceIte, spCo, Za4, Zau, zI])
      · rcases Nat.lt_succ_iff_lt_or_eq.1 hv with h | rfl
        · exact hk v h
        · refine ⟨hb1, fun h => ?_, fun h => ?_⟩
          · exact hb.1.resolve_left (fun h2 => h2 h.symm)
          · exact hb.2.resolve_left fun h2 => h h2.symm
  have hie : i = o.length := by omega
  subst hie
  have hcb : clmE ⟨o, p, x⟩ w c = 0 := clm_0 hv (decide_eq_true ⟨hwl, hcl, hk⟩)
  repeat' first
    | with_reducible first | apply Zar | apply Zan | apply Zaa | apply Zad | apply Zah | apply Zap | apply Zag | apply Zaj | apply Zaq | apply Zas | apply Zao | apply Zal | apply Zac | apply Zak
    | ((with_reducible refine Zai ?_ ?_); exact rfl) | ((with_reducible refine Zat ?_); refine Zam rfl ?_ ?_ <;> intro hb <;> (try simp only [zH] at hb)) | ((with_reducible refine Za7 ?_); (first | refine Zae htb hmz Zbz fF rfl rfl ?_ | refine Zaf hmo htb hmz Zbz fF rfl rfl (by kernel_rfl) ?_); intro _ _ _ _ h; simp only [zE, evp, evx, ev1, evLoad, evStore, evBin, evIf, Zab, forall_const, z38, tb, reduceAdd, reduceSub, reduceMul, reduceEqDiff, reduceLeDiff, reduceLT, Nat.reduceBEq, Nat.reduceBNe, ↓reduceIte, reduceIte, spCo, Za4, Zau] at h; obtain ⟨rfl, rfl, rfl, rfl⟩ := h; refine ⟨?_, ?_⟩) | ((with_reducible refine Ob.mk ?_); first | exact trivial | (intros; omega) | ((repeat' first | apply And.intro | (intro a; have b := a; try simp only [zH] at b)) <;> first | assumption | omega | (simp only [zH]; omega)))
  refine Zaz rfl rfl (Za1 rfl ?_ rfl)
  rw [hcb]
  rfl
def nvF (o w c : List Int) (x : List (List Int)) (q : Int) (v : Nat) : List Int := if o.getD v 0 = q ∧ w.getD v 0 = q then [c.getD v 0] else x.getD v []
def nvS : Spec
  | [.agg (.cons (.roI o) (.cons (.roI p) (.cons (.roII x) (.cons (.roI w) (.cons (.roI c) .nil))))), .int .i64 v, .int .i64 q] => some ⟨(0 ≤ v ∧ v < o.length) ∧ x.length = o.length ∧ w.length = o.length ∧ c.length = o.length, .roI (nvF o w c x q v.toNat), none⟩
  | _ => none
set_option maxRecDepth 4000 in
set_option maxHeartbeats 4000000 in
theorem Zi4 : Zda Tryd.prog 42 nvS := by
  refine Zbs htb (fn := Tryd.f42) (by kernel_rfl) (by kernel_rfl) rfl (fun args r hS => ?_) (fun args r hS hob hl => ?_)
  · unfold nvS at hS; split at hS <;> first | (cases hS; done) | (cases hS; exact Nat.le_of_ble_eq_true rfl)
  unfold nvS at hS
  split at hS
  case h_2 => cases hS
  rename_i o p x w c v q
  simp only [Option.some.injEq] at hS
  subst hS
  simp only [lenP, mkL, lim] at hl
  dsimp only at hob
  obtain ⟨⟨h0, h1⟩, h2, h3, h4⟩ := hob
  obtain ⟨u, rfl⟩ := Int.eq_ofNat_of_zero_le h0
  rw [Int.toNat_natCast]
  have e : nvF o w c x q u = if o.getD u 0 = q ∧ w.getD u 0 = q then [c.getD u 0] else x.getD u [] := rfl
  repeat' first
    | with_reducible first | apply Zar | apply Zan | apply Zaa | apply Zad | apply Zah | apply Zap | apply Zag | apply Zaj | apply Zaq | apply Zas | apply Zao | apply Zal | apply Zac | apply Zak
    | ((with_reducible refine Zai ?_ ?_); exact rfl) | ((with_reducible refine Zat ?_); refine Zam rfl ?_ ?_ <;> intro hb <;> (try simp only [zH] at hb)) | ((with_reducible refine Zay 2 ?_ ?_); (· exact rfl); (with_reducible refine Zay 3 ?_ ?_); (· exact rfl); (first | refine Zae htb hmz noSp fF rfl rfl ?_ | refine Zaf hmo htb hmz noSp fF rfl rfl (by kernel_rfl) ?_); intro _ _ _ _ h; simp only [zE, evp, evx, ev1, evLoad, evStore, evBin, evIf, Zab, forall_const, z38, tb, reduceAdd, reduceSub, reduceMul, reduceEqDiff, reduceLeDiff, reduceLT, Nat.reduceBEq, Nat.reduceBNe, ↓reduceIte, reduceIte] at h; obtain ⟨rfl, rfl, rfl, rfl⟩ := h; refine ⟨?_, ?_⟩) | ((with_reducible refine Ob.mk ?_); first | exact trivial | (intros; omega) | ((repeat' first | apply And.intro | (intro a; have b := a; try simp only [zH] at b)) <;> first | assumption | omega | (simp only [zH]; omega)))
  · repeat' first
      | with_reducible first | apply Zar | apply Zan | apply Zaa | apply Zad | apply Zah | apply Zap | apply Zag | apply Zaj | apply Zaq | apply Zas | apply Zao | apply Zal | apply Zac | apply Zak
      | ((with_reducible refine Zai ?_ ?_); exact rfl) | ((with_reducible refine Zat ?_); refine Zam rfl ?_ ?_ <;> intro hb <;> (try simp only [zH] at hb)) | ((with_reducible refine Za7 ?_); (first | refine Zae htb hmz noSp fF rfl rfl ?_ | refine Zaf hmo htb hmz noSp fF rfl rfl (by kernel_rfl) ?_); intro _ _ _ _ h; simp only [zE, evp, evx, ev1, evLoad, evStore, evBin, evIf, Zab, forall_const, z38, tb, reduceAdd, reduceSub, reduceMul, reduceEqDiff, reduceLeDiff, reduceLT, Nat.reduceBEq, Nat.reduceBNe, ↓reduceIte, reduceIte] at h; obtain ⟨rfl, rfl, rfl, rfl⟩ := h; refine ⟨?_, ?_⟩) | ((with_reducible refine Ob.mk ?_); first | exact trivial | (intros; omega) | ((repeat' first | apply And.intro | (intro a; have b := a; try simp only [zH] at b)) <;> first | assumption | omega | (simp only [zH]; omega)))
    refine Zaz rfl rfl (Za1 rfl ?_ rfl)
    rw [e, if_pos hb]
    rfl
  · repeat' first
      | with_reducible first | apply Zar | apply Zan | apply Zaa | apply Zad | apply Zah | apply Zap | apply Zag | apply Zaj | apply Zaq | apply Zas | apply Zao | apply Zal | apply Zac | apply Zak
      | ((with_reducible refine Zai ?_ ?_); exact rfl) | ((with_reducible refine Zat ?_); refine Zam rfl ?_ ?_ <;> intro hb <;> (try simp only [zH] at hb)) | ((with_reducible refine Za7 ?_); (first | refine Zae htb hmz noSp fF rfl rfl ?_ | refine Zaf hmo htb hmz noSp fF rfl rfl (by kernel_rfl) ?_); intro _ _ _ _ h; simp only [zE, evp, evx, ev1, evLoad, evStore, evBin, evIf, Zab, forall_const, z38, tb, reduceAdd, reduceSub, reduceMul, reduceEqDiff, reduceLeDiff, reduceLT, Nat.reduceBEq, Nat.reduceBNe, ↓reduceIte, reduceIte] at h; obtain ⟨rfl, rfl, rfl, rfl⟩ := h; refine ⟨?_, ?_⟩) | ((with_reducible refine Ob.mk ?_); first | exact trivial | (intros; omega) | ((repeat' first | apply And.intro | (intro a; have b := a; try simp only [zH] at b)) <;> first | assumption | omega | (simp only [zH]; omega)))
    refine Zaz rfl rfl (Za1 rfl ?_ rfl)
    rw [e, if_neg (by omega)]
    rfl
open Go
theorem Zfa {k : Int} : ∀ {es : List (Int × Int × Nat)} {i : Nat}, fnd k es (i + 1) = (fnd k es i).map fun p => (p.1 + 1, p.2)
  | [], _ => rfl
  | e :: t, i => by
    unfold fnd
    split
    · rfl
    · exact Zfa
theorem Zd8 {k : Int} {e : Int × Int × Nat} {t : List (Int × Int × Nat)} : mget k (e :: t) = if k = e.1 then e.2.1 else mget k t := by
  unfold mget
  rw [fnd]
  by_cases h : k = e.1
  · rw [if_pos h, if_pos h]
  · rw [if_neg h, if_neg h, Zfa]
    cases fnd k t 0 <;> rfl
theorem mput_cons {k v : Int} {c : Nat} {e : Int × Int × Nat} {t : List (Int × Int × Nat)} : mput k v c (e :: t) = if k = e.1 then (k, v, e.2.2) :: t else e :: mput k v c t := by
  unfold mput
  rw [fnd]
  by_cases h : k = e.1
  · rw [if_pos h, if_pos h]; rfl
  · rw [if_neg h, if_neg h, Zfa]
    cases fnd k t 0 <;> rfl
theorem Zge {k k' v : Int} {c : Nat} : ∀ {es : List (Int × Int × Nat)}, mget k (mput k' v c es) = if k = k' then v else mget k es
  | [] => by
    have : mput k' v c [] = [(k', v, c)] := rfl
    rw [this, Zd8]
  | e :: t => by
    rw [mput_cons]
    by_cases h : k' = e.1
    · rw [if_pos h, Zd8, Zd8]
      dsimp only
      rw [← h]
      split <;> rfl
    · rw [if_neg h, Zd8, Zd8, Zge (es := t)]
      by_cases h2 : k = e.1
      · rw [if_pos h2, if_pos h2, if_neg (fun e2 : k = k' => h (by rw [← e2]; exact h2))]
      · rw [if_neg h2, if_neg h2]
theorem Zd7 {k : Int} {e : Int × Int × Nat} {t : List (Int × Int × Nat)} : mhas k (e :: t) = if k = e.1 then true else mhas k t := by
  unfold mhas
  rw [fnd]
  by_cases h : k = e.1
  · rw [if_pos h, if_pos h]
  · rw [if_neg h, if_neg h, Zfa]
    cases fnd k t 0 <;> rfl
theorem Zgd {k k' v : Int} {c : Nat} : ∀ {es : List (Int × Int × Nat)}, mhas k (mput k' v c es) = if k = k' then true else mhas k es
  | [] => by
    have : mput k' v c [] = [(k', v, c)] := rfl
    rw [this, Zd7]
  | e :: t => by
    rw [mput_cons]
    by_cases h : k' = e.1
    · rw [if_pos h, Zd7, Zd7]
      dsimp only
      rw [← h]
      split <;> rfl
    · rw [if_neg h, Zd7, Zd7, Zgd (es := t)]
      by_cases h2 : k = e.1
      · rw [if_pos h2, if_pos h2]
        split <;> rfl
      · rw [if_neg h2, if_neg h2]
open Go Pl
def joiS : Spec
  | [.roII l] => some ⟨l.flatten.length ≤ 100000, .roI l.flatten, none⟩
  | _ => none
theorem flat_take_le {l : List (List Int)} (i : Nat) : (l.take i).flatten.length ≤ l.flatten.length := by
  conv => rhs; rw [← List.take_append_drop i l]
  rw [List.flatten_append, List.length_append]
  omega
theorem flat_take_s {l : List (List Int)} {i : Nat} (h : i < l.length) : (l.take (i + 1)).flatten = (l.take i).flatten ++ l.getD i [] := by
  rw [List.take_add_one, List.flatten_append, List.getElem?_eq_getElem h]
  simp [List.getD_eq_getElem?_getD, List.getElem?_eq_getElem h]
set_option maxRecDepth 4000 in
set_option maxHeartbeats 4000000 in
theorem Zeb : Zda Tryd.prog 39 joiS := by
  refine Zbs htb (fn := Tryd.f39) (by kernel_rfl) (by kernel_rfl) rfl (fun args r hS => ?_) (fun args r hS hob hl => ?_)
  · unfold joiS at hS; split at hS <;> first | (cases hS; done) | (cases hS; exact Nat.le_of_ble_eq_true rfl)
  unfold joiS at hS
  split at hS
  case h_2 => cases hS
  rename_i l
  simp only [Option.some.injEq] at hS
  subst hS
  simp only [lenP, mkL, lim] at hl
  dsimp only at hob
  repeat' first
    | with_reducible first | apply Zar | apply Zan | apply Zaa | apply Zad | apply Zah | apply Zap | apply Zag | apply Zaj | apply Zaq | apply Zas | apply Zao | apply Zal | apply Zac | apply Zak
    | ((with_reducible refine Zai ?_ ?_); exact rfl) | ((with_reducible refine Zat ?_); refine Zam rfl ?_ ?_ <;> intro hb <;> (try simp only [zH] at hb)) | ((with_reducible refine Zay 1 ?_ ?_); (· exact rfl); (first | refine Zae htb hmz noSp fF rfl rfl ?_ | refine Zaf hmo htb hmz noSp fF rfl rfl (by kernel_rfl) ?_); intro _ _ _ _ h; simp only [zE, evp, evx, ev1, evLoad, evStore, evBin, evIf, Zab, forall_const, z38, tb, reduceAdd, reduceSub, reduceMul, reduceEqDiff, reduceLeDiff, reduceLT, Nat.reduceBEq, Nat.reduceBNe, ↓reduceIte, reduceIte] at h; obtain ⟨rfl, rfl, rfl, rfl⟩ := h; refine ⟨?_, ?_⟩) | ((with_reducible refine Ob.mk ?_); first | exact trivial | (intros; omega) | ((repeat' first | apply And.intro | (intro a; have b := a; try simp only [zH] at b)) <;> first | assumption | omega | (simp only [zH]; omega)))
  (refine Zae htb hmz noSp (fun _ => true) rfl rfl ?_; intro _ _ _ _ h; simp only [zE, evp, evx, ev1, evLoad, evStore, evBin, evIf, Zab, forall_const, z38, tb, reduceAdd, reduceSub, reduceMul, reduceEqDiff, reduceLeDiff, reduceLT, Nat.reduceBEq, Nat.reduceBNe, ↓reduceIte, reduceIte] at h; obtain ⟨rfl, rfl, rfl, rfl⟩ := h; refine ⟨?_, ?_⟩)
  repeat' first
    | with_reducible first | apply Zar | apply Zan | apply Zaa | apply Zad | apply Zah | apply Zap | apply Zag | apply Zaj | apply Zaq | apply Zas | apply Zao | apply Zal | apply Zac | apply Zak
    | ((with_reducible refine Zai ?_ ?_); exact rfl) | ((with_reducible refine Zat ?_); refine Zam rfl ?_ ?_ <;> intro hb <;> (try simp only [zH] at hb)) | ((with_reducible refine Za7 ?_); (first | refine Zae htb hmz noSp fF rfl rfl ?_ | refine Zaf hmo htb hmz noSp fF rfl rfl (by kernel_rfl) ?_); intro _ _ _ _ h; simp only [zE, evp, evx, ev1, evLoad, evStore, evBin, evIf, Zab, forall_const, z38, tb, reduceAdd, reduceSub, reduceMul, reduceEqDiff, reduceLeDiff, reduceLT, Nat.reduceBEq, Nat.reduceBNe, ↓reduceIte, reduceIte] at h; obtain ⟨rfl, rfl, rfl, rfl⟩ := h; refine ⟨?_, ?_⟩) | ((with_reducible refine Ob.mk ?_); first | exact trivial | (intros; omega) | ((repeat' first | apply And.intro | (intro a; have b := a; try simp only [zH] at b)) <;> first | assumption | omega | (simp only [zH]; omega)))
  refine Zbc (τ := Nat) (fun i => i ≤ l.length) (fun i => ⟨3, [(9, .int .i64 i), (8, .int .i64 l.length), (7, .roII l), (3, .own 1), (2, .cst (.slice none 0 0))], [(1, some (.ints (l.take i).flatten))], []⟩) (fun i => l.length - i) 0 [] ?_ (Nat.zero_le _) ?_
  · (refine ⟨rfl, ?_, ?_⟩ <;> simp only [zE, evp, evx, ev1, evLoad, evStore, evBin, evIf, Zab, forall_const, z38, tb, reduceAdd, reduceSub, reduceMul, reduceEqDiff, reduceLeDiff, reduceLT, Nat.reduceBEq, Nat.reduceBNe, ↓reduceIte, reduceIte, zI])
    rfl
  intro i hi
  have hle : i < l.length → (l.take i).flatten.length + (l.getD i []).length ≤ 100000 := fun h => by
    have h1 := flat_take_le (l := l) (i + 1)
    rw [flat_take_s h, List.length_append] at h1
    omega
  repeat' first
    | with_reducible first | apply Zar | apply Zan | apply Zaa | apply Zad | apply Zah | apply Zap | apply Zag | apply Zaj | apply Zaq | apply Zas | apply Zao | apply Zal | apply Zac | apply Zak
    | ((with_reducible refine Zai ?_ ?_); exact rfl) | ((with_reducible refine Zat ?_); refine Zam rfl ?_ ?_ <;> intro hb <;> (try simp only [zH] at hb)) | ((with_reducible refine Zay 7 ?_ ?_); (· exact rfl); (first | refine Zae htb hmz noSp fF rfl rfl ?_ | refine Zaf hmo htb hmz noSp fF rfl rfl (by kernel_rfl) ?_); intro _ _ _ _ h; simp only [zE, evp, evx, ev1, evLoad, evStore, evBin, evIf, Zab, forall_const, z38, tb, reduceAdd, reduceSub, reduceMul, reduceEqDiff, reduceLeDiff, reduceLT, Nat.reduceBEq, Nat.reduceBNe, ↓reduceIte, reduceIte] at h; obtain ⟨rfl, rfl, rfl, rfl⟩ := h; refine ⟨?_, ?_⟩) | ((with_reducible refine Ob.mk ?_); first | exact trivial | (intros; omega) | ((repeat' first | apply And.intro | (intro a; have b := a; try simp only [zH] at b)) <;> first | assumption | omega | (simp only [zH]; omega)))
  · refine back (i + 1) [(1, 9)] ?_ (by omega) (by omega)
    (refine ⟨rfl, ?_, ?_⟩ <;> simp only [zE, evp, evx, ev1, evLoad, evStore, evBin, evIf, Zab, forall_const, z38, tb, reduceAdd, reduceSub, reduceMul, reduceEqDiff, reduceLeDiff, reduceLT, Nat.reduceBEq, Nat.reduceBNe, ↓reduceIte, reduceIte, zI])
    rw [flat_take_s (by omega)]
  have hie : i = l.length := by omega
  subst hie
  rw [List.take_length]
  refine Zdo 1 (.roI l.flatten) (by simp only [Za9, Zbh, fzE, fzA, fzR, fzB, set1, nbeq, reduceEqDiff, decide_true, decide_false, ↓reduceIte, reduceIte, cond_true, cond_false, List.take_length, Option.some.injEq]; rfl) (by first | exact rfl | (refine ⟨?_, rfl⟩; first | rfl | (intros; rfl))) (by simp only [Za9, Zbh, fzE, fzA, fzR, fzB, set1, nbeq, reduceEqDiff, decide_true, decide_false, ↓reduceIte, reduceIte, cond_true, cond_false, List.take_length, Option.some.injEq]; rfl) (by simp only [Za9, Zbh, fzE, fzA, fzR, fzB, set1, nbeq, reduceEqDiff, decide_true, decide_false, ↓reduceIte, reduceIte, cond_true, cond_false, List.take_length, Option.some.injEq]; rfl) ?_
  repeat' first
    | with_reducible first | apply Zar | apply Zan | apply Zaa | apply Zad | apply Zah | apply Zap | apply Zag | apply Zaj | apply Zaq | apply Zas | apply Zao | apply Zal | apply Zac | apply Zak
    | ((with_reducible refine Zai ?_ ?_); exact rfl) | ((with_reducible refine Zat ?_); refine Zam rfl ?_ ?_ <;> intro hb <;> (try simp only [zH] at hb)) | ((with_reducible refine Za7 ?_); (first | refine Zae htb hmz noSp fF rfl rfl ?_ | refine Zaf hmo htb hmz noSp fF rfl rfl (by kernel_rfl) ?_); intro _ _ _ _ h; simp only [zE, evp, evx, ev1, evLoad, evStore, evBin, evIf, Zab, forall_const, z38, tb, reduceAdd, reduceSub, reduceMul, reduceEqDiff, reduceLeDiff, reduceLT, Nat.reduceBEq, Nat.reduceBNe, ↓reduceIte, reduceIte] at h; obtain ⟨rfl, rfl, rfl, rfl⟩ := h; refine ⟨?_, ?_⟩) | ((with_reducible refine Ob.mk ?_); first | exact trivial | (intros; omega) | ((repeat' first | apply And.intro | (intro a; have b := a; try simp only [zH] at b)) <;> first | assumption | omega | (simp only [zH]; omega)))
  refine Zaz rfl rfl (Za1 rfl ?_ rfl)
  rfl
def onN (o w c : List Int) (x : List (List Int)) (q : Int) (v : Nat) : Nat := ((nvF o w c x q v).getD 0 0).toNat
def orL (F : Nat → Nat) (v k : Nat) : List Int := (List.range k).map fun j => (orb F v j : Int)
theorem orL_len {F : Nat → Nat} {v k : Nat} : (orL F v k).length = k := by simp [orL]
theorem orL_s {F : Nat → Nat} {v k : Nat} : orL F v (k + 1) = orL F v k ++ [(orb F v k : Int)] := by unfold orL; rw [List.range_succ, List.map_append]; rfl
noncomputable def agA (F : Nat → Nat) (v : Nat) : Nat × Nat := open Classical in if h : ∃ p : Nat × Nat, Zex F v p.1 p.2 then Classical.choose h else (0, 0)
theorem agA_eq {F : Nat → Nat} {v L k : Nat} (h : Zex F v L k) : agA F v = (L, k) := by
  unfold agA
  have hex : ∃ p : Nat × Nat, Zex F v p.1 p.2 := ⟨(L, k), h⟩
  rw [dif_pos hex]
  have := again_unique (Classical.choose_spec hex) h
  exact Prod.ext this.1 this.2
noncomputable def onS1 (F : Nat → Nat) (v : Nat) : List Int := (orL F v (agA F v).1).take (agA F v).2
noncomputable def onL1 (F : Nat → Nat) (v : Nat) : List Int := (orL F v (agA F v).1).drop (agA F v).2
noncomputable def onS : Spec
  | [.agg (.cons (.roI o) (.cons (.roI p) (.cons (.roII x) (.cons (.roI w) (.cons (.roI c) .nil))))), .int .i64 v, .int .i64 q] => some ⟨(0 ≤ v ∧ v < o.length) ∧ x.length = o.length ∧ w.length = o.length ∧ c.length = o.length ∧ o.length ≤ 20000 ∧ (∀ u, u < o.length → 0 < (nvF o w c x q u).length ∧ 0 ≤ (nvF o w c x q u).getD 0 0 ∧ (nvF o w c x q u).getD 0 0 < o.length), .agg (.cons (.roI (onS1 (onN o w c x q) v.toNat)) (.cons (.roI (onL1 (onN o w c x q) v.toNat)) .nil)), none⟩
  | _ => none
structure OnS where
  k : Nat
  es : List (Int × Int × Nat)
  clk : Nat
structure OnI (F : Nat → Nat) (v : Nat) (s : OnS) : Prop where
  fr : Zht F v s.k
  mp : ∀ u : Nat, (mhas (u : Int) s.es = true ↔ ∃ j, j < s.k ∧ orb F v j = u)
  mg : ∀ j, j < s.k → mget (orb F v j : Int) s.es = j
theorem OnI_nil {F : Nat → Nat} {v clk : Nat} : OnI F v ⟨0, [], clk⟩ := ⟨fun i j _ h => absurd h (Nat.not_lt_zero j), fun u => ⟨fun h => (by cases h), fun ⟨j, h, _⟩ => absurd h (Nat.not_lt_zero j)⟩, fun j h => absurd h (Nat.not_lt_zero j)⟩
theorem OnI_put {F : Nat → Nat} {v k clk clk' c : Nat} {es : List (Int × Int × Nat)} (h : OnI F v ⟨k, es, clk⟩) (hh : mhas (orb F v k : Int) es ≠ true) : OnI F v ⟨k + 1, mput (orb F v k : Int) k c es, clk'⟩ := by
  have hne : ∀ j, j < k → orb F v j ≠ orb F v k := fun j hj e => hh ((h.mp _).2 ⟨j, hj, e⟩)
  refine ⟨Zej h.fr hne, fun u => ?_, fun j hj => ?_⟩
  · show mhas _ (mput _ _ _ _) = true ↔ _
    rw [Zgd]
    by_cases e : (u : Int) = orb F v k
    · rw [if_pos e]
      exact ⟨fun _ => ⟨k, Nat.lt_succ_self k, by omega⟩, fun _ => rfl⟩
    · rw [if_neg e]
      refine (h.mp u).trans ⟨fun ⟨j, hj, e2⟩ => ⟨j, Nat.lt_succ_of_lt hj, e2⟩, fun ⟨j, hj, e2⟩ => ⟨j, ?_, e2⟩⟩
      rcases Nat.lt_succ_iff_lt_or_eq.1 hj with hj | rfl
      · exact hj
      · exact absurd (congrArg Nat.cast e2.symm) e
  · show mget _ (mput _ _ _ _) = _
    rw [Zge]
    rcases Nat.lt_succ_iff_lt_or_eq.1 hj with hj | rfl
    · rw [if_neg (fun e => hne j hj (by omega))]
      exact h.mg j hj
    · rw [if_pos rfl]
noncomputable def spOn : Nat → Option Spec
  | 42 => some nvS
  | 39 => some joiS
  | _ => none
theorem Zdv : SpOK Tryd.prog spOn := by
  intro f S h
  unfold spOn at h
  split at h
  · cases h; exact Zi4
  · cases h; exact Zeb
  · cases h
set_option maxRecDepth 4000 in
set_option maxHeartbeats 4000000 in
theorem on_ok : Zda Tryd.prog 62 onS := by
  refine Zbs htb (fn := Tryd.f62) (by kernel_rfl) (by kernel_rfl) rfl (fun args r hS => ?_) (fun args r hS hob hl => ?_)
  · unfold onS at hS; split at hS <;> first | (cases hS; done) | (cases hS; exact Nat.le_of_ble_eq_true rfl)
  unfold onS at hS
  split at hS
  case h_2 => cases hS
  rename_i o p x w c v q
  simp only [Option.some.injEq] at hS
  subst hS
  simp only [lenP, mkL, lim] at hl
  dsimp only at hob
  obtain ⟨⟨h0, h1⟩, h2, h3, h4, hn, hnx⟩ := hob
  obtain ⟨u, rfl⟩ := Int.eq_ofNat_of_zero_le h0
  rw [Int.toNat_natCast]
  have horb : ∀ j, orb (onN o w c x q) u j < o.length := fun j => by
    induction j with
    | zero => show u < _; omega
    | succ j ih => show ((nvF o w c x q (orb (onN o w c x q) u j)).getD 0 0).toNat < _; have := hnx _ ih; omega
  have hstep : ∀ j, (nvF o w c x q (orb (onN o w c x q) u j)).getD 0 0 = (orb (onN o w c x q) u (j + 1) : Nat) ∧ 0 < (nvF o w c x q (orb (onN o w c x q) u j)).length := fun j => by
    have h := hnx _ (horb j)
    exact ⟨(Int.toNat_of_nonneg h.2.1).symm, h.1⟩
  repeat' first
    | with_reducible first | apply Zar | apply Zan | apply Zaa | apply Zad | apply Zah | apply Zap | apply Zag | apply Zaj | apply Zaq | apply Zas | apply Zao | apply Zal | apply Zac | apply Zak
    | ((with_reducible refine Zai ?_ ?_); exact rfl) | ((with_reducible refine Zat ?_); refine Zam rfl ?_ ?_ <;> intro hb <;> (try simp only [zH] at hb)) | ((with_reducible refine Za7 ?_); (first | refine Zae htb hmz Zdv fF rfl rfl ?_ | refine Zaf hmo htb hmz Zdv fF rfl rfl (by kernel_rfl) ?_); intro _ _ _ _ h; simp only [zE, evp, evx, ev1, evLoad, evStore, evBin, evIf, Zab, forall_const, z38, tb, reduceAdd, reduceSub, reduceMul, reduceEqDiff, reduceLeDiff, reduceLT, Nat.reduceBEq, Nat.reduceBNe, ↓reduceIte, reduceIte, spOn, nvS, joiS] at h; obtain ⟨rfl, rfl, rfl, rfl⟩ := h; refine ⟨?_, ?_⟩) | ((with_reducible refine Ob.mk ?_); first | exact trivial | (intros; omega) | ((repeat' first | apply And.intro | (intro a; have b := a; try simp only [zH] at b)) <;> first | assumption | omega | (simp only [zH]; omega)))
  refine awp_nilown 8 (.ints []) (by simp only [zE, evp, evx, ev1, evLoad, evStore, evBin, evIf, Zab, forall_const, z38, tb, reduceAdd, reduceSub, reduceMul, reduceEqDiff, reduceLeDiff, reduceLT, Nat.reduceBEq, Nat.reduceBNe, ↓reduceIte, reduceIte, spOn, nvS, joiS]) (.inl rfl) rfl ?_
  obtain ⟨F, hF⟩ : ∃ F, onN o w c x q = F := ⟨_, rfl⟩
  simp only [hF] at horb hstep ⊢
  refine Zbc (τ := OnS) (fun s => OnI F u s) (fun s => ⟨6, [(8, .own 5), (7, .own 2), (6, .own 1), (3, (.rop (.agg (.cons (.roI o) (.cons (.roI p) (.cons (.roII x) (.cons (.roI w) (.cons (.roI c) .nil)))))))), (1, .int .i64 (orb F u s.k)), (2, .int .i64 q)], [(1, some (.box (.agg (.cons (.cst (.slice none 0 0)) (.cons (.cst (.slice none 0 0)) .nil))))), (2, some (.mp s.es s.clk)), (5, some (.ints (orL F u s.k)))], []⟩) (fun s => o.length - s.k) ⟨0, [], 0⟩ [] ?_ OnI_nil ?_
  · (refine ⟨rfl, ?_, ?_⟩ <;> simp only [zE, evp, evx, ev1, evLoad, evStore, evBin, evIf, Zab, forall_const, z38, tb, reduceAdd, reduceSub, reduceMul, reduceEqDiff, reduceLeDiff, reduceLT, Nat.reduceBEq, Nat.reduceBNe, ↓reduceIte, reduceIte, spOn, nvS, joiS, zI])
    all_goals rfl
  rintro ⟨k, es, clk⟩ hI
  dsimp only at hI ⊢
  have hkn : k ≤ o.length := Ze9 horb hI.fr
  have hhas : mhas (orb F u k : Int) es = true ↔ ∃ j, j < k ∧ orb F u j = orb F u k := hI.mp (orb F u k)
  have hok := horb k
  have hst := hstep k
  have hol : (orL F u k).length = k := orL_len
  repeat' first
    | with_reducible first | apply Zar | apply Zan | apply Zaa | apply Zad | apply Zah | apply Zap | apply Zag | apply Zaj | apply Zaq | apply Zas | apply Zao | apply Zal | apply Zac | apply Zak
    | ((with_reducible refine Zai ?_ ?_); exact rfl) | ((with_reducible refine Zat ?_); refine Zam rfl ?_ ?_ <;> intro hb <;> (try simp only [zH] at hb)) | ((with_reducible refine Zay 5 ?_ ?_); (· exact rfl); (with_reducible refine Zay 6 ?_ ?_); (· exact rfl); (first | refine Zae htb hmz Zdv fF rfl rfl ?_ | refine Zaf hmo htb hmz Zdv fF rfl rfl (by kernel_rfl) ?_); intro _ _ _ _ h; simp only [zE, evp, evx, ev1, evLoad, evStore, evBin, evIf, Zab, forall_const, z38, tb, reduceAdd, reduceSub, reduceMul, reduceEqDiff, reduceLeDiff, reduceLT, Nat.reduceBEq, Nat.reduceBNe, ↓reduceIte, reduceIte, spOn, nvS, joiS] at h; obtain ⟨rfl, rfl, rfl, rfl⟩ := h; refine ⟨?_, ?_⟩) | ((with_reducible refine Ob.mk ?_); first | exact trivial | (intros; omega) | ((repeat' first | apply And.intro | (intro a; have b := a; try simp only [zH] at b)) <;> first | assumption | omega | (simp only [zH]; omega)))
  · obtain ⟨j, hj, e⟩ := hhas.1 hb
    have hmg : mget (orb F u j : Int) es = j := hI.mg j hj
    rw [e] at hmg
    rw [hmg]
    have hag : Zex F u k j := ⟨hI.fr, hj, e.symm⟩
    have ha := agA_eq hag
    refine Zdo 5 (.roI (orL F u k)) (by simp only [Za9, Zbh, fzE, fzA, fzR, fzB, set1, nbeq, reduceEqDiff, decide_true, decide_false, ↓reduceIte, reduceIte, cond_true, cond_false, List.take_length, Option.some.injEq]; rfl) (by first | exact rfl | (refine ⟨?_, rfl⟩; first | rfl | (intros; rfl))) (by simp only [Za9, Zbh, fzE, fzA, fzR, fzB, set1, nbeq, reduceEqDiff, decide_true, decide_false, ↓reduceIte, reduceIte, cond_true, cond_false, List.take_length, Option.some.injEq]; rfl) (by simp only [Za9, Zbh, fzE, fzA, fzR, fzB, set1, nbeq, reduceEqDiff, decide_true, decide_false, ↓reduceIte, reduceIte, cond_true, cond_false, List.take_length, Option.some.injEq]; rfl) ?_
    have hl1 : [(orL F u k).take j].flatten.length ≤ 100000 := by
      simp only [List.flatten_cons, List.flatten_nil, List.append_nil, List.length_take]; omega
    have hl2 : [(orL F u k).drop j].flatten.length ≤ 100000 := by
      have hd : ((orL F u k).drop j).length = (orL F u k).length - j := List.length_drop ..
      rw [List.flatten_cons, List.flatten_nil, List.append_nil, hd, hol]; omega
    have hda : (orL F u k).length = k := orL_len
    (refine Zaf hmo htb hmz Zdv fF rfl rfl (by kernel_rfl) ?_; intro _ _ _ _ h; simp only [zE, evp, evx, ev1, evLoad, evStore, evBin, evIf, Zab, forall_const, z38, tb, reduceAdd, reduceSub, reduceMul, reduceEqDiff, reduceLeDiff, reduceLT, Nat.reduceBEq, Nat.reduceBNe, ↓reduceIte, reduceIte, spOn, nvS, joiS] at h; obtain ⟨rfl, rfl, rfl, rfl⟩ := h; refine ⟨?_, ?_⟩)
    · exact ⟨⟨⟨⟨Int.le_refl _, by omega, by omega⟩, hl1⟩, by omega⟩, hl2⟩
    repeat' first
      | with_reducible first | apply Zar | apply Zan | apply Zaa | apply Zad | apply Zah | apply Zap | apply Zag | apply Zaj | apply Zaq | apply Zas | apply Zao | apply Zal | apply Zac | apply Zak
      | ((with_reducible refine Zai ?_ ?_); exact rfl) | ((with_reducible refine Zat ?_); refine Zam rfl ?_ ?_ <;> intro hb <;> (try simp only [zH] at hb)) | ((with_reducible refine Za7 ?_); (first | refine Zae htb hmz Zdv fF rfl rfl ?_ | refine Zaf hmo htb hmz Zdv fF rfl rfl (by kernel_rfl) ?_); intro _ _ _ _ h; simp only [zE, evp, evx, ev1, evLoad, evStore, evBin, evIf, Zab, forall_const, z38, tb, reduceAdd, reduceSub, reduceMul, reduceEqDiff, reduceLeDiff, reduceLT, Nat.reduceBEq, Nat.reduceBNe, ↓reduceIte, reduceIte, spOn, nvS, joiS] at h; obtain ⟨rfl, rfl, rfl, rfl⟩ := h; refine ⟨?_, ?_⟩) | ((with_reducible refine Ob.mk ?_); first | exact trivial | (intros; omega) | ((repeat' first | apply And.intro | (intro a; have b := a; try simp only [zH] at b)) <;> first | assumption | omega | (simp only [zH]; omega)))
    refine Zaz rfl rfl (Za1 rfl ?_ rfl)
    show AV.agg _ = AV.agg _
    unfold onS1 onL1
    rw [ha]
    simp only [List.flatten_cons, List.flatten_nil, List.append_nil]
    rfl
  · have hh : mhas (orb F u k : Int) es ≠ true := by rw [hb]; decide
    have hol2 : (orL F u k).length ≤ 999999999999 := by omega
    repeat' first
      | with_reducible first | apply Zar | apply Zan | apply Zaa | apply Zad | apply Zah | apply Zap | apply Zag | apply Zaj | apply Zaq | apply Zas | apply Zao | apply Zal | apply Zac | apply Zak
      | ((with_reducible refine Zai ?_ ?_); exact rfl) | ((with_reducible refine Zat ?_); refine Zam rfl ?_ ?_ <;> intro hb <;> (try simp only [zH] at hb)) | ((with_reducible refine Za7 ?_); (first | refine Zae htb hmz Zdv fF rfl rfl ?_ | refine Zaf hmo htb hmz Zdv fF rfl rfl (by kernel_rfl) ?_); intro _ _ _ _ h; simp only [zE, evp, evx, ev1, evLoad, evStore, evBin, evIf, Zab, forall_const, z38, tb, reduceAdd, reduceSub, reduceMul, reduceEqDiff, reduceLeDiff, reduceLT, Nat.reduceBEq, Nat.reduceBNe, ↓reduceIte, reduceIte, spOn, nvS, joiS] at h; obtain ⟨rfl, rfl, rfl, rfl⟩ := h; refine ⟨?_, ?_⟩) | ((with_reducible refine Ob.mk ?_); first | exact trivial | (intros; omega) | ((repeat' first | apply And.intro | (intro a; have b := a; try simp only [zH] at b)) <;> first | assumption | omega | (simp only [zH]; omega)))
    have hI2 := OnI_put (clk' := mclk (orb F u k : Int) clk es) (c := clk) hI hh
    have hk1 : k + 1 ≤ o.length := Ze9 horb hI2.fr
    refine back ⟨k + 1, _, _⟩ [(5, 23)] ?_ hI2 (by dsimp only; omega)
    (refine ⟨rfl, ?_, ?_⟩ <;> simp only [zE, evp, evx, ev1, evLoad, evStore, evBin, evIf, Zab, forall_const, z38, tb, reduceAdd, reduceSub, reduceMul, reduceEqDiff, reduceLeDiff, reduceLT, Nat.reduceBEq, Nat.reduceBNe, ↓reduceIte, reduceIte, spOn, nvS, joiS, zI])
    · exact hst.1.symm
    · exact ⟨by rw [hol], orL_s.symm⟩
open Go Pl
def aftP (l loop : List Int) (i : Int) : Int := if i + 1 < l.length then l.getD (i + 1).toNat 0 else loop.getD 0 0
def isP (g : Gm) (s lp : List Int) : Bool := decide (lp ≠ [] ∧ (∀ i, i < (s ++ lp).length → 0 ≤ (s ++ lp).getD i 0 ∧ (s ++ lp).getD i 0 < (g.own.length : Int)) ∧ ∀ i, i < (s ++ lp).length → aftP (s ++ lp) lp i ∈ g.nxt.getD ((s ++ lp).getD i 0).toNat [])
theorem foldl_max0 {f : Int → Int} : ∀ {l : List Int} {a : Int}, 0 ≤ a → 0 ≤ l.foldl (fun a v => max a (f v)) a
  | [], a, h => h
  | v :: l, a, h => foldl_max0 (l := l) (by show 0 ≤ max a (f v); omega)
def wonP (g : Gm) (lp : List Int) : Int := (lp.foldl (fun a v => max a (g.pri.getD v.toNat 0)) 0) % 2
def wonS : Spec
  | [.agg (.cons (.roI o) (.cons (.roI p) (.cons (.roII x) .nil))), .agg (.cons (.roI s) (.cons (.roI lp) .nil))] => some ⟨∀ i, i < lp.length → 0 ≤ lp.getD i 0 ∧ lp.getD i 0 < (p.length : Int), .int .i64 (wonP ⟨o, p, x⟩ lp), none⟩
  | _ => none
section
open Go Pl
theorem ring_cyc {E : Nat → Nat → Prop} {f : Nat → Nat} {m : Nat} (hm : 0 < m) (h : ∀ k, k + 1 < m → E (f k) (f (k + 1))) (hl : E (f (m - 1)) (f 0)) {k : Nat} (hk : k < m) : ∃ t, E (f k) t ∧ Rch E t (f k) := by
  have up : ∀ (d a : Nat), a + d < m → Rch E (f a) (f (a + d)) := by
    intro d
    induction d with
    | zero => intro a _; exact .refl _
    | succ d ih => intro a ha; exact .step (ih a (by omega)) (h (a + d) (by omega))
  by_cases h1 : k + 1 < m
  · refine ⟨f (k + 1), h k h1, ?_⟩
    have r1 := up (m - 1 - (k + 1)) (k + 1) (by omega)
    rw [show k + 1 + (m - 1 - (k + 1)) = m - 1 by omega] at r1
    have r2 := up k 0 (by omega)
    rw [Nat.zero_add] at r2
    exact (Rch.step r1 hl).trans r2
  · have e : k = m - 1 := by omega
    subst e
    refine ⟨f 0, hl, ?_⟩
    have r2 := up (m - 1) 0 (by omega)
    rw [Nat.zero_add] at r2
    exact r2
theorem Zgj {f : Int → Int} : ∀ {l : List Int} {a : Int}, (∀ v, v ∈ l → f v ≤ l.foldl (fun a v => max a (f v)) a) ∧ a ≤ l.foldl (fun a v => max a (f v)) a ∧ (l.foldl (fun a v => max a (f v)) a = a ∨ ∃ v, v ∈ l ∧ f v = l.foldl (fun a v => max a (f v)) a)
  | [], a => ⟨fun v h => (by cases h), Int.le_refl _, .inl rfl⟩
  | b :: l, a => by
    obtain ⟨h1, h2, h3⟩ := Zgj (f := f) (l := l) (a := max a (f b))
    rw [List.foldl_cons]
    refine ⟨fun v hv => ?_, by omega, ?_⟩
    · rcases List.mem_cons.1 hv with rfl | hv
      · omega
      · exact h1 v hv
    · rcases h3 with h3 | ⟨v, hv, e⟩
      · rcases Int.le_total a (f b) with h4 | h4
        · exact .inr ⟨b, List.mem_cons_self, by rw [h3]; omega⟩
        · exact .inl (by rw [h3]; omega)
      · exact .inr ⟨v, List.mem_cons_of_mem _ hv, e⟩
def psP (L : List Int) (i : Nat) : Nat := (L.getD i 0).toNat
def folP (g : Gm) (W C s l : List Int) (w : Int) : Prop := ∀ i : Nat, i < (s ++ l).length → g.own.getD (psP (s ++ l) i) 0 = w ∧ W.getD (psP (s ++ l) i) 0 = w → aftP (s ++ l) l i = C.getD (psP (s ++ l) i) 0
open Classical in
noncomputable def Zc1 (g : Gm) (W C s l : List Int) : Bool := decide (folP g W C s l (W.getD (psP (s ++ l) 0) 0) ∧ ((∃ i, i < (s ++ l).length ∧ W.getD (psP (s ++ l) i) 0 ≠ W.getD (psP (s ++ l) 0) 0) ∨ wonP g l ≠ W.getD (psP (s ++ l) 0) 0))
variable {g : Gm} {W C s l : List Int}
open Classical in
theorem against_iff : Zc1 g W C s l = true ↔ (folP g W C s l (W.getD (psP (s ++ l) 0) 0) ∧ ((∃ i, i < (s ++ l).length ∧ W.getD (psP (s ++ l) i) 0 ≠ W.getD (psP (s ++ l) 0) 0) ∨ wonP g l ≠ W.getD (psP (s ++ l) 0) 0)) := by
  unfold Zc1
  exact decide_eq_true_iff
theorem isP_iff : isP g s l = true ↔ l ≠ [] ∧ (∀ i, i < (s ++ l).length → 0 ≤ (s ++ l).getD i 0 ∧ (s ++ l).getD i 0 < (g.own.length : Int)) ∧ ∀ i : Nat, i < (s ++ l).length → aftP (s ++ l) l i ∈ g.nxt.getD (psP (s ++ l) i) [] := by
  unfold isP
  exact decide_eq_true_iff
theorem fol_win (hv : Zbb g = true) {w : Int} {c : Nat → Nat} (hS : Sol (fun v => g.own.getD v 0) (fun v => g.pri.getD v 0) (rws g.nxt) (fun v => v < g.own.length) (fun v => W.getD v 0) c w) (hw : w = 0 ∨ w = 1) (hi : isP g s l = true) (h0 : W.getD (psP (s ++ l) 0) 0 = w)
    (hf : ∀ i : Nat, i < (s ++ l).length → g.own.getD (psP (s ++ l) i) 0 = w → W.getD (psP (s ++ l) i) 0 = w → (aftP (s ++ l) l i).toNat = c (psP (s ++ l) i)) : (∀ i, i < (s ++ l).length → W.getD (psP (s ++ l) i) 0 = w) ∧ wonP g l = w := by
  have hG := gok (validB_iff.1 hv)
  obtain ⟨hl, hb, hn⟩ := isP_iff.1 hi
  have hl0 : 0 < l.length := List.length_pos_iff.2 hl
  have hal : (s ++ l).length = s.length + l.length := List.length_append ..
  have hpb : ∀ i, i < (s ++ l).length → psP (s ++ l) i < g.own.length := fun i hi => by
    have := hb i hi
    show ((s ++ l).getD i 0).toNat < _
    omega
  have hE : ∀ i, i < (s ++ l).length → W.getD (psP (s ++ l) i) 0 = w → Stp (fun v => g.own.getD v 0) (rws g.nxt) (fun v => v < g.own.length) (fun v => W.getD v 0) c w (psP (s ++ l) i) (aftP (s ++ l) l i).toNat ∧ W.getD (aftP (s ++ l) l i).toNat 0 = w := fun i hil hwi => by
    have hm : (aftP (s ++ l) l i).toNat ∈ rws g.nxt (psP (s ++ l) i) := List.mem_map.2 ⟨_, hn i hil, rfl⟩
    have htn := hG.row _ (hpb i hil) _ hm
    by_cases ho : g.own.getD (psP (s ++ l) i) 0 = w
    · have e := hf i hil ho hwi
      obtain ⟨_, _, m3⟩ := hS.mine _ (hpb i hil) hwi ho
      exact ⟨⟨⟨hpb i hil, hwi⟩, htn, fun _ => e, fun h => absurd ho h⟩, by rw [e]; exact m3⟩
    · exact ⟨⟨⟨hpb i hil, hwi⟩, htn, fun h => absurd h ho, fun _ => hm⟩, hS.his _ (hpb i hil) hwi ho _ hm htn⟩
  have haf : ∀ i, i + 1 < (s ++ l).length → (aftP (s ++ l) l i).toNat = psP (s ++ l) (i + 1) := fun i h => by
    unfold aftP psP
    rw [if_pos (by omega), show ((i : Int) + 1).toNat = i + 1 by omega]
  have hlast : (aftP (s ++ l) l ((s ++ l).length - 1 : Nat)).toNat = psP (s ++ l) s.length := by
    unfold aftP psP
    rw [if_neg (by omega)]
    congr 1
    simp only [List.getD_eq_getElem?_getD]
    rw [List.getElem?_append_right (Nat.le_refl _), Nat.sub_self]
  have hall : ∀ i, i < (s ++ l).length → W.getD (psP (s ++ l) i) 0 = w := by
    intro i
    induction i with
    | zero => intro _; exact h0
    | succ i ih =>
      intro hi2
      have := (hE i (by omega) (ih (by omega))).2
      rw [haf i hi2] at this
      exact this
  refine ⟨hall, Classical.byContradiction fun hne => ?_⟩
  obtain ⟨m1, m2, m3⟩ := Zgj (f := fun v => g.pri.getD v.toNat 0) (l := l) (a := 0)
  have hlp : ∀ k, k < l.length → (s ++ l).getD (s.length + k) 0 = l.getD k 0 := fun k hk => by
    simp only [List.getD_eq_getElem?_getD]
    rw [List.getElem?_append_right (by omega), show s.length + k - s.length = k by omega]
  have hle : ∀ k, k < l.length → g.pri.getD (psP (s ++ l) (s.length + k)) 0 ≤ l.foldl (fun a v => max a (g.pri.getD v.toNat 0)) 0 := fun k hk => by
    show g.pri.getD ((s ++ l).getD (s.length + k) 0).toNat 0 ≤ _
    rw [hlp k hk]
    refine m1 _ ?_
    rw [List.getD_eq_getElem?_getD, List.getElem?_eq_getElem hk]; exact List.getElem_mem ..
  obtain ⟨k, hk, hke⟩ : ∃ k, k < l.length ∧ g.pri.getD (psP (s ++ l) (s.length + k)) 0 = l.foldl (fun a v => max a (g.pri.getD v.toNat 0)) 0 := by
    rcases m3 with e | ⟨v, hvm, e⟩
    · refine ⟨0, hl0, Int.le_antisymm (hle 0 hl0) ?_⟩
      rw [e]
      exact (hG.pri _ (hpb _ (by omega))).1
    · obtain ⟨j, hj, rfl⟩ := Ze5 hvm
      refine ⟨j, hj, ?_⟩
      show g.pri.getD ((s ++ l).getD (s.length + j) 0).toNat 0 = _
      rw [hlp j hj]; exact e
  have hcy : Cyc (Stp (fun v => g.own.getD v 0) (rws g.nxt) (fun v => v < g.own.length) (fun v => W.getD v 0) c w) (fun v => g.pri.getD v 0) (psP (s ++ l) (s.length + k)) := by
    refine ring_cyc (f := fun k => psP (s ++ l) (s.length + k)) (m := l.length) hl0 (fun j hj => ?_) ?_ hk
    · have := (hE (s.length + j) (by omega) (hall _ (by omega))).1
      rw [haf _ (by omega)] at this
      refine ⟨this, ?_⟩
      show g.pri.getD (psP (s ++ l) (s.length + (j + 1))) 0 ≤ g.pri.getD (psP (s ++ l) (s.length + k)) 0
      rw [hke]; exact hle (j + 1) (by omega)
    · have := (hE (s.length + (l.length - 1)) (by omega) (hall _ (by omega))).1
      rw [show s.length + (l.length - 1) = (s ++ l).length - 1 by omega, hlast] at this
      rw [show s.length + (l.length - 1) = (s ++ l).length - 1 by omega]
      refine ⟨this, ?_⟩
      show g.pri.getD (psP (s ++ l) (s.length + 0)) 0 ≤ g.pri.getD (psP (s ++ l) (s.length + k)) 0
      rw [hke]; exact hle 0 hl0
  refine hS.cyc _ (hpb _ (by omega)) (hall _ (by omega)) ?_ hcy
  show g.pri.getD (psP (s ++ l) (s.length + k)) 0 % 2 ≠ w
  rw [hke]
  exact hne
theorem sol_no (hv : Zbb g = true) (hs : solB g W C = true) (hi : isP g s l = true) : Zc1 g W C s l = false := by
  obtain ⟨hc, hS⟩ := (Zgv (validB_iff.1 hv)).1 hs
  obtain ⟨_, _, hc⟩ := of_decide_eq_true hc
  obtain ⟨hl, hb, _⟩ := isP_iff.1 hi
  have hl0 : 0 < l.length := List.length_pos_iff.2 hl
  have h0 : psP (s ++ l) 0 < g.own.length := by
    have := hb 0 (by rw [List.length_append]; omega)
    show ((s ++ l).getD 0 0).toNat < _
    omega
  have hw := (hc _ h0).1
  cases hag : Zc1 g W C s l with
  | false => rfl
  | true =>
  exfalso
  obtain ⟨hf, hx⟩ := against_iff.1 hag
  obtain ⟨a1, a2⟩ := fol_win hv (hS _ hw) hw hi rfl fun i hi2 ho hw2 => by rw [hf i hi2 ⟨ho, hw2⟩]
  rcases hx with ⟨i, hi2, h⟩ | h
  · exact h (a1 i hi2)
  · exact h a2
end
open Go Pl
def badV (n : Nat) (v : Int) : Bool := decide (v < 0 ∨ (n : Int) ≤ v)
def Zhm : Spec
  | [.int .i64 v, .rop (.agg (.cons (.roI o) (.cons (.roI p) (.cons (.roII x) .nil))))] => some ⟨True, .bool (badV o.length v), none⟩
  | _ => none
set_option maxRecDepth 4000 in
set_option maxHeartbeats 4000000 in
theorem ply1_ok : Zda Tryd.prog 56 Zhm := by
  refine Zbs htb (fn := Tryd.f56) (by kernel_rfl) (by kernel_rfl) rfl (fun args r hS => ?_) (fun args r hS hob hl => ?_)
  · unfold Zhm at hS; split at hS <;> first | (cases hS; done) | (cases hS; exact Nat.le_of_ble_eq_true rfl)
  unfold Zhm at hS
  split at hS
  case h_2 => cases hS
  rename_i v o p x
  simp only [Option.some.injEq] at hS
  subst hS
  simp only [lenP, mkL, lim] at hl
  dsimp only at hob
  repeat' first
    | with_reducible first | apply Zar | apply Zan | apply Zaa | apply Zad | apply Zah | apply Zap | apply Zag | apply Zaj | apply Zaq | apply Zas | apply Zao | apply Zal | apply Zac | apply Zak
    | ((with_reducible refine Zai ?_ ?_); exact rfl) | ((with_reducible refine Zat ?_); refine Zam rfl ?_ ?_ <;> intro hb <;> (try simp only [zH] at hb)) | ((with_reducible refine Za7 ?_); (first | refine Zae htb hmz noSp fF rfl rfl ?_ | refine Zaf hmo htb hmz noSp fF rfl rfl (by kernel_rfl) ?_); intro _ _ _ _ h; simp only [zE, evp, evx, ev1, evLoad, evStore, evBin, evIf, Zab, forall_const, z38, tb, reduceAdd, reduceSub, reduceMul, reduceEqDiff, reduceLeDiff, reduceLT, Nat.reduceBEq, Nat.reduceBNe, ↓reduceIte, reduceIte] at h; obtain ⟨rfl, rfl, rfl, rfl⟩ := h; refine ⟨?_, ?_⟩) | ((with_reducible refine Ob.mk ?_); first | exact trivial | (intros; omega) | ((repeat' first | apply And.intro | (intro a; have b := a; try simp only [zH] at b)) <;> first | assumption | omega | (simp only [zH]; omega)))
  refine Zaz rfl rfl (Za1 rfl ?_ rfl)
  show AV.bool (decide (v < 0) || decide ((o.length : Int) ≤ v)) = AV.bool (badV o.length v)
  unfold badV
  rw [Bool.decide_or]
def nbF (n : Nat) (l : List Int) : Nat → Nat → Int
  | _, 0 => -1
  | i, k + 1 => if badV n (l.getD i 0) = true then i else nbF n l (i + 1) k
theorem nbF_iff {n : Nat} {l : List Int} : ∀ {k i : Nat}, 0 ≤ nbF n l i k ↔ ∃ j, i ≤ j ∧ j < i + k ∧ badV n (l.getD j 0) = true
  | 0, i => ⟨fun h => absurd h (by unfold nbF; decide), fun ⟨j, h1, h2, _⟩ => by omega⟩
  | k + 1, i => by
    unfold nbF
    split
    · rename_i h
      exact ⟨fun _ => ⟨i, Nat.le_refl _, by omega, h⟩, fun _ => by omega⟩
    · rename_i h
      rw [nbF_iff]
      constructor
      · rintro ⟨j, h1, h2, h3⟩; exact ⟨j, by omega, by omega, h3⟩
      · rintro ⟨j, h1, h2, h3⟩
        refine ⟨j, ?_, by omega, h3⟩
        rcases Nat.lt_or_eq_of_le h1 with h4 | h4
        · exact h4
        · subst h4; exact absurd h3 h
def Ziy : Spec
  | [.roI l, .fn 56 (.cons (.rop (.agg (.cons (.roI o) (.cons (.roI p) (.cons (.roII x) .nil))))) .nil)] => some ⟨True, .int .i64 (nbF o.length l 0 l.length), none⟩
  | _ => none
def spIv : Nat → Option Spec
  | 56 => some Zhm
  | _ => none
theorem Zgt : SpOK Tryd.prog spIv := by
  intro f S h
  unfold spIv at h
  split at h
  · cases h; exact ply1_ok
  · cases h
set_option maxRecDepth 4000 in
set_option maxHeartbeats 4000000 in
theorem idxv_ok : Zda Tryd.prog 64 Ziy := by
  refine Zbs htb (fn := Tryd.f64) (by kernel_rfl) (by kernel_rfl) rfl (fun args r hS => ?_) (fun args r hS hob hl => ?_)
  · unfold Ziy at hS; split at hS <;> first | (cases hS; done) | (cases hS; exact Nat.le_of_ble_eq_true rfl)
  unfold Ziy at hS
  split at hS
  case h_2 => cases hS
  rename_i l o p x
  simp only [Option.some.injEq] at hS
  subst hS
  simp only [lenP, mkL, lim] at hl
  dsimp only at hob
  repeat' first
    | with_reducible first | apply Zar | apply Zan | apply Zaa | apply Zad | apply Zah | apply Zap | apply Zag | apply Zaj | apply Zaq | apply Zas | apply Zao | apply Zal | apply Zac | apply Zak
    | ((with_reducible refine Zai ?_ ?_); exact rfl) | ((with_reducible refine Zat ?_); refine Zam rfl ?_ ?_ <;> intro hb <;> (try simp only [zH] at hb)) | ((with_reducible refine Za7 ?_); (first | refine Zae htb hmz Zgt fF rfl rfl ?_ | refine Zaf hmo htb hmz Zgt fF rfl rfl (by kernel_rfl) ?_); intro _ _ _ _ h; simp only [zE, evp, evx, ev1, evLoad, evStore, evBin, evIf, Zab, forall_const, z38, tb, reduceAdd, reduceSub, reduceMul, reduceEqDiff, reduceLeDiff, reduceLT, Nat.reduceBEq, Nat.reduceBNe, ↓reduceIte, reduceIte, spIv, Zhm] at h; obtain ⟨rfl, rfl, rfl, rfl⟩ := h; refine ⟨?_, ?_⟩) | ((with_reducible refine Ob.mk ?_); first | exact trivial | (intros; omega) | ((repeat' first | apply And.intro | (intro a; have b := a; try simp only [zH] at b)) <;> first | assumption | omega | (simp only [zH]; omega)))
  refine Zbc (τ := Nat) (fun i => i ≤ l.length ∧ nbF o.length l i (l.length - i) = nbF o.length l 0 l.length) (fun i => ⟨4, [(8, .int .i64 i), (7, .int .i64 l.length), (0, .roI l), (1, .fn 56 (.cons (.rop (.agg (.cons (.roI o) (.cons (.roI p) (.cons (.roII x) .nil))))) .nil))], [], []⟩) (fun i => l.length - i) 0 [] ?_ ⟨Nat.zero_le _, rfl⟩ ?_
  · (refine ⟨rfl, ?_, ?_⟩ <;> simp only [zE, evp, evx, ev1, evLoad, evStore, evBin, evIf, Zab, forall_const, z38, tb, reduceAdd, reduceSub, reduceMul, reduceEqDiff, reduceLeDiff, reduceLT, Nat.reduceBEq, Nat.reduceBNe, ↓reduceIte, reduceIte, spIv, Zhm, zI])
  rintro i ⟨hi, hj⟩
  have hst : i < l.length → nbF o.length l i (l.length - i) = if badV o.length (l.getD i 0) = true then (i : Int) else nbF o.length l (i + 1) (l.length - (i + 1)) := fun h => by
    rw [show l.length - i = l.length - (i + 1) + 1 by omega]; rfl
  repeat' first
    | with_reducible first | apply Zar | apply Zan | apply Zaa | apply Zad | apply Zah | apply Zap | apply Zag | apply Zaj | apply Zaq | apply Zas | apply Zao | apply Zal | apply Zac | apply Zak
    | ((with_reducible refine Zai ?_ ?_); exact rfl) | ((with_reducible refine Zat ?_); refine Zam rfl ?_ ?_ <;> intro hb <;> (try simp only [zH] at hb)) | ((with_reducible refine Za7 ?_); (first | refine Zae htb hmz Zgt fF rfl rfl ?_ | refine Zaf hmo htb hmz Zgt fF rfl rfl (by kernel_rfl) ?_); intro _ _ _ _ h; simp only [zE, evp, evx, ev1, evLoad, evStore, evBin, evIf, Zab, forall_const, z38, tb, reduceAdd, reduceSub, reduceMul, reduceEqDiff, reduceLeDiff, reduceLT, Nat.reduceBEq, Nat.reduceBNe, ↓reduceIte, reduceIte, spIv, Zhm] at h; obtain ⟨rfl, rfl, rfl, rfl⟩ := h; refine ⟨?_, ?_⟩) | ((with_reducible refine Ob.mk ?_); first | exact trivial | (intros; omega) | ((repeat' first | apply And.intro | (intro a; have b := a; try simp only [zH] at b)) <;> first | assumption | omega | (simp only [zH]; omega)))
  · refine Zaz rfl rfl (Za1 rfl ?_ rfl)
    rw [← hj, hst (by omega), if_pos hb]
    rfl
  · refine back (i + 1) [] ?_ ⟨by omega, ?_⟩ (by omega)
    · (refine ⟨rfl, ?_, ?_⟩ <;> simp only [zE, evp, evx, ev1, evLoad, evStore, evBin, evIf, Zab, forall_const, z38, tb, reduceAdd, reduceSub, reduceMul, reduceEqDiff, reduceLeDiff, reduceLT, Nat.reduceBEq, Nat.reduceBNe, ↓reduceIte, reduceIte, spIv, Zhm, zI])
    · rw [← hj, hst (by omega), if_neg]
      intro h
      rw [hb] at h; cases h
  · refine Zaz rfl rfl (Za1 rfl ?_ rfl)
    have hin : i = l.length := by omega
    rw [← hj, hin, Nat.sub_self]
    rfl
def ctvS : Spec
  | [.roI l, .fn 56 (.cons (.rop (.agg (.cons (.roI o) (.cons (.roI p) (.cons (.roII x) .nil))))) .nil)] => some ⟨True, .bool (decide (0 ≤ nbF o.length l 0 l.length)), none⟩
  | _ => none
def spCv : Nat → Option Spec
  | 64 => some Ziy
  | _ => none
theorem spCv_ok : SpOK Tryd.prog spCv := by
  intro f S h
  unfold spCv at h
  split at h
  · cases h; exact idxv_ok
  · cases h
set_option maxRecDepth 4000 in
set_option maxHeartbeats 4000000 in
theorem ctv_ok : Zda Tryd.prog 55 ctvS := by
  refine Zbs htb (fn := Tryd.f55) (by kernel_rfl) (by kernel_rfl) rfl (fun args r hS => ?_) (fun args r hS hob hl => ?_)
  · unfold ctvS at hS; split at hS <;> first | (cases hS; done) | (cases hS; exact Nat.le_of_ble_eq_true rfl)
  unfold ctvS at hS
  split at hS
  case h_2 => cases hS
  rename_i l o p x
  simp only [Option.some.injEq] at hS
  subst hS
  simp only [lenP, mkL, lim] at hl
  dsimp only at hob
  repeat' first
    | with_reducible first | apply Zar | apply Zan | apply Zaa | apply Zad | apply Zah | apply Zap | apply Zag | apply Zaj | apply Zaq | apply Zas | apply Zao | apply Zal | apply Zac | apply Zak
    | ((with_reducible refine Zai ?_ ?_); exact rfl) | ((with_reducible refine Zat ?_); refine Zam rfl ?_ ?_ <;> intro hb <;> (try simp only [zH] at hb)) | ((with_reducible refine Za7 ?_); (first | refine Zae htb hmz spCv_ok fF rfl rfl ?_ | refine Zaf hmo htb hmz spCv_ok fF rfl rfl (by kernel_rfl) ?_); intro _ _ _ _ h; simp only [zE, evp, evx, ev1, evLoad, evStore, evBin, evIf, Zab, forall_const, z38, tb, reduceAdd, reduceSub, reduceMul, reduceEqDiff, reduceLeDiff, reduceLT, Nat.reduceBEq, Nat.reduceBNe, ↓reduceIte, reduceIte, spCv, Ziy] at h; obtain ⟨rfl, rfl, rfl, rfl⟩ := h; refine ⟨?_, ?_⟩) | ((with_reducible refine Ob.mk ?_); first | exact trivial | (intros; omega) | ((repeat' first | apply And.intro | (intro a; have b := a; try simp only [zH] at b)) <;> first | assumption | omega | (simp only [zH]; omega)))
  refine Zaz rfl rfl (Za1 rfl ?_ rfl)
  rfl
def plyS : Spec
  | [.agg (.cons (.roI o) (.cons (.roI p) (.cons (.roII x) .nil))), .agg (.cons (.roI s) (.cons (.roI lp) .nil))] => some ⟨(s.length ≤ 40000 ∧ lp.length ≤ 40000) ∧ x.length = o.length, .bool (isP ⟨o, p, x⟩ s lp), none⟩
  | _ => none
def spPy : Nat → Option Spec
  | 39 => some joiS
  | 55 => some ctvS
  | 41 => some Zau
  | _ => none
theorem Zbq : SpOK Tryd.prog spPy := by
  intro f S h
  unfold spPy at h
  split at h
  · cases h; exact Zeb
  · cases h; exact ctv_ok
  · cases h; exact Zdf
  · cases h
set_option maxRecDepth 4000 in
set_option maxHeartbeats 4000000 in
theorem ply_ok : Zda Tryd.prog 38 plyS := by
  refine Zbs htb (fn := Tryd.f38) (by kernel_rfl) (by kernel_rfl) rfl (fun args r hS => ?_) (fun args r hS hob hl => ?_)
  · unfold plyS at hS; split at hS <;> first | (cases hS; done) | (cases hS; exact Nat.le_of_ble_eq_true rfl)
  unfold plyS at hS
  split at hS
  case h_2 => cases hS
  rename_i o p x s lp
  simp only [Option.some.injEq] at hS
  subst hS
  simp only [lenP, mkL, lim] at hl
  dsimp only at hob
  obtain ⟨⟨h1, h2⟩, h3⟩ := hob
  have hal : (s ++ lp).length = s.length + lp.length := List.length_append ..
  have hfl : [s, lp].flatten = s ++ lp := by simp
  have hfl2 : [s, lp].flatten.length ≤ 100000 := by rw [hfl]; omega
  have hP : isP ⟨o, p, x⟩ s lp = decide (lp ≠ [] ∧ (∀ i, i < (s ++ lp).length → 0 ≤ (s ++ lp).getD i 0 ∧ (s ++ lp).getD i 0 < (o.length : Int)) ∧ ∀ i : Nat, i < (s ++ lp).length → aftP (s ++ lp) lp i ∈ x.getD ((s ++ lp).getD i 0).toNat []) := by
    unfold isP
    exact decide_eq_decide.2 Iff.rfl
  repeat' first
    | with_reducible first | apply Zar | apply Zan | apply Zaa | apply Zad | apply Zah | apply Zap | apply Zag | apply Zaj | apply Zaq | apply Zas | apply Zao | apply Zal | apply Zac | apply Zak
    | ((with_reducible refine Zai ?_ ?_); exact rfl) | ((with_reducible refine Zat ?_); refine Zam rfl ?_ ?_ <;> intro hb <;> (try simp only [zH] at hb)) | ((with_reducible refine Zay 2 ?_ ?_); (· exact rfl); (first | refine Zae htb hmz Zbq fF rfl rfl ?_ | refine Zaf hmo htb hmz Zbq fF rfl rfl (by kernel_rfl) ?_); intro _ _ _ _ h; simp only [zE, evp, evx, ev1, evLoad, evStore, evBin, evIf, Zab, forall_const, z38, tb, reduceAdd, reduceSub, reduceMul, reduceEqDiff, reduceLeDiff, reduceLT, Nat.reduceBEq, Nat.reduceBNe, ↓reduceIte, reduceIte, spPy, joiS, ctvS, Zau] at h; obtain ⟨rfl, rfl, rfl, rfl⟩ := h; refine ⟨?_, ?_⟩) | ((with_reducible refine Ob.mk ?_); first | exact trivial | (intros; omega) | ((repeat' first | apply And.intro | (intro a; have b := a; try simp only [zH] at b)) <;> first | assumption | omega | (simp only [zH]; omega)))
  rw [hfl]
  generalize s ++ lp = L at *
  have hL : L.length ≤ 80000 := by omega
  clear hfl hfl2
  repeat' first
    | with_reducible first | apply Zar | apply Zan | apply Zaa | apply Zad | apply Zah | apply Zap | apply Zag | apply Zaj | apply Zaq | apply Zas | apply Zao | apply Zal | apply Zac | apply Zak
    | ((with_reducible refine Zai ?_ ?_); exact rfl) | ((with_reducible refine Zat ?_); refine Zam rfl ?_ ?_ <;> intro hb <;> (try simp only [zH] at hb)) | ((with_reducible refine Zay 3 ?_ ?_); (· exact rfl); (with_reducible refine Zay 4 ?_ ?_); (· exact rfl); (first | refine Zae htb hmz Zbq fF rfl rfl ?_ | refine Zaf hmo htb hmz Zbq fF rfl rfl (by kernel_rfl) ?_); intro _ _ _ _ h; simp only [zE, evp, evx, ev1, evLoad, evStore, evBin, evIf, Zab, forall_const, z38, tb, reduceAdd, reduceSub, reduceMul, reduceEqDiff, reduceLeDiff, reduceLT, Nat.reduceBEq, Nat.reduceBNe, ↓reduceIte, reduceIte, spPy, joiS, ctvS, Zau] at h; obtain ⟨rfl, rfl, rfl, rfl⟩ := h; refine ⟨?_, ?_⟩) | ((with_reducible refine Ob.mk ?_); first | exact trivial | (intros; omega) | ((repeat' first | apply And.intro | (intro a; have b := a; try simp only [zH] at b)) <;> first | assumption | omega | (simp only [zH]; omega)))
  · have hf : isP ⟨o, p, x⟩ s lp = false := by
      rw [hP]
      refine decide_eq_false fun h => ?_
      rcases hb with hb | hb
      · exact h.1 (List.length_eq_zero_iff.1 (by omega))
      · obtain ⟨j, _, hj, hbd⟩ := nbF_iff.1 hb
        have := h.2.1 j (by omega)
        have hbd := of_decide_eq_true hbd
        omega
    repeat' first
      | with_reducible first | apply Zar | apply Zan | apply Zaa | apply Zad | apply Zah | apply Zap | apply Zag | apply Zaj | apply Zaq | apply Zas | apply Zao | apply Zal | apply Zac | apply Zak
      | ((with_reducible refine Zai ?_ ?_); exact rfl) | ((with_reducible refine Zat ?_); refine Zam rfl ?_ ?_ <;> intro hb <;> (try simp only [zH] at hb)) | ((with_reducible refine Za7 ?_); (first | refine Zae htb hmz Zbq fF rfl rfl ?_ | refine Zaf hmo htb hmz Zbq fF rfl rfl (by kernel_rfl) ?_); intro _ _ _ _ h; simp only [zE, evp, evx, ev1, evLoad, evStore, evBin, evIf, Zab, forall_const, z38, tb, reduceAdd, reduceSub, reduceMul, reduceEqDiff, reduceLeDiff, reduceLT, Nat.reduceBEq, Nat.reduceBNe, ↓reduceIte, reduceIte, spPy, joiS, ctvS, Zau] at h; obtain ⟨rfl, rfl, rfl, rfl⟩ := h; refine ⟨?_, ?_⟩) | ((with_reducible refine Ob.mk ?_); first | exact trivial | (intros; omega) | ((repeat' first | apply And.intro | (intro a; have b := a; try simp only [zH] at b)) <;> first | assumption | omega | (simp only [zH]; omega)))
    refine Zaz rfl rfl (Za1 rfl ?_ rfl)
    rw [hf]; rfl
  have hl0 : 0 < lp.length := by omega
  have hlp : lp ≠ [] := List.length_pos_iff.1 hl0
  have hk : ∀ j, j < L.length → 0 ≤ L.getD j 0 ∧ L.getD j 0 < (o.length : Int) := fun j hj => by
    have h0 : ¬ (badV o.length (L.getD j 0) = true) := fun hbd => by
      have := nbF_iff.2 ⟨j, Nat.zero_le _, (by omega : j < 0 + L.length), hbd⟩
      omega
    unfold badV at h0
    rw [decide_eq_true_eq] at h0
    omega
  clear hb
  repeat' first
    | with_reducible first | apply Zar | apply Zan | apply Zaa | apply Zad | apply Zah | apply Zap | apply Zag | apply Zaj | apply Zaq | apply Zas | apply Zao | apply Zal | apply Zac | apply Zak
    | ((with_reducible refine Zai ?_ ?_); exact rfl) | ((with_reducible refine Zat ?_); refine Zam rfl ?_ ?_ <;> intro hb <;> (try simp only [zH] at hb)) | ((with_reducible refine Za7 ?_); (first | refine Zae htb hmz Zbq fF rfl rfl ?_ | refine Zaf hmo htb hmz Zbq fF rfl rfl (by kernel_rfl) ?_); intro _ _ _ _ h; simp only [zE, evp, evx, ev1, evLoad, evStore, evBin, evIf, Zab, forall_const, z38, tb, reduceAdd, reduceSub, reduceMul, reduceEqDiff, reduceLeDiff, reduceLT, Nat.reduceBEq, Nat.reduceBNe, ↓reduceIte, reduceIte, spPy, joiS, ctvS, Zau] at h; obtain ⟨rfl, rfl, rfl, rfl⟩ := h; refine ⟨?_, ?_⟩) | ((with_reducible refine Ob.mk ?_); first | exact trivial | (intros; omega) | ((repeat' first | apply And.intro | (intro a; have b := a; try simp only [zH] at b)) <;> first | assumption | omega | (simp only [zH]; omega)))
  refine Zbc (τ := Nat) (fun i => i ≤ L.length ∧ ∀ j : Nat, j < i → aftP L lp j ∈ x.getD (L.getD j 0).toNat []) (fun i => ⟨22, [(26, .int .i64 i), (25, .int .i64 L.length), (24, .roI L), (5, .roI L), (3, .rop (.agg (.cons (.roI s) (.cons (.roI lp) .nil)))), (2, .rop (.agg (.cons (.roI o) (.cons (.roI p) (.cons (.roII x) .nil)))))], [], []⟩) (fun i => L.length - i) 0 [] ?_ ⟨Nat.zero_le _, fun j hj => absurd hj (Nat.not_lt_zero j)⟩ ?_
  · (refine ⟨rfl, ?_, ?_⟩ <;> simp only [zE, evp, evx, ev1, evLoad, evStore, evBin, evIf, Zab, forall_const, z38, tb, reduceAdd, reduceSub, reduceMul, reduceEqDiff, reduceLeDiff, reduceLT, Nat.reduceBEq, Nat.reduceBNe, ↓reduceIte, reduceIte, spPy, joiS, ctvS, Zau, zI])
  rintro i ⟨hi, hk2⟩
  have hk1 := hk i
  repeat' first
    | with_reducible first | apply Zar | apply Zan | apply Zaa | apply Zad | apply Zah | apply Zap | apply Zag | apply Zaj | apply Zaq | apply Zas | apply Zao | apply Zal | apply Zac | apply Zak
    | ((with_reducible refine Zai ?_ ?_); exact rfl) | ((with_reducible refine Zat ?_); refine Zam rfl ?_ ?_ <;> intro hb <;> (try simp only [zH] at hb)) | ((with_reducible refine Zay 8 ?_ ?_); (· exact rfl); (first | refine Zae htb hmz Zbq fF rfl rfl ?_ | refine Zaf hmo htb hmz Zbq fF rfl rfl (by kernel_rfl) ?_); intro _ _ _ _ h; simp only [zE, evp, evx, ev1, evLoad, evStore, evBin, evIf, Zab, forall_const, z38, tb, reduceAdd, reduceSub, reduceMul, reduceEqDiff, reduceLeDiff, reduceLT, Nat.reduceBEq, Nat.reduceBNe, ↓reduceIte, reduceIte, spPy, joiS, ctvS, Zau] at h; obtain ⟨rfl, rfl, rfl, rfl⟩ := h; refine ⟨?_, ?_⟩) | ((with_reducible refine Ob.mk ?_); first | exact trivial | (intros; omega) | ((repeat' first | apply And.intro | (intro a; have b := a; try simp only [zH] at b)) <;> first | assumption | omega | (simp only [zH]; omega)))
  · have hil : i < L.length := by omega
    have hk1 := hk1 hil
    have hA : aftP L lp i = if (i : Int) + 1 < L.length then L.getD ((i : Int) + 1).toNat 0 else lp.getD 0 0 := rfl
    have hfin : aftP L lp i ∉ x.getD (L.getD i 0).toNat [] → isP ⟨o, p, x⟩ s lp = false := fun h => by
      rw [hP]
      exact decide_eq_false fun h2 => h (h2.2.2 i hil)
    have hnew : aftP L lp i ∈ x.getD (L.getD i 0).toNat [] → ∀ j : Nat, j < i + 1 → aftP L lp j ∈ x.getD (L.getD j 0).toNat [] := fun h j hj => by
      rcases Nat.lt_succ_iff_lt_or_eq.1 hj with h2 | rfl
      · exact hk2 j h2
      · exact h
    obtain ⟨A, hAe⟩ : ∃ A, aftP L lp i = A := ⟨_, rfl⟩
    rw [hAe] at hA hfin hnew
    repeat' first
      | with_reducible first | apply Zar | apply Zan | apply Zaa | apply Zad | apply Zah | apply Zap | apply Zag | apply Zaj | apply Zaq | apply Zas | apply Zao | apply Zal | apply Zac | apply Zak
      | ((with_reducible refine Zai ?_ ?_); exact rfl) | ((with_reducible refine Zat ?_); refine Zam rfl ?_ ?_ <;> intro hb <;> (try simp only [zH] at hb)) | ((with_reducible refine Zay 9 ?_ ?_); (· exact rfl); (with_reducible refine Zay 10 ?_ ?_); (· exact rfl); (first | refine Zae htb hmz Zbq fF rfl rfl ?_ | refine Zaf hmo htb hmz Zbq fF rfl rfl (by kernel_rfl) ?_); intro _ _ _ _ h; simp only [zE, evp, evx, ev1, evLoad, evStore, evBin, evIf, Zab, forall_const, z38, tb, reduceAdd, reduceSub, reduceMul, reduceEqDiff, reduceLeDiff, reduceLT, Nat.reduceBEq, Nat.reduceBNe, ↓reduceIte, reduceIte, spPy, joiS, ctvS, Zau] at h; obtain ⟨rfl, rfl, rfl, rfl⟩ := h; refine ⟨?_, ?_⟩) | ((with_reducible refine Ob.mk ?_); first | exact trivial | (intros; omega) | ((repeat' first | apply And.intro | (intro a; have b := a; try simp only [zH] at b)) <;> first | assumption | omega | (simp only [zH]; omega)))
    · rw [if_pos hb] at hA
      have hb1 := hb
      clear hb
      repeat' first
        | with_reducible first | apply Zar | apply Zan | apply Zaa | apply Zad | apply Zah | apply Zap | apply Zag | apply Zaj | apply Zaq | apply Zas | apply Zao | apply Zal | apply Zac | apply Zak
        | ((with_reducible refine Zai ?_ ?_); exact rfl) | ((with_reducible refine Zat ?_); refine Zam rfl ?_ ?_ <;> intro hb <;> (try simp only [zH] at hb)) | ((with_reducible refine Zay 10 ?_ ?_); (· exact rfl); (first | refine Zae htb hmz Zbq fF rfl rfl ?_ | refine Zaf hmo htb hmz Zbq fF rfl rfl (by kernel_rfl) ?_); intro _ _ _ _ h; simp only [zE, evp, evx, ev1, evLoad, evStore, evBin, evIf, Zab, forall_const, z38, tb, reduceAdd, reduceSub, reduceMul, reduceEqDiff, reduceLeDiff, reduceLT, Nat.reduceBEq, Nat.reduceBNe, ↓reduceIte, reduceIte, spPy, joiS, ctvS, Zau] at h; obtain ⟨rfl, rfl, rfl, rfl⟩ := h; refine ⟨?_, ?_⟩) | ((with_reducible refine Ob.mk ?_); first | exact trivial | (intros; omega) | ((repeat' first | apply And.intro | (intro a; have b := a; try simp only [zH] at b)) <;> first | assumption | omega | (simp only [zH]; omega)))
      rw [← hA]
      repeat' first
        | with_reducible first | apply Zar | apply Zan | apply Zaa | apply Zad | apply Zah | apply Zap | apply Zag | apply Zaj | apply Zaq | apply Zas | apply Zao | apply Zal | apply Zac | apply Zak
        | ((with_reducible refine Zai ?_ ?_); exact rfl) | ((with_reducible refine Zat ?_); refine Zam rfl ?_ ?_ <;> intro hb <;> (try simp only [zH] at hb)) | ((with_reducible refine Zay 11 ?_ ?_); (· exact rfl); (with_reducible refine Zay 12 ?_ ?_); (· exact rfl); (first | refine Zae htb hmz Zbq fF rfl rfl ?_ | refine Zaf hmo htb hmz Zbq fF rfl rfl (by kernel_rfl) ?_); intro _ _ _ _ h; simp only [zE, evp, evx, ev1, evLoad, evStore, evBin, evIf, Zab, forall_const, z38, tb, reduceAdd, reduceSub, reduceMul, reduceEqDiff, reduceLeDiff, reduceLT, Nat.reduceBEq, Nat.reduceBNe, ↓reduceIte, reduceIte, spPy, joiS, ctvS, Zau] at h; obtain ⟨rfl, rfl, rfl, rfl⟩ := h; refine ⟨?_, ?_⟩) | ((with_reducible refine Ob.mk ?_); first | exact trivial | (intros; omega) | ((repeat' first | apply And.intro | (intro a; have b := a; try simp only [zH] at b)) <;> first | assumption | omega | (simp only [zH]; omega)))
      · repeat' first
          | with_reducible first | apply Zar | apply Zan | apply Zaa | apply Zad | apply Zah | apply Zap | apply Zag | apply Zaj | apply Zaq | apply Zas | apply Zao | apply Zal | apply Zac | apply Zak
          | ((with_reducible refine Zai ?_ ?_); exact rfl) | ((with_reducible refine Zat ?_); refine Zam rfl ?_ ?_ <;> intro hb <;> (try simp only [zH] at hb)) | ((with_reducible refine Za7 ?_); (first | refine Zae htb hmz Zbq fF rfl rfl ?_ | refine Zaf hmo htb hmz Zbq fF rfl rfl (by kernel_rfl) ?_); intro _ _ _ _ h; simp only [zE, evp, evx, ev1, evLoad, evStore, evBin, evIf, Zab, forall_const, z38, tb, reduceAdd, reduceSub, reduceMul, reduceEqDiff, reduceLeDiff, reduceLT, Nat.reduceBEq, Nat.reduceBNe, ↓reduceIte, reduceIte, spPy, joiS, ctvS, Zau] at h; obtain ⟨rfl, rfl, rfl, rfl⟩ := h; refine ⟨?_, ?_⟩) | ((with_reducible refine Ob.mk ?_); first | exact trivial | (intros; omega) | ((repeat' first | apply And.intro | (intro a; have b := a; try simp only [zH] at b)) <;> first | assumption | omega | (simp only [zH]; omega)))
        refine Zaz rfl rfl (Za1 rfl ?_ rfl)
        rw [hfin hb]; rfl
      · repeat' first
          | with_reducible first | apply Zar | apply Zan | apply Zaa | apply Zad | apply Zah | apply Zap | apply Zag | apply Zaj | apply Zaq | apply Zas | apply Zao | apply Zal | apply Zac | apply Zak
          | ((with_reducible refine Zai ?_ ?_); exact rfl) | ((with_reducible refine Zat ?_); refine Zam rfl ?_ ?_ <;> intro hb <;> (try simp only [zH] at hb)) | ((with_reducible refine Za7 ?_); (first | refine Zae htb hmz Zbq fF rfl rfl ?_ | refine Zaf hmo htb hmz Zbq fF rfl rfl (by kernel_rfl) ?_); intro _ _ _ _ h; simp only [zE, evp, evx, ev1, evLoad, evStore, evBin, evIf, Zab, forall_const, z38, tb, reduceAdd, reduceSub, reduceMul, reduceEqDiff, reduceLeDiff, reduceLT, Nat.reduceBEq, Nat.reduceBNe, ↓reduceIte, reduceIte, spPy, joiS, ctvS, Zau] at h; obtain ⟨rfl, rfl, rfl, rfl⟩ := h; refine ⟨?_, ?_⟩) | ((with_reducible refine Ob.mk ?_); first | exact trivial | (intros; omega) | ((repeat' first | apply And.intro | (intro a; have b := a; try simp only [zH] at b)) <;> first | assumption | omega | (simp only [zH]; omega)))
        refine back (i + 1) [] ?_ ⟨by omega, hnew hb⟩ (by omega)
        (refine ⟨rfl, ?_, ?_⟩ <;> simp only [zE, evp, evx, ev1, evLoad, evStore, evBin, evIf, Zab, forall_const, z38, tb, reduceAdd, reduceSub, reduceMul, reduceEqDiff, reduceLeDiff, reduceLT, Nat.reduceBEq, Nat.reduceBNe, ↓reduceIte, reduceIte, spPy, joiS, ctvS, Zau, zI])
    · rw [if_neg (by omega)] at hA
      rw [← hA]
      clear hb
      repeat' first
        | with_reducible first | apply Zar | apply Zan | apply Zaa | apply Zad | apply Zah | apply Zap | apply Zag | apply Zaj | apply Zaq | apply Zas | apply Zao | apply Zal | apply Zac | apply Zak
        | ((with_reducible refine Zai ?_ ?_); exact rfl) | ((with_reducible refine Zat ?_); refine Zam rfl ?_ ?_ <;> intro hb <;> (try simp only [zH] at hb)) | ((with_reducible refine Zay 11 ?_ ?_); (· exact rfl); (with_reducible refine Zay 12 ?_ ?_); (· exact rfl); (first | refine Zae htb hmz Zbq fF rfl rfl ?_ | refine Zaf hmo htb hmz Zbq fF rfl rfl (by kernel_rfl) ?_); intro _ _ _ _ h; simp only [zE, evp, evx, ev1, evLoad, evStore, evBin, evIf, Zab, forall_const, z38, tb, reduceAdd, reduceSub, reduceMul, reduceEqDiff, reduceLeDiff, reduceLT, Nat.reduceBEq, Nat.reduceBNe, ↓reduceIte, reduceIte, spPy, joiS, ctvS, Zau] at h; obtain ⟨rfl, rfl, rfl, rfl⟩ := h; refine ⟨?_, ?_⟩) | ((with_reducible refine Ob.mk ?_); first | exact trivial | (intros; omega) | ((repeat' first | apply And.intro | (intro a; have b := a; try simp only [zH] at b)) <;> first | assumption | omega | (simp only [zH]; omega)))
      · repeat' first
          | with_reducible first | apply Zar | apply Zan | apply Zaa | apply Zad | apply Zah | apply Zap | apply Zag | apply Zaj | apply Zaq | apply Zas | apply Zao | apply Zal | apply Zac | apply Zak
          | ((with_reducible refine Zai ?_ ?_); exact rfl) | ((with_reducible refine Zat ?_); refine Zam rfl ?_ ?_ <;> intro hb <;> (try simp only [zH] at hb)) | ((with_reducible refine Za7 ?_); (first | refine Zae htb hmz Zbq fF rfl rfl ?_ | refine Zaf hmo htb hmz Zbq fF rfl rfl (by kernel_rfl) ?_); intro _ _ _ _ h; simp only [zE, evp, evx, ev1, evLoad, evStore, evBin, evIf, Zab, forall_const, z38, tb, reduceAdd, reduceSub, reduceMul, reduceEqDiff, reduceLeDiff, reduceLT, Nat.reduceBEq, Nat.reduceBNe, ↓reduceIte, reduceIte, spPy, joiS, ctvS, Zau] at h; obtain ⟨rfl, rfl, rfl, rfl⟩ := h; refine ⟨?_, ?_⟩) | ((with_reducible refine Ob.mk ?_); first | exact trivial | (intros; omega) | ((repeat' first | apply And.intro | (intro a; have b := a; try simp only [zH] at b)) <;> first | assumption | omega | (simp only [zH]; omega)))
        refine Zaz rfl rfl (Za1 rfl ?_ rfl)
        rw [hfin hb]; rfl
      · repeat' first
          | with_reducible first | apply Zar | apply Zan | apply Zaa | apply Zad | apply Zah | apply Zap | apply Zag | apply Zaj | apply Zaq | apply Zas | apply Zao | apply Zal | apply Zac | apply Zak
          | ((with_reducible refine Zai ?_ ?_); exact rfl) | ((with_reducible refine Zat ?_); refine Zam rfl ?_ ?_ <;> intro hb <;> (try simp only [zH] at hb)) | ((with_reducible refine Za7 ?_); (first | refine Zae htb hmz Zbq fF rfl rfl ?_ | refine Zaf hmo htb hmz Zbq fF rfl rfl (by kernel_rfl) ?_); intro _ _ _ _ h; simp only [zE, evp, evx, ev1, evLoad, evStore, evBin, evIf, Zab, forall_const, z38, tb, reduceAdd, reduceSub, reduceMul, reduceEqDiff, reduceLeDiff, reduceLT, Nat.reduceBEq, Nat.reduceBNe, ↓reduceIte, reduceIte, spPy, joiS, ctvS, Zau] at h; obtain ⟨rfl, rfl, rfl, rfl⟩ := h; refine ⟨?_, ?_⟩) | ((with_reducible refine Ob.mk ?_); first | exact trivial | (intros; omega) | ((repeat' first | apply And.intro | (intro a; have b := a; try simp only [zH] at b)) <;> first | assumption | omega | (simp only [zH]; omega)))
        refine back (i + 1) [] ?_ ⟨by omega, hnew hb⟩ (by omega)
        (refine ⟨rfl, ?_, ?_⟩ <;> simp only [zE, evp, evx, ev1, evLoad, evStore, evBin, evIf, Zab, forall_const, z38, tb, reduceAdd, reduceSub, reduceMul, reduceEqDiff, reduceLeDiff, reduceLT, Nat.reduceBEq, Nat.reduceBNe, ↓reduceIte, reduceIte, spPy, joiS, ctvS, Zau, zI])
  have hie : i = L.length := by omega
  subst hie
  repeat' first
    | with_reducible first | apply Zar | apply Zan | apply Zaa | apply Zad | apply Zah | apply Zap | apply Zag | apply Zaj | apply Zaq | apply Zas | apply Zao | apply Zal | apply Zac | apply Zak
    | ((with_reducible refine Zai ?_ ?_); exact rfl) | ((with_reducible refine Zat ?_); refine Zam rfl ?_ ?_ <;> intro hb <;> (try simp only [zH] at hb)) | ((with_reducible refine Za7 ?_); (first | refine Zae htb hmz Zbq fF rfl rfl ?_ | refine Zaf hmo htb hmz Zbq fF rfl rfl (by kernel_rfl) ?_); intro _ _ _ _ h; simp only [zE, evp, evx, ev1, evLoad, evStore, evBin, evIf, Zab, forall_const, z38, tb, reduceAdd, reduceSub, reduceMul, reduceEqDiff, reduceLeDiff, reduceLT, Nat.reduceBEq, Nat.reduceBNe, ↓reduceIte, reduceIte, spPy, joiS, ctvS, Zau] at h; obtain ⟨rfl, rfl, rfl, rfl⟩ := h; refine ⟨?_, ?_⟩) | ((with_reducible refine Ob.mk ?_); first | exact trivial | (intros; omega) | ((repeat' first | apply And.intro | (intro a; have b := a; try simp only [zH] at b)) <;> first | assumption | omega | (simp only [zH]; omega)))
  refine Zaz rfl rfl (Za1 rfl ?_ rfl)
  have hf : isP ⟨o, p, x⟩ s lp = true := by
    rw [hP]
    exact decide_eq_true ⟨hlp, hk, hk2⟩
  rw [hf]; rfl
section
open Pl
structure MQ (es : List (Int × Int × Nat)) (L : List (Nat × Nat)) : Prop where
  has : ∀ v : Nat, mhas v es = decide (v ∈ L.map Prod.fst)
  get : ∀ v u : Nat, (v, u) ∈ L → mget v es = u
theorem MQ_nil : MQ [] [] := ⟨fun v => rfl, fun v u h => by cases h⟩
theorem MQ_put {es : List (Int × Int × Nat)} {L : List (Nat × Nat)} {w u c : Nat} (h : MQ es L) (hw : w ∉ L.map Prod.fst) : MQ (mput w u c es) (L ++ [(w, u)]) := by
  refine ⟨fun v => ?_, fun v z hv => ?_⟩
  · rw [Zgd, h.has]
    by_cases e : v = w
    · subst e; simp
    · rw [if_neg (by omega)]
      simp [e]
  · rw [Zge]
    rcases List.mem_append.1 hv with hv | hv
    · have : v ≠ w := fun e => hw (e ▸ List.mem_map.2 ⟨_, hv, rfl⟩)
      rw [if_neg (by omega)]
      exact h.get v z hv
    · rw [List.mem_singleton] at hv
      injection hv with h1 h2
      rw [if_pos (by omega), h2]
variable {nx : Nat → List Nat} {thr : Nat → Prop} {n fr : Nat} {L : List (Nat × Nat)} {i j v w u : Nat}
def qF (fr : Nat) (L : List (Nat × Nat)) : List Nat := fr :: L.map Prod.fst
theorem Zgp : (qF fr L).length = L.length + 1 := by simp [qF]
theorem Zer : qF fr (L ++ [(w, u)]) = qF fr L ++ [w] := by simp [qF]
theorem Zfp {l : List Nat} {a k : Nat} (h : k ≤ l.length) : (l ++ [a]).take k = l.take k := List.take_append_of_le_length h
def Zbf (l : List Nat) : List Int := l.map fun v : Nat => (v : Int)
end
section
open Go Pl
def Chn (nx : Nat → List Nat) : List Nat → Prop
  | [] => True
  | [_] => True
  | a :: b :: l => b ∈ nx a ∧ Chn nx (b :: l)
variable {nx : Nat → List Nat}
theorem Zi2 : ∀ {l : List Nat}, Chn nx l → ∀ (k a b : Nat), l[k]? = some a → l[k + 1]? = some b → b ∈ nx a
  | [], _, k, a, b, h, _ => by simp at h
  | [c], _, k, a, b, _, h => by simp at h
  | c :: d :: l, h, 0, a, b, h1, h2 => by
    simp only [List.getElem?_cons_zero, Option.some.injEq, List.getElem?_cons_succ] at h1 h2
    subst h1; subst h2; exact h.1
  | c :: d :: l, h, k + 1, a, b, h1, h2 => Zi2 (l := d :: l) h.2 k a b (by simpa using h1) (by simpa using h2)
variable {pr : Nat → Int} {pl : Int} {n : Nat}
end
end Go.Proofs.YtdhoadhkkecjjaaDoor.Cal
