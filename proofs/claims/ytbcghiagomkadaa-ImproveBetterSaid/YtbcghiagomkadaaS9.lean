/- Own texts, merged. -/
import Derived.RangeFuncIn
import Derived.RangeFuncRecord
import Derived.Below
import Derived.Test.YtbcghiagomkadaaS8
set_option linter.unusedVariables false
set_option linter.unusedSimpArgs false
open Nat (reduceAdd reduceSub reduceMul reduceEqDiff reduceLeDiff reduceLT)
namespace Go.Proofs.Ytbcghiagomkadaa.Cal
open Go Pl
noncomputable def winA (g : Gm) : List Int := winL g (g.own.length + 1) fun v => decide (v < g.own.length)
noncomputable def Zgr : Spec
  | [.agg (.cons (.roI o) (.cons (.roI p) (.cons (.roII x) .nil)))] => some ⟨Zbc ⟨o, p, x⟩ = true, .roI (winA ⟨o, p, x⟩), none⟩
  | _ => none
noncomputable def spWa (n : Nat) : Nat → Option Spec
  | 45 => some (Zbh (n + 1))
  | _ => none
theorem Zdu {n : Nat} : SpOK Try.prog (spWa n) := by
  intro f S h
  unfold spWa at h
  split at h
  · cases h; exact wins_ok _
  · cases h
set_option maxRecDepth 4000 in
set_option maxHeartbeats 4000000 in
theorem wina_ok : Zb2 Try.prog 27 Zgr := by
  refine Za3 htb (fn := Try.f27) (by kernel_rfl) (by kernel_rfl) rfl (fun args r hS => ?_) (fun args r hS hob hl => ?_)
  · unfold Zgr at hS; split at hS <;> first | (cases hS; done) | (cases hS; exact Nat.le_of_ble_eq_true rfl)
  unfold Zgr at hS
  split at hS
  case h_2 => cases hS
  rename_i o p x
  simp only [Option.some.injEq] at hS
  subst hS
  simp only [lenP, mkL, lim] at hl
  dsimp only at hob
  have hv := hob
  have hV := validB_iff.1 hv
  obtain ⟨hn, hpl, hxl, hpos⟩ := id hV
  simp only [Gm.n] at hn hpl hxl
  have hz : ∀ f : Nat → Bool, List.replicate o.length false = mix f (fun _ => false) o.length 0 := fun f => List.ext_getElem (by simp [mix]) fun j h1 h2 => by simp [mix]
  repeat' first
    | with_reducible first | apply Zan | apply Zaj | apply Zab | apply Zac | apply Zag | apply Zal | apply Zaf | apply Zah | apply Zam | apply Zao | apply Zak
    | ((with_reducible refine Zap ?_); refine Zai rfl ?_ ?_ <;> intro hb <;> (try simp only [zH] at hb)) | ((with_reducible refine Zax ?_); (first | refine Zad htb hmz (Zdu (n := o.length)) fF rfl rfl ?_ | refine Zae hmo htb hmz (Zdu (n := o.length)) fF rfl rfl (by kernel_rfl) ?_); intro _ _ _ _ h; simp only [zE, evp, evx, ev1, evLoad, evStore, evBin, Zaa, forall_const, z38, tb, reduceAdd, reduceSub, reduceMul, reduceEqDiff, reduceLeDiff, reduceLT, Nat.reduceBEq, Nat.reduceBNe, ↓reduceIte, reduceIte, spWa, Zbh] at h; obtain ⟨rfl, rfl, rfl, rfl⟩ := h; refine ⟨?_, ?_⟩) | ((with_reducible refine Ob.mk ?_); first | exact trivial | (intros; omega) | ((repeat' first | apply And.intro | (intro a; have b := a; try simp only [zH] at b)) <;> first | assumption | omega | (simp only [zH]; omega)))
  refine Zat (τ := Nat) (fun i => i ≤ o.length) (fun i => ⟨15, [(18, .int .i64 i), (17, .int .i64 o.length), (5, .own 10), (4, .own 7), (1, (.rop (.agg (.cons (.roI o) (.cons (.roI p) (.cons (.roII x) .nil))))))], [(7, some (.ints (List.replicate o.length 0))), (10, some (.bools (mix (fun v => decide (v < o.length)) (fun _ => false) o.length i)))], []⟩) (fun i => o.length - i) 0 [] ?_ (Nat.zero_le _) ?_
  · (refine ⟨rfl, ?_, ?_⟩ <;> simp only [zE, evp, evx, ev1, evLoad, evStore, evBin, Zaa, forall_const, z38, tb, reduceAdd, reduceSub, reduceMul, reduceEqDiff, reduceLeDiff, reduceLT, Nat.reduceBEq, Nat.reduceBNe, ↓reduceIte, reduceIte, spWa, Zbh, zI])
    · rw [List.length_replicate]
    · exact hz _
  intro i hi
  have hm1 : (mix (fun v => decide (v < o.length)) (fun _ => false) o.length i).length = o.length := Zc5
  have hms : i < o.length → (mix (fun v => decide (v < o.length)) (fun _ => false) o.length i).set i true = mix (fun v => decide (v < o.length)) (fun _ => false) o.length (i + 1) := fun h => by
    have := Zcj (f := fun v => decide (v < o.length)) (h := fun _ => false) (n := o.length) (i := i)
    rw [show decide (i < o.length) = true from decide_eq_true h] at this; exact this
  repeat' first
    | with_reducible first | apply Zan | apply Zaj | apply Zab | apply Zac | apply Zag | apply Zal | apply Zaf | apply Zah | apply Zam | apply Zao | apply Zak
    | ((with_reducible refine Zap ?_); refine Zai rfl ?_ ?_ <;> intro hb <;> (try simp only [zH] at hb)) | ((with_reducible refine Zaq 9 ?_ ?_); (· exact rfl); (first | refine Zad htb hmz (Zdu (n := o.length)) fF rfl rfl ?_ | refine Zae hmo htb hmz (Zdu (n := o.length)) fF rfl rfl (by kernel_rfl) ?_); intro _ _ _ _ h; simp only [zE, evp, evx, ev1, evLoad, evStore, evBin, Zaa, forall_const, z38, tb, reduceAdd, reduceSub, reduceMul, reduceEqDiff, reduceLeDiff, reduceLT, Nat.reduceBEq, Nat.reduceBNe, ↓reduceIte, reduceIte, spWa, Zbh] at h; obtain ⟨rfl, rfl, rfl, rfl⟩ := h; refine ⟨?_, ?_⟩) | ((with_reducible refine Ob.mk ?_); first | exact trivial | (intros; omega) | ((repeat' first | apply And.intro | (intro a; have b := a; try simp only [zH] at b)) <;> first | assumption | omega | (simp only [zH]; omega)))
  · refine back (i + 1) [] ?_ (by omega) (by omega)
    (refine ⟨rfl, ?_, ?_⟩ <;> simp only [zE, evp, evx, ev1, evLoad, evStore, evBin, Zaa, forall_const, z38, tb, reduceAdd, reduceSub, reduceMul, reduceEqDiff, reduceLeDiff, reduceLT, Nat.reduceBEq, Nat.reduceBNe, ↓reduceIte, reduceIte, spWa, Zbh, zI])
    exact hms (by omega)
  have hie : i = o.length := by omega
  subst hie
  rw [Zck]
  refine Zbi 10 (.roB ((List.range o.length).map fun v => decide (v < o.length))) (by simp only [Zar, Zaw, fzE, fzA, fzR, fzB, set1, nbeq, reduceEqDiff, decide_true, decide_false, ↓reduceIte, reduceIte, cond_true, cond_false, List.take_length, Option.some.injEq]; rfl) (by first | exact rfl | (refine ⟨?_, rfl⟩; first | rfl | (intros; rfl))) (by simp only [Zar, Zaw, fzE, fzA, fzR, fzB, set1, nbeq, reduceEqDiff, decide_true, decide_false, ↓reduceIte, reduceIte, cond_true, cond_false, List.take_length, Option.some.injEq]; rfl) (by simp only [Zar, Zaw, fzE, fzA, fzR, fzB, set1, nbeq, reduceEqDiff, decide_true, decide_false, ↓reduceIte, reduceIte, cond_true, cond_false, List.take_length, Option.some.injEq]; rfl) ?_
  have hKl : ((List.range o.length).map fun v => decide (v < o.length)).length = o.length := by simp
  have hKf : bF ((List.range o.length).map fun v => decide (v < o.length)) = fun v => decide (v < o.length) := Ziv fun v hv => decide_eq_false (by omega)
  have hKc : cntZ o.length (bF ((List.range o.length).map fun v => decide (v < o.length))) < o.length + 1 := by
    have : cntZ o.length (bF ((List.range o.length).map fun v => decide (v < o.length))) ≤ (List.range o.length).length := List.countP_le_length
    rw [List.length_range] at this; omega
  generalize (List.range o.length).map (fun v => decide (v < o.length)) = K at *
  have hWl : (winA ⟨o, p, x⟩).length = o.length := Zgb
  clear hms hm1 hz
  have hA : winL ⟨o, p, x⟩ (o.length + 1) (bF K) = winA ⟨o, p, x⟩ := by rw [hKf]; rfl
  repeat' first
    | with_reducible first | apply Zan | apply Zaj | apply Zab | apply Zac | apply Zag | apply Zal | apply Zaf | apply Zah | apply Zam | apply Zao | apply Zak
    | ((with_reducible refine Zap ?_); refine Zai rfl ?_ ?_ <;> intro hb <;> (try simp only [zH] at hb)) | ((with_reducible refine Zax ?_); (first | refine Zad htb hmz (Zdu (n := o.length)) fF rfl rfl ?_ | refine Zae hmo htb hmz (Zdu (n := o.length)) fF rfl rfl (by kernel_rfl) ?_); intro _ _ _ _ h; simp only [zE, evp, evx, ev1, evLoad, evStore, evBin, Zaa, forall_const, z38, tb, reduceAdd, reduceSub, reduceMul, reduceEqDiff, reduceLeDiff, reduceLT, Nat.reduceBEq, Nat.reduceBNe, ↓reduceIte, reduceIte, spWa, Zbh] at h; obtain ⟨rfl, rfl, rfl, rfl⟩ := h; refine ⟨?_, ?_⟩) | ((with_reducible refine Ob.mk ?_); first | exact trivial | (intros; omega) | ((repeat' first | apply And.intro | (intro a; have b := a; try simp only [zH] at b)) <;> first | assumption | omega | (simp only [zH]; omega)))
  rw [hA]
  clear hA
  generalize winA ⟨o, p, x⟩ = W at *
  have hzi : List.replicate o.length (0 : Int) = mix (fun v => W.getD v 0) (fun _ => 0) o.length 0 := List.ext_getElem (by simp [mix]) fun j h1 h2 => by simp [mix]
  refine Zat (τ := Nat) (fun i => i ≤ o.length) (fun i => ⟨21, [(29, .int .i64 i), (28, .int .i64 W.length), (27, .roI W), (4, .own 7)], [(7, some (.ints (mix (fun v => W.getD v 0) (fun _ => 0) o.length i)))], []⟩) (fun i => o.length - i) 0 [] ?_ (Nat.zero_le _) ?_
  · (refine ⟨rfl, ?_, ?_⟩ <;> simp only [zE, evp, evx, ev1, evLoad, evStore, evBin, Zaa, forall_const, z38, tb, reduceAdd, reduceSub, reduceMul, reduceEqDiff, reduceLeDiff, reduceLT, Nat.reduceBEq, Nat.reduceBNe, ↓reduceIte, reduceIte, spWa, Zbh, zI])
    exact hzi
  intro i hi
  have hm1 : (mix (fun v => W.getD v 0) (fun _ => 0) o.length i).length = o.length := Zc5
  clear hzi
  repeat' first
    | with_reducible first | apply Zan | apply Zaj | apply Zab | apply Zac | apply Zag | apply Zal | apply Zaf | apply Zah | apply Zam | apply Zao | apply Zak
    | ((with_reducible refine Zap ?_); refine Zai rfl ?_ ?_ <;> intro hb <;> (try simp only [zH] at hb)) | ((with_reducible refine Zaq 14 ?_ ?_); (· exact rfl); (first | refine Zad htb hmz (Zdu (n := o.length)) fF rfl rfl ?_ | refine Zae hmo htb hmz (Zdu (n := o.length)) fF rfl rfl (by kernel_rfl) ?_); intro _ _ _ _ h; simp only [zE, evp, evx, ev1, evLoad, evStore, evBin, Zaa, forall_const, z38, tb, reduceAdd, reduceSub, reduceMul, reduceEqDiff, reduceLeDiff, reduceLT, Nat.reduceBEq, Nat.reduceBNe, ↓reduceIte, reduceIte, spWa, Zbh] at h; obtain ⟨rfl, rfl, rfl, rfl⟩ := h; refine ⟨?_, ?_⟩) | ((with_reducible refine Ob.mk ?_); first | exact trivial | (intros; omega) | ((repeat' first | apply And.intro | (intro a; have b := a; try simp only [zH] at b)) <;> first | assumption | omega | (simp only [zH]; omega)))
  · refine back (i + 1) [] ?_ (by omega) (by omega)
    (refine ⟨rfl, ?_, ?_⟩ <;> simp only [zE, evp, evx, ev1, evLoad, evStore, evBin, Zaa, forall_const, z38, tb, reduceAdd, reduceSub, reduceMul, reduceEqDiff, reduceLeDiff, reduceLT, Nat.reduceBEq, Nat.reduceBNe, ↓reduceIte, reduceIte, spWa, Zbh, zI])
    exact Zcj
  have hie : i = o.length := by omega
  subst hie
  rw [Zck]
  refine Zbi 7 (.roI ((List.range o.length).map fun v => W.getD v 0)) (by simp only [Zar, Zaw, fzE, fzA, fzR, fzB, set1, nbeq, reduceEqDiff, decide_true, decide_false, ↓reduceIte, reduceIte, cond_true, cond_false, List.take_length, Option.some.injEq]; rfl) (by first | exact rfl | (refine ⟨?_, rfl⟩; first | rfl | (intros; rfl))) (by simp only [Zar, Zaw, fzE, fzA, fzR, fzB, set1, nbeq, reduceEqDiff, decide_true, decide_false, ↓reduceIte, reduceIte, cond_true, cond_false, List.take_length, Option.some.injEq]; rfl) (by simp only [Zar, Zaw, fzE, fzA, fzR, fzB, set1, nbeq, reduceEqDiff, decide_true, decide_false, ↓reduceIte, reduceIte, cond_true, cond_false, List.take_length, Option.some.injEq]; rfl) ?_
  repeat' first
    | with_reducible first | apply Zan | apply Zaj | apply Zab | apply Zac | apply Zag | apply Zal | apply Zaf | apply Zah | apply Zam | apply Zao | apply Zak
    | ((with_reducible refine Zap ?_); refine Zai rfl ?_ ?_ <;> intro hb <;> (try simp only [zH] at hb)) | ((with_reducible refine Zax ?_); (first | refine Zad htb hmz (Zdu (n := o.length)) fF rfl rfl ?_ | refine Zae hmo htb hmz (Zdu (n := o.length)) fF rfl rfl (by kernel_rfl) ?_); intro _ _ _ _ h; simp only [zE, evp, evx, ev1, evLoad, evStore, evBin, Zaa, forall_const, z38, tb, reduceAdd, reduceSub, reduceMul, reduceEqDiff, reduceLeDiff, reduceLT, Nat.reduceBEq, Nat.reduceBNe, ↓reduceIte, reduceIte, spWa, Zbh] at h; obtain ⟨rfl, rfl, rfl, rfl⟩ := h; refine ⟨?_, ?_⟩) | ((with_reducible refine Ob.mk ?_); first | exact trivial | (intros; omega) | ((repeat' first | apply And.intro | (intro a; have b := a; try simp only [zH] at b)) <;> first | assumption | omega | (simp only [zH]; omega)))
  refine Zav rfl rfl (Zas rfl ?_ rfl)
  refine congrArg AV.roI (List.ext_getElem (by simp [hWl]) fun v h1 h2 => ?_)
  have hv : v < W.length := h2
  simp [List.getElem?_eq_getElem hv]
def Zbw (g : Gm) (pl : Int) (c : List Int) : Gm := ⟨g.own, g.pri, (List.range g.own.length).map fun v => if g.own.getD v 0 = pl then [c.getD v 0] else g.nxt.getD v []⟩
theorem Zja {g : Gm} {pl : Int} {c : List Int} {v : Nat} (hv : v < g.own.length) : (Zbw g pl c).nxt.getD v [] = if g.own.getD v 0 = pl then [c.getD v 0] else g.nxt.getD v [] := by
  simp [Zbw, List.getD_eq_getElem?_getD, hv]
theorem fromG_valid {g : Gm} {pl : Int} {c : List Int} (h : Zhd g) (hc : ∀ v, v < g.own.length → g.own.getD v 0 = pl → 0 ≤ c.getD v 0 ∧ c.getD v 0 < g.own.length) : Zhd (Zbw g pl c) := by
  obtain ⟨hn, hpl, hxl, hpos⟩ := h
  refine ⟨hn, hpl, by simp [Zbw, Gm.n], fun v hv => ?_⟩
  have hv : v < g.own.length := hv
  obtain ⟨⟨a1, a2, a3, a4, a5, a6⟩, hr⟩ := hpos v hv
  unfold Zkw
  have e : (Zbw g pl c).x v = if g.own.getD v 0 = pl then [c.getD v 0] else g.nxt.getD v [] := Zja hv
  rw [e]
  split
  · rename_i h
    refine ⟨⟨a1, a2, a3, a4, Nat.le_refl 1, by show 1 ≤ 64; decide⟩, fun i hi => ?_⟩
    have hi : i < 1 := hi
    obtain rfl : i = 0 := by omega
    exact ⟨(hc v hv h).1, (hc v hv h).2, fun h => absurd h (Nat.lt_irrefl 0)⟩
  · exact ⟨⟨a1, a2, a3, a4, a5, a6⟩, hr⟩
noncomputable def Za7 (g : Gm) (pl : Int) (c : List Int) : List Bool := (List.range g.own.length).map fun v => !(Zcl (Zbw g pl c) (1 - pl)).getD v false
noncomputable def Zbk : Spec
  | [.agg (.cons (.roI o) (.cons (.roI p) (.cons (.roII x) .nil))), .int .i64 pl, .roI c] => some ⟨Zbc ⟨o, p, x⟩ = true ∧ (0 ≤ pl ∧ pl ≤ 1) ∧ c.length = o.length ∧ ∀ v, v < o.length → o.getD v 0 = pl → 0 ≤ c.getD v 0 ∧ c.getD v 0 < (o.length : Int), .roB (Za7 ⟨o, p, x⟩ pl c), none⟩
  | _ => none
noncomputable def spFr : Nat → Option Spec
  | 35 => some Zcz
  | _ => none
theorem Zdw : SpOK Try.prog spFr := by
  intro f S h
  unfold spFr at h
  split at h
  · cases h; exact aloneo_ok
  · cases h
set_option maxRecDepth 4000 in
set_option maxHeartbeats 4000000 in
theorem from_ok : Zb2 Try.prog 15 Zbk := by
  refine Za3 htb (fn := Try.f15) (by kernel_rfl) (by kernel_rfl) rfl (fun args r hS => ?_) (fun args r hS hob hl => ?_)
  · unfold Zbk at hS; split at hS <;> first | (cases hS; done) | (cases hS; exact Nat.le_of_ble_eq_true rfl)
  unfold Zbk at hS
  split at hS
  case h_2 => cases hS
  rename_i o p x pl c
  simp only [Option.some.injEq] at hS
  subst hS
  simp only [lenP, mkL, lim] at hl
  dsimp only at hob
  obtain ⟨hv, hp01, hcl, hcr⟩ := hob
  have hV := validB_iff.1 hv
  obtain ⟨hn, hpl, hxl, hpos⟩ := id hV
  simp only [Gm.n] at hn hpl hxl
  have hcr1 : ∀ v, v < o.length → 0 ≤ o.getD v 0 := fun v h => by
    obtain ⟨⟨a1, a2, a3, a4, _, a6⟩, _⟩ := hpos v (by simp only [Gm.n]; omega)
    exact a1
  repeat' first
    | with_reducible first | apply Zan | apply Zaj | apply Zab | apply Zac | apply Zag | apply Zal | apply Zaf | apply Zah | apply Zam | apply Zao | apply Zak
    | ((with_reducible refine Zap ?_); refine Zai rfl ?_ ?_ <;> intro hb <;> (try simp only [zH] at hb)) | ((with_reducible refine Zax ?_); (first | refine Zad htb hmz Zdw fF rfl rfl ?_ | refine Zae hmo htb hmz Zdw fF rfl rfl (by kernel_rfl) ?_); intro _ _ _ _ h; simp only [zE, evp, evx, ev1, evLoad, evStore, evBin, Zaa, forall_const, z38, tb, reduceAdd, reduceSub, reduceMul, reduceEqDiff, reduceLeDiff, reduceLT, Nat.reduceBEq, Nat.reduceBNe, ↓reduceIte, reduceIte, spFr, Zcz] at h; obtain ⟨rfl, rfl, rfl, rfl⟩ := h; refine ⟨?_, ?_⟩) | ((with_reducible refine Ob.mk ?_); first | exact trivial | (intros; omega) | ((repeat' first | apply And.intro | (intro a; have b := a; try simp only [zH] at b)) <;> first | assumption | omega | (simp only [zH]; omega)))
  refine awp_nilbox 7 (.rowsR []) (.agg (.cons (.roI o) (.cons (.roI p) (.cons (.own 13) .nil)))) rfl rfl rfl (by first | exact .inl rfl | exact .inr (.inl rfl) | exact .inr (.inr (.inl rfl)) | exact .inr (.inr (.inr rfl))) (by simp only [Zar, Zaw, fzE, fzA, fzR, fzB, set1, nbeq, reduceEqDiff, decide_true, decide_false, ↓reduceIte, reduceIte, cond_true, cond_false, List.take_length, Option.some.injEq] <;> rfl) rfl ?_
  obtain ⟨F, hF⟩ : ∃ F : Nat → List Int, F = fun v => if o.getD v 0 = pl then [c.getD v 0] else x.getD v [] := ⟨_, rfl⟩
  refine Zat (τ := Nat) (fun i => i ≤ o.length) (fun i => ⟨14, [(20, .int .i64 i), (19, .int .i64 x.length), (18, .roII x), (7, .own 7), (3, (.rop (.agg (.cons (.roI o) (.cons (.roI p) (.cons (.roII x) .nil)))))), (1, .int .i64 pl), (2, .roI c)], [(13, some (.rowsR ((List.range i).map F))), (7, some (.box (.agg (.cons (.roI o) (.cons (.roI p) (.cons (.own 13) .nil))))))], []⟩) (fun i => o.length - i) 0 [] ?_ (Nat.zero_le _) ?_
  · (refine ⟨rfl, ?_, ?_⟩ <;> simp only [zE, evp, evx, ev1, evLoad, evStore, evBin, Zaa, forall_const, z38, tb, reduceAdd, reduceSub, reduceMul, reduceEqDiff, reduceLeDiff, reduceLT, Nat.reduceBEq, Nat.reduceBNe, ↓reduceIte, reduceIte, spFr, Zcz, zI])
    rfl
  intro i hi
  have hFi : F i = if o.getD i 0 = pl then [c.getD i 0] else x.getD i [] := by rw [hF]
  have hRl : ((List.range i).map F).length = i := by simp
  have hRn : (List.range (i + 1)).map F = (List.range i).map F ++ [F i] := by rw [List.range_succ, List.map_append]; rfl
  repeat' first
    | with_reducible first | apply Zan | apply Zaj | apply Zab | apply Zac | apply Zag | apply Zal | apply Zaf | apply Zah | apply Zam | apply Zao | apply Zak
    | ((with_reducible refine Zap ?_); refine Zai rfl ?_ ?_ <;> intro hb <;> (try simp only [zH] at hb)) | ((with_reducible refine Zaq 9 ?_ ?_); (· exact rfl); (first | refine Zad htb hmz Zdw fF rfl rfl ?_ | refine Zae hmo htb hmz Zdw fF rfl rfl (by kernel_rfl) ?_); intro _ _ _ _ h; simp only [zE, evp, evx, ev1, evLoad, evStore, evBin, Zaa, forall_const, z38, tb, reduceAdd, reduceSub, reduceMul, reduceEqDiff, reduceLeDiff, reduceLT, Nat.reduceBEq, Nat.reduceBNe, ↓reduceIte, reduceIte, spFr, Zcz] at h; obtain ⟨rfl, rfl, rfl, rfl⟩ := h; refine ⟨?_, ?_⟩) | ((with_reducible refine Ob.mk ?_); first | exact trivial | (intros; omega) | ((repeat' first | apply And.intro | (intro a; have b := a; try simp only [zH] at b)) <;> first | assumption | omega | (simp only [zH]; omega)))
  · rw [if_pos hb] at hFi
    refine back (i + 1) [(13, 37)] ?_ (by omega) (by omega)
    (refine ⟨rfl, ?_, ?_⟩ <;> simp only [zE, evp, evx, ev1, evLoad, evStore, evBin, Zaa, forall_const, z38, tb, reduceAdd, reduceSub, reduceMul, reduceEqDiff, reduceLeDiff, reduceLT, Nat.reduceBEq, Nat.reduceBNe, ↓reduceIte, reduceIte, spFr, Zcz, zI])
    rw [hRn, hFi]
  · rw [if_neg hb] at hFi
    refine back (i + 1) [(13, 31)] ?_ (by omega) (by omega)
    (refine ⟨rfl, ?_, ?_⟩ <;> simp only [zE, evp, evx, ev1, evLoad, evStore, evBin, Zaa, forall_const, z38, tb, reduceAdd, reduceSub, reduceMul, reduceEqDiff, reduceLeDiff, reduceLT, Nat.reduceBEq, Nat.reduceBNe, ↓reduceIte, reduceIte, spFr, Zcz, zI])
    rw [hRn, hFi]
  have hie : i = o.length := by omega
  subst hie
  have hY : (List.range o.length).map F = (Zbw ⟨o, p, x⟩ pl c).nxt := by rw [hF]; rfl
  rw [hY]
  have hYl : (Zbw ⟨o, p, x⟩ pl c).nxt.length = o.length := by rw [← hY]; simp
  have hvf : Zbc ⟨o, p, (Zbw ⟨o, p, x⟩ pl c).nxt⟩ = true := Ze5 (fromG_valid hV hcr)
  have hfl : Za7 ⟨o, p, x⟩ pl c = (List.range o.length).map fun v => !(Zcl ⟨o, p, (Zbw ⟨o, p, x⟩ pl c).nxt⟩ (1 - pl)).getD v false := rfl
  have hal : (Zcl ⟨o, p, (Zbw ⟨o, p, x⟩ pl c).nxt⟩ (1 - pl)).length = o.length := by simp [Zcl]
  generalize (Zbw ⟨o, p, x⟩ pl c).nxt = y at *
  clear hY hFi hRl hRn hpos hcr hcr1
  refine Zbi 13 (.roII y) (by simp only [Zar, Zaw, fzE, fzA, fzR, fzB, set1, nbeq, reduceEqDiff, decide_true, decide_false, ↓reduceIte, reduceIte, cond_true, cond_false, List.take_length, Option.some.injEq]; rfl) (by first | exact rfl | (refine ⟨?_, rfl⟩; first | rfl | (intros; rfl))) (by simp only [Zar, Zaw, fzE, fzA, fzR, fzB, set1, nbeq, reduceEqDiff, decide_true, decide_false, ↓reduceIte, reduceIte, cond_true, cond_false, List.take_length, Option.some.injEq]; rfl) (by simp only [Zar, Zaw, fzE, fzA, fzR, fzB, set1, nbeq, reduceEqDiff, decide_true, decide_false, ↓reduceIte, reduceIte, cond_true, cond_false, List.take_length, Option.some.injEq]; rfl) ?_
  repeat' first
    | with_reducible first | apply Zan | apply Zaj | apply Zab | apply Zac | apply Zag | apply Zal | apply Zaf | apply Zah | apply Zam | apply Zao | apply Zak
    | ((with_reducible refine Zap ?_); refine Zai rfl ?_ ?_ <;> intro hb <;> (try simp only [zH] at hb)) | ((with_reducible refine Zax ?_); (first | refine Zad htb hmz Zdw fF rfl rfl ?_ | refine Zae hmo htb hmz Zdw fF rfl rfl (by kernel_rfl) ?_); intro _ _ _ _ h; simp only [zE, evp, evx, ev1, evLoad, evStore, evBin, Zaa, forall_const, z38, tb, reduceAdd, reduceSub, reduceMul, reduceEqDiff, reduceLeDiff, reduceLT, Nat.reduceBEq, Nat.reduceBNe, ↓reduceIte, reduceIte, spFr, Zcz] at h; obtain ⟨rfl, rfl, rfl, rfl⟩ := h; refine ⟨?_, ?_⟩) | ((with_reducible refine Ob.mk ?_); first | exact trivial | (intros; omega) | ((repeat' first | apply And.intro | (intro a; have b := a; try simp only [zH] at b)) <;> first | assumption | omega | (simp only [zH]; omega)))
  generalize Zcl ⟨o, p, y⟩ (1 - pl) = A at *
  have hz : mix (fun v => !A.getD v false) (fun v => A.getD v false) o.length 0 = A := by rw [← hal]; exact Zh1
  refine Zat (τ := Nat) (fun i => i ≤ o.length) (fun i => ⟨23, [(50, .int .i64 i), (49, .int .i64 A.length), (10, .own 18)], [(18, some (.bools (mix (fun v => !A.getD v false) (fun v => A.getD v false) o.length i)))], []⟩) (fun i => o.length - i) 0 [] ?_ (Nat.zero_le _) ?_
  · (refine ⟨rfl, ?_, ?_⟩ <;> simp only [zE, evp, evx, ev1, evLoad, evStore, evBin, Zaa, forall_const, z38, tb, reduceAdd, reduceSub, reduceMul, reduceEqDiff, reduceLeDiff, reduceLT, Nat.reduceBEq, Nat.reduceBNe, ↓reduceIte, reduceIte, spFr, Zcz, zI])
    exact hz.symm
  intro i hi
  have hm1 : (mix (fun v => !A.getD v false) (fun v => A.getD v false) o.length i).length = o.length := Zc5
  have hmg : i < o.length → (mix (fun v => !A.getD v false) (fun v => A.getD v false) o.length i).getD i false = A.getD i false := fun h => by
    unfold mix
    rw [List.getD_eq_getElem?_getD, List.getElem?_eq_getElem (by simpa using h)]
    simp
  have hms : (mix (fun v => !A.getD v false) (fun v => A.getD v false) o.length i).set i (!A.getD i false) = mix (fun v => !A.getD v false) (fun v => A.getD v false) o.length (i + 1) := Zcj
  clear hz
  repeat' first
    | with_reducible first | apply Zan | apply Zaj | apply Zab | apply Zac | apply Zag | apply Zal | apply Zaf | apply Zah | apply Zam | apply Zao | apply Zak
    | ((with_reducible refine Zap ?_); refine Zai rfl ?_ ?_ <;> intro hb <;> (try simp only [zH] at hb)) | ((with_reducible refine Zaq 15 ?_ ?_); (· exact rfl); (first | refine Zad htb hmz Zdw fF rfl rfl ?_ | refine Zae hmo htb hmz Zdw fF rfl rfl (by kernel_rfl) ?_); intro _ _ _ _ h; simp only [zE, evp, evx, ev1, evLoad, evStore, evBin, Zaa, forall_const, z38, tb, reduceAdd, reduceSub, reduceMul, reduceEqDiff, reduceLeDiff, reduceLT, Nat.reduceBEq, Nat.reduceBNe, ↓reduceIte, reduceIte, spFr, Zcz] at h; obtain ⟨rfl, rfl, rfl, rfl⟩ := h; refine ⟨?_, ?_⟩) | ((with_reducible refine Ob.mk ?_); first | exact trivial | (intros; omega) | ((repeat' first | apply And.intro | (intro a; have b := a; try simp only [zH] at b)) <;> first | assumption | omega | (simp only [zH]; omega)))
  · refine back (i + 1) [] ?_ (by omega) (by omega)
    (refine ⟨rfl, ?_, ?_⟩ <;> simp only [zE, evp, evx, ev1, evLoad, evStore, evBin, Zaa, forall_const, z38, tb, reduceAdd, reduceSub, reduceMul, reduceEqDiff, reduceLeDiff, reduceLT, Nat.reduceBEq, Nat.reduceBNe, ↓reduceIte, reduceIte, spFr, Zcz, zI])
    rw [hmg (by omega)]; exact hms
  have hie : i = o.length := by omega
  subst hie
  rw [Zck]
  refine Zbi 18 (.roB ((List.range o.length).map fun v => !A.getD v false)) (by simp only [Zar, Zaw, fzE, fzA, fzR, fzB, set1, nbeq, reduceEqDiff, decide_true, decide_false, ↓reduceIte, reduceIte, cond_true, cond_false, List.take_length, Option.some.injEq]; rfl) (by first | exact rfl | (refine ⟨?_, rfl⟩; first | rfl | (intros; rfl))) (by simp only [Zar, Zaw, fzE, fzA, fzR, fzB, set1, nbeq, reduceEqDiff, decide_true, decide_false, ↓reduceIte, reduceIte, cond_true, cond_false, List.take_length, Option.some.injEq]; rfl) (by simp only [Zar, Zaw, fzE, fzA, fzR, fzB, set1, nbeq, reduceEqDiff, decide_true, decide_false, ↓reduceIte, reduceIte, cond_true, cond_false, List.take_length, Option.some.injEq]; rfl) ?_
  repeat' first
    | with_reducible first | apply Zan | apply Zaj | apply Zab | apply Zac | apply Zag | apply Zal | apply Zaf | apply Zah | apply Zam | apply Zao | apply Zak
    | ((with_reducible refine Zap ?_); refine Zai rfl ?_ ?_ <;> intro hb <;> (try simp only [zH] at hb)) | ((with_reducible refine Zax ?_); (first | refine Zad htb hmz Zdw fF rfl rfl ?_ | refine Zae hmo htb hmz Zdw fF rfl rfl (by kernel_rfl) ?_); intro _ _ _ _ h; simp only [zE, evp, evx, ev1, evLoad, evStore, evBin, Zaa, forall_const, z38, tb, reduceAdd, reduceSub, reduceMul, reduceEqDiff, reduceLeDiff, reduceLT, Nat.reduceBEq, Nat.reduceBNe, ↓reduceIte, reduceIte, spFr, Zcz] at h; obtain ⟨rfl, rfl, rfl, rfl⟩ := h; refine ⟨?_, ?_⟩) | ((with_reducible refine Ob.mk ?_); first | exact trivial | (intros; omega) | ((repeat' first | apply And.intro | (intro a; have b := a; try simp only [zH] at b)) <;> first | assumption | omega | (simp only [zH]; omega)))
  refine Zav rfl rfl (Zas rfl ?_ rfl)
  rw [hfl]
  rfl
section
open Go Pl
structure GOk (g : Gm) : Prop where
  pl : g.pri.length = g.own.length
  xl : g.nxt.length = g.own.length
  n : g.own.length ≤ 20000
  own : ∀ v, v < g.own.length → g.own.getD v 0 = 0 ∨ g.own.getD v 0 = 1
  pri : ∀ v, v < g.own.length → 0 ≤ g.pri.getD v 0 ∧ g.pri.getD v 0 ≤ 60
  row : ∀ v, v < g.own.length → ∀ t, t ∈ rws g.nxt v → t < g.own.length
  len : ∀ v, v < g.own.length → 0 < (g.nxt.getD v []).length ∧ (g.nxt.getD v []).length ≤ 64
  at' : ∀ v, v < g.own.length → ∀ j, j < (g.nxt.getD v []).length → 0 ≤ (g.nxt.getD v []).getD j 0 ∧ (g.nxt.getD v []).getD j 0 < g.own.length
theorem gok {g : Gm} (h : Zhd g) : GOk g := by
  obtain ⟨hn, hpl, hxl, hpos⟩ := h
  have hr : ∀ v, v < g.own.length → ∀ j, j < (g.nxt.getD v []).length → 0 ≤ (g.nxt.getD v []).getD j 0 ∧ (g.nxt.getD v []).getD j 0 < g.own.length := fun v hv j hj => by
    obtain ⟨_, hr⟩ := hpos v hv
    exact ⟨(hr j hj).1, (hr j hj).2.1⟩
  refine ⟨hpl, hxl, hn, fun v hv => ?_, fun v hv => ?_, fun v hv t ht => ?_, fun v hv => ?_, hr⟩
  · obtain ⟨⟨a1, a2, a3, a4, a5, a6⟩, _⟩ := hpos v hv
    simp only [Gm.o] at a1 a2
    omega
  · obtain ⟨⟨a1, a2, a3, a4, a5, a6⟩, _⟩ := hpos v hv
    exact ⟨a3, a4⟩
  · obtain ⟨s, h1, rfl⟩ := List.mem_map.1 ht
    obtain ⟨j, hj, rfl⟩ := List.getElem_of_mem h1
    have := hr v hv j hj
    rw [List.getD_eq_getElem?_getD, List.getElem?_eq_getElem hj, Option.getD_some] at this
    omega
  · obtain ⟨⟨a1, a2, a3, a4, a5, a6⟩, _⟩ := hpos v hv
    exact ⟨a5, a6⟩
theorem win_sol {g : Gm} (hV : Zhd g) : (∀ v, v < g.own.length → (winA g).getD v 0 = 0 ∨ (winA g).getD v 0 = 1) ∧ ∃ c, Sol (fun v => g.own.getD v 0) (fun v => g.pri.getD v 0) (rws g.nxt) (fun v => v < g.own.length) (fun v => (winA g).getD v 0) c 0 ∧ Sol (fun v => g.own.getD v 0) (fun v => g.pri.getD v 0) (rws g.nxt) (fun v => v < g.own.length) (fun v => (winA g).getD v 0) c 1 := by
  have hG := gok hV
  have hK : (fun v => (decide (v < g.own.length)) = true) = fun v => v < g.own.length := funext fun v => by simp
  have hc : cntZ g.own.length (fun v => decide (v < g.own.length)) ≤ g.own.length + 1 := by
    have : cntZ g.own.length (fun v => decide (v < g.own.length)) ≤ (List.range g.own.length).length := List.countP_le_length
    rw [List.length_range] at this; omega
  obtain ⟨h1, c, h2, h3⟩ := zsol (own := fun v => g.own.getD v 0) (pri := fun v => g.pri.getD v 0) (sx := rws g.nxt) (n := g.own.length) hG.own (fun v hv => (hG.pri v hv).1) (g.own.length + 1) (fun v => decide (v < g.own.length)) (fun v hv => of_decide_eq_true hv) hc (by
    rw [hK]
    intro v hv
    have h0 := (hG.len v hv).1
    have hm : (rws g.nxt v)[0]'(by rw [Zf1]; exact h0) ∈ rws g.nxt v := List.getElem_mem _
    exact ⟨_, hm, hG.row v hv _ hm⟩)
  rw [hK] at h2 h3
  have hW : ∀ v, v < g.own.length → (winA g).getD v 0 = winG g (g.own.length + 1) (fun v => decide (v < g.own.length)) v := fun v hv => Zgs hv
  refine ⟨fun v hv => ?_, c, Sol.congrW h2 hW, Sol.congrW h3 hW⟩
  rw [hW v hv]
  exact h1 v (decide_eq_true hv)
end
section
open Go Pl
theorem Rch.mapD {E E' : Nat → Nat → Prop} {D : Nat → Prop} {f : Nat → Nat} (h : ∀ a b, D a → E a b → E' (f a) (f b) ∧ D b) {a b : Nat} (hr : Rch E a b) (ha : D a) : Rch E' (f a) (f b) ∧ D b := by
  induction hr with
  | refl => exact ⟨.refl _, ha⟩
  | step _ e ih => exact ⟨.step ih.1 (h _ _ ih.2 e).1, (h _ _ ih.2 e).2⟩
theorem Zkd {k : List Bool} {v : Nat} (h : k.getD v false = true) : ∀ {n : Nat}, v < n → (kp k v).length < (kp k n).length ∧ (kp k n).getD (kp k v).length 0 = v
  | 0, hv => absurd hv (Nat.not_lt_zero v)
  | n + 1, hv => by
    rw [kp_succ]
    by_cases e : v = n
    · subst e
      rw [if_pos h]
      refine ⟨by simp, ?_⟩
      rw [List.getD_eq_getElem?_getD, List.getElem?_append_right (Nat.le_refl _), Nat.sub_self]; rfl
    · obtain ⟨h1, h2⟩ := Zkd h (n := n) (by omega)
      split
      · refine ⟨by rw [List.length_append, List.length_singleton]; omega, ?_⟩
        rw [List.getD_eq_getElem?_getD, List.getElem?_append_left h1, ← List.getD_eq_getElem?_getD]; exact h2
      · exact ⟨h1, h2⟩
theorem kp_at {k : List Bool} {n i : Nat} (h : i < (kp k n).length) : (kp k n).getD i 0 < n ∧ k.getD ((kp k n).getD i 0) false = true := by
  have hm : (kp k n).getD i 0 ∈ kp k n := by
    rw [List.getD_eq_getElem?_getD, List.getElem?_eq_getElem h]; exact List.getElem_mem h
  have := List.mem_filter.1 hm
  exact ⟨List.mem_range.1 this.1, this.2⟩
def nxF (g : Gm) (C : List Int) (p : Int) (v : Nat) : List Int := if g.own.getD v 0 = p then [C.getD v 0] else g.nxt.getD v []
theorem Zc0 {l : List Int} {t : Int} (h : t ∈ l) : ∃ j, j < l.length ∧ l.getD j 0 = t := by
  obtain ⟨j, hj, e⟩ := List.getElem_of_mem h
  exact ⟨j, hj, by rw [List.getD_eq_getElem?_getD, List.getElem?_eq_getElem hj, Option.getD_some]; exact e⟩
end
open Go
section
variable {P : Program} {ro : Option Nat} {N κ : Nat} {tb : Nat → Option TI}
theorem call_frame {s : CS} {kk : List Nat} {rin : List (Nat × Option Blk)} {Q0 : GR → Prop} {Q : Exit → St → Prop} {dst : Option Nat} (hd' : ∀ d, dst = some d → d < N) (hkk : kkOK s.m kk = true) (hκ : Nat.ble κ s.m = true)
    (hrin : ∀ j B, lkr rin j = some B → j < kk.length ∧ menB (ltK kk.length) B ∧ lkr s.rs (rhoC kk s.m j) = some (renB (rhoC kk s.m) B))
    (next : ∀ g, Q0 g → kk.length ≤ g.m → Q .normal (CS.st ⟨s.m + (g.m - kk.length), putE dst (ren (rhoC kk s.m) g.val) s.env, outR kk s.m g.rs s.rs, s.ms⟩))
    {K Z : Nat → Prop} {w : World} {ν : Nat → Value} {a : Act} (hg : Good K Z N w ν s.st a) :
    ∃ Kc : Nat → Prop, GoodRs Kc Z w (fun j => ν (rhoC kk s.m j)) (ltK kk.length) (lkr rin) ∧ (∀ b, Z b → Kc b) ∧ (∀ b, Kc b → b < w.heap.size) ∧
      ∀ (y : Value) (w' : World) (Z' : Nat → Prop) (ν' : Nat → Value) (g : GR), Step Kc Z w Z' w' → (∀ k, (ν' k).oneCell' = true) → (∀ k, k < kk.length → ν' k = ν (rhoC kk s.m k)) → R Z' w' g.val ν' true [y] → men (ltK g.m) g.val = true →
        GoodRs (un Kc Z') Z' w' ν' (ltK g.m) (lkr g.rs) → (∀ b, Z' b → b < w'.heap.size) → Q0 g → kk.length ≤ g.m → Post N κ K Z w ν Q .normal (a.put dst y) w' := by
  obtain ⟨Ft, hF⟩ := id hg.rs
  have hF' : ∀ k B, lkr s.rs k = some B → k < s.m := fun k B hk => by
    have := (hF k B hk).1
    rwa [show (s.st).mu k = Nat.blt k s.m from rfl, Nat.blt_eq] at this
  let ρ := rhoC kk s.m
  have hρ : ∀ i j, ρ i = ρ j → i = j := fun i j h => rhoC_inj hkk h
  let Kc : Nat → Prop := fun b => K b ∨ ∃ k B, k ∉ kk ∧ lkr s.rs k = some B ∧ Ft k b
  have hKc : ∀ b, Kc b → b < w.heap.size := fun b hb => hb.elim (hg.kl b) fun ⟨k, B, _, hk, hb⟩ => ((hF k B hk).2.2.2.1 b hb).2
  refine ⟨Kc,
      ⟨fun j => Ft (ρ j), fun j B hj => by
        obtain ⟨r1, r2, r3⟩ := hrin j B hj
        obtain ⟨g1, g2, g3, g4, g5⟩ := hF _ _ r3
        refine ⟨by show Nat.blt j _ = true; rw [Nat.blt_eq]; exact r1, r2, sat_ren.1 g3, fun b hb => ⟨?_, (g4 b hb).2⟩, fun j' B' hne hj' => ?_⟩
        · rintro (h | ⟨k, B', hk, hkr, h⟩)
          · exact (g4 b hb).1 h
          · exact g5 k B' (fun e => hk (e ▸ (Zd8 r1 hkk).1)) hkr b hb h
        · obtain ⟨q1, q2, q3⟩ := hrin j' B' hj'
          exact g5 _ _ (fun e => hne (hρ _ _ e)) q3⟩,
    fun b hb => .inl (hg.zk b hb), hKc, ?_⟩
  intro y w' Z' ν' g hstep h1' hν hr' hm' ⟨Fn, hFn⟩ hzs hq hle
  let νn : Nat → Value := fun k => if k < s.m then ν k else ν' (k - s.m + kk.length)
  have hνρ : ∀ j, j < g.m → νn (ρ j) = ν' j := fun j hj => by
    show (if ρ j < s.m then _ else _) = _
    rcases Nat.lt_or_ge j kk.length with h | h
    · rw [if_pos (Zd8 h hkk).2, hν j h]
    · rw [show ρ j = s.m + (j - kk.length) from Ze7 h, if_neg (by omega)]
      congr 1; omega
  have hold : ∀ b, Kc b → w'.heap[b]? = w.heap[b]? := hstep.ext.block
  have hst : Step K Z w Z' w' := ⟨⟨hstep.ext.os, hstep.ext.tape, hstep.ext.output, hstep.ext.size, fun b hb => hold b (.inl hb)⟩, hstep.le, fun b hb => (hstep.new b hb).imp id fun h hk => h (.inl hk)⟩
  have hνold : ∀ k, ltK s.m k = true → νn k = ν k := fun k hk => by
    rw [ltK, Nat.blt_eq] at hk
    exact if_pos hk
  have hR' : R Z' w' (ren ρ g.val) νn true [y] := R_ren.2 (R_nu (fun k hk => hνρ k (by rw [ltK, Nat.blt_eq] at hk; exact hk)) hm' hr')
  have hgood : Good (un K Z') Z' N w' νn ⟨ltK (s.m + (g.m - kk.length)), lke s.env, lkr (outR kk s.m g.rs s.rs), s.ms⟩ a := by
    have hwide : ∀ k, ltK s.m k = true → ltK (s.m + (g.m - kk.length)) k = true := fun k hk => by
      simp only [ltK, Nat.blt_eq] at hk ⊢; omega
    refine ⟨hg.size, fun k => ?_, fun t => ⟨Zd5 hwide (hg.env t).1, R_nu hνold (hg.env t).1 (Zbn hst.le (fun b hb => hst.ext.block b (hg.zk b hb)) (hg.env t).2)⟩, ?_, fun b hb => .inr hb, fun b hb => ?_, ?_, fun k hk => hwide k (hg.ml k hk)⟩
    · show (if k < s.m then _ else _ : Value).oneCell' = true
      split
      · exact hg.one k
      · exact h1' _
    · refine ⟨fun k b => (∃ j B, ρ j = k ∧ lkr g.rs j = some B ∧ Fn j b) ∨ (k ∉ kk ∧ (∃ B, lkr s.rs k = some B) ∧ Ft k b), fun k B hk => ?_⟩
      have hcase : ∀ {k B}, lkr (outR kk s.m g.rs s.rs) k = some B → (∃ j B0, ρ j = k ∧ lkr g.rs j = some B0 ∧ B = renB ρ B0) ∨ ((∀ j B0, ρ j = k → lkr g.rs j ≠ some B0) ∧ k ∉ kk ∧ lkr s.rs k = some B) := by
        intro k B hk
        unfold lkr outR at hk
        rw [lko_app] at hk
        rcases Zh7 hρ (g := g.rs) (k := k) with ⟨j, e, x, h1, h2⟩ | ⟨h1, h2⟩
        · rw [h2] at hk
          dsimp only at hk
          cases x with
          | none => cases hk
          | some B0 =>
            simp only [Option.map_some, Option.some.injEq] at hk
            exact .inl ⟨j, B0, e, by unfold lkr; rw [h1], hk.symm⟩
        · rw [h1] at hk
          dsimp only at hk
          obtain ⟨d1, d2⟩ := Zfn (kk := kk) (l := s.rs) (k := k) (B := B) hk
          refine .inr ⟨fun j B0 e h => ?_, d1, d2⟩
          unfold lkr at h
          rw [h2 j e] at h; cases h
      have hnewF : ∀ {j B0}, lkr g.rs j = some B0 → ∀ b, ((∃ j' B, ρ j' = ρ j ∧ lkr g.rs j' = some B ∧ Fn j' b) ∨ (ρ j ∉ kk ∧ (∃ B, lkr s.rs (ρ j) = some B) ∧ Ft (ρ j) b)) ↔ Fn j b := by
        intro j B0 hj b
        constructor
        · rintro (⟨j', B, e, _, h⟩ | ⟨h1, ⟨B, h2⟩, _⟩)
          · rw [hρ _ _ e] at h; exact h
          · exfalso
            rcases Nat.lt_or_ge j kk.length with h | h
            · exact h1 (Zd8 h hkk).1
            · have := hF' _ _ h2
              rw [show ρ j = s.m + (j - kk.length) from Ze7 h] at this
              omega
        · exact fun h => .inl ⟨j, B0, rfl, hj, h⟩
      have holdF : ∀ {k B}, (∀ j B0, ρ j = k → lkr g.rs j ≠ some B0) → k ∉ kk → lkr s.rs k = some B → ∀ b, ((∃ j' B, ρ j' = k ∧ lkr g.rs j' = some B ∧ Fn j' b) ∨ (k ∉ kk ∧ (∃ B, lkr s.rs k = some B) ∧ Ft k b)) ↔ Ft k b := by
        intro k B h1 h2 h3 b
        constructor
        · rintro (⟨j', B, e, h, _⟩ | ⟨_, _, h⟩)
          · exact absurd h (h1 j' B e)
          · exact h
        · exact fun h => .inr ⟨h2, ⟨B, h3⟩, h⟩
      rcases hcase hk with ⟨j, B0, rfl, hj, rfl⟩ | ⟨c1, c2, c3⟩
      · obtain ⟨f1, f2, f3, f4, f5⟩ := hFn j B0 hj
        have hjm : j < g.m := by rw [ltK, Nat.blt_eq] at f1; exact f1
        have hFe := funext fun b => propext (hnewF hj b)
        refine ⟨Zeu hkk hle j f1, menB_renK (Zeu hkk hle) f2, ?_, fun b hb => ⟨?_, (f4 b ((hnewF hj b).1 hb)).2⟩, fun k' B' hne hk' b hb => ?_⟩
        · dsimp only
          rw [hFe, hνρ j hjm]
          exact sat_ren.2 (Ze2 (fun k hk => hνρ k (by rw [ltK, Nat.blt_eq] at hk; exact hk)) f2 f3)
        · have := (f4 b ((hnewF hj b).1 hb)).1
          rintro (h | h)
          · exact this (.inl (.inl h))
          · exact this (.inr h)
        · have hb := (hnewF hj b).1 hb
          rcases hcase hk' with ⟨j', B0', rfl, hj', rfl⟩ | ⟨c1, c2, c3⟩
          · exact fun h => f5 j' B0' (fun e => hne (by rw [e])) hj' b hb ((hnewF hj' b).1 h)
          · exact fun h => (f4 b hb).1 (.inl (.inr ⟨k', B', c2, c3, (holdF c1 c2 c3 b).1 h⟩))
      · obtain ⟨g1, g2, g3, g4, g5⟩ := hF k B c3
        have hFe := funext fun b => propext (holdF c1 c2 c3 b)
        have hnz : ∀ b, Ft k b → ¬ un K Z' b := fun b hb => by
          rintro (h | h)
          · exact (g4 b hb).1 h
          · rcases hstep.new b h with h2 | h2
            · exact (g4 b hb).1 (hg.zk b h2)
            · exact h2 (.inr ⟨k, B, c2, c3, hb⟩)
        refine ⟨hwide k g1, Zd0 hwide g2, ?_, fun b hb => ⟨hnz b ((holdF c1 c2 c3 b).1 hb), Nat.lt_of_lt_of_le (g4 b ((holdF c1 c2 c3 b).1 hb)).2 hstep.ext.size⟩, fun k' B' hne hk' b hb => ?_⟩
        · dsimp only
          rw [hFe, hνold k g1]
          exact Ze2 hνold g2 (Zbu hst.le (fun b hb => hst.ext.block b (hg.zk b hb)) (fun b hb => hold b (.inr ⟨k, B, c2, c3, hb⟩)) g3)
        · have hb := (holdF c1 c2 c3 b).1 hb
          rcases hcase hk' with ⟨j', B0', rfl, hj', rfl⟩ | ⟨d1, d2, d3⟩
          · exact fun h => ((hFn j' B0' hj').2.2.2.1 b ((hnewF hj' b).1 h)).1 (.inl (.inr ⟨k, B, c2, c3, hb⟩))
          · exact fun h => g5 k' B' hne d3 b hb ((holdF d1 d2 d3 b).1 h)
    · rcases hb with h | h
      · exact Nat.lt_of_lt_of_le (hg.kl b h) hst.ext.size
      · exact hzs b h
    · rw [hg.ds]
      exact fmC fun k hk => by rw [hνold k (hg.ml k hk)]
  refine ⟨Z', νn, _, hst, fun k hk => hνold k (by rw [ltK, Nat.blt_eq]; have := Nat.le_of_ble_eq_true hκ; omega), ?_, next g hq hle⟩
  have := Good.setd hgood hd' hR' (Zgf (Zeu hkk hle) hm')
  rw [show CS.st ⟨s.m + (g.m - kk.length), putE dst (ren (rhoC kk s.m) g.val) s.env, outR kk s.m g.rs s.rs, s.ms⟩ = ⟨ltK (s.m + (g.m - kk.length)), lke (putE dst (ren (rhoC kk s.m) g.val) s.env), lkr (outR kk s.m g.rs s.rs), s.ms⟩ from rfl, Zgd]
  exact this
def Zla (P : Program) (args : List AV) (rin : List (Nat × Option Blk)) (κ : Nat) (Q : GR → Prop) : Prop :=
  ∀ (n : Nat) (K Z : Nat → Prop) (ν : Nat → Value) (w : World) (vals : Array Value) (l : Nat), (∀ k, (ν k).oneCell' = true) → R Z w (mkL args) ν true vals.toList → GoodRs K Z w ν (ltK κ) (lkr rin) → (∀ b, Z b → K b) → (∀ b, K b → b < w.heap.size) → ν 0 = .map (some l) →
    ∃ (f : FuncId) (tmps : Array Value) (assign body : Code), (Instr.yield l vals).run P w = .ok (.round l f tmps assign body) w ∧ RoundIn (FF none) n P l f tmps assign body w fun e w' => ∃ (y : Value) (Z' : Nat → Prop) (ν' : Nat → Value) (g : GR),
      e = .returned y ∧ Step K Z w Z' w' ∧ (∀ k, (ν' k).oneCell' = true) ∧ (∀ k, k < κ → ν' k = ν k) ∧ R Z' w' g.val ν' true [y] ∧ men (ltK g.m) g.val = true ∧ GoodRs (un K Z') Z' w' ν' (ltK g.m) (lkr g.rs) ∧ (∀ b, Z' b → b < w'.heap.size) ∧ Q g ∧ κ ≤ g.m
theorem awpL_yield {o : Oper} {x : Operand} {xs : List Operand} {ts : Array TypeId} {ky m : Nat} {env : List (Nat × AV)} {l : List (Nat × Option Blk)} {ms : List Nat} (kk : List Nat) {args : List AV} {rin : List (Nat × Option Blk)} {Q0 : GR → Prop} {Q : Exit → St → Prop}
    (hS : Zla P args rin kk.length Q0)
    (ho : o.op = .call ⟨.value x, xs.toArray, ts⟩) (hgd : o.guard.isNone = true) (hd : Zef N [o] = true) (hf : opv (lke env) x = .yld ky) (hky : rhoC kk m 0 = ky)
    (hargs : ofL (opv (lke env)) xs = ren (rhoC kk m) (mkL args)) (hkk : kkOK m kk = true) (hκ : Nat.ble κ m = true)
    (hrin : rinR kk m l rin)
    (next : ∀ gm gv gr, Q0 ⟨gm, gv, gr⟩ → ∀ m' e' l', (m + (gm - kk.length) = m' ∧ putE o.dst (ren (rhoC kk m) gv) env = e' ∧ outR kk m gr l = l') → Q .normal (CS.st ⟨m', e', l', ms⟩)) : awpL P ro N κ [o] (CS.st ⟨m, env, l, ms⟩) Q := by
  intro n K Z ν w a hg
  have hw : Region.wanted o (yielded #[] a.tmps) = true := Zc2 hgd _
  simp only [wpListIn, hw, if_true]
  have hev : ∀ y : Operand, R Z w (opv (lke env) y) ν true [a.eval y] ∧ men (ltK m) (opv (lke env) y) = true := fun y => ⟨Zjx hg y, Zhx hg y⟩
  have rf := (hev x).1
  rw [hf] at rf
  obtain ⟨lp, hlp, ecv⟩ := rf
  have ecv := one1 ecv
  have hargs2 : R Z w (ofL (opv (lke env)) xs) ν true (xs.map a.eval) ∧ men (ltK m) (ofL (opv (lke env)) xs) = true := Zio xs fun y _ => hev y
  have hall := hargs2.1
  rw [hargs] at hall
  have hall := R_ren.1 hall
  have hd' : ∀ d, o.dst = some d → d < N := fun d hd2 => by
    simp [Zef, hd2] at hd; exact hd
  obtain ⟨Kc, h1, h2, h3, h4⟩ := call_frame (s := ⟨m, env, l, ms⟩) (kk := kk) (Q := Q) hd' hkk hκ (fun j B hj => by
    obtain ⟨h1, h2, h3⟩ := Zgc hrin (Zdn hj).2
    rw [Nat.blt_eq] at h1
    exact ⟨h1, h2, h3⟩) (fun g hg hle => next g.m g.val g.rs hg _ _ _ ⟨rfl, rfl, rfl⟩) hg
  obtain ⟨f, tmps, assign, body, hrun, hround⟩ := hS (n - 1) Kc Z (fun j => ν (rhoC kk m j)) w (xs.map a.eval).toArray lp (fun j => hg.one _) (by exact hall) h1 h2 h3 (by show ν (rhoC kk m 0) = _; rw [hky]; exact hlp)
  have hsem : (o.semAt (FF ro).round a.eval).run P w = .ok (.round lp f tmps assign body) w := by
    rw [Zc4 (by rw [ho]; intro c hc; cases hc)]
    simp [execOp, ho, resolve, ecv, Deferred.ofValue, invoke, hrun, Sem.run_bind, Result.andThen, Sem.run]
  refine ⟨fun f hf => trivial, ?_⟩
  rw [hsem]
  refine ⟨(fun h => by cases h), RoundIn.mono hround ?_⟩
  rintro e w' ⟨y, Z', ν', g, rfl, c1, c2, c3, c4, c5, c6, c7, c8, c9⟩
  exact h4 y w' Z' ν' g c1 c2 c3 c4 c5 c6 c7 c8 c9
end
open Go
abbrev SemA := List Value → (Nat → Prop) → World → (Nat → Prop) → Prop
section
variable {P : Program} {ro : Option Nat} {N κ : Nat} {tb : Nat → Option TI}
theorem Good.put {K Z : Nat → Prop} {w : World} {ν : Nat → Value} {σ : St} {a : Act} {r : Nat} {o : Obj} (hg : Good K Z N w ν σ a) (hK : K r) (hZ : ¬ Z r) : Good K Z N (w.putObj r o) ν σ a := by
  have hz : ∀ b, Z b → (w.putObj r o).heap[b]? = w.heap[b]? := fun b hb => World.putObj_heap_other (fun e => hZ (e ▸ hb))
  refine ⟨hg.size, hg.one, fun s => ⟨(hg.env s).1, Zbn (fun _ h => h) hz (hg.env s).2⟩, ?_, hg.zk, fun b hb => by rw [World.putObj_size]; exact hg.kl b hb, hg.ds, hg.ml⟩
  exact hg.rs.mono (fun _ h => h) hz (by rw [World.putObj_size]; exact Nat.le_refl _) (fun _ h => .inl h) (fun b hb _ => World.putObj_heap_other (fun e => hb (e ▸ hK)))
theorem Zfa (w : World) (o : Obj) (k : Nat) (h : k < w.heap.size) : (w.alloc o).heap[k]? = w.heap[k]? := by
  show (w.heap.push o)[k]? = _
  rw [Array.getElem?_push, if_neg (by omega)]
theorem menE_lke {m : Nat} : ∀ {env : List (Nat × AV)}, menE m env = true → ∀ s, men (ltK m) (lke env s) = true
  | [], _, _ => rfl
  | (k, v) :: t, h, s => by
    simp only [menE, Bool.and_eq_true] at h
    rw [Zea]
    split
    · exact h.1
    · exact menE_lke h.2 s
end
open Go
def Zfx (w : World) (Z : Nat → Prop) (ν : Nat → Value) (m lp D : Nat) (rc : Loop) (S : List (Nat × Option Blk)) : SemA := fun vs Zs ws F =>
  vs = [.map (some lp)] ∧ (∀ y, Z y → Zs y ∧ ws.heap[y]? = w.heap[y]?) ∧ F lp ∧ F D ∧ ws.heap[lp]? = some (.loop rc) ∧ ws.heap[D]? = some (.deferred (some [])) ∧
    ∃ (ν' : Nat → Value) (G : Nat → Nat → Prop), (∀ k, (ν' k).oneCell' = true) ∧ (∀ k, k < m → ν' k = ν k) ∧ ∀ k b, lkr S k = some b → sat Zs ws ν' (ν' k) (G k) b ∧ (∀ x, G k x → F x ∧ x ≠ lp ∧ x ≠ D) ∧ ∀ k' b', k ≠ k' → lkr S k' = some b' → ∀ x, G k x → ¬ G k' x
section
variable {w : World} {Z : Nat → Prop} {ν : Nat → Value} {m lp D : Nat} {rc : Loop} {S : List (Nat × Option Blk)}
theorem ASemV_mono {vs : List Value} {Zs Z' : Nat → Prop} {ws w' : World} {F : Nat → Prop} (h : Zfx w Z ν m lp D rc S vs Zs ws F) (hZ : ∀ y, Zs y → Z' y) (hw : ∀ y, Zs y ∨ F y → w'.heap[y]? = ws.heap[y]?) : Zfx w Z ν m lp D rc S vs Z' w' F := by
  obtain ⟨h1, h2, h3, h4, h5, h6, ν', G, h7, h8, h9⟩ := h
  refine ⟨h1, fun y hy => ⟨hZ y (h2 y hy).1, (hw y (.inl (h2 y hy).1)).trans (h2 y hy).2⟩, h3, h4, (hw lp (.inr h3)).trans h5, (hw D (.inr h4)).trans h6, ν', G, h7, h8, fun k b hk => ?_⟩
  obtain ⟨g1, g2, g3⟩ := h9 k b hk
  exact ⟨Zbu hZ (fun y hy => hw y (.inl hy)) (fun y hy => hw y (.inr (g2 y hy).1)) g1, g2, g3⟩
theorem sat_ASemV {νc : Nat → Value} {a : Nat} {Zs : Nat → Prop} {ws : World} {F : Nat → Prop} {x : Value} (h : Zfx w Z ν m lp D rc S [νc a] Zs ws F) : sat Zs ws νc x F (.sem [a] (Zfx w Z ν m lp D rc S)) :=
  fun Z' w' h1 h2 => ASemV_mono h h1 h2
theorem ASemV_of {νc : Nat → Value} {a : Nat} {Zs : Nat → Prop} {ws : World} {F : Nat → Prop} {x : Value} (h : sat Zs ws νc x F (.sem [a] (Zfx w Z ν m lp D rc S))) : Zfx w Z ν m lp D rc S [νc a] Zs ws F :=
  h Zs ws (fun _ h => h) (fun _ _ => rfl)
end
section
variable {P : Program} {ro : Option Nat} {N κ : Nat} {tb : Nat → Option TI}
inductive Lv where
  | ret
  | exit (id : Nat)
def Lv.c : Lv → Code
  | .ret => .ret
  | .exit id => .exit id
def Lv.e : Lv → Exit
  | .ret => .ret
  | .exit id => .exit id
def roundV (κ : Nat) {τ : Type} (I X : τ → Prop) (nx : τ → τ → Prop) (lv : Lv) (S : τ → List (Nat × Option Blk)) (M : Nat) (t : τ) (e : Exit) (s : St) : Prop :=
  ∃ (cs : CS) (t' : τ) (ρ : List (Nat × Nat)), s = cs.st ∧ LeC κ cs ρ ⟨M, [], S t', []⟩ ∧ ((e = .normal ∧ I t' ∧ nx t t') ∨ (e = lv.e ∧ X t'))
def Ze8 (rc : Loop) (lv : Lv) : Bool → Loop
  | true => rc
  | false => { rc with state := .done, pending := some lv.c }
theorem cases1 {k : Nat} {b b1 : Blk} (hk : lkr [(1, some b1)] k = some b) : k = 1 ∧ b = b1 := by
  rw [Zar] at hk
  by_cases h1 : k = 1
  · rw [if_pos h1] at hk; exact ⟨h1, (Option.some.inj hk).symm⟩
  · rw [if_neg h1] at hk; cases hk
end
open Go
section
variable {P : Program} {ro : Option Nat} {N κ : Nat} {tb : Nat → Option TI}
def awpG (P : Program) (ro : Option Nat) (N κ : Nat) (ops : Array Oper) (l : List Oper) (σ : St) (Q : Exit → St → Prop) : Prop :=
  ∀ n K Z ν w a, Good K Z N w ν σ a → wpListIn (FF ro) n P ops (Post N κ K Z w ν Q) l a w
theorem Zfu {id : Nat} {l : List Oper} {σ : St} {Q : Exit → St → Prop} (h : awpG P ro N κ l.toArray l σ Q) : awp P ro N κ (.region id l.toArray false) σ Q :=
  fun n K Z ν w a hg => wpIn_region_lit (h n K Z ν w a hg)
theorem Zgo {ops : Array Oper} {σ : St} {Q : Exit → St → Prop} (h : Q .normal σ) : awpG P ro N κ ops [] σ Q := fun n K Z ν w a hg => Zdj hg h
def noGd (o : Oper) : Oper := { o with guard := none }
theorem awpG_one {ops : Array Oper} {o : Oper} {rest : List Oper} {σ : St} {Q : Exit → St → Prop} (hw : ∀ K Z ν w a, Good K Z N w ν σ a → Region.wanted o (yielded ops a.tmps) = true)
    (h : awpL P ro N κ [noGd o] σ (Zfe (fun s => awpG P ro N κ ops rest s Q) Q)) : awpG P ro N κ ops (o :: rest) σ Q := by
  intro n K Z ν w a hg
  have h1 := h n K Z ν w a hg
  have hw1 : Region.wanted (noGd o) (yielded #[] a.tmps) = true := Zc2 rfl _
  simp only [wpListIn, hw1, if_true] at h1
  simp only [wpListIn, hw K Z ν w a hg, if_true]
  have h2 : o.wpIn (FF ro) n P a w (fun a' w' => Post N κ K Z w ν (Zfe (fun s => awpG P ro N κ ops rest s Q) Q) .normal a' w') (Post N κ K Z w ν (Zfe (fun s => awpG P ro N κ ops rest s Q) Q)) := h1
  refine Zg2 (fun a' w' hp => ?_) (fun e a' w' he hp => ?_) h2
  · obtain ⟨Z', ν', σ', g1, g2, g3, g4⟩ := hp
    exact Zcn (fun e a2 w2 hp => hp.trans g1 g2) (g4 n _ _ ν' w' a' g3)
  · obtain ⟨Z', ν', σ', g1, g2, g3, g4⟩ := hp
    refine ⟨Z', ν', σ', g1, g2, g3, ?_⟩
    cases e <;> first | exact absurd rfl he | exact g4
theorem tmp_bool {K Z : Nat → Prop} {w : World} {ν : Nat → Value} {σ : St} {a : Act} {d : Nat} {b : Bool} (hg : Good K Z N w ν σ a) (h : σ.env d = .bool b) : a.tmps[d]? = some (.bool b) := by
  have := (hg.env d).2
  rw [h] at this
  have h2 : a.tmps.getD d undef = .bool b := one1 this
  rw [Array.getD_eq_getD_getElem?] at h2
  cases e : a.tmps[d]? with
  | none => rw [e] at h2; cases h2
  | some v => rw [e] at h2; simp only [Option.getD_some] at h2; rw [h2]
theorem wanted_of {K Z : Nat → Prop} {w : World} {ν : Nat → Value} {σ : St} {a : Act} {ops : Array Oper} {o oi : Oper} {i d : Nat} {b v : Bool} (hg : Good K Z N w ν σ a) (ho : o.guard = some (i, b)) (hi : ops[i]? = some oi) (hd : oi.dst = some d) (h : σ.env d = .bool v) : Region.wanted o (yielded ops a.tmps) = (v == b) := by
  have e : yielded ops a.tmps i = some v := by
    unfold yielded
    rw [hi]
    simp only [Option.bind_some, hd, tmp_bool hg h]
  unfold Region.wanted
  rw [ho]
  simp only [e]
  cases v <;> cases b <;> rfl
theorem Zb9 {ops : Array Oper} {o : Oper} {rest : List Oper} {σ : St} {Q : Exit → St → Prop} (ho : o.guard = none) (h : awpL P ro N κ [noGd o] σ (Zfe (fun s => awpG P ro N κ ops rest s Q) Q)) : awpG P ro N κ ops (o :: rest) σ Q :=
  awpG_one (fun K Z ν w a hg => Zc2 (by rw [ho]; rfl) _) h
theorem Zcm {ops : Array Oper} {o oi : Oper} {rest : List Oper} {m : Nat} {env : List (Nat × AV)} {rs : List (Nat × Option Blk)} {ms : List Nat} {Q : Exit → St → Prop} {i d : Nat} {b : Bool} (ho : o.guard = some (i, b)) (hi : ops[i]? = some oi) (hd : oi.dst = some d) (hv : lke env d = .bool b)
    (h : awpL P ro N κ [noGd o] (CS.st ⟨m, env, rs, ms⟩) (Zfe (fun s => awpG P ro N κ ops rest s Q) Q)) : awpG P ro N κ ops (o :: rest) (CS.st ⟨m, env, rs, ms⟩) Q :=
  awpG_one (fun K Z ν w a hg => by rw [wanted_of hg ho hi hd hv]; cases b <;> rfl) h
theorem Zdh {ops : Array Oper} {o oi : Oper} {rest : List Oper} {m : Nat} {env : List (Nat × AV)} {rs : List (Nat × Option Blk)} {ms : List Nat} {Q : Exit → St → Prop} {i d : Nat} {b : Bool} (ho : o.guard = some (i, b)) (hi : ops[i]? = some oi) (hd : oi.dst = some d) (hv : lke env d = .bool (!b)) (hN : Zef N [o] = true)
    (h : awpG P ro N κ ops rest (CS.st ⟨m, putE o.dst (.whn false (.bool false)) env, rs, ms⟩) Q) : awpG P ro N κ ops (o :: rest) (CS.st ⟨m, env, rs, ms⟩) Q := by
  intro n K Z ν w a hg
  have hw : Region.wanted o (yielded ops a.tmps) = false := by rw [wanted_of hg ho hi hd hv]; cases b <;> rfl
  simp only [wpListIn, hw]
  refine ⟨fun f hf => trivial, ?_⟩
  have hd' : ∀ d, o.dst = some d → d < N := fun d hd2 => by
    simp [Zef, hd2] at hN; exact hN
  have hg2 := Good.setd (v := .whn false (.bool false)) (y := undef) hg hd' ⟨(fun h => by cases h), fun _ => rfl⟩ rfl
  refine h n K Z ν w _ ?_
  rw [show CS.st ⟨m, putE o.dst (.whn false (.bool false)) env, rs, ms⟩ = ⟨ltK m, lke (putE o.dst (.whn false (.bool false)) env), lkr rs, ms⟩ from rfl, Zgd]
  exact hg2
def sV (M : Nat) : List (Nat × Option Blk) → Prop
  | [] => True
  | (k, some b) :: l => (Nat.blt k M = true ∧ menB (ltK M) b) ∧ sV M l
  | (k, none) :: l => sV M l
theorem Zj4 {M : Nat} : ∀ {l : List (Nat × Option Blk)}, sV M l → ∀ k b, lkr l k = some b → k < M ∧ menB (ltK M) b
  | [], _, k, b, hk => by cases hk
  | (j, some c) :: l, h, k, b, hk => by
    rw [Zar] at hk
    by_cases e : k = j
    · rw [if_pos e] at hk
      rw [e, ← Option.some.inj hk]
      exact ⟨by have := h.1.1; rwa [Nat.blt_eq] at this, h.1.2⟩
    · rw [if_neg e] at hk; exact Zj4 h.2 k b hk
  | (j, none) :: l, h, k, b, hk => by
    rw [Zar] at hk
    by_cases e : k = j
    · rw [if_pos e] at hk; cases hk
    · rw [if_neg e] at hk; exact Zj4 (l := l) h k b hk
end
open Go
def IterU (P : Program) (gf : Nat) (c : AV) {τ : Type} (I X : τ → Prop) (hd : τ → Int) (L : τ → List Int → Prop) (go : τ → Prop) (nx : τ → τ → Prop) (st fin : τ → Prop) : Prop :=
  ∀ (A : Bool → τ → SemA)
    (hY : ∀ t li, I t → go t → L t li → Zla P [.int .i64 (hd t), .roI li] [(1, some (.sem [0] (A true t)))] 2
      (fun g => ∃ b t', (b = true → I t' ∧ nx t t') ∧ (b = false → X t') ∧ g = ⟨2, .bool b, [(1, some (.sem [0] (A b t')))]⟩))
    (t0 : τ) (h0 : I t0) (hi0 : st t0),
    FG P gf [.yld 0, c] [(1, some (.sem [0] (A true t0)))] 2
      (fun g => ∃ b t', (b = true → I t' ∧ fin t') ∧ (b = false → X t') ∧ g = ⟨2, resV [], [(1, some (.sem [0] (A b t')))]⟩)
section
variable {P : Program} {ro : Option Nat} {N κ : Nat} {tb : Nat → Option TI}
theorem round_yieldsU {τ : Type} {I X : τ → Prop} {hd : τ → Int} {go : τ → Prop} {nx : τ → τ → Prop} {lv : Lv} {S : τ → List (Nat × Option Blk)} {M m p p2 fn lp D : Nat} {li : List Int} {L : τ → List Int → Prop} {env : List (Nat × AV)} {assign body : Code} {w : World} {Z : Nat → Prop} {ν : Nat → Value} {a : Act} {rc : Loop}
    (hrc : rc = { state := .ready, pending := none, fn, tmps := a.tmps, params := #[p, p2], assign, body, defers := D }) (hp : p < N) (hp2 : p2 < N) (hsz : a.tmps.size = N) (hmM : m ≤ M) (hlD : lp ≠ D)
    (henv : ∀ s, men (ltK m) (lke env s) = true ∧ R Z w (lke env s) ν true [a.tmps.getD s undef])
    (hS : ∀ t k b, I t ∨ X t → lkr (S t) k = some b → k < M ∧ menB (ltK M) b)
    (round : ∀ t li, I t → go t → L t li → awp P (some lp) N m assign (CS.st ⟨M, (p2, .roI li) :: (p, .int .i64 (hd t)) :: env, S t, []⟩) (fun e s => e = .normal ∧ awp P (some lp) N m body s (roundV m I X nx lv S M t)))
    (t : τ) (ht : I t) (hi : go t) (hli : L t li) :
    Zla P [.int .i64 (hd t), .roI li] [(1, some (.sem [0] (Zfx w Z ν m lp D (Ze8 rc lv true) (S t))))] 2
      (fun g => ∃ b t', (b = true → I t' ∧ nx t t') ∧ (b = false → X t') ∧ g = ⟨2, .bool b, [(1, some (.sem [0] (Zfx w Z ν m lp D (Ze8 rc lv b) (S t'))))]⟩) := by
  intro n K1 Z1 ν1 w1 vals l hone hvals hG hzk hkl hl
  obtain ⟨F1, hF1⟩ := hG
  obtain ⟨_, _, s1, s2, s3⟩ := hF1 1 (.sem [0] (Zfx w Z ν m lp D (Ze8 rc lv true) (S t))) rfl
  obtain ⟨a1, a2, a3, a4, a5, a6, ν', G, a7, a8, a9⟩ := ASemV_of s1
  have e0 : ν1 0 = .map (some lp) := by injection a1
  obtain rfl : l = lp := by rw [hl] at e0; injection e0 with h; injection h
  obtain ⟨v, vs, hvv, r1, v2, vs2, hvs, r2, r3⟩ := hvals
  have r1 := one1 r1
  have r3 : vs2 = [] := r3
  subst r1 r3 hvs
  have hvals2 : vals = #[.int .i64 (hd t), v2] := by rw [← Array.toList_inj, hvv]
  subst hrc
  have a5 : w1.heap[l]? = some (.loop { state := .ready, pending := none, fn := fn, tmps := a.tmps, params := #[p, p2], assign := assign, body := body, defers := D }) := a5
  have hy := run_yield (P := P) (args := vals) a5 (by rw [hvals2]; rfl)
  have htm : ∀ (T : Array Value) (v : Value), ((#[p, p2] : Array Tmp).zip #[v, v2]).foldl (fun tmps (x : Tmp × Value) => tmps.setIfInBounds x.1 x.2) T = (T.setIfInBounds p v).setIfInBounds p2 v2 := fun T v => by simp
  refine ⟨_, _, _, _, hy, roundIn_of_wpIn trivial ?_⟩
  have htm2 := htm a.tmps (.int .i64 (hd t))
  rw [← hvals2] at htm2
  have hlz : ¬ Z1 l := fun h => (s2 l a3).1 (hzk l h)
  have hDz : ¬ Z1 D := fun h => (s2 D a4).1 (hzk D h)
  -- the round's own view
  have hgood : Good (fun b => K1 b ∨ b = l ∨ b = D) Z1 N w1 ν' (CS.st ⟨M, (p2, .roI li) :: (p, .int .i64 (hd t)) :: env, S t, []⟩) { tmps := (a.tmps.setIfInBounds p (.int .i64 (hd t))).setIfInBounds p2 v2, defers := [] } := by
    have hνm : ∀ k, ltK m k = true → ν' k = ν k := fun k hk => by
      rw [ltK, Nat.blt_eq] at hk
      exact a8 k hk
    refine ⟨by simp [hsz], a7, fun s => ?_, ?_, fun b hb => .inl (hzk b hb), fun b hb => ?_, rfl, fun k hk => by cases hk⟩
    · show men (ltK M) (lke ((p2, _) :: (p, _) :: env) s) = true ∧ R Z1 w1 (lke ((p2, _) :: (p, _) :: env) s) _ true _
      rw [Zea]
      by_cases hs2 : s = p2
      · subst hs2
        simp only [if_true]
        refine ⟨rfl, ?_⟩
        have : ((a.tmps.setIfInBounds p (.int .i64 (hd t))).setIfInBounds s v2).getD s undef = v2 := by
          simp [Array.getD_eq_getD_getElem?, hsz, hp2]
        show R Z1 w1 _ _ true [((a.tmps.setIfInBounds p (.int .i64 (hd t))).setIfInBounds s v2).getD s undef]
        rw [this]
        exact Zdc rfl r2
      rw [if_neg hs2, Zea]
      have e2 : ((a.tmps.setIfInBounds p (.int .i64 (hd t))).setIfInBounds p2 v2).getD s undef = (a.tmps.setIfInBounds p (.int .i64 (hd t))).getD s undef := by
        simp [Array.getD_eq_getD_getElem?, Array.getElem?_setIfInBounds, Ne.symm hs2]
      by_cases hs : s = p
      · subst hs
        simp only [if_true]
        refine ⟨rfl, ?_⟩
        show [((a.tmps.setIfInBounds s (.int .i64 (hd t))).setIfInBounds p2 v2).getD s undef] = [_]
        rw [e2]
        simp [Array.getD_eq_getD_getElem?, hsz, hp]
      · simp only [if_neg hs]
        obtain ⟨g1, g2⟩ := henv s
        refine ⟨Zd5 (fun k hk => by simp only [ltK, Nat.blt_eq] at hk ⊢; omega) g1, ?_⟩
        have : (a.tmps.setIfInBounds p (.int .i64 (hd t))).getD s undef = a.tmps.getD s undef := by
          simp [Array.getD_eq_getD_getElem?, Array.getElem?_setIfInBounds, Ne.symm hs]
        show R Z1 w1 (lke env s) _ true [((a.tmps.setIfInBounds p (.int .i64 (hd t))).setIfInBounds p2 v2).getD s undef]
        rw [e2, this]
        exact R_nu hνm g1 (Zbn (fun y hy => (a2 y hy).1) (fun y hy => (a2 y hy).2) g2)
    · refine ⟨G, fun k b hk => ?_⟩
      obtain ⟨b1, b2⟩ := hS t k b (.inl ht) hk
      obtain ⟨c1, c2, c3⟩ := a9 k b hk
      refine ⟨by show Nat.blt k M = true; rw [Nat.blt_eq]; exact b1, b2, c1, fun x hx => ?_, fun k' b' hne hk' => c3 k' b' hne hk'⟩
      obtain ⟨d1, d2, d3⟩ := c2 x hx
      obtain ⟨f1, f2⟩ := s2 x d1
      exact ⟨fun h => h.elim f1 fun h => h.elim d2 d3, f2⟩
    · rcases hb with h | rfl | rfl
      · exact hkl b h
      · exact (Array.getElem?_eq_some_iff.1 a5).1
      · exact (Array.getElem?_eq_some_iff.1 a6).1
  have hasg := round t li ht hi hli n _ Z1 _ w1 _ hgood
  have hasg2 : assign.wpIn ((FF none).inRound l) n P _ { tmps := (a.tmps.setIfInBounds p (.int .i64 (hd t))).setIfInBounds p2 v2, defers := [] } w1 := hasg
  rw [← htm2] at hasg2
  refine wpIn_mono hasg2 ?_
  rintro e a2' w2 ⟨Z2, ν2, σ2, st2, nu2, good2, rfl, hbody⟩
  -- the round begins
  have hl2 : w2.heap[l]? = _ := (st2.ext.block l (.inr (.inl rfl))).trans a5
  have hZl : ∀ {Zx : Nat → Prop} {wx : World}, Step (fun b => K1 b ∨ b = l ∨ b = D) Z1 w1 Zx wx → ¬ Zx l ∧ ¬ Zx D := fun h =>
    ⟨fun hz => (h.new l hz).elim hlz fun h => h (.inr (.inl rfl)), fun hz => (h.new D hz).elim hDz fun h => h (.inr (.inr rfl))⟩
  refine ⟨_, run_beginRound hl2 rfl, ?_⟩
  have good3 := good2.put (r := l) (o := .loop { state := .busy, pending := none, fn := fn, tmps := a.tmps, params := #[p, p2], assign := assign, body := body, defers := D }) (.inl (.inr (.inl rfl))) (hZl st2).1
  have hb := hbody n _ _ _ _ _ good3
  refine wpIn_mono (show body.wpIn ((FF none).inRound l) n P _ a2' _ from hb) ?_
  rintro e a3' w3 ⟨Z3, ν3, σ3, st3, nu3, good4, cs, t', ρ, rfl, hle, hfate⟩
  have hKl : ∀ b, (K1 b ∨ b = l ∨ b = D) → un (fun b => K1 b ∨ b = l ∨ b = D) Z2 b := fun b h => .inl h
  have hl3 : w3.heap[l]? = some (.loop { state := .busy, pending := none, fn := fn, tmps := a.tmps, params := #[p, p2], assign := assign, body := body, defers := D }) :=
    (st3.ext.block l (hKl l (.inr (.inl rfl)))).trans (World.putObj_heap_same (Array.getElem?_eq_some_iff.1 hl2).1)
  have hD3 : w3.heap[D]? = some (.deferred (some [])) :=
    (st3.ext.block D (hKl D (.inr (.inr rfl)))).trans ((World.putObj_heap_other (Ne.symm hlD)).trans ((st2.ext.block D (.inr (.inr rfl))).trans a6))
  -- which end
  obtain ⟨bb, hbb⟩ : ∃ bb : Bool, (bb = true → e = .normal ∧ I t' ∧ nx t t') ∧ (bb = false → e = lv.e ∧ X t') := by
    rcases hfate with h | h
    · exact ⟨true, (fun _ => h), fun h => by cases h⟩
    · exact ⟨false, (fun h => by cases h), fun _ => h⟩
  have hIX : I t' ∨ X t' := by
    rcases hfate with h | h
    · exact .inl h.2.1
    · exact .inr h.2
  suffices hres : ∀ (o : Loop), o = Ze8 { state := .ready, pending := none, fn := fn, tmps := a.tmps, params := #[p, p2], assign := assign, body := body, defers := D } lv bb →
      ∃ (y : Value) (Z' : Nat → Prop) (νr : Nat → Value) (g : GR), Ending.returned (Value.bool bb) = .returned y ∧ Step K1 Z1 w1 Z' (w3.putObj l (.loop o)) ∧ (∀ k, (νr k).oneCell' = true) ∧ (∀ k, k < 2 → νr k = ν1 k) ∧ R Z' (w3.putObj l (.loop o)) g.val νr true [y] ∧ men (ltK g.m) g.val = true ∧ GoodRs (un K1 Z') Z' (w3.putObj l (.loop o)) νr (ltK g.m) (lkr g.rs) ∧ (∀ b, Z' b → b < (w3.putObj l (.loop o)).heap.size) ∧
        (∃ b t'', (b = true → I t'' ∧ nx t t'') ∧ (b = false → X t'') ∧ g = ⟨2, .bool b, [(1, some (.sem [0] (Zfx w Z ν m l D (Ze8 { state := .ready, pending := none, fn := fn, tmps := a.tmps, params := #[p, p2], assign := assign, body := body, defers := D } lv b) (S t''))))]⟩) ∧ 2 ≤ g.m by
    cases bb with
    | true =>
      obtain ⟨rfl, hI, hN⟩ := hbb.1 rfl
      exact ⟨_, _, run_endRound none hl3, hres _ rfl⟩
    | false =>
      obtain ⟨rfl, hX⟩ := hbb.2 rfl
      cases lv with
      | ret => exact ⟨_, _, run_endRound (some .ret) hl3, hres _ rfl⟩
      | exit id => exact ⟨_, _, run_endRound (some (.exit id)) hl3, hres _ rfl⟩
  intro o ho
  have hle2 := Good.le good4 (Zkc ρ hle.chk hle.env hle.rs)
  obtain ⟨H, hH⟩ := hle2.rs
  have hid := (Zkc ρ hle.chk hle.env hle.rs).id
  -- the step from the round's begin to its end
  have hK1 : ∀ b, K1 b → b ≠ l ∧ b ≠ D := fun b hb => ⟨fun e => (s2 l a3).1 (e ▸ hb), fun e => (s2 D a4).1 (e ▸ hb)⟩
  have hstep : Step K1 Z1 w1 Z3 (w3.putObj l (.loop o)) := by
    refine ⟨⟨st3.ext.os.trans st2.ext.os, st3.ext.tape.trans st2.ext.tape, st3.ext.output.trans st2.ext.output, ?_, fun b hb => ?_⟩, fun b hb => st3.le b (st2.le b hb), fun b hb => ?_⟩
    · have h1 := st2.ext.size
      have h2 := st3.ext.size
      rw [World.putObj_size] at h2 ⊢
      omega
    · exact (World.putObj_heap_other (hK1 b hb).1).trans ((st3.ext.block b (hKl b (.inl hb))).trans ((World.putObj_heap_other (hK1 b hb).1).trans (st2.ext.block b (.inl hb))))
    · rcases st3.new b hb with h | h
      · rcases st2.new b h with h | h
        · exact .inl h
        · exact .inr fun hk => h (.inl hk)
      · exact .inr fun hk => h (.inl (.inl hk))
  have hz3 : ¬ Z3 l ∧ ¬ Z3 D := by
    refine ⟨fun h => ?_, fun h => ?_⟩
    · rcases st3.new l h with h | h
      · exact (hZl st2).1 h
      · exact h (hKl l (.inr (.inl rfl)))
    · rcases st3.new D h with h | h
      · exact (hZl st2).2 h
      · exact h (hKl D (.inr (.inr rfl)))
  have n5 : ∀ k, k < m → ν3 (rhoL ρ k) = ν k := fun k hk => by
    rw [hid k hk, nu3 k hk, nu2 k hk]
    exact a8 k hk
  have hout : ∀ k b, lkr (S t') k = some b → ∀ x, H k x → ¬ un K1 Z3 x ∧ x < w3.heap.size ∧ x ≠ l ∧ x ≠ D := fun k b hk x hx => by
    obtain ⟨_, _, _, h2, _⟩ := hH k b hk
    obtain ⟨h3, h4⟩ := h2 x hx
    refine ⟨fun h => h3 ?_, h4, fun e => h3 ?_, fun e => h3 ?_⟩
    · rcases h with h | h
      · exact .inl (hKl x (.inl h))
      · exact .inr h
    · exact .inl (hKl x (.inr (.inl e)))
    · exact .inl (hKl x (.inr (.inr e)))
  have hput : ∀ x, x ≠ l → (w3.putObj l (.loop o)).heap[x]? = w3.heap[x]? := fun x hx => World.putObj_heap_other hx
  have hZput : ∀ x, Z3 x → (w3.putObj l (.loop o)).heap[x]? = w3.heap[x]? := fun x hx => hput x (fun e => hz3.1 (e ▸ hx))
  have hlt3 : l < w3.heap.size := (Array.getElem?_eq_some_iff.1 hl3).1
  have hDt3 : D < w3.heap.size := (Array.getElem?_eq_some_iff.1 hD3).1
  refine ⟨.bool bb, Z3, fun k => if k < 2 then ν1 k else .nilFunc, ⟨2, .bool bb, [(1, some (.sem [0] (Zfx w Z ν m l D (Ze8 _ lv bb) (S t'))))]⟩, rfl, hstep, fun k => ?_, fun k hk => if_pos hk, rfl, rfl, ?_, fun b hb => ?_, ⟨bb, t', fun h => (hbb.1 h).2, fun h => (hbb.2 h).2, rfl⟩, Nat.le_refl _⟩
  · dsimp only
    split
    · exact hone k
    · rfl
  · refine ⟨fun k => fun x => x = l ∨ x = D ∨ ∃ k b, lkr (S t') k = some b ∧ H k x, fun k b hk => ?_⟩
    have hc : k = 1 ∧ b = .sem [0] (Zfx w Z ν m l D (Ze8 { state := .ready, pending := none, fn := fn, tmps := a.tmps, params := #[p, p2], assign := assign, body := body, defers := D } lv bb) (S t')) := by
      rw [Zar] at hk
      by_cases h1 : k = 1
      · rw [if_pos h1] at hk; exact ⟨h1, (Option.some.inj hk).symm⟩
      · rw [if_neg h1] at hk; cases hk
    obtain ⟨rfl, rfl⟩ := hc
    have hlD1 : (¬ un K1 Z3 l ∧ l < w3.heap.size) ∧ (¬ un K1 Z3 D ∧ D < w3.heap.size) := by
      refine ⟨⟨?_, hlt3⟩, ⟨?_, hDt3⟩⟩
      · rintro (h | h)
        · exact (hK1 l h).1 rfl
        · exact hz3.1 h
      · rintro (h | h)
        · exact (hK1 D h).2 rfl
        · exact hz3.2 h
    refine ⟨rfl, ?_, ?_, fun x hx => ?_, fun k' b' hne hk' x hx hx' => ?_⟩
    · intro j hj
      simp only [List.mem_cons, List.not_mem_nil, or_false] at hj
      rw [hj]; rfl
    · refine sat_ASemV (νc := fun k => if k < 2 then ν1 k else .nilFunc) ⟨?_, fun y hy => ⟨?_, ?_⟩, .inl rfl, .inr (.inl rfl), ?_, (hput D (Ne.symm hlD)).trans hD3, fun k => ν3 (rhoL ρ k), H, hle2.one, n5, fun k b hk => ?_⟩
      · show [ν1 0] = _
        exact a1
      · exact hstep.le y (a2 y hy).1
      · exact (hstep.ext.block y (hzk y (a2 y hy).1)).trans (a2 y hy).2
      · rw [← ho]; exact World.putObj_heap_same hlt3
      · obtain ⟨_, _, g1, g2, g3⟩ := hH k b hk
        exact ⟨Zbu (fun _ h => h) hZput (fun x hx => hput x (hout k b hk x hx).2.2.1) g1, fun x hx => ⟨.inr (.inr ⟨k, b, hk, hx⟩), (hout k b hk x hx).2.2⟩, fun k' b' hne hk' => g3 k' b' hne hk'⟩
    · rw [World.putObj_size]
      rcases hx with rfl | rfl | ⟨k2, b2, h2, h⟩
      · exact hlD1.1
      · exact hlD1.2
      · exact ⟨(hout k2 b2 h2 x h).1, (hout k2 b2 h2 x h).2.1⟩
    · rw [Zar] at hk'
      by_cases h1 : k' = 1
      · exact hne h1.symm
      · rw [if_neg h1] at hk'; cases hk'
  · rw [World.putObj_size]
    exact hle2.kl b (hle2.zk b hb)
theorem awp_rangeU {gOp : Operand} {p p2 gf m M : Nat} {c : AV} {assign body : Code} {env : List (Nat × AV)} {Q : Exit → St → Prop} {τ : Type} (I X : τ → Prop) (hd : τ → Int) (L : τ → List Int → Prop) (go : τ → Prop) (nx : τ → τ → Prop) (st fin : τ → Prop) (lv : Lv) (S : τ → List (Nat × Option Blk)) (ms : List Nat) (t0 : τ)
    (hIter : IterU P gf c I X hd L go nx st fin) (h0 : I t0) (hi0 : st t0) (hu : men noK c = true)
    (hgo : opv (lke env) gOp = .fn gf (.cons c .nil)) (hp : Nat.blt p N = true) (hp2 : Nat.blt p2 N = true) (hmM : Nat.ble m M = true) (hκ : Nat.ble κ m = true) (hmen : menE m env = true) (hms : ∀ k, k ∈ ms → Nat.blt k m = true)
    (hS : ∀ t k b, I t ∨ X t → lkr (S t) k = some b → k < M ∧ menB (ltK M) b)
    (round : ∀ lp t li, I t → go t → L t li → awp P (some lp) N m assign (CS.st ⟨M, (p2, .roI li) :: (p, .int .i64 (hd t)) :: env, S t, []⟩) (fun e s => e = .normal ∧ awp P (some lp) N m body s (roundV m I X nx lv S M t)))
    (next : ∀ t, I t → fin t → Q .normal (CS.st ⟨M + 1, env, (M, some .dfr) :: S t, M :: ms⟩))
    (left : ∀ t, X t → Q lv.e (CS.st ⟨M + 1, env, (M, some .dfr) :: S t, M :: ms⟩)) :
    awp P none N κ (.rangeFunc gOp #[p, p2] assign body) (CS.st ⟨M, env, S t0, ms⟩) Q := by
  rw [Nat.blt_eq] at hp hp2
  have hmM := Nat.le_of_ble_eq_true hmM
  have hκ := Nat.le_of_ble_eq_true hκ
  intro n K Z ν w a hg
  refine wpIn_rangeFunc ?_
  intro fn _
  obtain ⟨rc, hrc⟩ : ∃ rc : Loop, rc = { state := .ready, pending := none, fn, tmps := a.tmps, params := #[p, p2], assign, body, defers := w.heap.size } := ⟨_, rfl⟩
  obtain ⟨W1, hW1⟩ : ∃ W1, (w.alloc (.deferred (some []))).alloc (.loop rc) = W1 := ⟨_, rfl⟩
  have hs1 : W1.heap.size = w.heap.size + 2 := by rw [← hW1, World.size_alloc, World.size_alloc]
  have hL1 : W1.heap[w.heap.size + 1]? = some (.loop rc) := by
    rw [← hW1]; have := World.alloc_heap_new (w.alloc (.deferred (some []))) (.loop rc); rwa [World.size_alloc] at this
  have hD1 : W1.heap[w.heap.size]? = some (.deferred (some [])) := by
    rw [← hW1]; exact (Zfa _ _ _ (by rw [World.size_alloc]; omega)).trans (World.alloc_heap_new w _)
  have hold : ∀ b, b < w.heap.size → W1.heap[b]? = w.heap[b]? := fun b hb => by
    rw [← hW1]; exact (Zfa _ _ _ (by rw [World.size_alloc]; omega)).trans (Zfa _ _ _ hb)
  have hos : W1.os = w.os ∧ W1.tape = w.tape ∧ W1.output = w.output := by rw [← hW1]; exact ⟨rfl, rfl, rfl⟩
  have hev := Zjx hg gOp
  rw [show opv (CS.st ⟨M, env, S t0, ms⟩).env gOp = _ from hgo] at hev
  obtain ⟨cv, ecv, rcv⟩ := hev
  have ecv := one1 ecv
  obtain ⟨vb, vs, hcv, rb, rn⟩ := rcv
  have rn : vs = [] := rn
  subst rn hcv
  have henv : ∀ s, men (ltK m) (lke env s) = true ∧ R Z w (lke env s) ν true [a.tmps.getD s undef] := fun s => ⟨menE_lke hmen s, (hg.env s).2⟩
  have hds : a.defers = ms.flatMap (fun k => Zf6 (ν k)) := hg.ds
  have hFG := hIter (fun b t => Zfx w Z ν m (w.heap.size + 1) w.heap.size (Ze8 rc lv b) (S t))
    (fun t li ht hi hli => round_yieldsU hrc hp hp2 hg.size (by omega) (by omega) henv (fun t k b ht hk => hS t k b ht hk) (fun t li ht hi hl => round _ t li ht hi hl) t ht hi hli) t0 h0 hi0
  obtain ⟨⟨fn', hfn', hname, hbody⟩, hcall⟩ := hFG
  have eg : ∀ args w, (callFunc gf args).run P w = .ok (.enter gf args) w := by
    intro args w
    simp [callFunc, hfn', Sem.run_bind, Result.andThen, Sem.run, program]
    have hname' : ¬ fn'.name = "runtime.NumGoroutine" := by simpa using hname
    cases hb : fn'.body with
    | none => rw [hb] at hbody; cases hbody
    | some c => simp [hname', hb, Sem.run]
  obtain ⟨Ft, hF⟩ := id hg.rs
  have hKz : ∀ b, Z b → b < w.heap.size := fun b hb => hg.kl b (hg.zk b hb)
  have hsat : ∀ k b, lkr (S t0) k = some b → sat Z W1 ν (ν k) (Ft k) b := fun k b hk => by
    obtain ⟨_, _, h3, h4, _⟩ := hF k b hk
    exact Zbu (fun _ h => h) (fun x hx => hold x (hKz x hx)) (fun x hx => hold x (h4 x hx).2) h3
  have hdis : ∀ x, ∀ k b, lkr (S t0) k = some b → Ft k x → ¬ K x ∧ x < w.heap.size := fun x k b hk hx => (hF k b hk).2.2.2.1 x hx
  have hcl := hcall K Z (fun j => if j = 0 then .map (some (w.heap.size + 1)) else .nilFunc) W1 #[.func (.yield (w.heap.size + 1)) #[] #[], vb]
    (fun k => by
      split <;> rfl)
    ⟨_, _, rfl, ⟨w.heap.size + 1, rfl, rfl⟩, _, _, rfl, Zdc hu (Zbn (fun _ h => h) (fun y hy => hold y (hKz y hy)) rb), rfl⟩ (by show (men (ltK 2) (.yld 0) && (men (ltK 2) c && men (ltK 2) .nil)) = true; rw [Zb5 hu]; rfl)
    (by
      refine ⟨fun k => fun x => x = w.heap.size + 1 ∨ x = w.heap.size ∨ ∃ k b, lkr (S t0) k = some b ∧ Ft k x, fun k b hk => ?_⟩
      obtain ⟨rfl, rfl⟩ := cases1 hk
      refine ⟨rfl, ?_, ?_, fun x hx => ?_, fun k' b' hne hk' x hx hx' => hne (cases1 hk').1.symm⟩
      · intro j hj
        rw [List.mem_singleton.1 hj]; rfl
      · refine sat_ASemV (νc := fun j => if j = 0 then .map (some (w.heap.size + 1)) else .nilFunc) ⟨rfl, fun y hy => ⟨hy, hold y (hKz y hy)⟩, .inl rfl, .inr (.inl rfl), hL1, hD1, ν, Ft, hg.one, fun _ _ => rfl, fun k b hk => ?_⟩
        refine ⟨hsat k b hk, fun x hx => ⟨.inr (.inr ⟨k, b, hk, hx⟩), ?_, ?_⟩, fun k' b' hne hk' => (hF k b hk).2.2.2.2 k' b' hne hk'⟩
        · have := (hdis x k b hk hx).2; omega
        · have := (hdis x k b hk hx).2; omega
      · have hKs : ∀ x, K x → x < w.heap.size := hg.kl
        rcases hx with h | h | ⟨k2, b2, h2, h⟩
        · exact ⟨fun hk => by have := hKs x hk; omega, by omega⟩
        · exact ⟨fun hk => by have := hKs x hk; omega, by omega⟩
        · exact ⟨(hdis x _ _ h2 h).1, by have := (hdis x _ _ h2 h).2; omega⟩)
    hg.zk (fun b hb => by rw [hs1]; have := hg.kl b hb; omega)
  refine ⟨w.heap.size + 1, [{ target := .collected w.heap.size, args := #[] }], W1, { target := .fn (.func gf) [vb].toArray, args := #[.func (.yield (w.heap.size + 1)) #[] #[]] }, W1, gf, #[.func (.yield (w.heap.size + 1)) #[] #[]] ++ [vb].toArray, W1, ?_, ?_, ?_, ?_, (fun h => by cases h), ?_⟩
  · rw [← hW1, hrc]; exact run_enterLoop_outer _ _ _ _ _
  · simp only [resolve, ecv]
    simp [go_sem]
  · intro f' _; exact trivial
  · simp [invoke, go_sem, eg]
  refine CallsIn.mono (Zdt hcl) ?_
  rintro e W' ⟨y, Z', ν', v, μ', rs', rfl, hst, h1', hν, _, hr', hm', ⟨Fn, hFn⟩, hz, g, ⟨bb, t', hbt, hbf, rfl⟩, rfl, rfl, _, rfl⟩
  obtain ⟨_, _, s1, s2, s3⟩ := hFn 1 (.sem [0] (Zfx w Z ν m (w.heap.size + 1) w.heap.size (Ze8 rc lv bb) (S t'))) rfl
  obtain ⟨a1, a2, a3, a4, a5, a6, νA, G, a7, a8, a9⟩ := ASemV_of s1
  have hIX : I t' ∨ X t' := by
    cases bb with
    | true => exact .inl (hbt rfl).1
    | false => exact .inr (hbf rfl)
  have hDz : ¬ Z' w.heap.size := fun h => (s2 _ a4).1 (.inr h)
  have hlz : ¬ Z' (w.heap.size + 1) := fun h => (s2 _ a3).1 (.inr h)
  have hput : ∀ x, x ≠ w.heap.size + 1 → (W'.putObj (w.heap.size + 1) (.loop { Ze8 rc lv bb with state := .exhausted })).heap[x]? = W'.heap[x]? := fun x hx => World.putObj_heap_other hx
  have hZput : ∀ x, Z' x → (W'.putObj (w.heap.size + 1) (.loop { Ze8 rc lv bb with state := .exhausted })).heap[x]? = W'.heap[x]? := fun x hx => hput x (fun e => hlz (e ▸ hx))
  have hend := run_endLoop (P := P) a5 (by
    cases bb with
    | true => show rc.state ≠ _; rw [hrc]; intro h; cases h
    | false => intro h; cases h)
  have hstep : Step K Z w Z' (W'.putObj (w.heap.size + 1) (.loop { Ze8 rc lv bb with state := .exhausted })) := by
    refine ⟨⟨hst.ext.os.trans hos.1, hst.ext.tape.trans hos.2.1, hst.ext.output.trans hos.2.2, ?_, fun b hb => ?_⟩, hst.le, hst.new⟩
    · have := hst.ext.size; rw [World.putObj_size]; omega
    · have := hg.kl b hb
      exact (hput b (by omega)).trans ((hst.ext.block b hb).trans (hold b this))
  -- the state behind the loop
  have hkey : ∀ e, Q e (CS.st ⟨M + 1, env, (M, some .dfr) :: S t', M :: ms⟩) → Post N κ K Z w ν Q e { a with defers := [{ target := .collected w.heap.size, args := #[] }] ++ a.defers } (W'.putObj (w.heap.size + 1) (.loop { Ze8 rc lv bb with state := .exhausted })) := by
    intro e hq
    refine ⟨Z', fun k => if k = M then Zh5 [w.heap.size] else νA k, _, hstep, fun k hk => ?_, ?_, hq⟩
    · dsimp only
      rw [if_neg (by omega)]; exact a8 k (by omega)
    have hνm : ∀ k, ltK m k = true → (if k = M then Zh5 [w.heap.size] else νA k) = ν k := fun k hk => by
      rw [ltK, Nat.blt_eq] at hk
      rw [if_neg (by omega)]; exact a8 k hk
    refine ⟨hg.size, fun k => ?_, fun s => ?_, ?_, fun b hb => .inr hb, fun b hb => ?_, ?_, fun k hk => ?_⟩
    · show (if k = M then _ else _ : Value).oneCell' = true
      split
      · rfl
      · exact a7 k
    · obtain ⟨g1, g2⟩ := henv s
      refine ⟨Zd5 (fun k hk => by simp only [CS.st, ltK, Nat.blt_eq] at hk ⊢; omega) g1, R_nu hνm g1 (Zbn hst.le (fun y hy => ?_) g2)⟩
      exact (hZput y (hst.le y hy)).trans ((hst.ext.block y (hg.zk y hy)).trans (hold y (hKz y hy)))
    · have hc : ∀ {k b}, lkr ((M, some Blk.dfr) :: S t') k = some b → (k = M ∧ b = .dfr) ∨ (k < M ∧ lkr (S t') k = some b) := by
        intro k b hk
        rw [Zar] at hk
        by_cases h1 : k = M
        · rw [if_pos h1] at hk; exact .inl ⟨h1, (Option.some.inj hk).symm⟩
        · rw [if_neg h1] at hk
          exact .inr ⟨(hS t' k b hIX hk).1, hk⟩
      refine ⟨fun k => if k = M then fun x => x = w.heap.size else G k, fun k b hk => ?_⟩
      refine ⟨?_, ?_, ?_, fun x hx => ?_, fun k' b' hne hk' x hx hx' => ?_⟩
      · show Nat.blt k (M + 1) = true
        rw [Nat.blt_eq]
        rcases hc hk with ⟨rfl, _⟩ | ⟨h1, _⟩ <;> omega
      · rcases hc hk with ⟨_, rfl⟩ | ⟨_, h3⟩
        · exact trivial
        · exact Zd0 (fun j hj => by simp only [CS.st, ltK, Nat.blt_eq] at hj ⊢; omega) (hS t' k b hIX h3).2
      · rcases hc hk with ⟨rfl, rfl⟩ | ⟨h1, h3⟩
        · dsimp only
          rw [if_pos rfl, if_pos rfl]
          exact ⟨[w.heap.size], rfl, fun b hb => by rw [List.mem_singleton.1 hb]; exact (hput _ (by omega)).trans a6, by simp, fun y => by simp⟩
        · dsimp only
          rw [if_neg (by omega), if_neg (by omega)]
          obtain ⟨g1, g2, g3⟩ := a9 k b h3
          exact Ze2 (μ := ltK M) (fun j hj => by rw [ltK, Nat.blt_eq] at hj; rw [if_neg (by omega)]) (hS t' k b hIX h3).2 (Zbu (fun _ h => h) hZput (fun x hx => hput x (g2 x hx).2.1) g1)
      · rw [World.putObj_size]
        dsimp only at hx
        rcases hc hk with ⟨rfl, rfl⟩ | ⟨h1, h3⟩
        · rw [if_pos rfl] at hx
          rw [show x = _ from hx]; exact s2 _ a4
        · rw [if_neg (by omega)] at hx
          exact s2 x ((a9 k b h3).2.1 x hx).1
      · dsimp only at hx hx'
        rcases hc hk with ⟨rfl, rfl⟩ | ⟨h1, h3⟩ <;> rcases hc hk' with ⟨rfl, rfl⟩ | ⟨h1', h3'⟩
        · exact hne rfl
        · rw [if_pos rfl] at hx
          rw [if_neg (by omega)] at hx'
          exact ((a9 k' b' h3').2.1 x hx').2.2 hx
        · rw [if_pos rfl] at hx'
          rw [if_neg (by omega)] at hx
          exact ((a9 k b h3).2.1 x hx).2.2 hx'
        · rw [if_neg (by omega)] at hx hx'
          exact (a9 k b h3).2.2 k' b' hne h3' x hx hx'
    · rw [World.putObj_size]
      rcases hb with hb | hb
      · have h1 := hg.kl b hb
        have h2 := hst.ext.size
        omega
      · exact hz b hb
    · show _ ++ a.defers = List.flatMap (fun k => Zf6 (if k = M then _ else _)) (M :: ms)
      rw [hds, List.flatMap_cons, if_pos rfl]
      have e1 : Zf6 (Zh5 [w.heap.size]) = [{ target := .collected w.heap.size, args := #[] }] := by
        rw [markOf_V]; rfl
      rw [e1]
      refine congrArg _ (fmC fun k hk => ?_)
      have := hms k hk
      rw [hνm k this]
    · show Nat.blt k (M + 1) = true
      rw [Nat.blt_eq]
      rcases List.mem_cons.1 hk with rfl | hk
      · omega
      · have := hms k hk
        rw [Nat.blt_eq] at this; omega
  cases bb with
  | true =>
    have hp : (Ze8 rc lv true).pending = none := by show rc.pending = none; rw [hrc]
    have hend := hend.trans (congrArg (fun q => Result.ok q (W'.putObj (w.heap.size + 1) (.loop { Ze8 rc lv true with state := .exhausted }))) hp)
    exact ⟨none, _, hend, hkey _ (next t' (hbt rfl).1 (hbt rfl).2)⟩
  | false =>
    have hk2 := hkey _ (left t' (hbf rfl))
    refine ⟨some lv.c, _, hend, ?_⟩
    cases lv with
    | ret => exact wpIn_ret hk2
    | exit id => exact wpIn_exit hk2
end
end Go.Proofs.Ytbcghiagomkadaa.Cal
