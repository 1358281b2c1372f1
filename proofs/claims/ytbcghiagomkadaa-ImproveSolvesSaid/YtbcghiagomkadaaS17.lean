/- Own texts, merged. -/
import Derived.Deep.Slices
import Derived.Lib.SmallJoins
import Derived.ProofKit
import Derived.OpenShut
import Derived.ShutString
import Derived.ChangeOld
import Derived.Below
import Derived.SizedLaws
import Derived.Test.YtbcghiagomkadaaS16
set_option linter.unusedVariables false
set_option linter.unusedSimpArgs false
open Nat (reduceAdd reduceSub reduceMul reduceEqDiff reduceLeDiff reduceLT)
namespace Go.Proofs.Ytbcghiagomkadaa.Cal
open Go Pl
noncomputable def wonL (g : Gm) (pl : Int) : List Bool := (List.range g.own.length).map fun v => decide ((winA g).getD v 0 = pl)
theorem wonL_len {g : Gm} {pl : Int} : (wonL g pl).length = g.own.length := by simp [wonL]
theorem wonL_iff {g : Gm} {pl : Int} {v : Nat} (hv : v < g.own.length) : (wonL g pl).getD v false = true ↔ (winA g).getD v 0 = pl := by
  simp [wonL, List.getD_eq_getElem?_getD, hv]
structure BestC (g : Gm) (pl : Int) (C : List Int) : Prop where
  len : C.length = g.own.length
  sol : Sol (fun v => g.own.getD v 0) (fun v => g.pri.getD v 0) (rws g.nxt) (fun v => v < g.own.length) (fun v => (winA g).getD v 0) (fun v => (C.getD v 0).toNat) pl
  row : ∀ v, v < g.own.length → g.own.getD v 0 = pl → (winA g).getD v 0 = pl → C.getD v 0 ∈ g.nxt.getD v []
theorem best_win {o p : List Int} {x : List (List Int)} {pl : Int} (hv : Zbd ⟨o, p, x⟩ = true) (hp : pl = 0 ∨ pl = 1) : ∃ C, BestC ⟨o, p, x⟩ pl C ∧ FG Try.prog 31 [.agg (.cons (.roI o) (.cons (.roI p) (.cons (.roII x) .nil))), .int .i64 pl] [] 0
      (fun g => g = ⟨0, .tup (.cons (.roB (wonL ⟨o, p, x⟩ pl)) (.cons (.roI C) .nil)), []⟩) ∧
      ∃ R k L, BRun (imB o p x pl) R (List.replicate o.length (-1)) k L C ∧ (List.range o.length).map (fun v => (L v).e) = wonL ⟨o, p, x⟩ pl := by
  obtain ⟨R, k, L, C, h1, h2, h3, h4, h5⟩ := best_ex hv hp
  obtain ⟨hK, hmx⟩ := Zh6 hv
  have e : (List.range o.length).map (fun v => (L v).e) = wonL ⟨o, p, x⟩ pl := by
    unfold wonL
    refine List.map_congr_left fun v hvn => ?_
    have := h3 v (List.mem_range.1 hvn)
    rw [Bool.eq_iff_iff, decide_eq_true_eq]
    exact this
  refine ⟨C, ⟨h2, h4, h5⟩, ?_, R, k, L, h1, e⟩
  have := best_fg (o := o) (p := p) (x := x) (pl := pl) hK hmx h1
  rw [e] at this
  exact this
theorem sol_chc {own pri : Nat → Int} {sx : Nat → List Nat} {K : Nat → Prop} {W : Nat → Int} {c c' : Nat → Nat} {q : Int} (h : ∀ v, K v → W v = q → own v = q → c v = c' v) (hS : Sol own pri sx K W c q) : Sol own pri sx K W c' q := by
  refine ⟨fun v hv hw ho => ?_, hS.his, fun w hw hw2 hp hc => ?_⟩
  · have := hS.mine v hv hw ho
    rw [h v hv hw ho] at this
    exact this
  · refine hS.cyc w hw hw2 hp ?_
    obtain ⟨t, t1, t2⟩ := hc
    exact Zdp t1 t2 fun a b ha hb he => ⟨he.1, he.2.1, fun ho => by rw [he.2.2.1 ho, h a he.1.1 he.1.2 ho], he.2.2.2⟩
noncomputable def rgW (g : Gm) (v : Nat) : Int := if (wonL g 0).getD v false = true then 0 else 1
noncomputable def rgC (g : Gm) (c0 c1 : List Int) (v : Nat) : Int := if (wonL g 0).getD v false = true ∧ g.own.getD v 0 = 0 then c0.getD v 0 else if (wonL g 0).getD v false = false ∧ g.own.getD v 0 = 1 then c1.getD v 0 else -1
theorem rg_sol {g : Gm} (hv : Zbd g = true) {c0 c1 : List Int} (h0 : BestC g 0 c0) (h1 : BestC g 1 c1) : (List.range g.own.length).map (rgW g) = winA g ∧ solB g (winA g) ((List.range g.own.length).map (rgC g c0 c1)) = true := by
  have hV := validB_iff.1 hv
  have hG := gok hV
  have hw := (win_sol hV).1
  have hl : (winA g).length = g.own.length := by simp [winA, winL]
  have hon : ∀ v, v < g.own.length → ((wonL g 0).getD v false = true ↔ (winA g).getD v 0 = 0) := fun v hv => wonL_iff hv
  have hof : ∀ v, v < g.own.length → ((wonL g 0).getD v false = false ↔ (winA g).getD v 0 = 1) := fun v hv => by
    have := hon v hv
    cases e : (wonL g 0).getD v false with
    | true => rw [this.1 e]; exact ⟨fun h => (by cases h), fun h => (by cases h)⟩
    | false =>
      refine ⟨fun _ => ?_, fun _ => rfl⟩
      rcases hw v hv with h2 | h2
      · have := this.2 h2; rw [e] at this; cases this
      · exact h2
  have hC : ∀ v, v < g.own.length → ((List.range g.own.length).map (rgC g c0 c1)).getD v 0 = rgC g c0 c1 v := fun v hv => by simp [List.getD_eq_getElem?_getD, hv]
  have hc0 : ∀ v, v < g.own.length → (winA g).getD v 0 = 0 → g.own.getD v 0 = 0 → rgC g c0 c1 v = c0.getD v 0 := fun v hv h2 h3 => if_pos ⟨(hon v hv).2 h2, h3⟩
  have hc1 : ∀ v, v < g.own.length → (winA g).getD v 0 = 1 → g.own.getD v 0 = 1 → rgC g c0 c1 v = c1.getD v 0 := fun v hv h2 h3 => by
    unfold rgC
    rw [if_neg (fun h => by rw [h3] at h; exact absurd h.2 (by decide)), if_pos ⟨(hof v hv).2 h2, h3⟩]
  refine ⟨ext0 (by simp [hl]) fun v hvl => ?_, (solB_iff hV).2 ⟨decide_eq_true ⟨hl, by simp, fun v hvn => ⟨hw v hvn, fun ho => ?_, fun ho => ?_⟩⟩, fun q hq => ?_⟩⟩
  · have hvn : v < g.own.length := by simpa using hvl
    rw [show ((List.range g.own.length).map (rgW g)).getD v 0 = rgW g v by simp [List.getD_eq_getElem?_getD, hvn]]
    unfold rgW
    rcases hw v hvn with h2 | h2
    · rw [if_pos ((hon v hvn).2 h2), h2]
    · rw [if_neg (by rw [(hof v hvn).2 h2]; decide), h2]
  · rw [hC v hvn]
    rcases hw v hvn with h2 | h2
    · rw [h2] at ho
      rw [hc0 v hvn h2 ho]; exact h0.row v hvn ho h2
    · rw [h2] at ho
      rw [hc1 v hvn h2 ho]; exact h1.row v hvn ho h2
  · rw [hC v hvn]
    unfold rgC
    rw [if_neg, if_neg]
    · rintro ⟨h2, h3⟩
      exact ho (h3.trans ((hof v hvn).1 h2).symm)
    · rintro ⟨h2, h3⟩
      exact ho (h3.trans ((hon v hvn).1 h2).symm)
  · rcases hq with rfl | rfl
    · exact sol_chc (fun v hvn h2 h3 => by rw [hC v hvn, hc0 v hvn h2 h3]) h0.sol
    · exact sol_chc (fun v hvn h2 h3 => by rw [hC v hvn, hc1 v hvn h2 h3]) h1.sol
noncomputable def spSv : Nat → Option Spec
  | 36 => some Za2
  | _ => none
theorem Zba : SpOK Try.prog spSv := by
  intro f S h
  unfold spSv at h
  split at h
  · cases h; exact valid_ok
  · cases h
set_option maxRecDepth 4000 in
set_option maxHeartbeats 4000000 in
theorem isolve_fg {o p : List Int} {x : List (List Int)} :
    FG Try.prog 24 [.agg (.cons (.roI o) (.cons (.roI p) (.cons (.roII x) .nil)))] [] 0 fun g => ∃ (W C : List Int) (e : Int), ((Zbd ⟨o, p, x⟩ = false ∧ W = [] ∧ C = [] ∧ e = 1) ∨ (Zbd ⟨o, p, x⟩ = true ∧ e = 0 ∧ W = winA ⟨o, p, x⟩ ∧ solB ⟨o, p, x⟩ W C = true)) ∧ g = ⟨0, resV [.agg (.cons (.roI W) (.cons (.roI C) .nil)), .int .i64 e], []⟩ := by
  refine Zf1 htb (fn := Try.f24) (by kernel_rfl) (by kernel_rfl) rfl (Nat.le_of_ble_eq_true rfl) fun hl => ?_
  simp only [lenP, mkL, lim] at hl
  repeat' first
    | with_reducible first | apply Zan | apply Zaj | apply Zab | apply Zac | apply Zag | apply Zal | apply Zaf | apply Zah | apply Zam | apply Zao | apply Zak
    | ((with_reducible refine Zap ?_); refine Zai rfl ?_ ?_ <;> intro hb <;> (try simp only [zH] at hb)) | ((with_reducible refine Zaq 2 ?_ ?_); (· exact rfl); (with_reducible refine Zaq 3 ?_ ?_); (· exact rfl); (first | refine Zad htb hmz Zba fF rfl rfl ?_ | refine Zae hmo htb hmz Zba fF rfl rfl (by kernel_rfl) ?_); intro _ _ _ _ h; simp only [zE, evp, evx, ev1, evLoad, evStore, evBin, Zaa, forall_const, z38, tb, reduceAdd, reduceSub, reduceMul, reduceEqDiff, reduceLeDiff, reduceLT, Nat.reduceBEq, Nat.reduceBNe, ↓reduceIte, reduceIte, spSv, Za2] at h; obtain ⟨rfl, rfl, rfl, rfl⟩ := h; refine ⟨?_, ?_⟩) | ((with_reducible refine Ob.mk ?_); first | exact trivial | (intros; omega) | ((repeat' first | apply And.intro | (intro a; have b := a; try simp only [zH] at b)) <;> first | (with_reducible exact True.intro) | assumption | omega | (simp only [zH]; omega)))
  · repeat' first
      | with_reducible first | apply Zan | apply Zaj | apply Zab | apply Zac | apply Zag | apply Zal | apply Zaf | apply Zah | apply Zam | apply Zao | apply Zak
      | ((with_reducible refine Zap ?_); refine Zai rfl ?_ ?_ <;> intro hb <;> (try simp only [zH] at hb)) | ((with_reducible refine Zax ?_); (first | refine Zad htb hmz Zba fF rfl rfl ?_ | refine Zae hmo htb hmz Zba fF rfl rfl (by kernel_rfl) ?_); intro _ _ _ _ h; simp only [zE, evp, evx, ev1, evLoad, evStore, evBin, Zaa, forall_const, z38, tb, reduceAdd, reduceSub, reduceMul, reduceEqDiff, reduceLeDiff, reduceLT, Nat.reduceBEq, Nat.reduceBNe, ↓reduceIte, reduceIte, spSv, Za2] at h; obtain ⟨rfl, rfl, rfl, rfl⟩ := h; refine ⟨?_, ?_⟩) | ((with_reducible refine Ob.mk ?_); first | exact trivial | (intros; omega) | ((repeat' first | apply And.intro | (intro a; have b := a; try simp only [zH] at b)) <;> first | (with_reducible exact True.intro) | assumption | omega | (simp only [zH]; omega)))
    have hv : Zbd ⟨o, p, x⟩ = false := by cases h : Zbd ⟨o, p, x⟩ with | false => rfl | true => rw [h] at hb; cases hb
    refine Zaw rfl rfl (Zd7 ⟨0, resV [.agg (.cons (.roI []) (.cons (.roI []) .nil)), .int .i64 1], []⟩ [] ⟨[], [], 1, .inl ⟨hv, rfl, rfl, rfl⟩, rfl⟩ rfl ?_ trivial)
    exact Zh5 (Zb9 (Zi8 (Zb9 Zd6 (Zb9 Zd6 (Zbr rfl)))) (Zbr rfl))
  have hv := hb
  clear hb
  obtain ⟨hK, _⟩ := Zh6 hv
  have hn : o.length ≤ 20000 := hK.n
  obtain ⟨c0, h0, hf0, _⟩ := best_win hv (.inl rfl)
  obtain ⟨c1, h1, hf1, _⟩ := best_win hv (.inr rfl)
  have hl0 : c0.length = o.length := h0.len
  have hl1 : c1.length = o.length := h1.len
  have hwl : (wonL ⟨o, p, x⟩ 0).length = o.length := wonL_len
  obtain ⟨hrW, hrC⟩ := rg_sol hv h0 h1
  refine Zc1 ([_]) ([_, _, _, _, _]) rfl rfl ?_
  refine Zay htb hmz Zba fF rfl rfl rfl ?_; intro _ _ _ _ h; simp only [zE, evp, evx, ev1, evLoad, evStore, evBin, Zaa, forall_const, z38, tb, reduceAdd, reduceSub, reduceMul, reduceEqDiff, reduceLeDiff, reduceLT, Nat.reduceBEq, Nat.reduceBNe, ↓reduceIte, reduceIte, spSv, Za2] at h; obtain ⟨rfl, rfl, rfl, rfl⟩ := h; refine ⟨?_, Zab ?_⟩
  · first | ((with_reducible refine Ob.mk ?_); first | exact trivial | (intros; omega) | ((repeat' first | apply And.intro | (intro a; have b := a; try simp only [zH] at b)) <;> first | (with_reducible exact True.intro) | assumption | omega | (simp only [zH]; omega))) | skip
  refine Zbh ([]) (hf0) rfl rfl rfl rfl rfl rfl rfl rfl rfl (by simp only [rinR, rhoC, zE, evp, evx, ev1, evLoad, evStore, evBin, Zaa, forall_const, z38, tb, reduceAdd, reduceSub, reduceMul, reduceEqDiff, reduceLeDiff, reduceLT, Nat.reduceBEq, Nat.reduceBNe, ↓reduceIte, reduceIte, spSv, Za2]) ?_; intro gm gv gr hq m' e' l' h; simp only [GR.mk.injEq] at hq; obtain ⟨rfl, rfl, rfl⟩ := hq; simp only [rhoC, outR, renR, dels, zE, evp, evx, ev1, evLoad, evStore, evBin, Zaa, forall_const, z38, tb, reduceAdd, reduceSub, reduceMul, reduceEqDiff, reduceLeDiff, reduceLT, Nat.reduceBEq, Nat.reduceBNe, ↓reduceIte, reduceIte, spSv, Za2] at h; obtain ⟨rfl, rfl, rfl⟩ := h; refine Zab ?_
  refine Zay htb hmz Zba fF rfl rfl rfl ?_; intro _ _ _ _ h; simp only [zE, evp, evx, ev1, evLoad, evStore, evBin, Zaa, forall_const, z38, tb, reduceAdd, reduceSub, reduceMul, reduceEqDiff, reduceLeDiff, reduceLT, Nat.reduceBEq, Nat.reduceBNe, ↓reduceIte, reduceIte, spSv, Za2] at h; obtain ⟨rfl, rfl, rfl, rfl⟩ := h; refine ⟨?_, ?_⟩
  · first | ((with_reducible refine Ob.mk ?_); first | exact trivial | (intros; omega) | ((repeat' first | apply And.intro | (intro a; have b := a; try simp only [zH] at b)) <;> first | (with_reducible exact True.intro) | assumption | omega | (simp only [zH]; omega))) | skip
  refine Zab ?_
  repeat' first
    | with_reducible first | apply Zan | apply Zaj | apply Zab | apply Zac | apply Zag | apply Zal | apply Zaf | apply Zah | apply Zam | apply Zao | apply Zak
    | ((with_reducible refine Zap ?_); refine Zai rfl ?_ ?_ <;> intro hb <;> (try simp only [zH] at hb)) | ((with_reducible refine Zaq 4 ?_ ?_); (· exact rfl); (first | refine Zad htb hmz Zba fF rfl rfl ?_ | refine Zae hmo htb hmz Zba fF rfl rfl (by kernel_rfl) ?_); intro _ _ _ _ h; simp only [zE, evp, evx, ev1, evLoad, evStore, evBin, Zaa, forall_const, z38, tb, reduceAdd, reduceSub, reduceMul, reduceEqDiff, reduceLeDiff, reduceLT, Nat.reduceBEq, Nat.reduceBNe, ↓reduceIte, reduceIte, spSv, Za2] at h; obtain ⟨rfl, rfl, rfl, rfl⟩ := h; refine ⟨?_, ?_⟩) | ((with_reducible refine Ob.mk ?_); first | exact trivial | (intros; omega) | ((repeat' first | apply And.intro | (intro a; have b := a; try simp only [zH] at b)) <;> first | (with_reducible exact True.intro) | assumption | omega | (simp only [zH]; omega)))
  refine Zc1 ([_]) ([_, _, _, _, _]) rfl rfl ?_
  refine Zay htb hmz Zba fF rfl rfl rfl ?_; intro _ _ _ _ h; simp only [zE, evp, evx, ev1, evLoad, evStore, evBin, Zaa, forall_const, z38, tb, reduceAdd, reduceSub, reduceMul, reduceEqDiff, reduceLeDiff, reduceLT, Nat.reduceBEq, Nat.reduceBNe, ↓reduceIte, reduceIte, spSv, Za2] at h; obtain ⟨rfl, rfl, rfl, rfl⟩ := h; refine ⟨?_, Zab ?_⟩
  · first | ((with_reducible refine Ob.mk ?_); first | exact trivial | (intros; omega) | ((repeat' first | apply And.intro | (intro a; have b := a; try simp only [zH] at b)) <;> first | (with_reducible exact True.intro) | assumption | omega | (simp only [zH]; omega))) | skip
  refine Zbh ([]) (hf1) rfl rfl rfl rfl rfl rfl rfl rfl rfl (by simp only [rinR, rhoC, zE, evp, evx, ev1, evLoad, evStore, evBin, Zaa, forall_const, z38, tb, reduceAdd, reduceSub, reduceMul, reduceEqDiff, reduceLeDiff, reduceLT, Nat.reduceBEq, Nat.reduceBNe, ↓reduceIte, reduceIte, spSv, Za2]) ?_; intro gm gv gr hq m' e' l' h; simp only [GR.mk.injEq] at hq; obtain ⟨rfl, rfl, rfl⟩ := hq; simp only [rhoC, outR, renR, dels, zE, evp, evx, ev1, evLoad, evStore, evBin, Zaa, forall_const, z38, tb, reduceAdd, reduceSub, reduceMul, reduceEqDiff, reduceLeDiff, reduceLT, Nat.reduceBEq, Nat.reduceBNe, ↓reduceIte, reduceIte, spSv, Za2] at h; obtain ⟨rfl, rfl, rfl⟩ := h; refine Zab ?_
  refine Zay htb hmz Zba fF rfl rfl rfl ?_; intro _ _ _ _ h; simp only [zE, evp, evx, ev1, evLoad, evStore, evBin, Zaa, forall_const, z38, tb, reduceAdd, reduceSub, reduceMul, reduceEqDiff, reduceLeDiff, reduceLT, Nat.reduceBEq, Nat.reduceBNe, ↓reduceIte, reduceIte, spSv, Za2] at h; obtain ⟨rfl, rfl, rfl, rfl⟩ := h; refine ⟨?_, ?_⟩
  · first | ((with_reducible refine Ob.mk ?_); first | exact trivial | (intros; omega) | ((repeat' first | apply And.intro | (intro a; have b := a; try simp only [zH] at b)) <;> first | (with_reducible exact True.intro) | assumption | omega | (simp only [zH]; omega))) | skip
  refine Zab ?_
  repeat' first
    | with_reducible first | apply Zan | apply Zaj | apply Zab | apply Zac | apply Zag | apply Zal | apply Zaf | apply Zah | apply Zam | apply Zao | apply Zak
    | ((with_reducible refine Zap ?_); refine Zai rfl ?_ ?_ <;> intro hb <;> (try simp only [zH] at hb)) | ((with_reducible refine Zaq 7 ?_ ?_); (· exact rfl); (first | refine Zad htb hmz Zba fF rfl rfl ?_ | refine Zae hmo htb hmz Zba fF rfl rfl (by kernel_rfl) ?_); intro _ _ _ _ h; simp only [zE, evp, evx, ev1, evLoad, evStore, evBin, Zaa, forall_const, z38, tb, reduceAdd, reduceSub, reduceMul, reduceEqDiff, reduceLeDiff, reduceLT, Nat.reduceBEq, Nat.reduceBNe, ↓reduceIte, reduceIte, spSv, Za2] at h; obtain ⟨rfl, rfl, rfl, rfl⟩ := h; refine ⟨?_, ?_⟩) | ((with_reducible refine Ob.mk ?_); first | exact trivial | (intros; omega) | ((repeat' first | apply And.intro | (intro a; have b := a; try simp only [zH] at b)) <;> first | (with_reducible exact True.intro) | assumption | omega | (simp only [zH]; omega)))
  have e1 : List.replicate (wonL ⟨o, p, x⟩ 0).length (0 : Int) = mix (rgW ⟨o, p, x⟩) (fun _ => 0) o.length 0 := List.ext_getElem (by simp [mix, hwl]) fun j h1 h2 => by simp [mix]
  have e2 : List.replicate (wonL ⟨o, p, x⟩ 0).length (0 : Int) = mix (rgC ⟨o, p, x⟩ c0 c1) (fun _ => 0) o.length 0 := List.ext_getElem (by simp [mix, hwl]) fun j h1 h2 => by simp [mix]
  have hgW : ∀ v, rgW ⟨o, p, x⟩ v = if (wonL ⟨o, p, x⟩ 0).getD v false = true then 0 else 1 := fun v => rfl
  have hgC : ∀ v, rgC ⟨o, p, x⟩ c0 c1 v = if (wonL ⟨o, p, x⟩ 0).getD v false = true ∧ o.getD v 0 = 0 then c0.getD v 0 else if (wonL ⟨o, p, x⟩ 0).getD v false = false ∧ o.getD v 0 = 1 then c1.getD v 0 else -1 := fun v => rfl
  have hrW : (List.range o.length).map (rgW ⟨o, p, x⟩) = winA ⟨o, p, x⟩ := hrW
  have hrC : solB ⟨o, p, x⟩ (winA ⟨o, p, x⟩) ((List.range o.length).map (rgC ⟨o, p, x⟩ c0 c1)) = true := hrC
  clear h0 h1 hf0 hf1
  generalize wonL ⟨o, p, x⟩ 1 = won1 at *
  generalize rgW ⟨o, p, x⟩ = fW at *
  generalize rgC ⟨o, p, x⟩ c0 c1 = fC at *
  generalize wonL ⟨o, p, x⟩ 0 = won at *
  refine Zau (τ := Nat) (fun i => i ≤ o.length) (fun i => ⟨30, [(33, .int .i64 i), (32, .int .i64 o.length), (8, .own 25), (7, .roI c1), (5, .roI c0), (4, .roB won), (3, .int .i64 0), (2, .own 1), (1, .rop (.agg (.cons (.roI o) (.cons (.roI p) (.cons (.roII x) .nil)))))], [(20, some (.ints (mix fW (fun _ => 0) o.length i))), (23, some (.ints (mix fC (fun _ => 0) o.length i))), (25, some (.box (.agg (.cons (.own 20) (.cons (.own 23) .nil))))), (1, some (.box (.agg (.cons (.cst (.slice none 0 0)) (.cons (.cst (.slice none 0 0)) .nil)))))], []⟩) (fun i => o.length - i) 0 [] ?_ (Nat.zero_le _) ?_
  · (refine ⟨rfl, ?_, ?_⟩ <;> simp only [zE, evp, evx, ev1, evLoad, evStore, evBin, Zaa, forall_const, z38, tb, reduceAdd, reduceSub, reduceMul, reduceEqDiff, reduceLeDiff, reduceLT, Nat.reduceBEq, Nat.reduceBNe, ↓reduceIte, reduceIte, spSv, Za2, zI])
    · rw [hwl]
    · exact ⟨e1, e2⟩
  intro i hi
  have hmW := Zb6 (f := fW) (h := fun _ => 0) (n := o.length) (i := i)
  have hmC := Zb6 (f := fC) (h := fun _ => 0) (n := o.length) (i := i)
  have hkW := Zgc (f := fW) (h := fun _ => 0) (n := o.length) (i := i)
  have hlW := Zcl (f := fW) (h := fun _ => 0) (n := o.length) (i := i)
  have hlC := Zcl (f := fC) (h := fun _ => 0) (n := o.length) (i := i)
  have hgWi := hgW i
  have hgCi := hgC i
  repeat' first
    | with_reducible first | apply Zan | apply Zaj | apply Zab | apply Zac | apply Zag | apply Zal | apply Zaf | apply Zah | apply Zam | apply Zao | apply Zak
    | ((with_reducible refine Zap ?_); refine Zai rfl ?_ ?_ <;> intro hb <;> (try simp only [zH] at hb)) | ((with_reducible refine Zaq 8 ?_ ?_); (· exact rfl); (with_reducible refine Zaq 17 ?_ ?_); (· exact rfl); (first | refine Zad htb hmz Zba fF rfl rfl ?_ | refine Zae hmo htb hmz Zba fF rfl rfl (by kernel_rfl) ?_); intro _ _ _ _ h; simp only [zE, evp, evx, ev1, evLoad, evStore, evBin, Zaa, forall_const, z38, tb, reduceAdd, reduceSub, reduceMul, reduceEqDiff, reduceLeDiff, reduceLT, Nat.reduceBEq, Nat.reduceBNe, ↓reduceIte, reduceIte, spSv, Za2] at h; obtain ⟨rfl, rfl, rfl, rfl⟩ := h; refine ⟨?_, ?_⟩) | ((with_reducible refine Ob.mk ?_); first | exact trivial | (intros; omega) | ((repeat' first | apply And.intro | (intro a; have b := a; try simp only [zH] at b)) <;> first | (with_reducible exact True.intro) | assumption | omega | (simp only [zH]; omega)))
  · have hil : i < o.length := by omega
    repeat' first
      | with_reducible first | apply Zan | apply Zaj | apply Zab | apply Zac | apply Zag | apply Zal | apply Zaf | apply Zah | apply Zam | apply Zao | apply Zak
      | ((with_reducible refine Zap ?_); refine Zai rfl ?_ ?_ <;> intro hb <;> (try simp only [zH] at hb)) | ((with_reducible refine Zaq 11 ?_ ?_); (· exact rfl); (with_reducible refine Zaq 12 ?_ ?_); (· exact rfl); (with_reducible refine Zaq 16 ?_ ?_); (· exact rfl); (first | refine Zad htb hmz Zba fF rfl rfl ?_ | refine Zae hmo htb hmz Zba fF rfl rfl (by kernel_rfl) ?_); intro _ _ _ _ h; simp only [zE, evp, evx, ev1, evLoad, evStore, evBin, Zaa, forall_const, z38, tb, reduceAdd, reduceSub, reduceMul, reduceEqDiff, reduceLeDiff, reduceLT, Nat.reduceBEq, Nat.reduceBNe, ↓reduceIte, reduceIte, spSv, Za2] at h; obtain ⟨rfl, rfl, rfl, rfl⟩ := h; refine ⟨?_, ?_⟩) | ((with_reducible refine Ob.mk ?_); first | exact trivial | (intros; omega) | ((repeat' first | apply And.intro | (intro a; have b := a; try simp only [zH] at b)) <;> first | (with_reducible exact True.intro) | assumption | omega | (simp only [zH]; omega)))
    · have e3 : fC i = c0.getD i 0 := by rw [hgCi, if_pos hb]
      have e4 : fW i = 0 := by rw [hgWi, if_pos hb.1]
      rw [e3] at hmC
      repeat' first
        | with_reducible first | apply Zan | apply Zaj | apply Zab | apply Zac | apply Zag | apply Zal | apply Zaf | apply Zah | apply Zam | apply Zao | apply Zak
        | ((with_reducible refine Zap ?_); refine Zai rfl ?_ ?_ <;> intro hb <;> (try simp only [zH] at hb)) | ((with_reducible refine Zax ?_); (first | refine Zad htb hmz Zba fF rfl rfl ?_ | refine Zae hmo htb hmz Zba fF rfl rfl (by kernel_rfl) ?_); intro _ _ _ _ h; simp only [zE, evp, evx, ev1, evLoad, evStore, evBin, Zaa, forall_const, z38, tb, reduceAdd, reduceSub, reduceMul, reduceEqDiff, reduceLeDiff, reduceLT, Nat.reduceBEq, Nat.reduceBNe, ↓reduceIte, reduceIte, spSv, Za2] at h; obtain ⟨rfl, rfl, rfl, rfl⟩ := h; refine ⟨?_, ?_⟩) | ((with_reducible refine Ob.mk ?_); first | exact trivial | (intros; omega) | ((repeat' first | apply And.intro | (intro a; have b := a; try simp only [zH] at b)) <;> first | (with_reducible exact True.intro) | assumption | omega | (simp only [zH]; omega)))
      refine back (i + 1) [] ?_ (by omega) (by omega)
      (refine ⟨rfl, ?_, ?_⟩ <;> simp only [zE, evp, evx, ev1, evLoad, evStore, evBin, Zaa, forall_const, z38, tb, reduceAdd, reduceSub, reduceMul, reduceEqDiff, reduceLeDiff, reduceLT, Nat.reduceBEq, Nat.reduceBNe, ↓reduceIte, reduceIte, spSv, Za2, zI])
      exact ⟨hkW e4, by rw [List.set_set]; exact hmC⟩
    · clear hgW hgC
      repeat' first
        | with_reducible first | apply Zan | apply Zaj | apply Zab | apply Zac | apply Zag | apply Zal | apply Zaf | apply Zah | apply Zam | apply Zao | apply Zak
        | ((with_reducible refine Zap ?_); refine Zai rfl ?_ ?_ <;> intro hb <;> (try simp only [zH] at hb)) | ((with_reducible refine Zaq 13 ?_ ?_); (· exact rfl); (with_reducible refine Zaq 14 ?_ ?_); (· exact rfl); (with_reducible refine Zaq 16 ?_ ?_); (· exact rfl); (first | refine Zad htb hmz Zba fF rfl rfl ?_ | refine Zae hmo htb hmz Zba fF rfl rfl (by kernel_rfl) ?_); intro _ _ _ _ h; simp only [zE, evp, evx, ev1, evLoad, evStore, evBin, Zaa, forall_const, z38, tb, reduceAdd, reduceSub, reduceMul, reduceEqDiff, reduceLeDiff, reduceLT, Nat.reduceBEq, Nat.reduceBNe, ↓reduceIte, reduceIte, spSv, Za2] at h; obtain ⟨rfl, rfl, rfl, rfl⟩ := h; refine ⟨?_, ?_⟩) | ((with_reducible refine Ob.mk ?_); first | exact trivial | (intros; omega) | ((repeat' first | apply And.intro | (intro a; have b := a; try simp only [zH] at b)) <;> first | (with_reducible exact True.intro) | assumption | omega | (simp only [zH]; omega)))
      · have hf : won.getD i false = false := hb
        have e4 : fW i = 1 := by rw [hgWi, if_neg (by rw [hf]; decide)]
        rw [e4] at hmW
        rw [if_neg (fun h => by rw [hf] at h; exact absurd h.1 (by decide))] at hgCi
        repeat' first
          | with_reducible first | apply Zan | apply Zaj | apply Zab | apply Zac | apply Zag | apply Zal | apply Zaf | apply Zah | apply Zam | apply Zao | apply Zak
          | ((with_reducible refine Zap ?_); refine Zai rfl ?_ ?_ <;> intro hb <;> (try simp only [zH] at hb)) | ((with_reducible refine Zaq 14 ?_ ?_); (· exact rfl); (first | refine Zad htb hmz Zba fF rfl rfl ?_ | refine Zae hmo htb hmz Zba fF rfl rfl (by kernel_rfl) ?_); intro _ _ _ _ h; simp only [zE, evp, evx, ev1, evLoad, evStore, evBin, Zaa, forall_const, z38, tb, reduceAdd, reduceSub, reduceMul, reduceEqDiff, reduceLeDiff, reduceLT, Nat.reduceBEq, Nat.reduceBNe, ↓reduceIte, reduceIte, spSv, Za2] at h; obtain ⟨rfl, rfl, rfl, rfl⟩ := h; refine ⟨?_, ?_⟩) | ((with_reducible refine Ob.mk ?_); first | exact trivial | (intros; omega) | ((repeat' first | apply And.intro | (intro a; have b := a; try simp only [zH] at b)) <;> first | (with_reducible exact True.intro) | assumption | omega | (simp only [zH]; omega)))
        repeat' first
          | with_reducible first | apply Zan | apply Zaj | apply Zab | apply Zac | apply Zag | apply Zal | apply Zaf | apply Zah | apply Zam | apply Zao | apply Zak
          | ((with_reducible refine Zap ?_); refine Zai rfl ?_ ?_ <;> intro hb <;> (try simp only [zH] at hb)) | ((with_reducible refine Zaq 15 ?_ ?_); (· exact rfl); (with_reducible refine Zaq 16 ?_ ?_); (· exact rfl); (with_reducible refine Zaq 17 ?_ ?_); (· exact rfl); (first | refine Zad htb hmz Zba fF rfl rfl ?_ | refine Zae hmo htb hmz Zba fF rfl rfl (by kernel_rfl) ?_); intro _ _ _ _ h; simp only [zE, evp, evx, ev1, evLoad, evStore, evBin, Zaa, forall_const, z38, tb, reduceAdd, reduceSub, reduceMul, reduceEqDiff, reduceLeDiff, reduceLT, Nat.reduceBEq, Nat.reduceBNe, ↓reduceIte, reduceIte, spSv, Za2] at h; obtain ⟨rfl, rfl, rfl, rfl⟩ := h; refine ⟨?_, ?_⟩) | ((with_reducible refine Ob.mk ?_); first | exact trivial | (intros; omega) | ((repeat' first | apply And.intro | (intro a; have b := a; try simp only [zH] at b)) <;> first | (with_reducible exact True.intro) | assumption | omega | (simp only [zH]; omega)))
        · rw [if_pos ⟨hf, by assumption⟩] at hgCi
          rw [hgCi] at hmC
          repeat' first
            | with_reducible first | apply Zan | apply Zaj | apply Zab | apply Zac | apply Zag | apply Zal | apply Zaf | apply Zah | apply Zam | apply Zao | apply Zak
            | ((with_reducible refine Zap ?_); refine Zai rfl ?_ ?_ <;> intro hb <;> (try simp only [zH] at hb)) | ((with_reducible refine Zax ?_); (first | refine Zad htb hmz Zba fF rfl rfl ?_ | refine Zae hmo htb hmz Zba fF rfl rfl (by kernel_rfl) ?_); intro _ _ _ _ h; simp only [zE, evp, evx, ev1, evLoad, evStore, evBin, Zaa, forall_const, z38, tb, reduceAdd, reduceSub, reduceMul, reduceEqDiff, reduceLeDiff, reduceLT, Nat.reduceBEq, Nat.reduceBNe, ↓reduceIte, reduceIte, spSv, Za2] at h; obtain ⟨rfl, rfl, rfl, rfl⟩ := h; refine ⟨?_, ?_⟩) | ((with_reducible refine Ob.mk ?_); first | exact trivial | (intros; omega) | ((repeat' first | apply And.intro | (intro a; have b := a; try simp only [zH] at b)) <;> first | (with_reducible exact True.intro) | assumption | omega | (simp only [zH]; omega)))
          refine back (i + 1) [] ?_ (by omega) (by omega)
          (refine ⟨rfl, ?_, ?_⟩ <;> simp only [zE, evp, evx, ev1, evLoad, evStore, evBin, Zaa, forall_const, z38, tb, reduceAdd, reduceSub, reduceMul, reduceEqDiff, reduceLeDiff, reduceLT, Nat.reduceBEq, Nat.reduceBNe, ↓reduceIte, reduceIte, spSv, Za2, zI])
          exact ⟨hmW, by rw [List.set_set]; exact hmC⟩
        · rw [if_neg (fun h => absurd h.2 (by assumption))] at hgCi
          rw [hgCi] at hmC
          repeat' first
            | with_reducible first | apply Zan | apply Zaj | apply Zab | apply Zac | apply Zag | apply Zal | apply Zaf | apply Zah | apply Zam | apply Zao | apply Zak
            | ((with_reducible refine Zap ?_); refine Zai rfl ?_ ?_ <;> intro hb <;> (try simp only [zH] at hb)) | ((with_reducible refine Zax ?_); (first | refine Zad htb hmz Zba fF rfl rfl ?_ | refine Zae hmo htb hmz Zba fF rfl rfl (by kernel_rfl) ?_); intro _ _ _ _ h; simp only [zE, evp, evx, ev1, evLoad, evStore, evBin, Zaa, forall_const, z38, tb, reduceAdd, reduceSub, reduceMul, reduceEqDiff, reduceLeDiff, reduceLT, Nat.reduceBEq, Nat.reduceBNe, ↓reduceIte, reduceIte, spSv, Za2] at h; obtain ⟨rfl, rfl, rfl, rfl⟩ := h; refine ⟨?_, ?_⟩) | ((with_reducible refine Ob.mk ?_); first | exact trivial | (intros; omega) | ((repeat' first | apply And.intro | (intro a; have b := a; try simp only [zH] at b)) <;> first | (with_reducible exact True.intro) | assumption | omega | (simp only [zH]; omega)))
          refine back (i + 1) [] ?_ (by omega) (by omega)
          (refine ⟨rfl, ?_, ?_⟩ <;> simp only [zE, evp, evx, ev1, evLoad, evStore, evBin, Zaa, forall_const, z38, tb, reduceAdd, reduceSub, reduceMul, reduceEqDiff, reduceLeDiff, reduceLT, Nat.reduceBEq, Nat.reduceBNe, ↓reduceIte, reduceIte, spSv, Za2, zI])
          exact ⟨hmW, hmC⟩
      · have hf : won.getD i false = true := hb
        rename_i hq
        have hno : o.getD i 0 ≠ 0 := fun h => by
          rcases hq with h2 | h2
          · rw [hf] at h2; cases h2
          · exact h2 h
        have e4 : fW i = 0 := by rw [hgWi, if_pos hf]
        rw [if_neg (fun h => hno h.2), if_neg (fun h => by rw [hf] at h; exact absurd h.1 (by decide))] at hgCi
        rw [hgCi] at hmC
        repeat' first
          | with_reducible first | apply Zan | apply Zaj | apply Zab | apply Zac | apply Zag | apply Zal | apply Zaf | apply Zah | apply Zam | apply Zao | apply Zak
          | ((with_reducible refine Zap ?_); refine Zai rfl ?_ ?_ <;> intro hb <;> (try simp only [zH] at hb)) | ((with_reducible refine Zax ?_); (first | refine Zad htb hmz Zba fF rfl rfl ?_ | refine Zae hmo htb hmz Zba fF rfl rfl (by kernel_rfl) ?_); intro _ _ _ _ h; simp only [zE, evp, evx, ev1, evLoad, evStore, evBin, Zaa, forall_const, z38, tb, reduceAdd, reduceSub, reduceMul, reduceEqDiff, reduceLeDiff, reduceLT, Nat.reduceBEq, Nat.reduceBNe, ↓reduceIte, reduceIte, spSv, Za2] at h; obtain ⟨rfl, rfl, rfl, rfl⟩ := h; refine ⟨?_, ?_⟩) | ((with_reducible refine Ob.mk ?_); first | exact trivial | (intros; omega) | ((repeat' first | apply And.intro | (intro a; have b := a; try simp only [zH] at b)) <;> first | (with_reducible exact True.intro) | assumption | omega | (simp only [zH]; omega)))
        refine back (i + 1) [] ?_ (by omega) (by omega)
        (refine ⟨rfl, ?_, ?_⟩ <;> simp only [zE, evp, evx, ev1, evLoad, evStore, evBin, Zaa, forall_const, z38, tb, reduceAdd, reduceSub, reduceMul, reduceEqDiff, reduceLeDiff, reduceLT, Nat.reduceBEq, Nat.reduceBNe, ↓reduceIte, reduceIte, spSv, Za2, zI])
        exact ⟨hkW e4, hmC⟩
  have hie : i = o.length := by omega
  subst hie
  rw [Zb7, Zb7, hrW]
  refine Za9 20 (.roI (winA ⟨o, p, x⟩)) (by simp only [Zar, Zas, fzE, fzA, fzR, fzB, set1, nbeq, reduceEqDiff, decide_true, decide_false, ↓reduceIte, reduceIte, cond_true, cond_false, List.take_length, Option.some.injEq]; rfl) (by first | exact rfl | (refine ⟨?_, rfl⟩; first | rfl | (intros; rfl))) (by simp only [Zar, Zas, fzE, fzA, fzR, fzB, set1, nbeq, reduceEqDiff, decide_true, decide_false, ↓reduceIte, reduceIte, cond_true, cond_false, List.take_length, Option.some.injEq]; rfl) (by simp only [Zar, Zas, fzE, fzA, fzR, fzB, set1, nbeq, reduceEqDiff, decide_true, decide_false, ↓reduceIte, reduceIte, cond_true, cond_false, List.take_length, Option.some.injEq]; rfl) ?_
  refine Za9 23 (.roI ((List.range o.length).map fC)) (by simp only [Zar, Zas, fzE, fzA, fzR, fzB, set1, nbeq, reduceEqDiff, decide_true, decide_false, ↓reduceIte, reduceIte, cond_true, cond_false, List.take_length, Option.some.injEq]; rfl) (by first | exact rfl | (refine ⟨?_, rfl⟩; first | rfl | (intros; rfl))) (by simp only [Zar, Zas, fzE, fzA, fzR, fzB, set1, nbeq, reduceEqDiff, decide_true, decide_false, ↓reduceIte, reduceIte, cond_true, cond_false, List.take_length, Option.some.injEq]; rfl) (by simp only [Zar, Zas, fzE, fzA, fzR, fzB, set1, nbeq, reduceEqDiff, decide_true, decide_false, ↓reduceIte, reduceIte, cond_true, cond_false, List.take_length, Option.some.injEq]; rfl) ?_
  repeat' first
    | with_reducible first | apply Zan | apply Zaj | apply Zab | apply Zac | apply Zag | apply Zal | apply Zaf | apply Zah | apply Zam | apply Zao | apply Zak
    | ((with_reducible refine Zap ?_); refine Zai rfl ?_ ?_ <;> intro hb <;> (try simp only [zH] at hb)) | ((with_reducible refine Zax ?_); (first | refine Zad htb hmz Zba fF rfl rfl ?_ | refine Zae hmo htb hmz Zba fF rfl rfl (by kernel_rfl) ?_); intro _ _ _ _ h; simp only [zE, evp, evx, ev1, evLoad, evStore, evBin, Zaa, forall_const, z38, tb, reduceAdd, reduceSub, reduceMul, reduceEqDiff, reduceLeDiff, reduceLT, Nat.reduceBEq, Nat.reduceBNe, ↓reduceIte, reduceIte, spSv, Za2] at h; obtain ⟨rfl, rfl, rfl, rfl⟩ := h; refine ⟨?_, ?_⟩) | ((with_reducible refine Ob.mk ?_); first | exact trivial | (intros; omega) | ((repeat' first | apply And.intro | (intro a; have b := a; try simp only [zH] at b)) <;> first | (with_reducible exact True.intro) | assumption | omega | (simp only [zH]; omega)))
  refine Zaw rfl rfl (Zd7 ⟨0, resV [.agg (.cons (.roI (winA ⟨o, p, x⟩)) (.cons (.roI ((List.range o.length).map fC)) .nil)), .int .i64 0], []⟩ [] ⟨_, _, 0, .inr ⟨hv, rfl, rfl, hrC⟩, rfl⟩ rfl (Zbr rfl) trivial)
open Go Pl
def exA : Gm := ⟨[0, 1], [1, 2], [[0, 1], [0, 1]]⟩
theorem exA_valid : Zbd exA = true := by
  refine validB_iff.2 ⟨by decide, rfl, rfl, fun v hv => ?_⟩
  have hv : v < 2 := hv
  have : v = 0 ∨ v = 1 := by omega
  rcases this with rfl | rfl
  · refine ⟨by decide, fun i hi => ?_⟩
    have hi : i < 2 := hi
    have : i = 0 ∨ i = 1 := by omega
    rcases this with rfl | rfl <;> exact ⟨by decide, by decide, by decide⟩
  · refine ⟨by decide, fun i hi => ?_⟩
    have hi : i < 2 := hi
    have : i = 0 ∨ i = 1 := by omega
    rcases this with rfl | rfl <;> exact ⟨by decide, by decide, by decide⟩
theorem exA_full (a : Int) (h : a = 0 ∨ a = 1) : Zip exA 0 [a, -1] = true := by
  refine decide_eq_true ⟨rfl, fun v hv => ?_⟩
  have hv : v < 2 := hv
  have : v = 0 ∨ v = 1 := by omega
  rcases this with rfl | rfl
  · refine ⟨fun _ => ?_, fun h => absurd rfl h⟩
    show a ∈ [(0 : Int), 1]
    rcases h with rfl | rfl <;> decide
  · exact ⟨fun h => absurd h (by decide), fun _ => rfl⟩
theorem Zh9 (a : Int) (h : a = 0 ∨ a = 1) : Zc5 exA 0 [a, -1] = 0 := asks_0 exA_valid (by decide) (exA_full a h)
theorem exA_lost : alLs [0, 1] [1, 2] [[0, 1], [0, 1]] 0 = [false, false] := by
  have hb : ∀ u, u < 2 → ¬ alBs [0, 1] [1, 2] [[0, 1], [0, 1]] 0 u := fun u hu h => by
    have : u = 0 ∨ u = 1 := by omega
    rcases this with rfl | rfl
    · exact absurd rfl h.1.1
    · exact absurd rfl h.1.2
  have hf : ∀ v, v < 2 → (alLs [0, 1] [1, 2] [[0, 1], [0, 1]] 0).getD v false = false := fun v hv => by
    cases h : (alLs [0, 1] [1, 2] [[0, 1], [0, 1]] 0).getD v false with
    | false => rfl
    | true =>
      obtain ⟨u, h1, h2, _⟩ := (Zev (o := [0, 1]) hv).1 h
      exact absurd h2 (hb u h1)
  refine Zk2 Zfr fun j hj => ?_
  rw [Zfr] at hj
  have hj : j < 2 := hj
  rw [hf j hj]
  have : j = 0 ∨ j = 1 := by omega
  rcases this with rfl | rfl <;> rfl
def exH : Im := ⟨[0, 1], [1, 2], [[0, 1], [0, 1]], 0, ⟨false, false, [0, 0, 0]⟩, [false, false]⟩
theorem exA_im : imB [0, 1] [1, 2] [[0, 1], [0, 1]] 0 = exH := by
  unfold imB
  rw [exA_lost]; rfl
theorem exA_run : BRun exH 1 [-1, -1] 1 (vIt exH [1, -1] 0) [1, -1] := by
  have h1 : VEnd exH [-1, -1] 1 := by
    refine ⟨by decide, fun j hj => ?_, by decide⟩
    obtain rfl : j = 0 := by omega
    decide
  have h2 : VEnd exH [1, -1] 0 := by
    refine ⟨by decide, fun j hj => absurd hj (Nat.not_lt_zero _), by decide⟩
  have h3 : bNx exH [-1, -1] 1 = ([1, -1], true) := by decide
  have h4 : bNx exH [1, -1] 0 = ([1, -1], false) := by decide
  have h5 := BRun.stop h2 (by rw [h4])
  rw [h4] at h5
  exact .more h1 (by rw [h3]) (by rw [h3]; exact h5)
theorem exA_won : (List.range 2).map (fun v => (vIt exH [1, -1] 0 v).e) = [true, true] := by decide
theorem exA_from0 : Zek exA 0 [0, -1] = [false, false] := by
  have ha : Zkw (Zdj exA 0 [0, -1]) 1 0 := ⟨rfl, 0, ⟨by decide, (by decide : (1 : Int) ≤ 1)⟩, .refl _⟩
  have h0 : Zhb (Zdj exA 0 [0, -1]) 1 0 := ⟨0, by decide, ha, .refl _⟩
  have h1 : Zhb (Zdj exA 0 [0, -1]) 1 1 := ⟨0, by decide, ha, Rch.one (by decide)⟩
  show [!(Zca (Zdj exA 0 [0, -1]) 1).getD 0 false, !(Zca (Zdj exA 0 [0, -1]) 1).getD 1 false] = _
  rw [(Zcn (by decide)).2 h0, (Zcn (by decide)).2 h1]; rfl
theorem exA_from1 : Zek exA 0 [1, -1] = [true, true] := by
  have hn : ∀ v, ¬ Zhb (Zdj exA 0 [1, -1]) 1 v := by
    rintro v ⟨w, hw, ⟨hp, t, ht, _⟩, _⟩
    have hw : w < 2 := hw
    have : w = 0 ∨ w = 1 := by omega
    rcases this with rfl | rfl
    · obtain ⟨h1, h2⟩ := ht
      have h1 : t ∈ [1] := h1
      rw [List.mem_singleton.1 h1] at h2
      have h2 : (2 : Int) ≤ 1 := h2
      exact absurd h2 (by decide)
    · exact absurd hp (by decide)
  have hf : ∀ v, v < 2 → (Zca (Zdj exA 0 [1, -1]) 1).getD v false = false := fun v hv => by
    cases h : (Zca (Zdj exA 0 [1, -1]) 1).getD v false with
    | false => rfl
    | true => exact absurd ((Zcn hv).1 h) (hn v)
  show [!(Zca (Zdj exA 0 [1, -1]) 1).getD 0 false, !(Zca (Zdj exA 0 [1, -1]) 1).getD 1 false] = _
  rw [hf 0 (by decide), hf 1 (by decide)]; rfl
open Go Pl
def exS : Spec
  | [] => some ⟨True, .agg (.cons (.roI [0, 1]) (.cons (.roI [1, 2]) (.cons (.roII [[0, 1], [0, 1]]) .nil))), none⟩
  | _ => none
set_option maxRecDepth 4000 in
set_option maxHeartbeats 4000000 in
theorem ex_ok : Zby Try.prog 28 exS := by
  refine Za4 htb (fn := Try.f28) (by kernel_rfl) (by kernel_rfl) rfl (fun args r hS => ?_) (fun args r hS hob hl => ?_)
  · unfold exS at hS; split at hS <;> first | (cases hS; done) | (cases hS; exact Nat.le_of_ble_eq_true rfl)
  unfold exS at hS
  split at hS
  case h_2 => cases hS
  simp only [Option.some.injEq] at hS
  subst hS
  repeat' first
    | with_reducible first | apply Zan | apply Zaj | apply Zab | apply Zac | apply Zag | apply Zal | apply Zaf | apply Zah | apply Zam | apply Zao | apply Zak
    | ((with_reducible refine Zap ?_); refine Zai rfl ?_ ?_ <;> intro hb <;> (try simp only [zH] at hb)) | ((with_reducible refine Zax ?_); (first | refine Zad htb hmz noSp fF rfl rfl ?_ | refine Zae hmo htb hmz noSp fF rfl rfl (by kernel_rfl) ?_); intro _ _ _ _ h; simp only [zE, evp, evx, ev1, evLoad, evStore, evBin, Zaa, forall_const, z38, tb, reduceAdd, reduceSub, reduceMul, reduceEqDiff, reduceLeDiff, reduceLT, Nat.reduceBEq, Nat.reduceBNe, ↓reduceIte, reduceIte] at h; obtain ⟨rfl, rfl, rfl, rfl⟩ := h; refine ⟨?_, ?_⟩) | ((with_reducible refine Ob.mk ?_); first | exact trivial | (intros; omega) | ((repeat' first | apply And.intro | (intro a; have b := a; try simp only [zH] at b)) <;> first | assumption | omega | (simp only [zH]; omega)))
  refine Zaw rfl rfl (Zat rfl ?_ rfl)
  rfl
theorem Zhg : Zek ⟨[0, 1], [1, 2], [[0, 1], [0, 1]]⟩ 0 [0, -1] = [false, false] := exA_from0
theorem Zhf : Zek ⟨[0, 1], [1, 2], [[0, 1], [0, 1]]⟩ 0 [1, -1] = [true, true] := exA_from1
theorem Zhi : Zc5 ⟨[0, 1], [1, 2], [[0, 1], [0, 1]]⟩ 0 [0, -1] = 0 := Zh9 0 (.inl rfl)
theorem Zhh : Zc5 ⟨[0, 1], [1, 2], [[0, 1], [0, 1]]⟩ 0 [1, -1] = 0 := Zh9 1 (.inr rfl)
theorem exA_btr : FG Try.prog 11 [.agg (.cons (.roI [0, 1]) (.cons (.roI [1, 2]) (.cons (.roII [[0, 1], [0, 1]]) .nil))), .roI [0, -1]] [] 0 fun g => g = ⟨0, .tup (.cons (.roI [1, -1]) (.cons (.bool true) (.cons (.int .i64 0) .nil))), []⟩ := by
  have h := btr_fg (o := [0, 1]) (p := [1, 2]) (x := [[0, 1], [0, 1]]) (c := [0, -1]) exA_valid (Zh9 0 (.inl rfl)) (by rw [exA_im]; exact exA_run)
  have h1 : Zek ⟨[0, 1], [1, 2], [[0, 1], [0, 1]]⟩ 0 [0, -1] = [false, false] := exA_from0
  have h2 : (List.range [(0 : Int), 1].length).map (fun v => (vIt exH [1, -1] 0 v).e) = [true, true] := exA_won
  rw [h1, h2] at h
  exact h
def Zdq : Spec
  | [] => some ⟨True, .bool true, none⟩
  | _ => none
noncomputable def spAz : Nat → Option Spec
  | 28 => some exS
  | 16 => some Zha
  | 20 => some Zbs
  | _ => none
theorem Zfw : SpOK Try.prog spAz := by
  intro f S h
  unfold spAz at h
  split at h
  · cases h; exact ex_ok
  · cases h; exact iwin_ok
  · cases h; exact bits_ok
  · cases h
set_option maxRecDepth 4000 in
set_option maxHeartbeats 4000000 in
theorem awk15_ok : Zby Try.prog 9 Zdq := by
  refine Za4 htb (fn := Try.f9) (by kernel_rfl) (by kernel_rfl) rfl (fun args r hS => ?_) (fun args r hS hob hl => ?_)
  · unfold Zdq at hS; split at hS <;> first | (cases hS; done) | (cases hS; exact Nat.le_of_ble_eq_true rfl)
  unfold Zdq at hS
  split at hS
  case h_2 => cases hS
  simp only [Option.some.injEq] at hS
  subst hS
  repeat' first
    | with_reducible first | apply Zan | apply Zaj | apply Zab | apply Zac | apply Zag | apply Zal | apply Zaf | apply Zah | apply Zam | apply Zao | apply Zak
    | ((with_reducible refine Zap ?_); refine Zai rfl ?_ ?_ <;> intro hb <;> (try simp only [zH] at hb)) | ((with_reducible refine Zaq 3 ?_ ?_); (· exact rfl); (first | refine Zad htb hmz Zfw fF rfl rfl ?_ | refine Zae hmo htb hmz Zfw fF rfl rfl (by kernel_rfl) ?_); intro _ _ _ _ h; simp only [zE, evp, evx, ev1, evLoad, evStore, evBin, Zaa, forall_const, z38, tb, reduceAdd, reduceSub, reduceMul, reduceEqDiff, reduceLeDiff, reduceLT, Nat.reduceBEq, Nat.reduceBNe, ↓reduceIte, reduceIte, spAz, exS, Zha, Zbs, Zhg, Zhf, Zhi, Zhh] at h; obtain ⟨rfl, rfl, rfl, rfl⟩ := h; refine ⟨?_, ?_⟩) | ((with_reducible refine Ob.mk ?_); first | exact trivial | (intros; omega) | ((repeat' first | apply And.intro | (intro a; have b := a; try simp only [zH] at b)) <;> first | assumption | omega | (simp only [zH]; omega)))
  refine Zc1 ([_, _]) ([_, _, _, _, _, _, _]) rfl rfl ?_
  refine Zay htb hmz Zfw fF rfl rfl rfl ?_; intro _ _ _ _ h; simp only [zE, evp, evx, ev1, evLoad, evStore, evBin, Zaa, forall_const, z38, tb, reduceAdd, reduceSub, reduceMul, reduceEqDiff, reduceLeDiff, reduceLT, Nat.reduceBEq, Nat.reduceBNe, ↓reduceIte, reduceIte, spAz, exS, Zha, Zbs, Zhg, Zhf, Zhi, Zhh] at h; obtain ⟨rfl, rfl, rfl, rfl⟩ := h; refine ⟨?_, Zab ?_⟩
  · first | ((with_reducible refine Ob.mk ?_); first | exact trivial | (intros; omega) | ((repeat' first | apply And.intro | (intro a; have b := a; try simp only [zH] at b)) <;> first | assumption | omega | (simp only [zH]; omega))) | skip
  refine Zbh ([]) (exA_btr) rfl rfl rfl rfl rfl rfl rfl rfl rfl (by simp only [rinR, rhoC, zE, evp, evx, ev1, evLoad, evStore, evBin, Zaa, forall_const, z38, tb, reduceAdd, reduceSub, reduceMul, reduceEqDiff, reduceLeDiff, reduceLT, Nat.reduceBEq, Nat.reduceBNe, ↓reduceIte, reduceIte, spAz, exS, Zha, Zbs, Zhg, Zhf, Zhi, Zhh]) ?_; intro gm gv gr hq m' e' l' h; simp only [GR.mk.injEq] at hq; obtain ⟨rfl, rfl, rfl⟩ := hq; simp only [rhoC, outR, renR, dels, zE, evp, evx, ev1, evLoad, evStore, evBin, Zaa, forall_const, z38, tb, reduceAdd, reduceSub, reduceMul, reduceEqDiff, reduceLeDiff, reduceLT, Nat.reduceBEq, Nat.reduceBNe, ↓reduceIte, reduceIte, spAz, exS, Zha, Zbs, Zhg, Zhf, Zhi, Zhh] at h; obtain ⟨rfl, rfl, rfl⟩ := h; refine Zab ?_
  refine Zay htb hmz Zfw fF rfl rfl rfl ?_; intro _ _ _ _ h; simp only [zE, evp, evx, ev1, evLoad, evStore, evBin, Zaa, forall_const, z38, tb, reduceAdd, reduceSub, reduceMul, reduceEqDiff, reduceLeDiff, reduceLT, Nat.reduceBEq, Nat.reduceBNe, ↓reduceIte, reduceIte, spAz, exS, Zha, Zbs, Zhg, Zhf, Zhi, Zhh] at h; obtain ⟨rfl, rfl, rfl, rfl⟩ := h; refine ⟨?_, ?_⟩
  · first | ((with_reducible refine Ob.mk ?_); first | exact trivial | (intros; omega) | ((repeat' first | apply And.intro | (intro a; have b := a; try simp only [zH] at b)) <;> first | assumption | omega | (simp only [zH]; omega))) | skip
  refine Zab ?_
  repeat' first
    | with_reducible first | apply Zan | apply Zaj | apply Zab | apply Zac | apply Zag | apply Zal | apply Zaf | apply Zah | apply Zam | apply Zao | apply Zak
    | ((with_reducible refine Zap ?_); refine Zai rfl ?_ ?_ <;> intro hb <;> (try simp only [zH] at hb)) | ((with_reducible refine Zax ?_); (first | refine Zad htb hmz Zfw fF rfl rfl ?_ | refine Zae hmo htb hmz Zfw fF rfl rfl (by kernel_rfl) ?_); intro _ _ _ _ h; simp only [zE, evp, evx, ev1, evLoad, evStore, evBin, Zaa, forall_const, z38, tb, reduceAdd, reduceSub, reduceMul, reduceEqDiff, reduceLeDiff, reduceLT, Nat.reduceBEq, Nat.reduceBNe, ↓reduceIte, reduceIte, spAz, exS, Zha, Zbs, Zhg, Zhf, Zhi, Zhh] at h; obtain ⟨rfl, rfl, rfl, rfl⟩ := h; refine ⟨?_, ?_⟩) | ((with_reducible refine Ob.mk ?_); first | exact trivial | (intros; omega) | ((repeat' first | apply And.intro | (intro a; have b := a; try simp only [zH] at b)) <;> first | assumption | omega | (simp only [zH]; omega)))
  refine Zaw rfl rfl (Zat rfl ?_ rfl)
  rfl
open Go Pl
noncomputable def solS : Spec
  | [.agg (.cons (.roI o) (.cons (.roI p) (.cons (.roII x) .nil))), .agg (.cons (.roI w) (.cons (.roI c) .nil))] => some ⟨Zbd ⟨o, p, x⟩ = true, .bool (solB ⟨o, p, x⟩ w c), none⟩
  | _ => none
noncomputable def spSo : Nat → Option Spec
  | 43 => some Zcv
  | 44 => some folS
  | 35 => some Zb1
  | _ => none
theorem Zbo : SpOK Try.prog spSo := by
  intro f S h
  unfold spSo at h
  split at h
  · cases h; exact claim_ok
  · cases h; exact follow_ok
  · cases h; exact aloneo_ok
  · cases h
set_option maxRecDepth 4000 in
set_option maxHeartbeats 4000000 in
theorem solution_ok : Zby Try.prog 26 solS := by
  refine Za4 htb (fn := Try.f26) (by kernel_rfl) (by kernel_rfl) rfl (fun args r hS => ?_) (fun args r hS hob hl => ?_)
  · unfold solS at hS; split at hS <;> first | (cases hS; done) | (cases hS; exact Nat.le_of_ble_eq_true rfl)
  unfold solS at hS
  split at hS
  case h_2 => cases hS
  rename_i o p x w c
  simp only [Option.some.injEq] at hS
  subst hS
  simp only [lenP, mkL, lim] at hl
  dsimp only at hob
  have hv := hob
  have hV := validB_iff.1 hv
  repeat' first
    | with_reducible first | apply Zan | apply Zaj | apply Zab | apply Zac | apply Zag | apply Zal | apply Zaf | apply Zah | apply Zam | apply Zao | apply Zak
    | ((with_reducible refine Zap ?_); refine Zai rfl ?_ ?_ <;> intro hb <;> (try simp only [zH] at hb)) | ((with_reducible refine Zaq 2 ?_ ?_); (· exact rfl); (with_reducible refine Zaq 3 ?_ ?_); (· exact rfl); (first | refine Zad htb hmz Zbo fF rfl rfl ?_ | refine Zae hmo htb hmz Zbo fF rfl rfl (by kernel_rfl) ?_); intro _ _ _ _ h; simp only [zE, evp, evx, ev1, evLoad, evStore, evBin, Zaa, forall_const, z38, tb, reduceAdd, reduceSub, reduceMul, reduceEqDiff, reduceLeDiff, reduceLT, Nat.reduceBEq, Nat.reduceBNe, ↓reduceIte, reduceIte, spSo, Zcv, folS, Zb1, gmA] at h; obtain ⟨rfl, rfl, rfl, rfl⟩ := h; refine ⟨?_, ?_⟩) | ((with_reducible refine Ob.mk ?_); first | exact trivial | (intros; omega) | ((repeat' first | apply And.intro | (intro a; have b := a; try simp only [zH] at b)) <;> first | assumption | omega | (simp only [zH]; omega)))
  · have e : solB ⟨o, p, x⟩ w c = false := by unfold solB; rw [hb]; rfl
    repeat' first
      | with_reducible first | apply Zan | apply Zaj | apply Zab | apply Zac | apply Zag | apply Zal | apply Zaf | apply Zah | apply Zam | apply Zao | apply Zak
      | ((with_reducible refine Zap ?_); refine Zai rfl ?_ ?_ <;> intro hb <;> (try simp only [zH] at hb)) | ((with_reducible refine Zax ?_); (first | refine Zad htb hmz Zbo fF rfl rfl ?_ | refine Zae hmo htb hmz Zbo fF rfl rfl (by kernel_rfl) ?_); intro _ _ _ _ h; simp only [zE, evp, evx, ev1, evLoad, evStore, evBin, Zaa, forall_const, z38, tb, reduceAdd, reduceSub, reduceMul, reduceEqDiff, reduceLeDiff, reduceLT, Nat.reduceBEq, Nat.reduceBNe, ↓reduceIte, reduceIte, spSo, Zcv, folS, Zb1, gmA] at h; obtain ⟨rfl, rfl, rfl, rfl⟩ := h; refine ⟨?_, ?_⟩) | ((with_reducible refine Ob.mk ?_); first | exact trivial | (intros; omega) | ((repeat' first | apply And.intro | (intro a; have b := a; try simp only [zH] at b)) <;> first | assumption | omega | (simp only [zH]; omega)))
    refine Zaw rfl rfl (Zat rfl ?_ rfl)
    rw [e]; rfl
  have hcb := hb
  clear hb
  have hw := of_decide_eq_true hcb
  have hwl : w.length = o.length := hw.1
  have hcl : c.length = o.length := hw.2.1
  have hcc : ∀ q : Int, ∀ v, v < o.length → w.getD v 0 = q → o.getD v 0 = q → c.getD v 0 ∈ x.getD v [] := fun q => Zg4 hcb
  clear hw
  repeat' first
    | with_reducible first | apply Zan | apply Zaj | apply Zab | apply Zac | apply Zag | apply Zal | apply Zaf | apply Zah | apply Zam | apply Zao | apply Zak
    | ((with_reducible refine Zap ?_); refine Zai rfl ?_ ?_ <;> intro hb <;> (try simp only [zH] at hb)) | ((with_reducible refine Zax ?_); (first | refine Zad htb hmz Zbo fF rfl rfl ?_ | refine Zae hmo htb hmz Zbo fF rfl rfl (by kernel_rfl) ?_); intro _ _ _ _ h; simp only [zE, evp, evx, ev1, evLoad, evStore, evBin, Zaa, forall_const, z38, tb, reduceAdd, reduceSub, reduceMul, reduceEqDiff, reduceLeDiff, reduceLT, Nat.reduceBEq, Nat.reduceBNe, ↓reduceIte, reduceIte, spSo, Zcv, folS, Zb1, gmA] at h; obtain ⟨rfl, rfl, rfl, rfl⟩ := h; refine ⟨?_, ?_⟩) | ((with_reducible refine Ob.mk ?_); first | exact trivial | (intros; omega) | ((repeat' first | apply And.intro | (intro a; have b := a; try simp only [zH] at b)) <;> first | assumption | omega | (simp only [zH]; omega)))
  refine Zau (τ := Nat) (fun i => i ≤ 2 ∧ ∀ q, q < i → slP ⟨o, p, x⟩ w c (q : Int) = true) (fun i => ⟨9, [(14, .int .i64 i), (3, .rop (.agg (.cons (.roI w) (.cons (.roI c) .nil)))), (2, .rop (.agg (.cons (.roI o) (.cons (.roI p) (.cons (.roII x) .nil)))))], [], []⟩) (fun i => 2 - i) 0 [] ?_ ⟨Nat.zero_le _, fun q hq => absurd hq (Nat.not_lt_zero q)⟩ ?_
  · (refine ⟨rfl, ?_, ?_⟩ <;> simp only [zE, evp, evx, ev1, evLoad, evStore, evBin, Zaa, forall_const, z38, tb, reduceAdd, reduceSub, reduceMul, reduceEqDiff, reduceLeDiff, reduceLT, Nat.reduceBEq, Nat.reduceBNe, ↓reduceIte, reduceIte, spSo, Zcv, folS, Zb1, gmA, zI])
  rintro i ⟨hi, hq⟩
  have hcc1 := hcc (i : Int)
  have hso : i < 2 → slP ⟨o, p, x⟩ w c (i : Int) = false → solB ⟨o, p, x⟩ w c = false := fun h hs => by
    have : i = 0 ∨ i = 1 := by omega
    unfold solB
    rcases this with rfl | rfl
    · rw [show slP ⟨o, p, x⟩ w c 0 = false from hs]; simp
    · rw [show slP ⟨o, p, x⟩ w c 1 = false from hs]; simp
  repeat' first
    | with_reducible first | apply Zan | apply Zaj | apply Zab | apply Zac | apply Zag | apply Zal | apply Zaf | apply Zah | apply Zam | apply Zao | apply Zak
    | ((with_reducible refine Zap ?_); refine Zai rfl ?_ ?_ <;> intro hb <;> (try simp only [zH] at hb)) | ((with_reducible refine Zaq 7 ?_ ?_); (· exact rfl); (with_reducible refine Zaq 16 ?_ ?_); (· exact rfl); (first | refine Zad htb hmz Zbo fF rfl rfl ?_ | refine Zae hmo htb hmz Zbo fF rfl rfl (by kernel_rfl) ?_); intro _ _ _ _ h; simp only [zE, evp, evx, ev1, evLoad, evStore, evBin, Zaa, forall_const, z38, tb, reduceAdd, reduceSub, reduceMul, reduceEqDiff, reduceLeDiff, reduceLT, Nat.reduceBEq, Nat.reduceBNe, ↓reduceIte, reduceIte, spSo, Zcv, folS, Zb1, gmA] at h; obtain ⟨rfl, rfl, rfl, rfl⟩ := h; refine ⟨?_, ?_⟩) | ((with_reducible refine Ob.mk ?_); first | exact trivial | (intros; omega) | ((repeat' first | apply And.intro | (intro a; have b := a; try simp only [zH] at b)) <;> first | assumption | omega | (simp only [zH]; omega)))
  · exact Ob.mk ⟨hv, hwl, hcl, hcc1⟩
  · have hi2 : i < 2 := by omega
    have hsp : slP ⟨o, p, x⟩ w c (i : Int) = (cloB ⟨o, p, x⟩ w c (i : Int) && !(Zca (folG ⟨o, p, x⟩ w c (i : Int)) (1 - (i : Int))).any id) := rfl
    have hvf : cloB ⟨o, p, x⟩ w c (i : Int) = true → Zbd (folG ⟨o, p, x⟩ w c (i : Int)) = true := fun h => Ze1 (fol_valid hV hcc1 h)
    repeat' first
      | with_reducible first | apply Zan | apply Zaj | apply Zab | apply Zac | apply Zag | apply Zal | apply Zaf | apply Zah | apply Zam | apply Zao | apply Zak
      | ((with_reducible refine Zap ?_); refine Zai rfl ?_ ?_ <;> intro hb <;> (try simp only [zH] at hb)) | ((with_reducible refine Zaq 8 ?_ ?_); (· exact rfl); (with_reducible refine Zaq 9 ?_ ?_); (· exact rfl); (first | refine Zad htb hmz Zbo fF rfl rfl ?_ | refine Zae hmo htb hmz Zbo fF rfl rfl (by kernel_rfl) ?_); intro _ _ _ _ h; simp only [zE, evp, evx, ev1, evLoad, evStore, evBin, Zaa, forall_const, z38, tb, reduceAdd, reduceSub, reduceMul, reduceEqDiff, reduceLeDiff, reduceLT, Nat.reduceBEq, Nat.reduceBNe, ↓reduceIte, reduceIte, spSo, Zcv, folS, Zb1, gmA] at h; obtain ⟨rfl, rfl, rfl, rfl⟩ := h; refine ⟨?_, ?_⟩) | ((with_reducible refine Ob.mk ?_); first | exact trivial | (intros; omega) | ((repeat' first | apply And.intro | (intro a; have b := a; try simp only [zH] at b)) <;> first | assumption | omega | (simp only [zH]; omega)))
    · rw [hb] at hsp
      have e := hso hi2 hsp
      repeat' first
        | with_reducible first | apply Zan | apply Zaj | apply Zab | apply Zac | apply Zag | apply Zal | apply Zaf | apply Zah | apply Zam | apply Zao | apply Zak
        | ((with_reducible refine Zap ?_); refine Zai rfl ?_ ?_ <;> intro hb <;> (try simp only [zH] at hb)) | ((with_reducible refine Zax ?_); (first | refine Zad htb hmz Zbo fF rfl rfl ?_ | refine Zae hmo htb hmz Zbo fF rfl rfl (by kernel_rfl) ?_); intro _ _ _ _ h; simp only [zE, evp, evx, ev1, evLoad, evStore, evBin, Zaa, forall_const, z38, tb, reduceAdd, reduceSub, reduceMul, reduceEqDiff, reduceLeDiff, reduceLT, Nat.reduceBEq, Nat.reduceBNe, ↓reduceIte, reduceIte, spSo, Zcv, folS, Zb1, gmA] at h; obtain ⟨rfl, rfl, rfl, rfl⟩ := h; refine ⟨?_, ?_⟩) | ((with_reducible refine Ob.mk ?_); first | exact trivial | (intros; omega) | ((repeat' first | apply And.intro | (intro a; have b := a; try simp only [zH] at b)) <;> first | assumption | omega | (simp only [zH]; omega)))
      refine Zaw rfl rfl (Zat rfl ?_ rfl)
      rw [e]; rfl
    have hff : folR ⟨o, p, x⟩ w c (i : Int) = folG ⟨o, p, x⟩ w c (i : Int) := by unfold folR; rw [if_pos hb]
    have hvg := hvf hb
    rw [hb] at hsp
    clear hvf
    rw [hff]
    generalize folG ⟨o, p, x⟩ w c (i : Int) = H at *
    have hAl : (Zca H (1 - (i : Int))).length = H.own.length := by simp [Zca]
    have hHn : H.own.length ≤ 20000 := (validB_iff.1 hvg).1
    clear hff hcc1 hcc
    repeat' first
      | with_reducible first | apply Zan | apply Zaj | apply Zab | apply Zac | apply Zag | apply Zal | apply Zaf | apply Zah | apply Zam | apply Zao | apply Zak
      | ((with_reducible refine Zap ?_); refine Zai rfl ?_ ?_ <;> intro hb <;> (try simp only [zH] at hb)) | ((with_reducible refine Zax ?_); (first | refine Zad htb hmz Zbo fF rfl rfl ?_ | refine Zae hmo htb hmz Zbo fF rfl rfl (by kernel_rfl) ?_); intro _ _ _ _ h; simp only [zE, evp, evx, ev1, evLoad, evStore, evBin, Zaa, forall_const, z38, tb, reduceAdd, reduceSub, reduceMul, reduceEqDiff, reduceLeDiff, reduceLT, Nat.reduceBEq, Nat.reduceBNe, ↓reduceIte, reduceIte, spSo, Zcv, folS, Zb1, gmA] at h; obtain ⟨rfl, rfl, rfl, rfl⟩ := h; refine ⟨?_, ?_⟩) | ((with_reducible refine Ob.mk ?_); first | exact trivial | (intros; omega) | ((repeat' first | apply And.intro | (intro a; have b := a; try simp only [zH] at b)) <;> first | assumption | omega | (simp only [zH]; omega)))
    generalize Zca H (1 - (i : Int)) = A at *
    have hAn : A.length ≤ 20000 := by omega
    refine Zau (τ := Nat) (fun r => r ≤ A.length ∧ ∀ j, j < r → A.getD j false = false) (fun r => ⟨30, [(31, .int .i64 r), (30, .int .i64 A.length), (29, .own 27), (14, .int .i64 i), (3, (.rop (.agg (.cons (.roI w) (.cons (.roI c) .nil))))), (2, (.rop (.agg (.cons (.roI o) (.cons (.roI p) (.cons (.roII x) .nil))))))], [(27, some (.bools A))], []⟩) (fun r => A.length - r) 0 [] ?_ ⟨Nat.zero_le _, fun j hj => absurd hj (Nat.not_lt_zero j)⟩ ?_
    · (refine ⟨rfl, ?_, ?_⟩ <;> simp only [zE, evp, evx, ev1, evLoad, evStore, evBin, Zaa, forall_const, z38, tb, reduceAdd, reduceSub, reduceMul, reduceEqDiff, reduceLeDiff, reduceLT, Nat.reduceBEq, Nat.reduceBNe, ↓reduceIte, reduceIte, spSo, Zcv, folS, Zb1, gmA, zI])
    rintro r ⟨hr, hno⟩
    repeat' first
      | with_reducible first | apply Zan | apply Zaj | apply Zab | apply Zac | apply Zag | apply Zal | apply Zaf | apply Zah | apply Zam | apply Zao | apply Zak
      | ((with_reducible refine Zap ?_); refine Zai rfl ?_ ?_ <;> intro hb <;> (try simp only [zH] at hb)) | ((with_reducible refine Zaq 15 ?_ ?_); (· exact rfl); (first | refine Zad htb hmz Zbo fF rfl rfl ?_ | refine Zae hmo htb hmz Zbo fF rfl rfl (by kernel_rfl) ?_); intro _ _ _ _ h; simp only [zE, evp, evx, ev1, evLoad, evStore, evBin, Zaa, forall_const, z38, tb, reduceAdd, reduceSub, reduceMul, reduceEqDiff, reduceLeDiff, reduceLT, Nat.reduceBEq, Nat.reduceBNe, ↓reduceIte, reduceIte, spSo, Zcv, folS, Zb1, gmA] at h; obtain ⟨rfl, rfl, rfl, rfl⟩ := h; refine ⟨?_, ?_⟩) | ((with_reducible refine Ob.mk ?_); first | exact trivial | (intros; omega) | ((repeat' first | apply And.intro | (intro a; have b := a; try simp only [zH] at b)) <;> first | assumption | omega | (simp only [zH]; omega)))
    · have hsl : slP ⟨o, p, x⟩ w c (i : Int) = false := by
        rw [hsp]
        have : A.any id = true := by
          rw [List.any_eq_true]
          refine ⟨A.getD r false, ?_, hb⟩
          rw [List.getD_eq_getElem?_getD, List.getElem?_eq_getElem (by omega)]; exact List.getElem_mem _
        rw [this]; rfl
      have e := hso hi2 hsl
      repeat' first
        | with_reducible first | apply Zan | apply Zaj | apply Zab | apply Zac | apply Zag | apply Zal | apply Zaf | apply Zah | apply Zam | apply Zao | apply Zak
        | ((with_reducible refine Zap ?_); refine Zai rfl ?_ ?_ <;> intro hb <;> (try simp only [zH] at hb)) | ((with_reducible refine Zax ?_); (first | refine Zad htb hmz Zbo fF rfl rfl ?_ | refine Zae hmo htb hmz Zbo fF rfl rfl (by kernel_rfl) ?_); intro _ _ _ _ h; simp only [zE, evp, evx, ev1, evLoad, evStore, evBin, Zaa, forall_const, z38, tb, reduceAdd, reduceSub, reduceMul, reduceEqDiff, reduceLeDiff, reduceLT, Nat.reduceBEq, Nat.reduceBNe, ↓reduceIte, reduceIte, spSo, Zcv, folS, Zb1, gmA] at h; obtain ⟨rfl, rfl, rfl, rfl⟩ := h; refine ⟨?_, ?_⟩) | ((with_reducible refine Ob.mk ?_); first | exact trivial | (intros; omega) | ((repeat' first | apply And.intro | (intro a; have b := a; try simp only [zH] at b)) <;> first | assumption | omega | (simp only [zH]; omega)))
      refine Zaw rfl rfl (Zat rfl ?_ rfl)
      rw [e]; rfl
    · refine back (r + 1) [] ?_ ⟨by omega, fun j hj => ?_⟩ (by omega)
      · (refine ⟨rfl, ?_, ?_⟩ <;> simp only [zE, evp, evx, ev1, evLoad, evStore, evBin, Zaa, forall_const, z38, tb, reduceAdd, reduceSub, reduceMul, reduceEqDiff, reduceLeDiff, reduceLT, Nat.reduceBEq, Nat.reduceBNe, ↓reduceIte, reduceIte, spSo, Zcv, folS, Zb1, gmA, zI])
      · rcases Nat.lt_succ_iff_lt_or_eq.1 hj with h | rfl
        · exact hno j h
        · exact hb
    have hre : r = A.length := by omega
    subst hre
    have hsl : slP ⟨o, p, x⟩ w c (i : Int) = true := by
      rw [hsp]
      have : A.any id = false := by
        rw [List.any_eq_false]
        intro b hb2 hb3
        obtain ⟨j, hj, e⟩ := List.getElem_of_mem hb2
        have := hno j hj
        rw [List.getD_eq_getElem?_getD, List.getElem?_eq_getElem hj, Option.getD_some, e] at this
        rw [this] at hb3; cases hb3
      rw [this]; rfl
    clear hno hsp
    repeat' first
      | with_reducible first | apply Zan | apply Zaj | apply Zab | apply Zac | apply Zag | apply Zal | apply Zaf | apply Zah | apply Zam | apply Zao | apply Zak
      | ((with_reducible refine Zap ?_); refine Zai rfl ?_ ?_ <;> intro hb <;> (try simp only [zH] at hb)) | ((with_reducible refine Zax ?_); (first | refine Zad htb hmz Zbo fF rfl rfl ?_ | refine Zae hmo htb hmz Zbo fF rfl rfl (by kernel_rfl) ?_); intro _ _ _ _ h; simp only [zE, evp, evx, ev1, evLoad, evStore, evBin, Zaa, forall_const, z38, tb, reduceAdd, reduceSub, reduceMul, reduceEqDiff, reduceLeDiff, reduceLT, Nat.reduceBEq, Nat.reduceBNe, ↓reduceIte, reduceIte, spSo, Zcv, folS, Zb1, gmA] at h; obtain ⟨rfl, rfl, rfl, rfl⟩ := h; refine ⟨?_, ?_⟩) | ((with_reducible refine Ob.mk ?_); first | exact trivial | (intros; omega) | ((repeat' first | apply And.intro | (intro a; have b := a; try simp only [zH] at b)) <;> first | assumption | omega | (simp only [zH]; omega)))
    refine back (i + 1) [] ?_ ⟨by omega, fun q hq2 => ?_⟩ (by omega)
    · (refine ⟨rfl, ?_, ?_⟩ <;> simp only [zE, evp, evx, ev1, evLoad, evStore, evBin, Zaa, forall_const, z38, tb, reduceAdd, reduceSub, reduceMul, reduceEqDiff, reduceLeDiff, reduceLT, Nat.reduceBEq, Nat.reduceBNe, ↓reduceIte, reduceIte, spSo, Zcv, folS, Zb1, gmA, zI])
    · rcases Nat.lt_succ_iff_lt_or_eq.1 hq2 with h | rfl
      · exact hq q h
      · exact hsl
  have hi2 : i = 2 := by omega
  subst hi2
  repeat' first
    | with_reducible first | apply Zan | apply Zaj | apply Zab | apply Zac | apply Zag | apply Zal | apply Zaf | apply Zah | apply Zam | apply Zao | apply Zak
    | ((with_reducible refine Zap ?_); refine Zai rfl ?_ ?_ <;> intro hb <;> (try simp only [zH] at hb)) | ((with_reducible refine Zax ?_); (first | refine Zad htb hmz Zbo fF rfl rfl ?_ | refine Zae hmo htb hmz Zbo fF rfl rfl (by kernel_rfl) ?_); intro _ _ _ _ h; simp only [zE, evp, evx, ev1, evLoad, evStore, evBin, Zaa, forall_const, z38, tb, reduceAdd, reduceSub, reduceMul, reduceEqDiff, reduceLeDiff, reduceLT, Nat.reduceBEq, Nat.reduceBNe, ↓reduceIte, reduceIte, spSo, Zcv, folS, Zb1, gmA] at h; obtain ⟨rfl, rfl, rfl, rfl⟩ := h; refine ⟨?_, ?_⟩) | ((with_reducible refine Ob.mk ?_); first | exact trivial | (intros; omega) | ((repeat' first | apply And.intro | (intro a; have b := a; try simp only [zH] at b)) <;> first | assumption | omega | (simp only [zH]; omega)))
  refine Zaw rfl rfl (Zat rfl ?_ rfl)
  have e : solB ⟨o, p, x⟩ w c = true := by
    unfold solB
    rw [hcb, show slP ⟨o, p, x⟩ w c 0 = true from hq 0 (by decide), show slP ⟨o, p, x⟩ w c 1 = true from hq 1 (by decide)]; rfl
  rw [e]; rfl
open Go Pl
noncomputable def Zf8 : Nat → Option Spec
  | 8 => some fewS
  | 9 => some Zdq
  | 25 => some Za2
  | 26 => some solS
  | 27 => some Ze8
  | 13 => some Zfj
  | _ => none
theorem Zb8 : SpOK Try.prog Zf8 := by
  intro f S h
  unfold Zf8 at h
  split at h
  · cases h; exact few_ok
  · cases h; exact awk15_ok
  · cases h; exact valid12_ok
  · cases h; exact solution_ok
  · cases h; exact wina_ok
  · cases h; exact list_ok
  · cases h
def gmS : Spec
  | [.agg (.cons (.roI o) (.cons (.roI p) (.cons (.roII x) .nil)))] => some ⟨True, .bool true, none⟩
  | _ => none
set_option maxRecDepth 4000 in
set_option maxHeartbeats 4000000 in
theorem isl_ok : Zby Try.prog 7 gmS := by
  refine Za4 htb (fn := Try.f7) (by kernel_rfl) (by kernel_rfl) rfl (fun args r hS => ?_) (fun args r hS hob hl => ?_)
  · unfold gmS at hS; split at hS <;> first | (cases hS; done) | (cases hS; exact Nat.le_of_ble_eq_true rfl)
  unfold gmS at hS
  split at hS
  case h_2 => cases hS
  rename_i o p x
  simp only [Option.some.injEq] at hS
  subst hS
  simp only [lenP, mkL, lim] at hl
  dsimp only at hob
  repeat' first
    | with_reducible first | apply Zan | apply Zaj | apply Zab | apply Zac | apply Zag | apply Zal | apply Zaf | apply Zah | apply Zam | apply Zao | apply Zak
    | ((with_reducible refine Zap ?_); refine Zai rfl ?_ ?_ <;> intro hb <;> (try simp only [zH] at hb)) | ((with_reducible refine Zaq 3 ?_ ?_); (· exact rfl); (first | refine Zad htb hmz Zb8 fF rfl rfl ?_ | refine Zae hmo htb hmz Zb8 fF rfl rfl (by kernel_rfl) ?_); intro _ _ _ _ h; simp only [zE, evp, evx, ev1, evLoad, evStore, evBin, Zaa, forall_const, z38, tb, reduceAdd, reduceSub, reduceMul, reduceEqDiff, reduceLeDiff, reduceLT, Nat.reduceBEq, Nat.reduceBNe, ↓reduceIte, reduceIte, Zf8, fewS, Zdq, Za2, solS, Ze8, Zfj] at h; obtain ⟨rfl, rfl, rfl, rfl⟩ := h; refine ⟨?_, ?_⟩) | ((with_reducible refine Ob.mk ?_); first | exact trivial | (intros; omega) | ((repeat' first | apply And.intro | (intro a; have b := a; try simp only [zH] at b)) <;> first | assumption | omega | (simp only [zH]; omega)))
  · repeat' first
      | with_reducible first | apply Zan | apply Zaj | apply Zab | apply Zac | apply Zag | apply Zal | apply Zaf | apply Zah | apply Zam | apply Zao | apply Zak
      | ((with_reducible refine Zap ?_); refine Zai rfl ?_ ?_ <;> intro hb <;> (try simp only [zH] at hb)) | ((with_reducible refine Zax ?_); (first | refine Zad htb hmz Zb8 fF rfl rfl ?_ | refine Zae hmo htb hmz Zb8 fF rfl rfl (by kernel_rfl) ?_); intro _ _ _ _ h; simp only [zE, evp, evx, ev1, evLoad, evStore, evBin, Zaa, forall_const, z38, tb, reduceAdd, reduceSub, reduceMul, reduceEqDiff, reduceLeDiff, reduceLT, Nat.reduceBEq, Nat.reduceBNe, ↓reduceIte, reduceIte, Zf8, fewS, Zdq, Za2, solS, Ze8, Zfj] at h; obtain ⟨rfl, rfl, rfl, rfl⟩ := h; refine ⟨?_, ?_⟩) | ((with_reducible refine Ob.mk ?_); first | exact trivial | (intros; omega) | ((repeat' first | apply And.intro | (intro a; have b := a; try simp only [zH] at b)) <;> first | assumption | omega | (simp only [zH]; omega)))
    refine Zaw rfl rfl (Zat rfl ?_ rfl)
    rfl
  clear hb
  refine Zc1 ([_]) ([_, _, _, _, _, _]) rfl rfl ?_
  refine Zay htb hmz Zb8 fF rfl rfl rfl ?_; intro _ _ _ _ h; simp only [zE, evp, evx, ev1, evLoad, evStore, evBin, Zaa, forall_const, z38, tb, reduceAdd, reduceSub, reduceMul, reduceEqDiff, reduceLeDiff, reduceLT, Nat.reduceBEq, Nat.reduceBNe, ↓reduceIte, reduceIte, Zf8, fewS, Zdq, Za2, solS, Ze8, Zfj] at h; obtain ⟨rfl, rfl, rfl, rfl⟩ := h; refine ⟨?_, Zab ?_⟩
  · first | ((with_reducible refine Ob.mk ?_); first | exact trivial | (intros; omega) | ((repeat' first | apply And.intro | (intro a; have b := a; try simp only [zH] at b)) <;> first | (with_reducible exact True.intro) | assumption | omega | (simp only [zH]; omega))) | skip
  refine Zbh ([]) (isolve_fg) rfl rfl rfl rfl rfl rfl rfl rfl rfl (by simp only [rinR, rhoC, zE, evp, evx, ev1, evLoad, evStore, evBin, Zaa, forall_const, z38, tb, reduceAdd, reduceSub, reduceMul, reduceEqDiff, reduceLeDiff, reduceLT, Nat.reduceBEq, Nat.reduceBNe, ↓reduceIte, reduceIte, Zf8, fewS, Zdq, Za2, solS, Ze8, Zfj]) ?_; intro gm gv gr hq m' e' l' h; obtain ⟨W, C, e, hZ, hq⟩ := hq; simp only [GR.mk.injEq] at hq; obtain ⟨rfl, rfl, rfl⟩ := hq; simp only [rhoC, outR, renR, dels, zE, evp, evx, ev1, evLoad, evStore, evBin, Zaa, forall_const, z38, tb, reduceAdd, reduceSub, reduceMul, reduceEqDiff, reduceLeDiff, reduceLT, Nat.reduceBEq, Nat.reduceBNe, ↓reduceIte, reduceIte, Zf8, fewS, Zdq, Za2, solS, Ze8, Zfj] at h; obtain ⟨rfl, rfl, rfl⟩ := h; refine Zab ?_
  refine Zay htb hmz Zb8 fF rfl rfl rfl ?_; intro _ _ _ _ h; simp only [zE, evp, evx, ev1, evLoad, evStore, evBin, Zaa, forall_const, z38, tb, reduceAdd, reduceSub, reduceMul, reduceEqDiff, reduceLeDiff, reduceLT, Nat.reduceBEq, Nat.reduceBNe, ↓reduceIte, reduceIte, Zf8, fewS, Zdq, Za2, solS, Ze8, Zfj] at h; obtain ⟨rfl, rfl, rfl, rfl⟩ := h; refine ⟨?_, ?_⟩
  · first | ((with_reducible refine Ob.mk ?_); first | exact trivial | (intros; omega) | ((repeat' first | apply And.intro | (intro a; have b := a; try simp only [zH] at b)) <;> first | (with_reducible exact True.intro) | assumption | omega | (simp only [zH]; omega))) | skip
  refine Zab ?_
  rcases hZ with ⟨hv, rfl, rfl, rfl⟩ | ⟨hv, rfl, rfl, hs⟩
  · repeat' first
      | with_reducible first | apply Zan | apply Zaj | apply Zab | apply Zac | apply Zag | apply Zal | apply Zaf | apply Zah | apply Zam | apply Zao | apply Zak
      | ((with_reducible refine Zap ?_); refine Zai rfl ?_ ?_ <;> intro hb <;> (try simp only [zH] at hb)) | ((with_reducible refine Zaq 5 ?_ ?_); (· exact rfl); (with_reducible refine Zaq 6 ?_ ?_); (· exact rfl); (first | refine Zad htb hmz Zb8 fF rfl rfl ?_ | refine Zae hmo htb hmz Zb8 fF rfl rfl (by kernel_rfl) ?_); intro _ _ _ _ h; simp only [zE, evp, evx, ev1, evLoad, evStore, evBin, Zaa, forall_const, z38, tb, reduceAdd, reduceSub, reduceMul, reduceEqDiff, reduceLeDiff, reduceLT, Nat.reduceBEq, Nat.reduceBNe, ↓reduceIte, reduceIte, Zf8, fewS, Zdq, Za2, solS, Ze8, Zfj] at h; obtain ⟨rfl, rfl, rfl, rfl⟩ := h; refine ⟨?_, ?_⟩) | ((with_reducible refine Ob.mk ?_); first | exact trivial | (intros; omega) | ((repeat' first | apply And.intro | (intro a; have b := a; try simp only [zH] at b)) <;> first | assumption | omega | (simp only [zH]; omega)))
    · repeat' first
        | with_reducible first | apply Zan | apply Zaj | apply Zab | apply Zac | apply Zag | apply Zal | apply Zaf | apply Zah | apply Zam | apply Zao | apply Zak
        | ((with_reducible refine Zap ?_); refine Zai rfl ?_ ?_ <;> intro hb <;> (try simp only [zH] at hb)) | ((with_reducible refine Zax ?_); (first | refine Zad htb hmz Zb8 fF rfl rfl ?_ | refine Zae hmo htb hmz Zb8 fF rfl rfl (by kernel_rfl) ?_); intro _ _ _ _ h; simp only [zE, evp, evx, ev1, evLoad, evStore, evBin, Zaa, forall_const, z38, tb, reduceAdd, reduceSub, reduceMul, reduceEqDiff, reduceLeDiff, reduceLT, Nat.reduceBEq, Nat.reduceBNe, ↓reduceIte, reduceIte, Zf8, fewS, Zdq, Za2, solS, Ze8, Zfj] at h; obtain ⟨rfl, rfl, rfl, rfl⟩ := h; refine ⟨?_, ?_⟩) | ((with_reducible refine Ob.mk ?_); first | exact trivial | (intros; omega) | ((repeat' first | apply And.intro | (intro a; have b := a; try simp only [zH] at b)) <;> first | assumption | omega | (simp only [zH]; omega)))
      refine Zaw rfl rfl (Zat rfl ?_ rfl)
      rfl
    rw [hv] at hb; cases hb
  · repeat' first
      | with_reducible first | apply Zan | apply Zaj | apply Zab | apply Zac | apply Zag | apply Zal | apply Zaf | apply Zah | apply Zam | apply Zao | apply Zak
      | ((with_reducible refine Zap ?_); refine Zai rfl ?_ ?_ <;> intro hb <;> (try simp only [zH] at hb)) | ((with_reducible refine Zaq 5 ?_ ?_); (· exact rfl); (with_reducible refine Zaq 6 ?_ ?_); (· exact rfl); (first | refine Zad htb hmz Zb8 fF rfl rfl ?_ | refine Zae hmo htb hmz Zb8 fF rfl rfl (by kernel_rfl) ?_); intro _ _ _ _ h; simp only [zE, evp, evx, ev1, evLoad, evStore, evBin, Zaa, forall_const, z38, tb, reduceAdd, reduceSub, reduceMul, reduceEqDiff, reduceLeDiff, reduceLT, Nat.reduceBEq, Nat.reduceBNe, ↓reduceIte, reduceIte, Zf8, fewS, Zdq, Za2, solS, Ze8, Zfj] at h; obtain ⟨rfl, rfl, rfl, rfl⟩ := h; refine ⟨?_, ?_⟩) | ((with_reducible refine Ob.mk ?_); first | exact trivial | (intros; omega) | ((repeat' first | apply And.intro | (intro a; have b := a; try simp only [zH] at b)) <;> first | assumption | omega | (simp only [zH]; omega)))
    · rw [hv] at hb; cases hb
    clear hb
    repeat' first
      | with_reducible first | apply Zan | apply Zaj | apply Zab | apply Zac | apply Zag | apply Zal | apply Zaf | apply Zah | apply Zam | apply Zao | apply Zak
      | ((with_reducible refine Zap ?_); refine Zai rfl ?_ ?_ <;> intro hb <;> (try simp only [zH] at hb)) | ((with_reducible refine Zax ?_); (first | refine Zad htb hmz Zb8 fF rfl rfl ?_ | refine Zae hmo htb hmz Zb8 fF rfl rfl (by kernel_rfl) ?_); intro _ _ _ _ h; simp only [zE, evp, evx, ev1, evLoad, evStore, evBin, Zaa, forall_const, z38, tb, reduceAdd, reduceSub, reduceMul, reduceEqDiff, reduceLeDiff, reduceLT, Nat.reduceBEq, Nat.reduceBNe, ↓reduceIte, reduceIte, Zf8, fewS, Zdq, Za2, solS, Ze8, Zfj] at h; obtain ⟨rfl, rfl, rfl, rfl⟩ := h; refine ⟨?_, ?_⟩) | ((with_reducible refine Ob.mk ?_); first | exact trivial | (intros; omega) | ((repeat' first | apply And.intro | (intro a; have b := a; try simp only [zH] at b)) <;> first | assumption | omega | (simp only [zH]; omega)))
    refine Zaw rfl rfl (Zat rfl ?_ rfl)
    show AV.bool _ = AV.bool true
    rw [hs]
open Go Go.ChangeShapes Go.WideShapes Go.ChangeAt Go.RowKit Go.Deep
def old (w : World) : Nat → Prop := fun b => b < w.heap.size
def Zjw {H : Type} (P : Program) (t : Nat) (d : DataW H) : Prop := ∀ n, n ∈ d.weights P t → n ≤ 140737488351232
section
variable {H : Type} {enc : TypeId × Value → H} {P : Program} {w : World} {base : Nat} {spare : Nat → Bool} {held : Bool}
theorem weights_all {e : TypeId} {d : DataW H} : ∀ {l : List (DataW H)}, d ∈ l → ∀ n, n ∈ d.weights P e → n ∈ DataW.weightsAll P e l
  | [], h, _, _ => absurd h List.not_mem_nil
  | x :: l, h, n, hn => by
    simp only [DataW.weightsAll, List.mem_append]
    rcases List.mem_cons.1 h with rfl | h
    · exact .inl hn
    · exact .inr (weights_all h n hn)
theorem cell_lt {a : Addr} {v : Value} (h : w.cell? a = some v) : a.spot = none ∧ a.block < w.heap.size := by
  unfold World.cell? at h
  cases hb : w.heap[a.block]? with
  | none => rw [hb] at h; cases h
  | some o =>
    rw [hb] at h
    refine ⟨?_, (Array.getElem?_eq_some_iff.1 hb).1⟩
    cases o <;> first | (cases h; done) | skip
    dsimp only at h
    split at h
    · cases h
    · rename_i hs; simpa using hs
theorem rd_slice {α : Type} {t e fuel : Nat} {v : Value} {x : DataW H × List MemPlace} (d0 : α) (G : α → List Value → Prop) (ht : P.underlying t = some (.slice e)) (hc : P.cellsOf e = 1) (hB : 8 ≤ P.bytesOf e ∨ 1 ≤ P.bytesOf e)
    (hel : ∀ n c y, DataW.trod enc P w base spare held n e [c] = some y → Zjw P e y.1 → ∃ a, G a [c])
    (h : DataW.trod enc P w base spare held fuel t [v] = some x) (hl : Zjw P t x.1) : ∃ l : List α, Zdy (old w) w 1 l.length (fun j es => G (l.getD j d0) es) [v] := by
  rcases open_slice1 ht hc h with ⟨hcs, _⟩ | ⟨a, len, cap, m, n, V, D, Pl, hcs, hba, hle, hcap, hm, hx, hel2⟩
  · cases hcs
    exact ⟨[], none, 0, rfl, Nat.le_refl _, Nat.zero_le _, fun h => absurd h (Nat.lt_irrefl 0)⟩
  · cases hcs
    subst hx
    have hlm : len ≤ m := by rw [hm]; split <;> omega
    have hex : ∀ i, i < len → ∃ a, G a [V i] := fun i hi => by
      obtain ⟨h1, h2⟩ := hel2 i (by omega)
      refine hel _ _ _ h2 fun k hk => hl k ?_
      simp only [DataW.weights, ht, List.mem_cons, List.mem_append]
      exact .inr (.inl (weights_all (List.mem_map.2 ⟨i, List.mem_range.2 hi, rfl⟩) k hk))
    obtain ⟨F, hF⟩ : ∃ F : Nat → α, ∀ i, i < len → G (F i) [V i] := by
      refine ⟨fun i => if h : i < len then Classical.choose (hex i h) else d0, fun i hi => ?_⟩
      simp only [dif_pos hi]
      exact Classical.choose_spec (hex i hi)
    refine ⟨(List.range len).map F, some a, cap, by simp, by simpa using hle, ?_, fun hn => ?_⟩
    · have := hl ((((List.range len).map D).length + ((List.range (m - len)).map fun j => D (len + j)).length) * P.bytesOf e) (by simp only [DataW.weights, ht]; exact List.mem_cons_self)
      simp only [List.length_map, List.length_range] at this ⊢
      have hb1 : 1 ≤ P.bytesOf e := by omega
      have h3 : len ≤ (len + (m - len)) * P.bytesOf e := Nat.le_trans (Nat.le_add_right _ _) (Nat.le_mul_of_pos_right _ hb1)
      unfold lim; omega
    · simp only [List.length_map, List.length_range] at hn ⊢
      obtain ⟨h0, _⟩ := hel2 0 (by omega)
      obtain ⟨s1, s2⟩ := cell_lt h0
      obtain ⟨b, off, spot⟩ := a
      obtain rfl : spot = none := by simpa [Addr.add] using s1
      refine ⟨b, off, rfl, by simpa [Addr.add, old] using s2, fun j hj => ⟨[V j], ?_, rfl, fun i c hi => ?_⟩⟩
      · have : ((List.range len).map F).getD j d0 = F j := by simp [List.getD_eq_getElem?_getD, hj]
        rw [this]; exact hF j hj
      · cases i with
        | succ i => simp at hi
        | zero =>
          simp only [List.getElem?_cons_zero, Option.some.injEq] at hi
          subst hi
          obtain ⟨h1, _⟩ := hel2 j (by omega)
          rw [← Go.WideShapes.add_plain, Nat.mul_one, Nat.add_zero]; exact h1
theorem Zi3 {t e fuel : Nat} {v : Value} {x : DataW H × List MemPlace} (ht : P.underlying t = some (.slice e)) (he : P.underlying e = some (.int .i64)) (hc : P.cellsOf e = 1) (hB : 1 ≤ P.bytesOf e)
    (h : DataW.trod enc P w base spare held fuel t [v] = some x) (hl : Zjw P t x.1) (ν : Nat → Value) (m : Bool) : ∃ l : List Int, R (old w) w (.roI l) ν m [v] :=
  rd_slice 0 (fun n es => es = [.int .i64 n]) ht hc (.inr hB) (fun n c y hy _ => by
    obtain ⟨k, hk, _⟩ := DataW.trod_int he hy
    exact ⟨k, hk⟩) h hl
theorem rd_intss {t e e2 fuel : Nat} {v : Value} {x : DataW H × List MemPlace} (ht : P.underlying t = some (.slice e)) (hc : P.cellsOf e = 1) (hB : 1 ≤ P.bytesOf e) (he : P.underlying e = some (.slice e2)) (he2 : P.underlying e2 = some (.int .i64)) (hc2 : P.cellsOf e2 = 1) (hB2 : 1 ≤ P.bytesOf e2)
    (h : DataW.trod enc P w base spare held fuel t [v] = some x) (hl : Zjw P t x.1) (ν : Nat → Value) (m : Bool) : ∃ l : List (List Int), R (old w) w (.roII l) ν m [v] :=
  rd_slice [] (fun l es => R (old w) w (.roI l) ν m es) ht hc (.inr hB) (fun n c y hy hl => Zi3 he he2 hc2 hB2 hy hl ν m) h hl
theorem rd_game {r : Reach} {b0 t : Nat} {f0 f1 f2 : Field} {v : Value} {d : DataW H} {p : List MemPlace} (hs : P.underlying t = some (.struct #[f0, f1, f2])) (hone : oneCellFields P #[f0, f1, f2] = true) (hC : P.cellsOf t = 3) (hv : Value.okWide P w r b0 t v) (h : DataW.Trod enc P w base spare held t v d p) (hl : Zjw P t d)
    {e1 e2 : Nat} (h0 : P.underlying f0.type = some (.slice e1)) (h1 : P.underlying f1.type = some (.slice e1)) (h2 : P.underlying f2.type = some (.slice e2)) (he1 : P.underlying e1 = some (.int .i64)) (he2 : P.underlying e2 = some (.slice e1)) (hc1 : P.cellsOf e1 = 1) (hc2 : P.cellsOf e2 = 1) (hB1 : 1 ≤ P.bytesOf e1) (hB2 : 1 ≤ P.bytesOf e2) (ν : Nat → Value) :
    ∃ g : Gm, R (old w) w (gmA g) ν true [v] := by
  obtain ⟨v0, v1, v2, y0, y1, y2, n, rfl, rfl, rfl, t0, t1, t2⟩ := Go.Joins.open_agg3 hs hone hC hv h
  have hw : ∀ k, k ∈ y0.1.weights P f0.type ∨ k ∈ y1.1.weights P f1.type ∨ k ∈ y2.1.weights P f2.type → k ≤ 140737488351232 := fun k hk => hl k (by
    simp only [DataW.weights, hs, DataW.weightsEach, List.mem_append, List.map_cons, List.map_nil, List.not_mem_nil, or_false]
    exact hk)
  obtain ⟨o, ho⟩ := Zi3 h0 he1 hc1 hB1 t0 (fun k hk => hw k (.inl hk)) ν true
  obtain ⟨q, hq⟩ := Zi3 h1 he1 hc1 hB1 t1 (fun k hk => hw k (.inr (.inl hk))) ν true
  obtain ⟨x, hx⟩ := rd_intss h2 hc2 hB2 he2 he1 hc1 hB1 t2 (fun k hk => hw k (.inr (.inr hk))) ν true
  exact ⟨⟨o, q, x⟩, [v0, v1, v2], rfl, v0, [v1, v2], rfl, ho, v1, [v2], rfl, hq, v2, [], rfl, hx, rfl⟩
theorem light_of {ts : List TypeId} {ds : List (DataW H)} (hsz : (DataW.weightsEach P ts ds).all (· ≤ reachBytes) = true) {j t : Nat} {d : DataW H} (ht : ts[j]? = some t) (hd : ds[j]? = some d) : Zjw P t d := fun n hn => by
  have := List.all_eq_true.1 hsz _ (DataW.weights_mem_each ht hd n hn)
  exact of_decide_eq_true this
end
theorem law_calls {P : Program} {f : Nat} {S : Spec} (hS : Zby P f S) {args : List AV} {W : World} {vals : Array Value} (hs : S args = some ⟨True, .bool true, none⟩) (hm : men noK (mkL args) = true) (hr : R (old W) W (mkL args) nu0 true vals.toList) :
    Calls P f vals W fun e W' => e = .returned (.bool true) ∧ Below W.heap.size W W' := by
  have := hS.2 args _ hs trivial hm (old W) (old W) nu0 W vals (fun _ => rfl) hr (Zb0 hm) ⟨fun _ _ => False, fun k b h => by cases h⟩ (fun _ h => h) (fun _ h => h)
  refine CallsIn.calls (F := FF none) (n := 0) (CallsIn.mono (Zdo this) ?_) (fun k d hd => by cases hd)
  rintro e W' ⟨y, Z', ν', v, μ', rs', rfl, hst, _, _, _, hr', _, _, _, rfl, _⟩
  have : y = .bool true := one1 hr'
  subst this
  exact ⟨rfl, hst.ext.os, hst.ext.tape, hst.ext.output, hst.ext.size, fun k hk => hst.ext.block k hk⟩
end Go.Proofs.Ytbcghiagomkadaa.Cal
