/- Own texts, merged. -/
import Derived.Test.YtdhoadhkkecjjaaDoorRows
import Derived.ChangeSame
import Derived.ChangeVars
import Derived.JoinedOf
import Derived.LaidLaws
import Derived.LaidHandle
import Derived.Stop.Joined
import Derived.Test.YtdhoadhkkecjjaaDoorS12
set_option linter.unusedVariables false
set_option linter.unusedSimpArgs false
open Nat (reduceAdd reduceSub reduceMul reduceEqDiff reduceLeDiff reduceLT)
namespace Go.Proofs.YtdhoadhkkecjjaaDoor.Cal
open Go Pl
theorem b47 (a b : Value) (ha : a.cells = #[a]) (hb : b.cells = #[b]) : Tryd.prog.built 47 [(0, a), (1, b)] = some #[a, b] := by
  have h : Tryd.prog.built 47 [(0, a), (1, b)] = Instr.fill (fun i => some (i * 1, 1)) #[.slice none 0 0, .slice none 0 0] [(0, a), (1, b)] := by kernel_rfl
  rw [h]
  simp [Instr.fill, ha, hb]
theorem a47 (w : World) : (Instr.alloc 47 true (Value.tuple #[])).run Tryd.prog w = .ok (.pointer (some ⟨w.heap.size, 0, none⟩)) (w.alloc (.cells #[.slice none 0 0, .slice none 0 0] 47)) := by kernel_rfl
theorem s47 (v : Value) (a : Addr) (w w' : World) (hl : v.cells.size = 2) (h : (storeCells a v.cells.toList).run Tryd.prog w = .ok () w') : (Instr.storeAt 47 (.pointer (some a)) v).run Tryd.prog w = .ok () w' := by
  have hz : (sizeOf 47).run Tryd.prog w = .ok 2 w := by kernel_rfl
  simp [Instr.storeAt, Instr.sureAddr, storeVar, Sem.run_bind, hz, hl, Result.andThen, Sem.run, h]
theorem i47 (c : Nat) (hc : c = 0 ∨ c = 1) (b : Nat) (w : World) : (Instr.indexAt 47 (.pointer (some ⟨b, 0, none⟩)) (.int .i64 c)).run Tryd.prog w = .ok (.pointer (some ⟨b, c, none⟩)) w := by
  rcases hc with rfl | rfl <;> kernel_rfl
noncomputable def spVs : Nat → Option Spec
  | 7 => some Zbe
  | 20 => some metS
  | 21 => some winS
  | _ => none
theorem Za3 : SpOK Tryd.prog spVs := by
  intro f S h
  unfold spVs at h
  split at h
  · cases h; exact fw16_ok
  · cases h; exact met_ok
  · cases h; exact vwin_ok
  · cases h
def mdF (o w c : List Int) (q : Int) (xs : List Int) (u : Nat) : Int := if o.getD u 0 = q ∧ w.getD u 0 = q then c.getD u 0 else xs.getD u 0
set_option maxRecDepth 4000 in
set_option maxHeartbeats 4000000 in
theorem vst_fg {o p w c xs ys : List Int} {v : Int} {x : List (List Int)} : FG Tryd.prog 5 [.agg (.cons (.roI o) (.cons (.roI p) (.cons (.roII x) .nil))), .agg (.cons (.roI w) (.cons (.roI c) .nil)), .roI xs, .roI ys, .int .i64 v] [(0, some glB)] 1 fun g => g = ⟨1, .bool true, [(0, some glB)]⟩ := by
  refine Zhp htb (fn := Tryd.f5) (by kernel_rfl) (by kernel_rfl) rfl (Nat.le_of_ble_eq_true rfl) fun hl => ?_
  simp only [lenP, mkL, lim] at hl
  repeat' first
    | with_reducible first | apply Zar | apply Zan | apply Zaa | apply Zad | apply Zah | apply Zap | apply Zag | apply Zaj | apply Zaq | apply Zas | apply Zao | apply Zal | apply Zac | apply Zak
    | ((with_reducible refine Zai ?_ ?_); exact rfl) | ((with_reducible refine Zat ?_); refine Zam rfl ?_ ?_ <;> intro hb <;> (try simp only [zH] at hb)) | ((with_reducible refine Zay 1 ?_ ?_); (· exact rfl); (first | refine Zae htb hmz Za3 fF rfl rfl ?_ | refine Zaf hmo htb hmz Za3 fF rfl rfl (by kernel_rfl) ?_); intro _ _ _ _ h; simp only [zE, evp, evx, ev1, evLoad, evStore, evBin, evIf, Zab, forall_const, z38, tb, reduceAdd, reduceSub, reduceMul, reduceEqDiff, reduceLeDiff, reduceLT, Nat.reduceBEq, Nat.reduceBNe, ↓reduceIte, reduceIte, spVs, Zbe, metS, winS, Zav, Zax, Zaw, true_and, and_true] at h; obtain ⟨rfl, rfl, rfl, rfl⟩ := h; refine ⟨?_, ?_⟩) | ((with_reducible refine Ob.mk ?_); first | exact trivial | (intros; omega) | ((repeat' first | apply And.intro | (intro a; have b := a; try simp only [zH] at b)) <;> first | assumption | omega | (simp only [zH]; omega)))
  refine Zgk ?_
  refine Zdb htb hmz Za3 (fun _ => false) 0 [] (os := [_, _, _, _]) (post := [_, _, _, _, _, _, _, _, _, _, _, _, _, _, _, _, _, _, _, _, _, _, _, _, _, _, _, _, _]) rfl rfl rfl rfl rfl ?_; intro _ _ _ _ h; simp only [zE, evp, evx, ev1, evLoad, evStore, evBin, evIf, Zab, forall_const, z38, tb, reduceAdd, reduceSub, reduceMul, reduceEqDiff, reduceLeDiff, reduceLT, Nat.reduceBEq, Nat.reduceBNe, ↓reduceIte, reduceIte, spVs, Zbe, metS, winS, Zav, Zax, Zaw, true_and, and_true] at h; obtain ⟨rfl, rfl, rfl, rfl⟩ := h; refine ⟨?_, ?_⟩
  · first | ((with_reducible refine Ob.mk ?_); first | exact trivial | (intros; omega) | ((repeat' first | apply And.intro | (intro a; have b := a; try simp only [zH] at b)) <;> first | assumption | omega | (simp only [zH]; omega))) | skip
  refine awpG_slot 21 _ imp_nilP rfl ?_
  refine Zdb htb hmz Za3 (fun _ => false) 4 [_, _, _, _] (os := [_, _, _, _, _, _, _, _, _, _, _, _, _, _, _, _, _, _, _, _, _, _, _, _, _, _, _, _, _]) (post := []) rfl rfl rfl rfl rfl ?_; intro _ _ _ _ h; simp only [zE, evp, evx, ev1, evLoad, evStore, evBin, evIf, Zab, forall_const, z38, tb, reduceAdd, reduceSub, reduceMul, reduceEqDiff, reduceLeDiff, reduceLT, Nat.reduceBEq, Nat.reduceBNe, ↓reduceIte, reduceIte, spVs, Zbe, metS, winS, Zav, Zax, Zaw, true_and, and_true] at h; obtain ⟨rfl, rfl, rfl, rfl⟩ := h; refine ⟨?_, ?_⟩
  · exact Ob.mk rfl
  refine Zhi ?_
  refine Zaa ?_
  repeat' first
    | with_reducible first | apply Zar | apply Zan | apply Zaa | apply Zad | apply Zah | apply Zap | apply Zag | apply Zaj | apply Zaq | apply Zas | apply Zao | apply Zal | apply Zac | apply Zak
    | ((with_reducible refine Zai ?_ ?_); exact rfl) | ((with_reducible refine Zat ?_); refine Zam rfl ?_ ?_ <;> intro hb <;> (try simp only [zH] at hb)) | ((with_reducible refine Zay 2 ?_ ?_); (· exact rfl); (with_reducible refine Zay 3 ?_ ?_); (· exact rfl); (first | refine Zae htb hmz Za3 fF rfl rfl ?_ | refine Zaf hmo htb hmz Za3 fF rfl rfl (by kernel_rfl) ?_); intro _ _ _ _ h; simp only [zE, evp, evx, ev1, evLoad, evStore, evBin, evIf, Zab, forall_const, z38, tb, reduceAdd, reduceSub, reduceMul, reduceEqDiff, reduceLeDiff, reduceLT, Nat.reduceBEq, Nat.reduceBNe, ↓reduceIte, reduceIte, spVs, Zbe, metS, winS, Zav, Zax, Zaw, true_and, and_true] at h; obtain ⟨rfl, rfl, rfl, rfl⟩ := h; refine ⟨?_, ?_⟩) | ((with_reducible refine Ob.mk ?_); first | exact trivial | (intros; omega) | ((repeat' first | apply And.intro | (intro a; have b := a; try simp only [zH] at b)) <;> first | assumption | omega | (simp only [zH]; omega)))
  · refine Zcc rfl ?_
    refine Zbt (l1 := [_]) (l2 := [_]) ?_
    refine Zbn ([0]) (Zdc) rfl rfl rfl rfl rfl rfl rfl rfl rfl (by simp only [rinR, rhoC, zE, evp, evx, ev1, evLoad, evStore, evBin, evIf, Zab, forall_const, z38, tb, reduceAdd, reduceSub, reduceMul, reduceEqDiff, reduceLeDiff, reduceLT, Nat.reduceBEq, Nat.reduceBNe, ↓reduceIte, reduceIte, spVs, Zbe, metS, winS, Zav, Zax, Zaw, true_and, and_true]) ?_; intro gm gv gr hq m' e' l' h; simp only [GR.mk.injEq] at hq; obtain ⟨rfl, rfl, rfl⟩ := hq; simp only [rhoC, outR, renR, dels, zE, evp, evx, ev1, evLoad, evStore, evBin, evIf, Zab, forall_const, z38, tb, reduceAdd, reduceSub, reduceMul, reduceEqDiff, reduceLeDiff, reduceLT, Nat.reduceBEq, Nat.reduceBNe, ↓reduceIte, reduceIte, spVs, Zbe, metS, winS, Zav, Zax, Zaw, true_and, and_true] at h; obtain ⟨rfl, rfl, rfl⟩ := h; refine Zaa ?_
    refine Za6 htb hmz Za3 fF rfl rfl rfl ?_; intro _ _ _ _ h; simp only [zE, evp, evx, ev1, evLoad, evStore, evBin, evIf, Zab, forall_const, z38, tb, reduceAdd, reduceSub, reduceMul, reduceEqDiff, reduceLeDiff, reduceLT, Nat.reduceBEq, Nat.reduceBNe, ↓reduceIte, reduceIte, spVs, Zbe, metS, winS, Zav, Zax, Zaw, true_and, and_true] at h; obtain ⟨rfl, rfl, rfl, rfl⟩ := h; refine ⟨?_, ?_⟩
    · first | ((with_reducible refine Ob.mk ?_); first | exact trivial | (intros; omega) | ((repeat' first | apply And.intro | (intro a; have b := a; try simp only [zH] at b)) <;> first | assumption | omega | (simp only [zH]; omega))) | skip
    refine Zaa ?_
    repeat' first
      | with_reducible first | apply Zar | apply Zan | apply Zaa | apply Zad | apply Zah | apply Zap | apply Zag | apply Zaj | apply Zaq | apply Zas | apply Zao | apply Zal | apply Zac | apply Zak
      | ((with_reducible refine Zai ?_ ?_); exact rfl) | ((with_reducible refine Zat ?_); refine Zam rfl ?_ ?_ <;> intro hb <;> (try simp only [zH] at hb)) | ((with_reducible refine Za7 ?_); (first | refine Zae htb hmz Za3 fF rfl rfl ?_ | refine Zaf hmo htb hmz Za3 fF rfl rfl (by kernel_rfl) ?_); intro _ _ _ _ h; simp only [zE, evp, evx, ev1, evLoad, evStore, evBin, evIf, Zab, forall_const, z38, tb, reduceAdd, reduceSub, reduceMul, reduceEqDiff, reduceLeDiff, reduceLT, Nat.reduceBEq, Nat.reduceBNe, ↓reduceIte, reduceIte, spVs, Zbe, metS, winS, Zav, Zax, Zaw, true_and, and_true] at h; obtain ⟨rfl, rfl, rfl, rfl⟩ := h; refine ⟨?_, ?_⟩) | ((with_reducible refine Ob.mk ?_); first | exact trivial | (intros; omega) | ((repeat' first | apply And.intro | (intro a; have b := a; try simp only [zH] at b)) <;> first | assumption | omega | (simp only [zH]; omega)))
    refine Zaz rfl rfl (Zc9 ⟨1, .bool true, [(0, some glB)]⟩ [] rfl rfl (Zb0 rfl) ?_)
    simp only [grR, zE, evp, evx, ev1, evLoad, evStore, evBin, evIf, Zab, forall_const, z38, tb, reduceAdd, reduceSub, reduceMul, reduceEqDiff, reduceLeDiff, reduceLT, Nat.reduceBEq, Nat.reduceBNe, ↓reduceIte, reduceIte, spVs, Zbe, metS, winS, Zav, Zax, Zaw, true_and, and_true]
  obtain ⟨⟨⟨⟨_, hxl⟩, hyl⟩, hv0⟩, hvn⟩ := hb
  have hxl : xs.length = o.length := by omega
  have hyl : ys.length = o.length := by omega
  refine Zcc rfl ?_
  refine Zbt (l1 := [_, _]) (l2 := [_, _, _, _, _, _, _]) ?_
  refine Za6 htb hmz Za3 fF rfl rfl rfl ?_; intro _ _ _ _ h; simp only [zE, evp, evx, ev1, evLoad, evStore, evBin, evIf, Zab, forall_const, z38, tb, reduceAdd, reduceSub, reduceMul, reduceEqDiff, reduceLeDiff, reduceLT, Nat.reduceBEq, Nat.reduceBNe, ↓reduceIte, reduceIte, spVs, Zbe, metS, winS, Zav, Zax, Zaw, true_and, and_true] at h; obtain ⟨rfl, rfl, rfl, rfl⟩ := h; refine ⟨?_, Zaa ?_⟩
  · first | ((with_reducible refine Ob.mk ?_); first | exact trivial | (intros; omega) | ((repeat' first | apply And.intro | (intro a; have b := a; try simp only [zH] at b)) <;> first | assumption | omega | (simp only [zH]; omega))) | skip
  refine Zbt (l1 := [_]) (l2 := [_, _, _, _, _, _]) ?_
  refine Zbn ([0]) (Zf0) rfl rfl rfl rfl rfl rfl rfl rfl rfl (by simp only [rinR, rhoC, zE, evp, evx, ev1, evLoad, evStore, evBin, evIf, Zab, forall_const, z38, tb, reduceAdd, reduceSub, reduceMul, reduceEqDiff, reduceLeDiff, reduceLT, Nat.reduceBEq, Nat.reduceBNe, ↓reduceIte, reduceIte, spVs, Zbe, metS, winS, Zav, Zax, Zaw, true_and, and_true]) ?_; intro gm gv gr hq m' e' l' h
  obtain ⟨s1, l1, e1, hQ, hq⟩ := hq
  unfold rsA at hq
  simp only [GR.mk.injEq] at hq; obtain ⟨rfl, rfl, rfl⟩ := hq; simp only [rhoC, outR, renR, dels, zE, evp, evx, ev1, evLoad, evStore, evBin, evIf, Zab, forall_const, z38, tb, reduceAdd, reduceSub, reduceMul, reduceEqDiff, reduceLeDiff, reduceLT, Nat.reduceBEq, Nat.reduceBNe, ↓reduceIte, reduceIte, spVs, Zbe, metS, winS, Zav, Zax, Zaw, true_and, and_true] at h; obtain ⟨rfl, rfl, rfl⟩ := h; refine Zaa ?_
  refine Za6 htb hmz Za3 fF rfl rfl rfl ?_; intro _ _ _ _ h; simp only [zE, evp, evx, ev1, evLoad, evStore, evBin, evIf, Zab, forall_const, z38, tb, reduceAdd, reduceSub, reduceMul, reduceEqDiff, reduceLeDiff, reduceLT, Nat.reduceBEq, Nat.reduceBNe, ↓reduceIte, reduceIte, spVs, Zbe, metS, winS, Zav, Zax, Zaw, true_and, and_true] at h; obtain ⟨rfl, rfl, rfl, rfl⟩ := h; refine ⟨?_, ?_⟩
  · first | ((with_reducible refine Ob.mk ?_); first | exact trivial | (intros; omega) | ((repeat' first | apply And.intro | (intro a; have b := a; try simp only [zH] at b)) <;> first | assumption | omega | (simp only [zH]; omega))) | skip
  refine Zaa ?_
  rcases chk_ok hQ with ⟨rfl, hv, hc, hs, rfl, rfl⟩ | he
  case inr =>
    clear hQ
    repeat' first
      | with_reducible first | apply Zar | apply Zan | apply Zaa | apply Zad | apply Zah | apply Zap | apply Zag | apply Zaj | apply Zaq | apply Zas | apply Zao | apply Zal | apply Zac | apply Zak
      | ((with_reducible refine Zai ?_ ?_); exact rfl) | ((with_reducible refine Zat ?_); refine Zam rfl ?_ ?_ <;> intro hb <;> (try simp only [zH] at hb)) | ((with_reducible refine Zay 5 ?_ ?_); (· exact rfl); (with_reducible refine Zay 6 ?_ ?_); (· exact rfl); (first | refine Zae htb hmz Za3 fF rfl rfl ?_ | refine Zaf hmo htb hmz Za3 fF rfl rfl (by kernel_rfl) ?_); intro _ _ _ _ h; simp only [zE, evp, evx, ev1, evLoad, evStore, evBin, evIf, Zab, forall_const, z38, tb, reduceAdd, reduceSub, reduceMul, reduceEqDiff, reduceLeDiff, reduceLT, Nat.reduceBEq, Nat.reduceBNe, ↓reduceIte, reduceIte, spVs, Zbe, metS, winS, Zav, Zax, Zaw, true_and, and_true] at h; obtain ⟨rfl, rfl, rfl, rfl⟩ := h; refine ⟨?_, ?_⟩) | ((with_reducible refine Ob.mk ?_); first | exact trivial | (intros; omega) | ((repeat' first | apply And.intro | (intro a; have b := a; try simp only [zH] at b)) <;> first | assumption | omega | (simp only [zH]; omega)))
    · refine Zcc rfl ?_
      refine Zbt (l1 := [_]) (l2 := [_]) ?_
      refine Zbn ([0]) (Zdc) rfl rfl rfl rfl rfl rfl rfl rfl rfl (by simp only [rinR, rhoC, zE, evp, evx, ev1, evLoad, evStore, evBin, evIf, Zab, forall_const, z38, tb, reduceAdd, reduceSub, reduceMul, reduceEqDiff, reduceLeDiff, reduceLT, Nat.reduceBEq, Nat.reduceBNe, ↓reduceIte, reduceIte, spVs, Zbe, metS, winS, Zav, Zax, Zaw, true_and, and_true]) ?_; intro gm gv gr hq m' e' l' h; simp only [GR.mk.injEq] at hq; obtain ⟨rfl, rfl, rfl⟩ := hq; simp only [rhoC, outR, renR, dels, zE, evp, evx, ev1, evLoad, evStore, evBin, evIf, Zab, forall_const, z38, tb, reduceAdd, reduceSub, reduceMul, reduceEqDiff, reduceLeDiff, reduceLT, Nat.reduceBEq, Nat.reduceBNe, ↓reduceIte, reduceIte, spVs, Zbe, metS, winS, Zav, Zax, Zaw, true_and, and_true] at h; obtain ⟨rfl, rfl, rfl⟩ := h; refine Zaa ?_
      refine Za6 htb hmz Za3 fF rfl rfl rfl ?_; intro _ _ _ _ h; simp only [zE, evp, evx, ev1, evLoad, evStore, evBin, evIf, Zab, forall_const, z38, tb, reduceAdd, reduceSub, reduceMul, reduceEqDiff, reduceLeDiff, reduceLT, Nat.reduceBEq, Nat.reduceBNe, ↓reduceIte, reduceIte, spVs, Zbe, metS, winS, Zav, Zax, Zaw, true_and, and_true] at h; obtain ⟨rfl, rfl, rfl, rfl⟩ := h; refine ⟨?_, ?_⟩
      · first | ((with_reducible refine Ob.mk ?_); first | exact trivial | (intros; omega) | ((repeat' first | apply And.intro | (intro a; have b := a; try simp only [zH] at b)) <;> first | assumption | omega | (simp only [zH]; omega))) | skip
      refine Zaa ?_
      repeat' first
        | with_reducible first | apply Zar | apply Zan | apply Zaa | apply Zad | apply Zah | apply Zap | apply Zag | apply Zaj | apply Zaq | apply Zas | apply Zao | apply Zal | apply Zac | apply Zak
        | ((with_reducible refine Zai ?_ ?_); exact rfl) | ((with_reducible refine Zat ?_); refine Zam rfl ?_ ?_ <;> intro hb <;> (try simp only [zH] at hb)) | ((with_reducible refine Za7 ?_); (first | refine Zae htb hmz Za3 fF rfl rfl ?_ | refine Zaf hmo htb hmz Za3 fF rfl rfl (by kernel_rfl) ?_); intro _ _ _ _ h; simp only [zE, evp, evx, ev1, evLoad, evStore, evBin, evIf, Zab, forall_const, z38, tb, reduceAdd, reduceSub, reduceMul, reduceEqDiff, reduceLeDiff, reduceLT, Nat.reduceBEq, Nat.reduceBNe, ↓reduceIte, reduceIte, spVs, Zbe, metS, winS, Zav, Zax, Zaw, true_and, and_true] at h; obtain ⟨rfl, rfl, rfl, rfl⟩ := h; refine ⟨?_, ?_⟩) | ((with_reducible refine Ob.mk ?_); first | exact trivial | (intros; omega) | ((repeat' first | apply And.intro | (intro a; have b := a; try simp only [zH] at b)) <;> first | assumption | omega | (simp only [zH]; omega)))
      refine Zaz rfl rfl (Zc9 ⟨1, .bool true, [(0, some glB)]⟩ [] rfl rfl (Zb0 rfl) ?_)
      simp only [grR, zE, evp, evx, ev1, evLoad, evStore, evBin, evIf, Zab, forall_const, z38, tb, reduceAdd, reduceSub, reduceMul, reduceEqDiff, reduceLeDiff, reduceLT, Nat.reduceBEq, Nat.reduceBNe, ↓reduceIte, reduceIte, spVs, Zbe, metS, winS, Zav, Zax, Zaw, true_and, and_true]
    · exact absurd hb he
  clear hQ
  have hG := gok (validB_iff.1 hv)
  have hn : o.length ≤ 20000 := hG.n
  obtain ⟨hwl, hcl, hcc⟩ := of_decide_eq_true hc
  have hwl : w.length = o.length := hwl
  have hcl : c.length = o.length := hcl
  repeat' first
    | with_reducible first | apply Zar | apply Zan | apply Zaa | apply Zad | apply Zah | apply Zap | apply Zag | apply Zaj | apply Zaq | apply Zas | apply Zao | apply Zal | apply Zac | apply Zak
    | ((with_reducible refine Zai ?_ ?_); exact rfl) | ((with_reducible refine Zat ?_); refine Zam rfl ?_ ?_ <;> intro hb <;> (try simp only [zH] at hb)) | ((with_reducible refine Zay 5 ?_ ?_); (· exact rfl); (with_reducible refine Zay 6 ?_ ?_); (· exact rfl); (first | refine Zae htb hmz Za3 fF rfl rfl ?_ | refine Zaf hmo htb hmz Za3 fF rfl rfl (by kernel_rfl) ?_); intro _ _ _ _ h; simp only [zE, evp, evx, ev1, evLoad, evStore, evBin, evIf, Zab, forall_const, z38, tb, reduceAdd, reduceSub, reduceMul, reduceEqDiff, reduceLeDiff, reduceLT, Nat.reduceBEq, Nat.reduceBNe, ↓reduceIte, reduceIte, spVs, Zbe, metS, winS, Zav, Zax, Zaw, true_and, and_true] at h; obtain ⟨rfl, rfl, rfl, rfl⟩ := h; refine ⟨?_, ?_⟩) | ((with_reducible refine Ob.mk ?_); first | exact trivial | (intros; omega) | ((repeat' first | apply And.intro | (intro a; have b := a; try simp only [zH] at b)) <;> first | assumption | omega | (simp only [zH]; omega)))
  · cases hb
  clear hb
  refine Zcc rfl ?_
  refine Zbt (l1 := [_, _, _, _, _, _]) (l2 := [_, _, _]) ?_
  refine Za6 htb hmz Za3 (fun i => Nat.beq i 0 || Nat.beq i 3) rfl rfl rfl ?_; intro _ _ _ _ h; simp only [zE, evp, evx, ev1, evLoad, evStore, evBin, evIf, Zab, forall_const, z38, tb, reduceAdd, reduceSub, reduceMul, reduceEqDiff, reduceLeDiff, reduceLT, Nat.reduceBEq, Nat.reduceBNe, ↓reduceIte, reduceIte, spVs, Zbe, metS, winS, Zav, Zax, Zaw, true_and, and_true] at h; obtain ⟨rfl, rfl, rfl, rfl⟩ := h; refine ⟨?_, Zaa ?_⟩
  · first | ((with_reducible refine Ob.mk ?_); first | exact trivial | (intros; omega) | ((repeat' first | apply And.intro | (intro a; have b := a; try simp only [zH] at b)) <;> first | assumption | omega | (simp only [zH]; omega))) | skip
  refine Zbx (opsem_pair rfl ⟨rfl, rfl⟩ ⟨rfl, rfl⟩ b47) rfl rfl (fun c h => by cases h) Za2 (.inl rfl) rfl ?_
  dsimp only [putE, setW, reduceAdd, opv, lke]
  refine Zbx (opsem_allocX (z := .agg (.cons (.cst (.slice none 0 0)) (.cons (.cst (.slice none 0 0)) .nil))) rfl (fun Z w ν => ⟨_, _, rfl, rfl, _, _, rfl, rfl, rfl⟩) rfl a47 _) rfl rfl (fun c h => by cases h) Za2 (.inr rfl) rfl ?_
  dsimp only [putE, setW, reduceAdd]
  refine Zbx (opsem_store_boxX (n := 2) (off := 0) (k := 54) (u := .agg (.cons (.cst (.slice none 0 0)) (.cons (.cst (.slice none 0 0)) .nil))) rfl s47 (.inl ⟨rfl, rfl⟩) rfl rfl rfl (by decide) rfl rfl (by decide) (fun h => by cases h)) rfl rfl (fun c h => by cases h) (Za5 rfl) (.inl rfl) rfl ?_
  dsimp only [putE, setW, set1, reduceAdd, opv, lke, updv, appL, takeL, dropL, lenL, cellsL]
  refine Zce ?_
  refine Zaa ?_
  obtain ⟨q, hq⟩ : ∃ q, w.getD v.toNat 0 = q := ⟨_, rfl⟩
  repeat' first
    | with_reducible first | apply Zar | apply Zan | apply Zaa | apply Zad | apply Zah | apply Zap | apply Zag | apply Zaj | apply Zaq | apply Zas | apply Zao | apply Zal | apply Zac | apply Zak
    | ((with_reducible refine Zai ?_ ?_); exact rfl) | ((with_reducible refine Zat ?_); refine Zam rfl ?_ ?_ <;> intro hb <;> (try simp only [zH] at hb)) | ((with_reducible refine Zay 8 ?_ ?_); (· exact rfl); (first | refine Zae htb hmz Za3 fF rfl rfl ?_ | refine Zaf hmo htb hmz Za3 fF rfl rfl (by kernel_rfl) ?_); intro _ _ _ _ h; simp only [zE, evp, evx, ev1, evLoad, evStore, evBin, evIf, Zab, forall_const, z38, tb, reduceAdd, reduceSub, reduceMul, reduceEqDiff, reduceLeDiff, reduceLT, Nat.reduceBEq, Nat.reduceBNe, ↓reduceIte, reduceIte, spVs, Zbe, metS, winS, Zav, Zax, Zaw, true_and, and_true] at h; obtain ⟨rfl, rfl, rfl, rfl⟩ := h; refine ⟨?_, ?_⟩) | ((with_reducible refine Ob.mk ?_); first | exact trivial | (intros; omega) | ((repeat' first | apply And.intro | (intro a; have b := a; try simp only [zH] at b)) <;> first | assumption | omega | (simp only [zH]; omega)))
  rw [hq]
  have hmx : mix (mdF o w c q xs) (fun u => xs.getD u 0) o.length 0 = xs := by rw [← hxl]; exact mix_zero
  have hmy : mix (mdF o w c q ys) (fun u => ys.getD u 0) o.length 0 = ys := by rw [← hyl]; exact mix_zero
  have hq01 : q = 0 ∨ q = 1 := by rw [← hq]; exact (hcc v.toNat (by show v.toNat < o.length; omega)).1
  repeat' first
    | with_reducible first | apply Zar | apply Zan | apply Zaa | apply Zad | apply Zah | apply Zap | apply Zag | apply Zaj | apply Zaq | apply Zas | apply Zao | apply Zal | apply Zac | apply Zak
    | ((with_reducible refine Zai ?_ ?_); exact rfl) | ((with_reducible refine Zat ?_); refine Zam rfl ?_ ?_ <;> intro hb <;> (try simp only [zH] at hb)) | ((with_reducible refine Za7 ?_); (first | refine Zae htb hmz Za3 fF rfl rfl ?_ | refine Zaf hmo htb hmz Za3 fF rfl rfl (by kernel_rfl) ?_); intro _ _ _ _ h; simp only [zE, evp, evx, ev1, evLoad, evStore, evBin, evIf, Zab, forall_const, z38, tb, reduceAdd, reduceSub, reduceMul, reduceEqDiff, reduceLeDiff, reduceLT, Nat.reduceBEq, Nat.reduceBNe, ↓reduceIte, reduceIte, spVs, Zbe, metS, winS, Zav, Zax, Zaw, true_and, and_true] at h; obtain ⟨rfl, rfl, rfl, rfl⟩ := h; refine ⟨?_, ?_⟩) | ((with_reducible refine Ob.mk ?_); first | exact trivial | (intros; omega) | ((repeat' first | apply And.intro | (intro a; have b := a; try simp only [zH] at b)) <;> first | assumption | omega | (simp only [zH]; omega)))
  rcases hq01 with rfl | rfl
  · refine Zbc (τ := Nat) (fun i => i ≤ o.length) (fun i => ⟨64, [(78, .int .i64 i), (77, .int .i64 o.length), (14, .int .i64 0), (13, .own 54), (4, .int .i64 v), (6, .rop (.agg (.cons (.roI w) (.cons (.roI c) .nil)))), (5, .rop (.agg (.cons (.roI o) (.cons (.roI p) (.cons (.roII x) .nil)))))], [(0, some glB), (49, some (.ints (mix (mdF o w c 0 xs) (fun u => xs.getD u 0) o.length i))), (52, some (.ints (ys))), (54, some (.box (.agg (.cons (.own 49) (.cons (.own 52) .nil)))))], []⟩) (fun i => o.length - i) 0 [] ?_ (Nat.zero_le _) ?_
    · (refine ⟨rfl, ?_, ?_⟩ <;> simp only [zE, evp, evx, ev1, evLoad, evStore, evBin, evIf, Zab, forall_const, z38, tb, reduceAdd, reduceSub, reduceMul, reduceEqDiff, reduceLeDiff, reduceLT, Nat.reduceBEq, Nat.reduceBNe, ↓reduceIte, reduceIte, spVs, Zbe, metS, winS, Zav, Zax, Zaw, true_and, and_true, zI])
      exact hmx.symm
    intro i hi
    repeat' first
      | with_reducible first | apply Zar | apply Zan | apply Zaa | apply Zad | apply Zah | apply Zap | apply Zag | apply Zaj | apply Zaq | apply Zas | apply Zao | apply Zal | apply Zac | apply Zak
      | ((with_reducible refine Zai ?_ ?_); exact rfl) | ((with_reducible refine Zat ?_); refine Zam rfl ?_ ?_ <;> intro hb <;> (try simp only [zH] at hb)) | ((with_reducible refine Zay 12 ?_ ?_); (· exact rfl); (with_reducible refine Zay 14 ?_ ?_); (· exact rfl); (first | refine Zae htb hmz Za3 fF rfl rfl ?_ | refine Zaf hmo htb hmz Za3 fF rfl rfl (by kernel_rfl) ?_); intro _ _ _ _ h; simp only [zE, evp, evx, ev1, evLoad, evStore, evBin, evIf, Zab, forall_const, z38, tb, reduceAdd, reduceSub, reduceMul, reduceEqDiff, reduceLeDiff, reduceLT, Nat.reduceBEq, Nat.reduceBNe, ↓reduceIte, reduceIte, spVs, Zbe, metS, winS, Zav, Zax, Zaw, true_and, and_true] at h; obtain ⟨rfl, rfl, rfl, rfl⟩ := h; refine ⟨?_, ?_⟩) | ((with_reducible refine Ob.mk ?_); first | exact trivial | (intros; omega) | ((repeat' first | apply And.intro | (intro a; have b := a; try simp only [zH] at b)) <;> first | assumption | omega | (simp only [zH]; omega)))
    · have hil : i < o.length := by omega
      have hfi : mdF o w c 0 xs i = c.getD i 0 := if_pos hb
      have hml : (mix (mdF o w c 0 xs) (fun u => xs.getD u 0) o.length i).length = o.length := Zh3
      have hxl2 : xs.length = o.length := hxl
      have hyl2 : ys.length = o.length := hyl
      have hbu : (AV.agg (.cons (.own 49) (.cons (.own 52) .nil))) = (AV.agg (.cons (.own 49) (.cons (.own 52) .nil))) := rfl
      refine awp_opmid hmo htb hmz Za3 (fun _ => false) [_] [_, _, _, _, _, _, _, _, _] 54 (B := .box (.agg (.cons (.own 49) (.cons (.own 52) .nil)))) (v := .adr 54 0 0 0) [(13, .own 54), (97, .int .i64 0)] rfl rfl rfl rfl rfl rfl (oprun_sem rfl (fun c h => by cases h) fun env h => Zds (c := 0) rfl (h (13, _) List.mem_cons_self) (h (97, _) (List.mem_cons_of_mem _ List.mem_cons_self)) (i47 0 (by decide))) (by kernel_rfl) (by kernel_rfl) ?_
      intro m1 e1 l1 ob1 h
      simp only [zE, evp, evx, ev1, evLoad, evStore, evBin, evIf, Zab, forall_const, z38, tb, reduceAdd, reduceSub, reduceMul, reduceEqDiff, reduceLeDiff, reduceLT, Nat.reduceBEq, Nat.reduceBNe, ↓reduceIte, reduceIte, spVs, Zbe, metS, winS, Zav, Zax, Zaw, true_and, and_true] at h
      obtain ⟨rfl, rfl, rfl, rfl⟩ := h
      refine ⟨?_, ⟨fun p hp => ?_, rfl⟩, ?_⟩
      · first | ((with_reducible refine Ob.mk ?_); first | exact trivial | (intros; omega) | ((repeat' first | apply And.intro | (intro a; have b := a; try simp only [zH] at b)) <;> first | assumption | omega | (simp only [zH]; omega))) | skip
      · simp only [List.mem_cons, List.not_mem_nil, or_false] at hp
        rcases hp with rfl | rfl <;> rfl
      intro m2 e2 l2 ob2 h
      simp only [List.length_cons, List.length_nil, Nat.zero_add, reduceAdd, zE, evp, evx, ev1, evLoad, evStore, evBin, evIf, Zab, forall_const, z38, tb, reduceAdd, reduceSub, reduceMul, reduceEqDiff, reduceLeDiff, reduceLT, Nat.reduceBEq, Nat.reduceBNe, ↓reduceIte, reduceIte, spVs, Zbe, metS, winS, Zav, Zax, Zaw, true_and, and_true] at h
      obtain ⟨rfl, rfl, rfl, rfl⟩ := h
      refine ⟨?_, ?_⟩
      · first | ((with_reducible refine Ob.mk ?_); first | exact trivial | (intros; omega) | ((repeat' first | apply And.intro | (intro a; have b := a; try simp only [zH] at b)) <;> first | assumption | omega | (simp only [zH]; omega))) | skip
      repeat' first
        | with_reducible first | apply Zar | apply Zan | apply Zaa | apply Zad | apply Zah | apply Zap | apply Zag | apply Zaj | apply Zaq | apply Zas | apply Zao | apply Zal | apply Zac | apply Zak
        | ((with_reducible refine Zai ?_ ?_); exact rfl) | ((with_reducible refine Zat ?_); refine Zam rfl ?_ ?_ <;> intro hb <;> (try simp only [zH] at hb)) | ((with_reducible refine Za7 ?_); (first | refine Zae htb hmz Za3 fF rfl rfl ?_ | refine Zaf hmo htb hmz Za3 fF rfl rfl (by kernel_rfl) ?_); intro _ _ _ _ h; simp only [zE, evp, evx, ev1, evLoad, evStore, evBin, evIf, Zab, forall_const, z38, tb, reduceAdd, reduceSub, reduceMul, reduceEqDiff, reduceLeDiff, reduceLT, Nat.reduceBEq, Nat.reduceBNe, ↓reduceIte, reduceIte, spVs, Zbe, metS, winS, Zav, Zax, Zaw, true_and, and_true] at h; obtain ⟨rfl, rfl, rfl, rfl⟩ := h; refine ⟨?_, ?_⟩) | ((with_reducible refine Ob.mk ?_); first | exact trivial | (intros; omega) | ((repeat' first | apply And.intro | (intro a; have b := a; try simp only [zH] at b)) <;> first | assumption | omega | (simp only [zH]; omega)))
      refine back (i + 1) [] ?_ (by omega) (by omega)
      (refine ⟨rfl, ?_, ?_⟩ <;> simp only [zE, evp, evx, ev1, evLoad, evStore, evBin, evIf, Zab, forall_const, z38, tb, reduceAdd, reduceSub, reduceMul, reduceEqDiff, reduceLeDiff, reduceLT, Nat.reduceBEq, Nat.reduceBNe, ↓reduceIte, reduceIte, spVs, Zbe, metS, winS, Zav, Zax, Zaw, true_and, and_true, zI])
      rw [← hfi]
      exact Zh2
    · refine back (i + 1) [] ?_ (by omega) (by omega)
      (refine ⟨rfl, ?_, ?_⟩ <;> simp only [zE, evp, evx, ev1, evLoad, evStore, evBin, evIf, Zab, forall_const, z38, tb, reduceAdd, reduceSub, reduceMul, reduceEqDiff, reduceLeDiff, reduceLT, Nat.reduceBEq, Nat.reduceBNe, ↓reduceIte, reduceIte, spVs, Zbe, metS, winS, Zav, Zax, Zaw, true_and, and_true, zI])
      exact mix_keep (if_neg (by omega))
    · have hie : i = o.length := by omega
      subst hie
      rw [Zh4]
      refine Zdo 49 (.roI ((List.range o.length).map (mdF o w c 0 xs))) (by simp only [Za9, Zbh, fzE, fzA, fzR, fzB, set1, nbeq, reduceEqDiff, decide_true, decide_false, ↓reduceIte, reduceIte, cond_true, cond_false, List.take_length, Option.some.injEq]; rfl) (by first | exact rfl | (refine ⟨?_, rfl⟩; first | rfl | (intros; rfl))) (by simp only [Za9, Zbh, fzE, fzA, fzR, fzB, set1, nbeq, reduceEqDiff, decide_true, decide_false, ↓reduceIte, reduceIte, cond_true, cond_false, List.take_length, Option.some.injEq]; rfl) (by simp only [Za9, Zbh, fzE, fzA, fzR, fzB, set1, nbeq, reduceEqDiff, decide_true, decide_false, ↓reduceIte, reduceIte, cond_true, cond_false, List.take_length, Option.some.injEq]; rfl) ?_
      refine Zdo 52 (.roI ys) (by simp only [Za9, Zbh, fzE, fzA, fzR, fzB, set1, nbeq, reduceEqDiff, decide_true, decide_false, ↓reduceIte, reduceIte, cond_true, cond_false, List.take_length, Option.some.injEq]; rfl) (by first | exact rfl | (refine ⟨?_, rfl⟩; first | rfl | (intros; rfl))) (by simp only [Za9, Zbh, fzE, fzA, fzR, fzB, set1, nbeq, reduceEqDiff, decide_true, decide_false, ↓reduceIte, reduceIte, cond_true, cond_false, List.take_length, Option.some.injEq]; rfl) (by simp only [Za9, Zbh, fzE, fzA, fzR, fzB, set1, nbeq, reduceEqDiff, decide_true, decide_false, ↓reduceIte, reduceIte, cond_true, cond_false, List.take_length, Option.some.injEq]; rfl) ?_
      dsimp only [glB]
      rw [show Blk.sem [] glA = glB from rfl]
      have hmw := fun A' B' h => @met_win ⟨o, p, x⟩ A' B' w c hv hs v.toNat (by show v.toNat < o.length; omega) h
      refine Zcc rfl ?_
      refine Zbt (l1 := [_]) (l2 := [_, _, _, _, _, _, _, _, _, _, _, _]) ?_
      refine Za6 htb hmz Za3 fF rfl rfl rfl ?_; intro _ _ _ _ h; simp only [zE, evp, evx, ev1, evLoad, evStore, evBin, evIf, Zab, forall_const, z38, tb, reduceAdd, reduceSub, reduceMul, reduceEqDiff, reduceLeDiff, reduceLT, Nat.reduceBEq, Nat.reduceBNe, ↓reduceIte, reduceIte, spVs, Zbe, metS, winS, Zav, Zax, Zaw, true_and, and_true] at h; obtain ⟨rfl, rfl, rfl, rfl⟩ := h; refine ⟨?_, Zaa ?_⟩
      · first | ((with_reducible refine Ob.mk ?_); first | exact trivial | (intros; omega) | ((repeat' first | apply And.intro | (intro a; have b := a; try simp only [zH] at b)) <;> first | assumption | omega | (simp only [zH]; omega))) | skip
      refine Zbx (Zds (c := 0) (k := 54) rfl rfl rfl (i47 0 (.inl rfl))) rfl rfl (fun c h => by cases h) (Za5 rfl) (.inl rfl) rfl ?_
      dsimp only [putE, setW, reduceAdd]
      refine Zbt (l1 := [_]) (l2 := [_, _, _, _, _, _, _, _, _, _]) ?_
      refine Za6 htb hmz Za3 fF rfl rfl rfl ?_; intro _ _ _ _ h; simp only [zE, evp, evx, ev1, evLoad, evStore, evBin, evIf, Zab, forall_const, z38, tb, reduceAdd, reduceSub, reduceMul, reduceEqDiff, reduceLeDiff, reduceLT, Nat.reduceBEq, Nat.reduceBNe, ↓reduceIte, reduceIte, spVs, Zbe, metS, winS, Zav, Zax, Zaw, true_and, and_true] at h; obtain ⟨rfl, rfl, rfl, rfl⟩ := h; refine ⟨?_, Zaa ?_⟩
      · first | ((with_reducible refine Ob.mk ?_); first | exact trivial | (intros; omega) | ((repeat' first | apply And.intro | (intro a; have b := a; try simp only [zH] at b)) <;> first | assumption | omega | (simp only [zH]; omega))) | skip
      refine Zbx (Zds (c := 1) (k := 54) rfl rfl rfl (i47 1 (.inr rfl))) rfl rfl (fun c h => by cases h) (Za5 rfl) (.inl rfl) rfl ?_
      dsimp only [putE, setW, reduceAdd]
      refine Za6 htb hmz Za3 fF rfl rfl rfl ?_; intro _ _ _ _ h; simp only [zE, evp, evx, ev1, evLoad, evStore, evBin, evIf, Zab, forall_const, z38, tb, reduceAdd, reduceSub, reduceMul, reduceEqDiff, reduceLeDiff, reduceLT, Nat.reduceBEq, Nat.reduceBNe, ↓reduceIte, reduceIte, spVs, Zbe, metS, winS, Zav, Zax, Zaw, true_and, and_true] at h; obtain ⟨rfl, rfl, rfl, rfl⟩ := h; refine ⟨?_, ?_⟩
      · first | ((with_reducible refine Ob.mk ?_); first | exact trivial | (intros; omega) | ((repeat' first | apply And.intro | (intro a; have b := a; try simp only [zH] at b)) <;> first | (with_reducible exact True.intro) | assumption | omega | (simp only [zH]; omega))) | skip
      refine Zaa ?_
      have hgA : ∀ u, u < o.length → ((List.range o.length).map (mdF o w c 0 xs)).getD u 0 = mdF o w c 0 xs u := fun u hu => by simp [List.getD_eq_getElem?_getD, hu]
      generalize hA : ((List.range o.length).map (mdF o w c 0 xs)) = A at *
      generalize hB : ys = B at *
      have hwin : (metR ⟨o, p, x⟩ A B v).err = 0 → winR ⟨o, p, x⟩ (metR ⟨o, p, x⟩ A B v).stem (metR ⟨o, p, x⟩ A B v).loop = (0, 0) ∧ (metR ⟨o, p, x⟩ A B v).stem.length ≤ o.length ∧ (metR ⟨o, p, x⟩ A B v).loop.length ≤ o.length := fun h => by
        obtain ⟨f0, f1⟩ := met_full h
        have := hmw A B f0 f1 fun u hu ho hw2 => by
          rw [hq] at ho hw2 ⊢
          rw [if_pos rfl]
          rw [hgA u hu]
          exact if_pos ⟨ho, hw2⟩
        rw [hq, Int.toNat_of_nonneg hv0] at this
        exact this
      repeat' first
        | with_reducible first | apply Zar | apply Zan | apply Zaa | apply Zad | apply Zah | apply Zap | apply Zag | apply Zaj | apply Zaq | apply Zas | apply Zao | apply Zal | apply Zac | apply Zak
        | ((with_reducible refine Zai ?_ ?_); exact rfl) | ((with_reducible refine Zat ?_); refine Zam rfl ?_ ?_ <;> intro hb <;> (try simp only [zH] at hb)) | ((with_reducible refine Zay 16 ?_ ?_); (· exact rfl); (with_reducible refine Zay 17 ?_ ?_); (· exact rfl); (first | refine Zae htb hmz Za3 fF rfl rfl ?_ | refine Zaf hmo htb hmz Za3 fF rfl rfl (by kernel_rfl) ?_); intro _ _ _ _ h; simp only [zE, evp, evx, ev1, evLoad, evStore, evBin, evIf, Zab, forall_const, z38, tb, reduceAdd, reduceSub, reduceMul, reduceEqDiff, reduceLeDiff, reduceLT, Nat.reduceBEq, Nat.reduceBNe, ↓reduceIte, reduceIte, spVs, Zbe, metS, winS, Zav, Zax, Zaw, true_and, and_true] at h; obtain ⟨rfl, rfl, rfl, rfl⟩ := h; refine ⟨?_, ?_⟩) | ((with_reducible refine Ob.mk ?_); first | exact trivial | (intros; omega) | ((repeat' first | apply And.intro | (intro a; have b := a; try simp only [zH] at b)) <;> first | assumption | omega | (simp only [zH]; omega)))
      · refine Zcc rfl ?_
        refine Zbt (l1 := [_]) (l2 := [_]) ?_
        refine Zbn ([0]) (Zdc) rfl rfl rfl rfl rfl rfl rfl rfl rfl (by simp only [rinR, rhoC, zE, evp, evx, ev1, evLoad, evStore, evBin, evIf, Zab, forall_const, z38, tb, reduceAdd, reduceSub, reduceMul, reduceEqDiff, reduceLeDiff, reduceLT, Nat.reduceBEq, Nat.reduceBNe, ↓reduceIte, reduceIte, spVs, Zbe, metS, winS, Zav, Zax, Zaw, true_and, and_true]) ?_; intro gm gv gr hq m' e' l' h; simp only [GR.mk.injEq] at hq; obtain ⟨rfl, rfl, rfl⟩ := hq; simp only [rhoC, outR, renR, dels, zE, evp, evx, ev1, evLoad, evStore, evBin, evIf, Zab, forall_const, z38, tb, reduceAdd, reduceSub, reduceMul, reduceEqDiff, reduceLeDiff, reduceLT, Nat.reduceBEq, Nat.reduceBNe, ↓reduceIte, reduceIte, spVs, Zbe, metS, winS, Zav, Zax, Zaw, true_and, and_true] at h; obtain ⟨rfl, rfl, rfl⟩ := h; refine Zaa ?_
        refine Za6 htb hmz Za3 fF rfl rfl rfl ?_; intro _ _ _ _ h; simp only [zE, evp, evx, ev1, evLoad, evStore, evBin, evIf, Zab, forall_const, z38, tb, reduceAdd, reduceSub, reduceMul, reduceEqDiff, reduceLeDiff, reduceLT, Nat.reduceBEq, Nat.reduceBNe, ↓reduceIte, reduceIte, spVs, Zbe, metS, winS, Zav, Zax, Zaw, true_and, and_true] at h; obtain ⟨rfl, rfl, rfl, rfl⟩ := h; refine ⟨?_, ?_⟩
        · first | ((with_reducible refine Ob.mk ?_); first | exact trivial | (intros; omega) | ((repeat' first | apply And.intro | (intro a; have b := a; try simp only [zH] at b)) <;> first | assumption | omega | (simp only [zH]; omega))) | skip
        refine Zaa ?_
        repeat' first
          | with_reducible first | apply Zar | apply Zan | apply Zaa | apply Zad | apply Zah | apply Zap | apply Zag | apply Zaj | apply Zaq | apply Zas | apply Zao | apply Zal | apply Zac | apply Zak
          | ((with_reducible refine Zai ?_ ?_); exact rfl) | ((with_reducible refine Zat ?_); refine Zam rfl ?_ ?_ <;> intro hb <;> (try simp only [zH] at hb)) | ((with_reducible refine Za7 ?_); (first | refine Zae htb hmz Za3 fF rfl rfl ?_ | refine Zaf hmo htb hmz Za3 fF rfl rfl (by kernel_rfl) ?_); intro _ _ _ _ h; simp only [zE, evp, evx, ev1, evLoad, evStore, evBin, evIf, Zab, forall_const, z38, tb, reduceAdd, reduceSub, reduceMul, reduceEqDiff, reduceLeDiff, reduceLT, Nat.reduceBEq, Nat.reduceBNe, ↓reduceIte, reduceIte, spVs, Zbe, metS, winS, Zav, Zax, Zaw, true_and, and_true] at h; obtain ⟨rfl, rfl, rfl, rfl⟩ := h; refine ⟨?_, ?_⟩) | ((with_reducible refine Ob.mk ?_); first | exact trivial | (intros; omega) | ((repeat' first | apply And.intro | (intro a; have b := a; try simp only [zH] at b)) <;> first | assumption | omega | (simp only [zH]; omega)))
        refine Zaz rfl rfl (Zc9 ⟨1, .bool true, [(0, some glB)]⟩ [] rfl rfl (Zb0 rfl) ?_)
        simp only [grR, zE, evp, evx, ev1, evLoad, evStore, evBin, evIf, Zab, forall_const, z38, tb, reduceAdd, reduceSub, reduceMul, reduceEqDiff, reduceLeDiff, reduceLT, Nat.reduceBEq, Nat.reduceBNe, ↓reduceIte, reduceIte, spVs, Zbe, metS, winS, Zav, Zax, Zaw, true_and, and_true]
      obtain ⟨hw0, hl1, hl2⟩ := hwin hb
      clear hb
      repeat' first
        | with_reducible first | apply Zar | apply Zan | apply Zaa | apply Zad | apply Zah | apply Zap | apply Zag | apply Zaj | apply Zaq | apply Zas | apply Zao | apply Zal | apply Zac | apply Zak
        | ((with_reducible refine Zai ?_ ?_); exact rfl) | ((with_reducible refine Zat ?_); refine Zam rfl ?_ ?_ <;> intro hb <;> (try simp only [zH] at hb)) | ((with_reducible refine Zay 18 ?_ ?_); (· exact rfl); (first | refine Zae htb hmz Za3 fF rfl rfl ?_ | refine Zaf hmo htb hmz Za3 fF rfl rfl (by kernel_rfl) ?_); intro _ _ _ _ h; simp only [zE, evp, evx, ev1, evLoad, evStore, evBin, evIf, Zab, forall_const, z38, tb, reduceAdd, reduceSub, reduceMul, reduceEqDiff, reduceLeDiff, reduceLT, Nat.reduceBEq, Nat.reduceBNe, ↓reduceIte, reduceIte, spVs, Zbe, metS, winS, Zav, Zax, Zaw, true_and, and_true] at h; obtain ⟨rfl, rfl, rfl, rfl⟩ := h; refine ⟨?_, ?_⟩) | ((with_reducible refine Ob.mk ?_); first | exact trivial | (intros; omega) | ((repeat' first | apply And.intro | (intro a; have b := a; try simp only [zH] at b)) <;> first | assumption | omega | (simp only [zH]; omega)))
      rw [hw0]
      refine Zgk ?_
      refine Zdb htb hmz Za3 (fun _ => false) 0 [] (os := [_, _, _, _, _, _, _, _]) (post := [_, _, _]) rfl rfl rfl rfl rfl ?_; intro _ _ _ _ h; simp only [zE, evp, evx, ev1, evLoad, evStore, evBin, evIf, Zab, forall_const, z38, tb, reduceAdd, reduceSub, reduceMul, reduceEqDiff, reduceLeDiff, reduceLT, Nat.reduceBEq, Nat.reduceBNe, ↓reduceIte, reduceIte, spVs, Zbe, metS, winS, Zav, Zax, Zaw, true_and, and_true] at h; obtain ⟨rfl, rfl, rfl, rfl⟩ := h; refine ⟨?_, ?_⟩
      · first | ((with_reducible refine Ob.mk ?_); first | exact trivial | (intros; omega) | ((repeat' first | apply And.intro | (intro a; have b := a; try simp only [zH] at b)) <;> first | assumption | omega | (simp only [zH]; omega))) | skip
      refine awpG_yes rfl rfl rfl rfl ?_
      dsimp only [noGd]
      refine Zbn ([0]) (Zdc) rfl rfl rfl rfl rfl rfl rfl rfl rfl (by simp only [rinR, rhoC, zE, evp, evx, ev1, evLoad, evStore, evBin, evIf, Zab, forall_const, z38, tb, reduceAdd, reduceSub, reduceMul, reduceEqDiff, reduceLeDiff, reduceLT, Nat.reduceBEq, Nat.reduceBNe, ↓reduceIte, reduceIte, spVs, Zbe, metS, winS, Zav, Zax, Zaw, true_and, and_true]) ?_; intro gm gv gr hq m' e' l' h; simp only [GR.mk.injEq] at hq; obtain ⟨rfl, rfl, rfl⟩ := hq; simp only [rhoC, outR, renR, dels, zE, evp, evx, ev1, evLoad, evStore, evBin, evIf, Zab, forall_const, z38, tb, reduceAdd, reduceSub, reduceMul, reduceEqDiff, reduceLeDiff, reduceLT, Nat.reduceBEq, Nat.reduceBNe, ↓reduceIte, reduceIte, spVs, Zbe, metS, winS, Zav, Zax, Zaw, true_and, and_true] at h; obtain ⟨rfl, rfl, rfl⟩ := h; refine Zaa ?_
      refine Zdb htb hmz Za3 (fun _ => false) 9 [_, _, _, _, _, _, _, _, _] (os := [_, _]) (post := []) rfl rfl rfl rfl rfl ?_; intro _ _ _ _ h; simp only [zE, evp, evx, ev1, evLoad, evStore, evBin, evIf, Zab, forall_const, z38, tb, reduceAdd, reduceSub, reduceMul, reduceEqDiff, reduceLeDiff, reduceLT, Nat.reduceBEq, Nat.reduceBNe, ↓reduceIte, reduceIte, spVs, Zbe, metS, winS, Zav, Zax, Zaw, true_and, and_true] at h; obtain ⟨rfl, rfl, rfl, rfl⟩ := h; refine ⟨?_, ?_⟩
      · first | ((with_reducible refine Ob.mk ?_); first | exact trivial | (intros; omega) | ((repeat' first | apply And.intro | (intro a; have b := a; try simp only [zH] at b)) <;> first | assumption | omega | (simp only [zH]; omega))) | skip
      refine Zhi ?_
      refine Zaa ?_
      repeat' first
        | with_reducible first | apply Zar | apply Zan | apply Zaa | apply Zad | apply Zah | apply Zap | apply Zag | apply Zaj | apply Zaq | apply Zas | apply Zao | apply Zal | apply Zac | apply Zak
        | ((with_reducible refine Zai ?_ ?_); exact rfl) | ((with_reducible refine Zat ?_); refine Zam rfl ?_ ?_ <;> intro hb <;> (try simp only [zH] at hb)) | ((with_reducible refine Za7 ?_); (first | refine Zae htb hmz Za3 fF rfl rfl ?_ | refine Zaf hmo htb hmz Za3 fF rfl rfl (by kernel_rfl) ?_); intro _ _ _ _ h; simp only [zE, evp, evx, ev1, evLoad, evStore, evBin, evIf, Zab, forall_const, z38, tb, reduceAdd, reduceSub, reduceMul, reduceEqDiff, reduceLeDiff, reduceLT, Nat.reduceBEq, Nat.reduceBNe, ↓reduceIte, reduceIte, spVs, Zbe, metS, winS, Zav, Zax, Zaw, true_and, and_true] at h; obtain ⟨rfl, rfl, rfl, rfl⟩ := h; refine ⟨?_, ?_⟩) | ((with_reducible refine Ob.mk ?_); first | exact trivial | (intros; omega) | ((repeat' first | apply And.intro | (intro a; have b := a; try simp only [zH] at b)) <;> first | assumption | omega | (simp only [zH]; omega)))
      refine Zaz rfl rfl (Zc9 ⟨1, .bool true, [(0, some glB)]⟩ [] rfl rfl (Zb0 rfl) ?_)
      simp only [grR, zE, evp, evx, ev1, evLoad, evStore, evBin, evIf, Zab, forall_const, z38, tb, reduceAdd, reduceSub, reduceMul, reduceEqDiff, reduceLeDiff, reduceLT, Nat.reduceBEq, Nat.reduceBNe, ↓reduceIte, reduceIte, spVs, Zbe, metS, winS, Zav, Zax, Zaw, true_and, and_true]
  · refine Zbc (τ := Nat) (fun i => i ≤ o.length) (fun i => ⟨64, [(78, .int .i64 i), (77, .int .i64 o.length), (14, .int .i64 1), (13, .own 54), (4, .int .i64 v), (6, .rop (.agg (.cons (.roI w) (.cons (.roI c) .nil)))), (5, .rop (.agg (.cons (.roI o) (.cons (.roI p) (.cons (.roII x) .nil)))))], [(0, some glB), (49, some (.ints (xs))), (52, some (.ints (mix (mdF o w c 1 ys) (fun u => ys.getD u 0) o.length i))), (54, some (.box (.agg (.cons (.own 49) (.cons (.own 52) .nil)))))], []⟩) (fun i => o.length - i) 0 [] ?_ (Nat.zero_le _) ?_
    · (refine ⟨rfl, ?_, ?_⟩ <;> simp only [zE, evp, evx, ev1, evLoad, evStore, evBin, evIf, Zab, forall_const, z38, tb, reduceAdd, reduceSub, reduceMul, reduceEqDiff, reduceLeDiff, reduceLT, Nat.reduceBEq, Nat.reduceBNe, ↓reduceIte, reduceIte, spVs, Zbe, metS, winS, Zav, Zax, Zaw, true_and, and_true, zI])
      exact hmy.symm
    intro i hi
    repeat' first
      | with_reducible first | apply Zar | apply Zan | apply Zaa | apply Zad | apply Zah | apply Zap | apply Zag | apply Zaj | apply Zaq | apply Zas | apply Zao | apply Zal | apply Zac | apply Zak
      | ((with_reducible refine Zai ?_ ?_); exact rfl) | ((with_reducible refine Zat ?_); refine Zam rfl ?_ ?_ <;> intro hb <;> (try simp only [zH] at hb)) | ((with_reducible refine Zay 12 ?_ ?_); (· exact rfl); (with_reducible refine Zay 14 ?_ ?_); (· exact rfl); (first | refine Zae htb hmz Za3 fF rfl rfl ?_ | refine Zaf hmo htb hmz Za3 fF rfl rfl (by kernel_rfl) ?_); intro _ _ _ _ h; simp only [zE, evp, evx, ev1, evLoad, evStore, evBin, evIf, Zab, forall_const, z38, tb, reduceAdd, reduceSub, reduceMul, reduceEqDiff, reduceLeDiff, reduceLT, Nat.reduceBEq, Nat.reduceBNe, ↓reduceIte, reduceIte, spVs, Zbe, metS, winS, Zav, Zax, Zaw, true_and, and_true] at h; obtain ⟨rfl, rfl, rfl, rfl⟩ := h; refine ⟨?_, ?_⟩) | ((with_reducible refine Ob.mk ?_); first | exact trivial | (intros; omega) | ((repeat' first | apply And.intro | (intro a; have b := a; try simp only [zH] at b)) <;> first | assumption | omega | (simp only [zH]; omega)))
    · have hil : i < o.length := by omega
      have hfi : mdF o w c 1 ys i = c.getD i 0 := if_pos hb
      have hml : (mix (mdF o w c 1 ys) (fun u => ys.getD u 0) o.length i).length = o.length := Zh3
      have hxl2 : xs.length = o.length := hxl
      have hyl2 : ys.length = o.length := hyl
      have hbu : (AV.agg (.cons (.own 49) (.cons (.own 52) .nil))) = (AV.agg (.cons (.own 49) (.cons (.own 52) .nil))) := rfl
      refine awp_opmid hmo htb hmz Za3 (fun _ => false) [_] [_, _, _, _, _, _, _, _, _] 54 (B := .box (.agg (.cons (.own 49) (.cons (.own 52) .nil)))) (v := .adr 54 0 0 1) [(13, .own 54), (97, .int .i64 1)] rfl rfl rfl rfl rfl rfl (oprun_sem rfl (fun c h => by cases h) fun env h => Zds (c := 1) rfl (h (13, _) List.mem_cons_self) (h (97, _) (List.mem_cons_of_mem _ List.mem_cons_self)) (i47 1 (by decide))) (by kernel_rfl) (by kernel_rfl) ?_
      intro m1 e1 l1 ob1 h
      simp only [zE, evp, evx, ev1, evLoad, evStore, evBin, evIf, Zab, forall_const, z38, tb, reduceAdd, reduceSub, reduceMul, reduceEqDiff, reduceLeDiff, reduceLT, Nat.reduceBEq, Nat.reduceBNe, ↓reduceIte, reduceIte, spVs, Zbe, metS, winS, Zav, Zax, Zaw, true_and, and_true] at h
      obtain ⟨rfl, rfl, rfl, rfl⟩ := h
      refine ⟨?_, ⟨fun p hp => ?_, rfl⟩, ?_⟩
      · first | ((with_reducible refine Ob.mk ?_); first | exact trivial | (intros; omega) | ((repeat' first | apply And.intro | (intro a; have b := a; try simp only [zH] at b)) <;> first | assumption | omega | (simp only [zH]; omega))) | skip
      · simp only [List.mem_cons, List.not_mem_nil, or_false] at hp
        rcases hp with rfl | rfl <;> rfl
      intro m2 e2 l2 ob2 h
      simp only [List.length_cons, List.length_nil, Nat.zero_add, reduceAdd, zE, evp, evx, ev1, evLoad, evStore, evBin, evIf, Zab, forall_const, z38, tb, reduceAdd, reduceSub, reduceMul, reduceEqDiff, reduceLeDiff, reduceLT, Nat.reduceBEq, Nat.reduceBNe, ↓reduceIte, reduceIte, spVs, Zbe, metS, winS, Zav, Zax, Zaw, true_and, and_true] at h
      obtain ⟨rfl, rfl, rfl, rfl⟩ := h
      refine ⟨?_, ?_⟩
      · first | ((with_reducible refine Ob.mk ?_); first | exact trivial | (intros; omega) | ((repeat' first | apply And.intro | (intro a; have b := a; try simp only [zH] at b)) <;> first | assumption | omega | (simp only [zH]; omega))) | skip
      repeat' first
        | with_reducible first | apply Zar | apply Zan | apply Zaa | apply Zad | apply Zah | apply Zap | apply Zag | apply Zaj | apply Zaq | apply Zas | apply Zao | apply Zal | apply Zac | apply Zak
        | ((with_reducible refine Zai ?_ ?_); exact rfl) | ((with_reducible refine Zat ?_); refine Zam rfl ?_ ?_ <;> intro hb <;> (try simp only [zH] at hb)) | ((with_reducible refine Za7 ?_); (first | refine Zae htb hmz Za3 fF rfl rfl ?_ | refine Zaf hmo htb hmz Za3 fF rfl rfl (by kernel_rfl) ?_); intro _ _ _ _ h; simp only [zE, evp, evx, ev1, evLoad, evStore, evBin, evIf, Zab, forall_const, z38, tb, reduceAdd, reduceSub, reduceMul, reduceEqDiff, reduceLeDiff, reduceLT, Nat.reduceBEq, Nat.reduceBNe, ↓reduceIte, reduceIte, spVs, Zbe, metS, winS, Zav, Zax, Zaw, true_and, and_true] at h; obtain ⟨rfl, rfl, rfl, rfl⟩ := h; refine ⟨?_, ?_⟩) | ((with_reducible refine Ob.mk ?_); first | exact trivial | (intros; omega) | ((repeat' first | apply And.intro | (intro a; have b := a; try simp only [zH] at b)) <;> first | assumption | omega | (simp only [zH]; omega)))
      refine back (i + 1) [] ?_ (by omega) (by omega)
      (refine ⟨rfl, ?_, ?_⟩ <;> simp only [zE, evp, evx, ev1, evLoad, evStore, evBin, evIf, Zab, forall_const, z38, tb, reduceAdd, reduceSub, reduceMul, reduceEqDiff, reduceLeDiff, reduceLT, Nat.reduceBEq, Nat.reduceBNe, ↓reduceIte, reduceIte, spVs, Zbe, metS, winS, Zav, Zax, Zaw, true_and, and_true, zI])
      rw [← hfi]
      exact Zh2
    · refine back (i + 1) [] ?_ (by omega) (by omega)
      (refine ⟨rfl, ?_, ?_⟩ <;> simp only [zE, evp, evx, ev1, evLoad, evStore, evBin, evIf, Zab, forall_const, z38, tb, reduceAdd, reduceSub, reduceMul, reduceEqDiff, reduceLeDiff, reduceLT, Nat.reduceBEq, Nat.reduceBNe, ↓reduceIte, reduceIte, spVs, Zbe, metS, winS, Zav, Zax, Zaw, true_and, and_true, zI])
      exact mix_keep (if_neg (by omega))
    · have hie : i = o.length := by omega
      subst hie
      rw [Zh4]
      refine Zdo 49 (.roI xs) (by simp only [Za9, Zbh, fzE, fzA, fzR, fzB, set1, nbeq, reduceEqDiff, decide_true, decide_false, ↓reduceIte, reduceIte, cond_true, cond_false, List.take_length, Option.some.injEq]; rfl) (by first | exact rfl | (refine ⟨?_, rfl⟩; first | rfl | (intros; rfl))) (by simp only [Za9, Zbh, fzE, fzA, fzR, fzB, set1, nbeq, reduceEqDiff, decide_true, decide_false, ↓reduceIte, reduceIte, cond_true, cond_false, List.take_length, Option.some.injEq]; rfl) (by simp only [Za9, Zbh, fzE, fzA, fzR, fzB, set1, nbeq, reduceEqDiff, decide_true, decide_false, ↓reduceIte, reduceIte, cond_true, cond_false, List.take_length, Option.some.injEq]; rfl) ?_
      refine Zdo 52 (.roI ((List.range o.length).map (mdF o w c 1 ys))) (by simp only [Za9, Zbh, fzE, fzA, fzR, fzB, set1, nbeq, reduceEqDiff, decide_true, decide_false, ↓reduceIte, reduceIte, cond_true, cond_false, List.take_length, Option.some.injEq]; rfl) (by first | exact rfl | (refine ⟨?_, rfl⟩; first | rfl | (intros; rfl))) (by simp only [Za9, Zbh, fzE, fzA, fzR, fzB, set1, nbeq, reduceEqDiff, decide_true, decide_false, ↓reduceIte, reduceIte, cond_true, cond_false, List.take_length, Option.some.injEq]; rfl) (by simp only [Za9, Zbh, fzE, fzA, fzR, fzB, set1, nbeq, reduceEqDiff, decide_true, decide_false, ↓reduceIte, reduceIte, cond_true, cond_false, List.take_length, Option.some.injEq]; rfl) ?_
      dsimp only [glB]
      rw [show Blk.sem [] glA = glB from rfl]
      have hmw := fun A' B' h => @met_win ⟨o, p, x⟩ A' B' w c hv hs v.toNat (by show v.toNat < o.length; omega) h
      refine Zcc rfl ?_
      refine Zbt (l1 := [_]) (l2 := [_, _, _, _, _, _, _, _, _, _, _, _]) ?_
      refine Za6 htb hmz Za3 fF rfl rfl rfl ?_; intro _ _ _ _ h; simp only [zE, evp, evx, ev1, evLoad, evStore, evBin, evIf, Zab, forall_const, z38, tb, reduceAdd, reduceSub, reduceMul, reduceEqDiff, reduceLeDiff, reduceLT, Nat.reduceBEq, Nat.reduceBNe, ↓reduceIte, reduceIte, spVs, Zbe, metS, winS, Zav, Zax, Zaw, true_and, and_true] at h; obtain ⟨rfl, rfl, rfl, rfl⟩ := h; refine ⟨?_, Zaa ?_⟩
      · first | ((with_reducible refine Ob.mk ?_); first | exact trivial | (intros; omega) | ((repeat' first | apply And.intro | (intro a; have b := a; try simp only [zH] at b)) <;> first | assumption | omega | (simp only [zH]; omega))) | skip
      refine Zbx (Zds (c := 0) (k := 54) rfl rfl rfl (i47 0 (.inl rfl))) rfl rfl (fun c h => by cases h) (Za5 rfl) (.inl rfl) rfl ?_
      dsimp only [putE, setW, reduceAdd]
      refine Zbt (l1 := [_]) (l2 := [_, _, _, _, _, _, _, _, _, _]) ?_
      refine Za6 htb hmz Za3 fF rfl rfl rfl ?_; intro _ _ _ _ h; simp only [zE, evp, evx, ev1, evLoad, evStore, evBin, evIf, Zab, forall_const, z38, tb, reduceAdd, reduceSub, reduceMul, reduceEqDiff, reduceLeDiff, reduceLT, Nat.reduceBEq, Nat.reduceBNe, ↓reduceIte, reduceIte, spVs, Zbe, metS, winS, Zav, Zax, Zaw, true_and, and_true] at h; obtain ⟨rfl, rfl, rfl, rfl⟩ := h; refine ⟨?_, Zaa ?_⟩
      · first | ((with_reducible refine Ob.mk ?_); first | exact trivial | (intros; omega) | ((repeat' first | apply And.intro | (intro a; have b := a; try simp only [zH] at b)) <;> first | assumption | omega | (simp only [zH]; omega))) | skip
      refine Zbx (Zds (c := 1) (k := 54) rfl rfl rfl (i47 1 (.inr rfl))) rfl rfl (fun c h => by cases h) (Za5 rfl) (.inl rfl) rfl ?_
      dsimp only [putE, setW, reduceAdd]
      refine Za6 htb hmz Za3 fF rfl rfl rfl ?_; intro _ _ _ _ h; simp only [zE, evp, evx, ev1, evLoad, evStore, evBin, evIf, Zab, forall_const, z38, tb, reduceAdd, reduceSub, reduceMul, reduceEqDiff, reduceLeDiff, reduceLT, Nat.reduceBEq, Nat.reduceBNe, ↓reduceIte, reduceIte, spVs, Zbe, metS, winS, Zav, Zax, Zaw, true_and, and_true] at h; obtain ⟨rfl, rfl, rfl, rfl⟩ := h; refine ⟨?_, ?_⟩
      · first | ((with_reducible refine Ob.mk ?_); first | exact trivial | (intros; omega) | ((repeat' first | apply And.intro | (intro a; have b := a; try simp only [zH] at b)) <;> first | (with_reducible exact True.intro) | assumption | omega | (simp only [zH]; omega))) | skip
      refine Zaa ?_
      have hgA : ∀ u, u < o.length → ((List.range o.length).map (mdF o w c 1 ys)).getD u 0 = mdF o w c 1 ys u := fun u hu => by simp [List.getD_eq_getElem?_getD, hu]
      generalize hA : xs = A at *
      generalize hB : ((List.range o.length).map (mdF o w c 1 ys)) = B at *
      have hwin : (metR ⟨o, p, x⟩ A B v).err = 0 → winR ⟨o, p, x⟩ (metR ⟨o, p, x⟩ A B v).stem (metR ⟨o, p, x⟩ A B v).loop = (1, 0) ∧ (metR ⟨o, p, x⟩ A B v).stem.length ≤ o.length ∧ (metR ⟨o, p, x⟩ A B v).loop.length ≤ o.length := fun h => by
        obtain ⟨f0, f1⟩ := met_full h
        have := hmw A B f0 f1 fun u hu ho hw2 => by
          rw [hq] at ho hw2 ⊢
          rw [if_neg (by decide)]
          rw [hgA u hu]
          exact if_pos ⟨ho, hw2⟩
        rw [hq, Int.toNat_of_nonneg hv0] at this
        exact this
      repeat' first
        | with_reducible first | apply Zar | apply Zan | apply Zaa | apply Zad | apply Zah | apply Zap | apply Zag | apply Zaj | apply Zaq | apply Zas | apply Zao | apply Zal | apply Zac | apply Zak
        | ((with_reducible refine Zai ?_ ?_); exact rfl) | ((with_reducible refine Zat ?_); refine Zam rfl ?_ ?_ <;> intro hb <;> (try simp only [zH] at hb)) | ((with_reducible refine Zay 16 ?_ ?_); (· exact rfl); (with_reducible refine Zay 17 ?_ ?_); (· exact rfl); (first | refine Zae htb hmz Za3 fF rfl rfl ?_ | refine Zaf hmo htb hmz Za3 fF rfl rfl (by kernel_rfl) ?_); intro _ _ _ _ h; simp only [zE, evp, evx, ev1, evLoad, evStore, evBin, evIf, Zab, forall_const, z38, tb, reduceAdd, reduceSub, reduceMul, reduceEqDiff, reduceLeDiff, reduceLT, Nat.reduceBEq, Nat.reduceBNe, ↓reduceIte, reduceIte, spVs, Zbe, metS, winS, Zav, Zax, Zaw, true_and, and_true] at h; obtain ⟨rfl, rfl, rfl, rfl⟩ := h; refine ⟨?_, ?_⟩) | ((with_reducible refine Ob.mk ?_); first | exact trivial | (intros; omega) | ((repeat' first | apply And.intro | (intro a; have b := a; try simp only [zH] at b)) <;> first | assumption | omega | (simp only [zH]; omega)))
      · refine Zcc rfl ?_
        refine Zbt (l1 := [_]) (l2 := [_]) ?_
        refine Zbn ([0]) (Zdc) rfl rfl rfl rfl rfl rfl rfl rfl rfl (by simp only [rinR, rhoC, zE, evp, evx, ev1, evLoad, evStore, evBin, evIf, Zab, forall_const, z38, tb, reduceAdd, reduceSub, reduceMul, reduceEqDiff, reduceLeDiff, reduceLT, Nat.reduceBEq, Nat.reduceBNe, ↓reduceIte, reduceIte, spVs, Zbe, metS, winS, Zav, Zax, Zaw, true_and, and_true]) ?_; intro gm gv gr hq m' e' l' h; simp only [GR.mk.injEq] at hq; obtain ⟨rfl, rfl, rfl⟩ := hq; simp only [rhoC, outR, renR, dels, zE, evp, evx, ev1, evLoad, evStore, evBin, evIf, Zab, forall_const, z38, tb, reduceAdd, reduceSub, reduceMul, reduceEqDiff, reduceLeDiff, reduceLT, Nat.reduceBEq, Nat.reduceBNe, ↓reduceIte, reduceIte, spVs, Zbe, metS, winS, Zav, Zax, Zaw, true_and, and_true] at h; obtain ⟨rfl, rfl, rfl⟩ := h; refine Zaa ?_
        refine Za6 htb hmz Za3 fF rfl rfl rfl ?_; intro _ _ _ _ h; simp only [zE, evp, evx, ev1, evLoad, evStore, evBin, evIf, Zab, forall_const, z38, tb, reduceAdd, reduceSub, reduceMul, reduceEqDiff, reduceLeDiff, reduceLT, Nat.reduceBEq, Nat.reduceBNe, ↓reduceIte, reduceIte, spVs, Zbe, metS, winS, Zav, Zax, Zaw, true_and, and_true] at h; obtain ⟨rfl, rfl, rfl, rfl⟩ := h; refine ⟨?_, ?_⟩
        · first | ((with_reducible refine Ob.mk ?_); first | exact trivial | (intros; omega) | ((repeat' first | apply And.intro | (intro a; have b := a; try simp only [zH] at b)) <;> first | assumption | omega | (simp only [zH]; omega))) | skip
        refine Zaa ?_
        repeat' first
          | with_reducible first | apply Zar | apply Zan | apply Zaa | apply Zad | apply Zah | apply Zap | apply Zag | apply Zaj | apply Zaq | apply Zas | apply Zao | apply Zal | apply Zac | apply Zak
          | ((with_reducible refine Zai ?_ ?_); exact rfl) | ((with_reducible refine Zat ?_); refine Zam rfl ?_ ?_ <;> intro hb <;> (try simp only [zH] at hb)) | ((with_reducible refine Za7 ?_); (first | refine Zae htb hmz Za3 fF rfl rfl ?_ | refine Zaf hmo htb hmz Za3 fF rfl rfl (by kernel_rfl) ?_); intro _ _ _ _ h; simp only [zE, evp, evx, ev1, evLoad, evStore, evBin, evIf, Zab, forall_const, z38, tb, reduceAdd, reduceSub, reduceMul, reduceEqDiff, reduceLeDiff, reduceLT, Nat.reduceBEq, Nat.reduceBNe, ↓reduceIte, reduceIte, spVs, Zbe, metS, winS, Zav, Zax, Zaw, true_and, and_true] at h; obtain ⟨rfl, rfl, rfl, rfl⟩ := h; refine ⟨?_, ?_⟩) | ((with_reducible refine Ob.mk ?_); first | exact trivial | (intros; omega) | ((repeat' first | apply And.intro | (intro a; have b := a; try simp only [zH] at b)) <;> first | assumption | omega | (simp only [zH]; omega)))
        refine Zaz rfl rfl (Zc9 ⟨1, .bool true, [(0, some glB)]⟩ [] rfl rfl (Zb0 rfl) ?_)
        simp only [grR, zE, evp, evx, ev1, evLoad, evStore, evBin, evIf, Zab, forall_const, z38, tb, reduceAdd, reduceSub, reduceMul, reduceEqDiff, reduceLeDiff, reduceLT, Nat.reduceBEq, Nat.reduceBNe, ↓reduceIte, reduceIte, spVs, Zbe, metS, winS, Zav, Zax, Zaw, true_and, and_true]
      obtain ⟨hw0, hl1, hl2⟩ := hwin hb
      clear hb
      repeat' first
        | with_reducible first | apply Zar | apply Zan | apply Zaa | apply Zad | apply Zah | apply Zap | apply Zag | apply Zaj | apply Zaq | apply Zas | apply Zao | apply Zal | apply Zac | apply Zak
        | ((with_reducible refine Zai ?_ ?_); exact rfl) | ((with_reducible refine Zat ?_); refine Zam rfl ?_ ?_ <;> intro hb <;> (try simp only [zH] at hb)) | ((with_reducible refine Zay 18 ?_ ?_); (· exact rfl); (first | refine Zae htb hmz Za3 fF rfl rfl ?_ | refine Zaf hmo htb hmz Za3 fF rfl rfl (by kernel_rfl) ?_); intro _ _ _ _ h; simp only [zE, evp, evx, ev1, evLoad, evStore, evBin, evIf, Zab, forall_const, z38, tb, reduceAdd, reduceSub, reduceMul, reduceEqDiff, reduceLeDiff, reduceLT, Nat.reduceBEq, Nat.reduceBNe, ↓reduceIte, reduceIte, spVs, Zbe, metS, winS, Zav, Zax, Zaw, true_and, and_true] at h; obtain ⟨rfl, rfl, rfl, rfl⟩ := h; refine ⟨?_, ?_⟩) | ((with_reducible refine Ob.mk ?_); first | exact trivial | (intros; omega) | ((repeat' first | apply And.intro | (intro a; have b := a; try simp only [zH] at b)) <;> first | assumption | omega | (simp only [zH]; omega)))
      rw [hw0]
      refine Zgk ?_
      refine Zdb htb hmz Za3 (fun _ => false) 0 [] (os := [_, _, _, _, _, _, _, _]) (post := [_, _, _]) rfl rfl rfl rfl rfl ?_; intro _ _ _ _ h; simp only [zE, evp, evx, ev1, evLoad, evStore, evBin, evIf, Zab, forall_const, z38, tb, reduceAdd, reduceSub, reduceMul, reduceEqDiff, reduceLeDiff, reduceLT, Nat.reduceBEq, Nat.reduceBNe, ↓reduceIte, reduceIte, spVs, Zbe, metS, winS, Zav, Zax, Zaw, true_and, and_true] at h; obtain ⟨rfl, rfl, rfl, rfl⟩ := h; refine ⟨?_, ?_⟩
      · first | ((with_reducible refine Ob.mk ?_); first | exact trivial | (intros; omega) | ((repeat' first | apply And.intro | (intro a; have b := a; try simp only [zH] at b)) <;> first | assumption | omega | (simp only [zH]; omega))) | skip
      refine awpG_yes rfl rfl rfl rfl ?_
      dsimp only [noGd]
      refine Zbn ([0]) (Zdc) rfl rfl rfl rfl rfl rfl rfl rfl rfl (by simp only [rinR, rhoC, zE, evp, evx, ev1, evLoad, evStore, evBin, evIf, Zab, forall_const, z38, tb, reduceAdd, reduceSub, reduceMul, reduceEqDiff, reduceLeDiff, reduceLT, Nat.reduceBEq, Nat.reduceBNe, ↓reduceIte, reduceIte, spVs, Zbe, metS, winS, Zav, Zax, Zaw, true_and, and_true]) ?_; intro gm gv gr hq m' e' l' h; simp only [GR.mk.injEq] at hq; obtain ⟨rfl, rfl, rfl⟩ := hq; simp only [rhoC, outR, renR, dels, zE, evp, evx, ev1, evLoad, evStore, evBin, evIf, Zab, forall_const, z38, tb, reduceAdd, reduceSub, reduceMul, reduceEqDiff, reduceLeDiff, reduceLT, Nat.reduceBEq, Nat.reduceBNe, ↓reduceIte, reduceIte, spVs, Zbe, metS, winS, Zav, Zax, Zaw, true_and, and_true] at h; obtain ⟨rfl, rfl, rfl⟩ := h; refine Zaa ?_
      refine Zdb htb hmz Za3 (fun _ => false) 9 [_, _, _, _, _, _, _, _, _] (os := [_, _]) (post := []) rfl rfl rfl rfl rfl ?_; intro _ _ _ _ h; simp only [zE, evp, evx, ev1, evLoad, evStore, evBin, evIf, Zab, forall_const, z38, tb, reduceAdd, reduceSub, reduceMul, reduceEqDiff, reduceLeDiff, reduceLT, Nat.reduceBEq, Nat.reduceBNe, ↓reduceIte, reduceIte, spVs, Zbe, metS, winS, Zav, Zax, Zaw, true_and, and_true] at h; obtain ⟨rfl, rfl, rfl, rfl⟩ := h; refine ⟨?_, ?_⟩
      · first | ((with_reducible refine Ob.mk ?_); first | exact trivial | (intros; omega) | ((repeat' first | apply And.intro | (intro a; have b := a; try simp only [zH] at b)) <;> first | assumption | omega | (simp only [zH]; omega))) | skip
      refine Zhi ?_
      refine Zaa ?_
      repeat' first
        | with_reducible first | apply Zar | apply Zan | apply Zaa | apply Zad | apply Zah | apply Zap | apply Zag | apply Zaj | apply Zaq | apply Zas | apply Zao | apply Zal | apply Zac | apply Zak
        | ((with_reducible refine Zai ?_ ?_); exact rfl) | ((with_reducible refine Zat ?_); refine Zam rfl ?_ ?_ <;> intro hb <;> (try simp only [zH] at hb)) | ((with_reducible refine Za7 ?_); (first | refine Zae htb hmz Za3 fF rfl rfl ?_ | refine Zaf hmo htb hmz Za3 fF rfl rfl (by kernel_rfl) ?_); intro _ _ _ _ h; simp only [zE, evp, evx, ev1, evLoad, evStore, evBin, evIf, Zab, forall_const, z38, tb, reduceAdd, reduceSub, reduceMul, reduceEqDiff, reduceLeDiff, reduceLT, Nat.reduceBEq, Nat.reduceBNe, ↓reduceIte, reduceIte, spVs, Zbe, metS, winS, Zav, Zax, Zaw, true_and, and_true] at h; obtain ⟨rfl, rfl, rfl, rfl⟩ := h; refine ⟨?_, ?_⟩) | ((with_reducible refine Ob.mk ?_); first | exact trivial | (intros; omega) | ((repeat' first | apply And.intro | (intro a; have b := a; try simp only [zH] at b)) <;> first | assumption | omega | (simp only [zH]; omega)))
      refine Zaz rfl rfl (Zc9 ⟨1, .bool true, [(0, some glB)]⟩ [] rfl rfl (Zb0 rfl) ?_)
      simp only [grR, zE, evp, evx, ev1, evLoad, evStore, evBin, evIf, Zab, forall_const, z38, tb, reduceAdd, reduceSub, reduceMul, reduceEqDiff, reduceLeDiff, reduceLT, Nat.reduceBEq, Nat.reduceBNe, ↓reduceIte, reduceIte, spVs, Zbe, metS, winS, Zav, Zax, Zaw, true_and, and_true]
open Go Go.ChangeShapes Go.WideShapes Go.ChangeAt Go.RowKit Go.Deep
def ldL : List (String × DataW Unit) := [("errors.errorType", Rows.laid_errors_errorType)]
theorem etN : Tryd.prog.globalNamed "errors.errorType" = some 0 := by kernel_rfl
theorem rtN : (Tryd.prog.cutTypes.find? (·.1 == "internal/reflectlite.rtype")).map (·.2) = some 105 := by kernel_rfl
theorem tySize : Tryd.prog.types.size = 153 := by kernel_rfl
theorem oneRow : ((List.range 153).filter fun t => Tryd.prog.rowNamed t [101, 114, 114, 111, 114]) = [68] := by kernel_rfl
theorem handle_of_laid {W : World} (h : laidMetH Tryd.prog ldL W) : W.cell? ⟨0, 0, none⟩ = some (.iface 105 (.agg #[.pointer (some ⟨1, 68, none⟩)])) := by
  have h' : laidMet Tryd.prog [] W ∧ handlesMet Tryd.prog ldL W := h
  obtain ⟨name, u, ty, e1, e2, e3, e4, e5⟩ := h'.2 _ (List.mem_singleton.2 rfl)
  have en : name = [101, 114, 114, 111, 114] := (Option.some.inj e1).symm
  subst en
  obtain rfl := Option.some.inj (rtN.symm.trans e2)
  have hm : ty ∈ (List.range 153).filter fun t => Tryd.prog.rowNamed t [101, 114, 114, 111, 114] := List.mem_filter.2 ⟨List.mem_range.2 (by rw [← tySize]; exact e3), e4⟩
  rw [oneRow] at hm
  obtain rfl := List.mem_singleton.1 hm
  have hh : typeHandle Tryd.prog 68 = .pointer (some ⟨1, 68, none⟩) := by kernel_rfl
  rw [hh] at e5
  simpa using World.var?_cell etN e5 0
noncomputable def laidWorld (os : Os) : World :=
  let w0 := World.holding Tryd.prog os ⟨#[], #[], []⟩
  { w0 with heap := w0.heap.modify 0 fun
      | .cells _ t frozen => .cells #[.iface 105 (.agg #[.pointer (some ⟨1, 68, none⟩)])] t frozen
      | o => o }
theorem laidWorld_met (os : Os) (args : Array Value) : laidMetH Tryd.prog ldL ((laidWorld os).forCall (fun _ _ => 0) ⟨#[], args, []⟩).memory :=
  laidMetH_of_parts (laidMet_nil _ _) (by kernel_rfl)
def twA (q : List Int × List Int) : AV := .agg (.cons (.roI q.1) (.cons (.roI q.2) .nil))
theorem rd_two {H : Type} {enc : TypeId × Value → H} {P : Program} {w : World} {base : Nat} {spare : Nat → Bool} {held : Bool} {r : Reach} {b0 t : Nat} {f0 f1 : Field} {v : Value} {d : DataW H} {p : List MemPlace} (hs : P.underlying t = some (.struct #[f0, f1])) (hone : oneCellFields P #[f0, f1] = true) (hC : P.cellsOf t = 2) (hv : Value.okWide P w r b0 t v) (h : DataW.Trod enc P w base spare held t v d p) (hl : Zh7 P t d)
    {e1 : Nat} (h0 : P.underlying f0.type = some (.slice e1)) (h1 : P.underlying f1.type = some (.slice e1)) (he1 : P.underlying e1 = some (.int .i64)) (hc1 : P.cellsOf e1 = 1) (hB1 : 1 ≤ P.bytesOf e1) : ∃ m : List Int × List Int, R (old w) w (twA m) nu0 true [v] := by
  obtain ⟨v0, v1, y0, y1, n, rfl, rfl, rfl, t0, t1⟩ := Go.Joins.open_agg2 hs hone hC hv h
  have hw : ∀ k, k ∈ y0.1.weights P f0.type ∨ k ∈ y1.1.weights P f1.type → k ≤ 140737488351232 := fun k hk => hl k (by
    simp only [DataW.weights, hs, DataW.weightsEach, List.mem_append, List.map_cons, List.map_nil, List.not_mem_nil, or_false]
    exact hk)
  obtain ⟨o, ho⟩ := Zeq h0 he1 hc1 hB1 t0 (fun k hk => hw k (.inl hk)) nu0 true
  obtain ⟨q, hq⟩ := Zeq h1 he1 hc1 hB1 t1 (fun k hk => hw k (.inr hk)) nu0 true
  exact ⟨(o, q), [v0, v1], rfl, v0, [v1], rfl, ho, v1, [], rfl, hq, rfl⟩
theorem law_callsG {f : Nat} {args : List AV} {W : World} {vals : Array Value} (hS : FG Tryd.prog f args [(0, some glB)] 1 fun g => g = ⟨1, .bool true, [(0, some glB)]⟩) (hm : men noK (mkL args) = true) (hgl : W.cell? ⟨0, 0, none⟩ = some (.iface 105 (.agg #[.pointer (some ⟨1, 68, none⟩)]))) (hr : R (old W) W (mkL args) nu0 true vals.toList) :
    Calls Tryd.prog f vals W fun e W' => e = .returned (.bool true) ∧ Below W.heap.size W W' := by
  have h0 : 0 < W.heap.size := by
    unfold World.cell? at hgl
    rcases Nat.lt_or_ge 0 W.heap.size with h | h
    · exact h
    · rw [Array.getElem?_eq_none h] at hgl; cases hgl
  have := hS.2 (old W) (old W) nu0 W vals (fun _ => rfl) hr (Zb1 hm) ⟨fun _ _ => False, fun k b h => ?_⟩ (fun _ h => h) (fun _ h => h)
  · refine CallsIn.calls (F := FF none) (n := 0) (CallsIn.mono (Zd0 this) ?_) (fun k d hd => by cases hd)
    rintro e W' ⟨y, Z', ν', v, μ', rs', rfl, hst, _, _, _, hr', _, _, _, g, rfl, rfl, _⟩
    have : y = .bool true := one1 hr'
    subst this
    exact ⟨rfl, hst.ext.os, hst.ext.tape, hst.ext.output, hst.ext.size, fun k hk => hst.ext.block k hk⟩
  · rw [Za9] at h
    by_cases e : k = 0
    · subst e
      rw [if_pos rfl] at h
      cases h
      refine ⟨rfl, (fun k hk => by cases hk), fun Z' w' hZ hw => ⟨fun y hy => hy, hZ 0 h0, ?_⟩, fun x hx => hx.elim, fun k' b' hne hk' x hx => hx.elim⟩
      exact (World.cell?_of_block (w := W) (hw 0 (.inl h0))).trans hgl
    · rw [if_neg e] at h; cases h
end Go.Proofs.YtdhoadhkkecjjaaDoor.Cal
