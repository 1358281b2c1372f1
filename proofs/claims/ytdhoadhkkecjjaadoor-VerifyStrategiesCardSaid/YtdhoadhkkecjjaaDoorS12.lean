/- Own texts, merged. -/
import Derived.Laws.Tables
import Derived.Test.YtdhoadhkkecjjaaDoorS11
set_option linter.unusedVariables false
set_option linter.unusedSimpArgs false
open Nat (reduceAdd reduceSub reduceMul reduceEqDiff reduceLeDiff reduceLT)
namespace Go.Proofs.YtdhoadhkkecjjaaDoor.Cal
open Go Pl
noncomputable def spSt : Nat → Option Spec
  | 41 => some Zau
  | _ => none
theorem Zcv : SpOK Tryd.prog spSt := by
  intro f S h
  unfold spSt at h
  split at h
  · cases h; exact Zdf
  · cases h
set_option maxRecDepth 4000 in
set_option maxHeartbeats 4000000 in
theorem strat_ok : Zda Tryd.prog 45 Zdz := by
  refine Zbs htb (fn := Tryd.f45) (by kernel_rfl) (by kernel_rfl) rfl (fun args r hS => ?_) (fun args r hS hob hl => ?_)
  · unfold Zdz at hS; split at hS <;> first | (cases hS; done) | (cases hS; exact Nat.le_of_ble_eq_true rfl)
  unfold Zdz at hS
  split at hS
  case h_2 => cases hS
  rename_i o p x pl c
  simp only [Option.some.injEq] at hS
  subst hS
  simp only [lenP, mkL, lim] at hl
  dsimp only at hob
  have hG := gok (validB_iff.1 hob)
  have hpl : p.length = o.length := hG.pl
  have hxl : x.length = o.length := hG.xl
  have hn : o.length ≤ 20000 := hG.n
  have hno : ∀ v, v < o.length → ¬ ((o.getD v 0 = pl → c.getD v 0 ∈ x.getD v []) ∧ (o.getD v 0 ≠ pl → c.getD v 0 = -1)) → Zdi ⟨o, p, x⟩ pl c = false := fun v hv h => decide_eq_false fun h2 => h (h2.2 v hv)
  repeat' first
    | with_reducible first | apply Zar | apply Zan | apply Zaa | apply Zad | apply Zah | apply Zap | apply Zag | apply Zaj | apply Zaq | apply Zas | apply Zao | apply Zal | apply Zac | apply Zak
    | ((with_reducible refine Zai ?_ ?_); exact rfl) | ((with_reducible refine Zat ?_); refine Zam rfl ?_ ?_ <;> intro hb <;> (try simp only [zH] at hb)) | ((with_reducible refine Zay 2 ?_ ?_); (· exact rfl); (with_reducible refine Zay 3 ?_ ?_); (· exact rfl); (first | refine Zae htb hmz Zcv fF rfl rfl ?_ | refine Zaf hmo htb hmz Zcv fF rfl rfl (by kernel_rfl) ?_); intro _ _ _ _ h; simp only [zE, evp, evx, ev1, evLoad, evStore, evBin, evIf, Zab, forall_const, z38, tb, reduceAdd, reduceSub, reduceMul, reduceEqDiff, reduceLeDiff, reduceLT, Nat.reduceBEq, Nat.reduceBNe, ↓reduceIte, reduceIte, spSt, Zau] at h; obtain ⟨rfl, rfl, rfl, rfl⟩ := h; refine ⟨?_, ?_⟩) | ((with_reducible refine Ob.mk ?_); first | exact trivial | (intros; omega) | ((repeat' first | apply And.intro | (intro a; have b := a; try simp only [zH] at b)) <;> first | assumption | omega | (simp only [zH]; omega)))
  · have hcb : Zdi ⟨o, p, x⟩ pl c = false := decide_eq_false fun h => by
      have h1 : c.length = o.length := h.1
      omega
    repeat' first
      | with_reducible first | apply Zar | apply Zan | apply Zaa | apply Zad | apply Zah | apply Zap | apply Zag | apply Zaj | apply Zaq | apply Zas | apply Zao | apply Zal | apply Zac | apply Zak
      | ((with_reducible refine Zai ?_ ?_); exact rfl) | ((with_reducible refine Zat ?_); refine Zam rfl ?_ ?_ <;> intro hb <;> (try simp only [zH] at hb)) | ((with_reducible refine Za7 ?_); (first | refine Zae htb hmz Zcv fF rfl rfl ?_ | refine Zaf hmo htb hmz Zcv fF rfl rfl (by kernel_rfl) ?_); intro _ _ _ _ h; simp only [zE, evp, evx, ev1, evLoad, evStore, evBin, evIf, Zab, forall_const, z38, tb, reduceAdd, reduceSub, reduceMul, reduceEqDiff, reduceLeDiff, reduceLT, Nat.reduceBEq, Nat.reduceBNe, ↓reduceIte, reduceIte, spSt, Zau] at h; obtain ⟨rfl, rfl, rfl, rfl⟩ := h; refine ⟨?_, ?_⟩) | ((with_reducible refine Ob.mk ?_); first | exact trivial | (intros; omega) | ((repeat' first | apply And.intro | (intro a; have b := a; try simp only [zH] at b)) <;> first | assumption | omega | (simp only [zH]; omega)))
    refine Zaz rfl rfl (Za1 rfl ?_ rfl)
    rw [hcb]; rfl
  have hcl : c.length = o.length := by omega
  clear hb
  have hrl : ∀ v, v < o.length → (x.getD v []).length ≤ 64 := fun v h => (hG.len v h).2
  repeat' first
    | with_reducible first | apply Zar | apply Zan | apply Zaa | apply Zad | apply Zah | apply Zap | apply Zag | apply Zaj | apply Zaq | apply Zas | apply Zao | apply Zal | apply Zac | apply Zak
    | ((with_reducible refine Zai ?_ ?_); exact rfl) | ((with_reducible refine Zat ?_); refine Zam rfl ?_ ?_ <;> intro hb <;> (try simp only [zH] at hb)) | ((with_reducible refine Za7 ?_); (first | refine Zae htb hmz Zcv fF rfl rfl ?_ | refine Zaf hmo htb hmz Zcv fF rfl rfl (by kernel_rfl) ?_); intro _ _ _ _ h; simp only [zE, evp, evx, ev1, evLoad, evStore, evBin, evIf, Zab, forall_const, z38, tb, reduceAdd, reduceSub, reduceMul, reduceEqDiff, reduceLeDiff, reduceLT, Nat.reduceBEq, Nat.reduceBNe, ↓reduceIte, reduceIte, spSt, Zau] at h; obtain ⟨rfl, rfl, rfl, rfl⟩ := h; refine ⟨?_, ?_⟩) | ((with_reducible refine Ob.mk ?_); first | exact trivial | (intros; omega) | ((repeat' first | apply And.intro | (intro a; have b := a; try simp only [zH] at b)) <;> first | assumption | omega | (simp only [zH]; omega)))
  refine Zbc (τ := Nat) (fun i => i ≤ o.length ∧ ∀ v, v < i → (o.getD v 0 = pl → c.getD v 0 ∈ x.getD v []) ∧ (o.getD v 0 ≠ pl → c.getD v 0 = -1)) (fun i => ⟨10, [(17, .int .i64 i), (16, .int .i64 c.length), (15, .roI c), (1, .int .i64 pl), (3, (.rop (.agg (.cons (.roI o) (.cons (.roI p) (.cons (.roII x) .nil))))))], [], []⟩) (fun i => o.length - i) 0 [] ?_ ⟨Nat.zero_le _, fun v hv => absurd hv (Nat.not_lt_zero v)⟩ ?_
  · (refine ⟨rfl, ?_, ?_⟩ <;> simp only [zE, evp, evx, ev1, evLoad, evStore, evBin, evIf, Zab, forall_const, z38, tb, reduceAdd, reduceSub, reduceMul, reduceEqDiff, reduceLeDiff, reduceLT, Nat.reduceBEq, Nat.reduceBNe, ↓reduceIte, reduceIte, spSt, Zau, zI])
  rintro i ⟨hi, hk⟩
  have hno1 := hno i
  have hrl1 := hrl i
  clear hno hrl
  repeat' first
    | with_reducible first | apply Zar | apply Zan | apply Zaa | apply Zad | apply Zah | apply Zap | apply Zag | apply Zaj | apply Zaq | apply Zas | apply Zao | apply Zal | apply Zac | apply Zak
    | ((with_reducible refine Zai ?_ ?_); exact rfl) | ((with_reducible refine Zat ?_); refine Zam rfl ?_ ?_ <;> intro hb <;> (try simp only [zH] at hb)) | ((with_reducible refine Zay 7 ?_ ?_); (· exact rfl); (with_reducible refine Zay 8 ?_ ?_); (· exact rfl); (first | refine Zae htb hmz Zcv fF rfl rfl ?_ | refine Zaf hmo htb hmz Zcv fF rfl rfl (by kernel_rfl) ?_); intro _ _ _ _ h; simp only [zE, evp, evx, ev1, evLoad, evStore, evBin, evIf, Zab, forall_const, z38, tb, reduceAdd, reduceSub, reduceMul, reduceEqDiff, reduceLeDiff, reduceLT, Nat.reduceBEq, Nat.reduceBNe, ↓reduceIte, reduceIte, spSt, Zau] at h; obtain ⟨rfl, rfl, rfl, rfl⟩ := h; refine ⟨?_, ?_⟩) | ((with_reducible refine Ob.mk ?_); first | exact trivial | (intros; omega) | ((repeat' first | apply And.intro | (intro a; have b := a; try simp only [zH] at b)) <;> first | assumption | omega | (simp only [zH]; omega)))
  · rw [hno1 (by omega) fun h => by
      rcases hb with ⟨h1, h2⟩ | ⟨h1, h2⟩
      · exact h2 (h.1 h1)
      · exact h2 (h.2 h1)]
    repeat' first
      | with_reducible first | apply Zar | apply Zan | apply Zaa | apply Zad | apply Zah | apply Zap | apply Zag | apply Zaj | apply Zaq | apply Zas | apply Zao | apply Zal | apply Zac | apply Zak
      | ((with_reducible refine Zai ?_ ?_); exact rfl) | ((with_reducible refine Zat ?_); refine Zam rfl ?_ ?_ <;> intro hb <;> (try simp only [zH] at hb)) | ((with_reducible refine Za7 ?_); (first | refine Zae htb hmz Zcv fF rfl rfl ?_ | refine Zaf hmo htb hmz Zcv fF rfl rfl (by kernel_rfl) ?_); intro _ _ _ _ h; simp only [zE, evp, evx, ev1, evLoad, evStore, evBin, evIf, Zab, forall_const, z38, tb, reduceAdd, reduceSub, reduceMul, reduceEqDiff, reduceLeDiff, reduceLT, Nat.reduceBEq, Nat.reduceBNe, ↓reduceIte, reduceIte, spSt, Zau] at h; obtain ⟨rfl, rfl, rfl, rfl⟩ := h; refine ⟨?_, ?_⟩) | ((with_reducible refine Ob.mk ?_); first | exact trivial | (intros; omega) | ((repeat' first | apply And.intro | (intro a; have b := a; try simp only [zH] at b)) <;> first | assumption | omega | (simp only [zH]; omega)))
    refine Zaz rfl rfl (Za1 rfl ?_ rfl)
    rfl
  · repeat' first
      | with_reducible first | apply Zar | apply Zan | apply Zaa | apply Zad | apply Zah | apply Zap | apply Zag | apply Zaj | apply Zaq | apply Zas | apply Zao | apply Zal | apply Zac | apply Zak
      | ((with_reducible refine Zai ?_ ?_); exact rfl) | ((with_reducible refine Zat ?_); refine Zam rfl ?_ ?_ <;> intro hb <;> (try simp only [zH] at hb)) | ((with_reducible refine Za7 ?_); (first | refine Zae htb hmz Zcv fF rfl rfl ?_ | refine Zaf hmo htb hmz Zcv fF rfl rfl (by kernel_rfl) ?_); intro _ _ _ _ h; simp only [zE, evp, evx, ev1, evLoad, evStore, evBin, evIf, Zab, forall_const, z38, tb, reduceAdd, reduceSub, reduceMul, reduceEqDiff, reduceLeDiff, reduceLT, Nat.reduceBEq, Nat.reduceBNe, ↓reduceIte, reduceIte, spSt, Zau] at h; obtain ⟨rfl, rfl, rfl, rfl⟩ := h; refine ⟨?_, ?_⟩) | ((with_reducible refine Ob.mk ?_); first | exact trivial | (intros; omega) | ((repeat' first | apply And.intro | (intro a; have b := a; try simp only [zH] at b)) <;> first | assumption | omega | (simp only [zH]; omega)))
    refine back (i + 1) [] ?_ ⟨by omega, fun v hv => ?_⟩ (by omega)
    · (refine ⟨rfl, ?_, ?_⟩ <;> simp only [zE, evp, evx, ev1, evLoad, evStore, evBin, evIf, Zab, forall_const, z38, tb, reduceAdd, reduceSub, reduceMul, reduceEqDiff, reduceLeDiff, reduceLT, Nat.reduceBEq, Nat.reduceBNe, ↓reduceIte, reduceIte, spSt, Zau, zI])
    · rcases Nat.lt_succ_iff_lt_or_eq.1 hv with h | rfl
      · exact hk v h
      · refine ⟨fun h => ?_, fun h => ?_⟩
        · exact hb.1.resolve_left (fun h2 => h2 h)
        · exact hb.2.resolve_left h
  have hie : i = o.length := by omega
  subst hie
  repeat' first
    | with_reducible first | apply Zar | apply Zan | apply Zaa | apply Zad | apply Zah | apply Zap | apply Zag | apply Zaj | apply Zaq | apply Zas | apply Zao | apply Zal | apply Zac | apply Zak
    | ((with_reducible refine Zai ?_ ?_); exact rfl) | ((with_reducible refine Zat ?_); refine Zam rfl ?_ ?_ <;> intro hb <;> (try simp only [zH] at hb)) | ((with_reducible refine Za7 ?_); (first | refine Zae htb hmz Zcv fF rfl rfl ?_ | refine Zaf hmo htb hmz Zcv fF rfl rfl (by kernel_rfl) ?_); intro _ _ _ _ h; simp only [zE, evp, evx, ev1, evLoad, evStore, evBin, evIf, Zab, forall_const, z38, tb, reduceAdd, reduceSub, reduceMul, reduceEqDiff, reduceLeDiff, reduceLT, Nat.reduceBEq, Nat.reduceBNe, ↓reduceIte, reduceIte, spSt, Zau] at h; obtain ⟨rfl, rfl, rfl, rfl⟩ := h; refine ⟨?_, ?_⟩) | ((with_reducible refine Ob.mk ?_); first | exact trivial | (intros; omega) | ((repeat' first | apply And.intro | (intro a; have b := a; try simp only [zH] at b)) <;> first | assumption | omega | (simp only [zH]; omega)))
  refine Zaz rfl rfl (Za1 rfl ?_ rfl)
  have hcb : Zdi ⟨o, p, x⟩ pl c = true := decide_eq_true ⟨hcl, hk⟩
  rw [hcb]
  rfl
def Zb3 (n : Nat) (a b : List Int) : List Int := (List.range n).map fun u => max (a.getD u 0) (b.getD u 0)
structure MetR where
  stem : List Int
  loop : List Int
  err : Int
noncomputable def metR (g : Gm) (a b : List Int) (v : Int) : MetR :=
  if Zbb g = true then (if Zdi g 0 a = true ∧ Zdi g 1 b = true then (if v < 0 ∨ (g.own.length : Int) ≤ v then ⟨[], [], 6⟩ else ⟨(Zet g (Zb3 g.own.length a b) v).stem, (Zet g (Zb3 g.own.length a b) v).loop, 0⟩) else ⟨[], [], 4⟩) else ⟨[], [], 1⟩
def MetR.av (r : MetR) : AV := .tup (.cons (.agg (.cons (.roI r.stem) (.cons (.roI r.loop) .nil))) (.cons (.int .i64 r.err) .nil))
noncomputable def metS : Spec
  | [.agg (.cons (.roI o) (.cons (.roI p) (.cons (.roII x) .nil))), .roI a, .roI b, .int .i64 v] => some ⟨True, (metR ⟨o, p, x⟩ a b v).av, none⟩
  | _ => none
theorem Zh5 {r : MetR} {e : Int} (h : r = ⟨[], [], e⟩) : Imp (.tup (.cons (.agg (.cons (.cst (.slice none 0 0)) (.cons (.cst (.slice none 0 0)) .nil))) (.cons (.int .i64 e) .nil))) r.av := by
  subst h
  exact Zgh (Zb2 (Zgi (Zb2 Zbw (Zb2 Zbw (Zb0 rfl)))) (Zb0 rfl))
theorem met_1 {g : Gm} {a b : List Int} {v : Int} (h : Zbb g = false) : metR g a b v = ⟨[], [], 1⟩ := by unfold metR; rw [if_neg (by rw [h]; decide)]
theorem met_4 {g : Gm} {a b : List Int} {v : Int} (h : Zbb g = true) (h2 : ¬ (Zdi g 0 a = true ∧ Zdi g 1 b = true)) : metR g a b v = ⟨[], [], 4⟩ := by unfold metR; rw [if_pos h, if_neg h2]
theorem met_6 {g : Gm} {a b : List Int} {v : Int} (h : Zbb g = true) (h2 : Zdi g 0 a = true ∧ Zdi g 1 b = true) (h3 : v < 0 ∨ (g.own.length : Int) ≤ v) : metR g a b v = ⟨[], [], 6⟩ := by unfold metR; rw [if_pos h, if_pos h2, if_pos h3]
theorem met_0 {g : Gm} {a b : List Int} {v : Int} (h : Zbb g = true) (h2 : Zdi g 0 a = true ∧ Zdi g 1 b = true) (h3 : ¬ (v < 0 ∨ (g.own.length : Int) ≤ v)) : metR g a b v = ⟨(Zet g (Zb3 g.own.length a b) v).stem, (Zet g (Zb3 g.own.length a b) v).loop, 0⟩ := by unfold metR; rw [if_pos h, if_pos h2, if_neg h3]
theorem both_at {n : Nat} {a b : List Int} {u : Nat} (h : u < n) : (Zb3 n a b).getD u 0 = max (a.getD u 0) (b.getD u 0) := by
  simp [Zb3, List.getD_eq_getElem?_getD, h]
theorem Zhg {n : Nat} {a b : List Int} : (Zb3 n a b).length = n := by simp [Zb3]
theorem Zfd {g : Gm} {a b : List Int} (hv : Zbb g = true) (ha : Zdi g 0 a = true) (hb : Zdi g 1 b = true) {u : Nat} (hu : u < g.own.length) : (Zb3 g.own.length a b).getD u 0 = (if g.own.getD u 0 = 0 then a.getD u 0 else b.getD u 0) ∧ (Zb3 g.own.length a b).getD u 0 ∈ g.nxt.getD u [] := by
  have hG := gok (validB_iff.1 hv)
  obtain ⟨_, ha⟩ := of_decide_eq_true ha
  obtain ⟨_, hb⟩ := of_decide_eq_true hb
  rw [both_at hu]
  have hpos : ∀ z, z ∈ g.nxt.getD u [] → 0 ≤ z := fun z hz => by
    obtain ⟨j, hj, e⟩ := Ze5 hz
    have := hG.at' u hu j hj
    rw [e] at this
    exact this.1
  rcases hG.own u hu with h | h
  · have h1 := (ha u hu).1 h
    have h2 := (hb u hu).2 (by rw [h]; decide)
    have := hpos _ h1
    rw [if_pos h, h2, show max (a.getD u 0) (-1) = a.getD u 0 by omega]
    exact ⟨rfl, h1⟩
  · have h1 := (hb u hu).1 h
    have h2 := (ha u hu).2 (by rw [h]; decide)
    have := hpos _ h1
    rw [if_neg (by rw [h]; decide), h2, show max (-1) (b.getD u 0) = b.getD u 0 by omega]
    exact ⟨rfl, h1⟩
noncomputable def spMt : Nat → Option Spec
  | 44 => some Za4
  | 45 => some Zdz
  | 46 => some Zdw
  | 39 => some joiS
  | _ => none
theorem Zbu : SpOK Tryd.prog spMt := by
  intro f S h
  unfold spMt at h
  split at h
  · cases h; exact Zfo
  · cases h; exact strat_ok
  · cases h; exact play_ok
  · cases h; exact Zeb
  · cases h
set_option maxRecDepth 4000 in
set_option maxHeartbeats 4000000 in
theorem met_ok : Zda Tryd.prog 20 metS := by
  refine Zbs htb (fn := Tryd.f20) (by kernel_rfl) (by kernel_rfl) rfl (fun args r hS => ?_) (fun args r hS hob hl => ?_)
  · unfold metS at hS; split at hS <;> first | (cases hS; done) | (cases hS; exact Nat.le_of_ble_eq_true rfl)
  unfold metS at hS
  split at hS
  case h_2 => cases hS
  rename_i o p x a b v
  simp only [Option.some.injEq] at hS
  subst hS
  simp only [lenP, mkL, lim] at hl
  dsimp only at hob
  repeat' first
    | with_reducible first | apply Zar | apply Zan | apply Zaa | apply Zad | apply Zah | apply Zap | apply Zag | apply Zaj | apply Zaq | apply Zas | apply Zao | apply Zal | apply Zac | apply Zak
    | ((with_reducible refine Zai ?_ ?_); exact rfl) | ((with_reducible refine Zat ?_); refine Zam rfl ?_ ?_ <;> intro hb <;> (try simp only [zH] at hb)) | ((with_reducible refine Zay 2 ?_ ?_); (· exact rfl); (with_reducible refine Zay 3 ?_ ?_); (· exact rfl); (first | refine Zae htb hmz Zbu fF rfl rfl ?_ | refine Zaf hmo htb hmz Zbu fF rfl rfl (by kernel_rfl) ?_); intro _ _ _ _ h; simp only [zE, evp, evx, ev1, evLoad, evStore, evBin, evIf, Zab, forall_const, z38, tb, reduceAdd, reduceSub, reduceMul, reduceEqDiff, reduceLeDiff, reduceLT, Nat.reduceBEq, Nat.reduceBNe, ↓reduceIte, reduceIte, spMt, Za4, Zdz, Zdw, joiS, PlayR.av] at h; obtain ⟨rfl, rfl, rfl, rfl⟩ := h; refine ⟨?_, ?_⟩) | ((with_reducible refine Ob.mk ?_); first | exact trivial | (intros; omega) | ((repeat' first | apply And.intro | (intro a; have b := a; try simp only [zH] at b)) <;> first | assumption | omega | (simp only [zH]; omega)))
  · repeat' first
      | with_reducible first | apply Zar | apply Zan | apply Zaa | apply Zad | apply Zah | apply Zap | apply Zag | apply Zaj | apply Zaq | apply Zas | apply Zao | apply Zal | apply Zac | apply Zak
      | ((with_reducible refine Zai ?_ ?_); exact rfl) | ((with_reducible refine Zat ?_); refine Zam rfl ?_ ?_ <;> intro hb <;> (try simp only [zH] at hb)) | ((with_reducible refine Za7 ?_); (first | refine Zae htb hmz Zbu fF rfl rfl ?_ | refine Zaf hmo htb hmz Zbu fF rfl rfl (by kernel_rfl) ?_); intro _ _ _ _ h; simp only [zE, evp, evx, ev1, evLoad, evStore, evBin, evIf, Zab, forall_const, z38, tb, reduceAdd, reduceSub, reduceMul, reduceEqDiff, reduceLeDiff, reduceLT, Nat.reduceBEq, Nat.reduceBNe, ↓reduceIte, reduceIte, spMt, Za4, Zdz, Zdw, joiS, PlayR.av] at h; obtain ⟨rfl, rfl, rfl, rfl⟩ := h; refine ⟨?_, ?_⟩) | ((with_reducible refine Ob.mk ?_); first | exact trivial | (intros; omega) | ((repeat' first | apply And.intro | (intro a; have b := a; try simp only [zH] at b)) <;> first | assumption | omega | (simp only [zH]; omega)))
    refine Zaz rfl rfl (Zcu rfl ?_ rfl)
    exact Zh5 (met_1 hb)
  have hv : Zbb ⟨o, p, x⟩ = true := by cases h : Zbb ⟨o, p, x⟩ with | true => rfl | false => rw [h] at hb; simp at hb
  clear hb
  repeat' first
    | with_reducible first | apply Zar | apply Zan | apply Zaa | apply Zad | apply Zah | apply Zap | apply Zag | apply Zaj | apply Zaq | apply Zas | apply Zao | apply Zal | apply Zac | apply Zak
    | ((with_reducible refine Zai ?_ ?_); exact rfl) | ((with_reducible refine Zat ?_); refine Zam rfl ?_ ?_ <;> intro hb <;> (try simp only [zH] at hb)) | ((with_reducible refine Zay 4 ?_ ?_); (· exact rfl); (with_reducible refine Zay 5 ?_ ?_); (· exact rfl); (first | refine Zae htb hmz Zbu fF rfl rfl ?_ | refine Zaf hmo htb hmz Zbu fF rfl rfl (by kernel_rfl) ?_); intro _ _ _ _ h; simp only [zE, evp, evx, ev1, evLoad, evStore, evBin, evIf, Zab, forall_const, z38, tb, reduceAdd, reduceSub, reduceMul, reduceEqDiff, reduceLeDiff, reduceLT, Nat.reduceBEq, Nat.reduceBNe, ↓reduceIte, reduceIte, spMt, Za4, Zdz, Zdw, joiS, PlayR.av] at h; obtain ⟨rfl, rfl, rfl, rfl⟩ := h; refine ⟨?_, ?_⟩) | ((with_reducible refine Ob.mk ?_); first | exact trivial | (intros; omega) | ((repeat' first | apply And.intro | (intro a; have b := a; try simp only [zH] at b)) <;> first | assumption | omega | (simp only [zH]; omega)))
  · repeat' first
      | with_reducible first | apply Zar | apply Zan | apply Zaa | apply Zad | apply Zah | apply Zap | apply Zag | apply Zaj | apply Zaq | apply Zas | apply Zao | apply Zal | apply Zac | apply Zak
      | ((with_reducible refine Zai ?_ ?_); exact rfl) | ((with_reducible refine Zat ?_); refine Zam rfl ?_ ?_ <;> intro hb <;> (try simp only [zH] at hb)) | ((with_reducible refine Za7 ?_); (first | refine Zae htb hmz Zbu fF rfl rfl ?_ | refine Zaf hmo htb hmz Zbu fF rfl rfl (by kernel_rfl) ?_); intro _ _ _ _ h; simp only [zE, evp, evx, ev1, evLoad, evStore, evBin, evIf, Zab, forall_const, z38, tb, reduceAdd, reduceSub, reduceMul, reduceEqDiff, reduceLeDiff, reduceLT, Nat.reduceBEq, Nat.reduceBNe, ↓reduceIte, reduceIte, spMt, Za4, Zdz, Zdw, joiS, PlayR.av] at h; obtain ⟨rfl, rfl, rfl, rfl⟩ := h; refine ⟨?_, ?_⟩) | ((with_reducible refine Ob.mk ?_); first | exact trivial | (intros; omega) | ((repeat' first | apply And.intro | (intro a; have b := a; try simp only [zH] at b)) <;> first | assumption | omega | (simp only [zH]; omega)))
    refine Zaz rfl rfl (Zcu rfl ?_ rfl)
    exact Zh5 (met_4 hv fun h => by
      rcases hb with h2 | h2
      · rw [h2] at h; cases h.1
      · rw [h2] at h; cases h.2)
  have hff := hb
  clear hb
  have hG := gok (validB_iff.1 hv)
  have hn : o.length ≤ 20000 := hG.n
  have hal : a.length = o.length := (of_decide_eq_true hff.1).1
  have hbl : b.length = o.length := (of_decide_eq_true hff.2).1
  repeat' first
    | with_reducible first | apply Zar | apply Zan | apply Zaa | apply Zad | apply Zah | apply Zap | apply Zag | apply Zaj | apply Zaq | apply Zas | apply Zao | apply Zal | apply Zac | apply Zak
    | ((with_reducible refine Zai ?_ ?_); exact rfl) | ((with_reducible refine Zat ?_); refine Zam rfl ?_ ?_ <;> intro hb <;> (try simp only [zH] at hb)) | ((with_reducible refine Zay 6 ?_ ?_); (· exact rfl); (with_reducible refine Zay 7 ?_ ?_); (· exact rfl); (first | refine Zae htb hmz Zbu fF rfl rfl ?_ | refine Zaf hmo htb hmz Zbu fF rfl rfl (by kernel_rfl) ?_); intro _ _ _ _ h; simp only [zE, evp, evx, ev1, evLoad, evStore, evBin, evIf, Zab, forall_const, z38, tb, reduceAdd, reduceSub, reduceMul, reduceEqDiff, reduceLeDiff, reduceLT, Nat.reduceBEq, Nat.reduceBNe, ↓reduceIte, reduceIte, spMt, Za4, Zdz, Zdw, joiS, PlayR.av] at h; obtain ⟨rfl, rfl, rfl, rfl⟩ := h; refine ⟨?_, ?_⟩) | ((with_reducible refine Ob.mk ?_); first | exact trivial | (intros; omega) | ((repeat' first | apply And.intro | (intro a; have b := a; try simp only [zH] at b)) <;> first | assumption | omega | (simp only [zH]; omega)))
  · repeat' first
      | with_reducible first | apply Zar | apply Zan | apply Zaa | apply Zad | apply Zah | apply Zap | apply Zag | apply Zaj | apply Zaq | apply Zas | apply Zao | apply Zal | apply Zac | apply Zak
      | ((with_reducible refine Zai ?_ ?_); exact rfl) | ((with_reducible refine Zat ?_); refine Zam rfl ?_ ?_ <;> intro hb <;> (try simp only [zH] at hb)) | ((with_reducible refine Za7 ?_); (first | refine Zae htb hmz Zbu fF rfl rfl ?_ | refine Zaf hmo htb hmz Zbu fF rfl rfl (by kernel_rfl) ?_); intro _ _ _ _ h; simp only [zE, evp, evx, ev1, evLoad, evStore, evBin, evIf, Zab, forall_const, z38, tb, reduceAdd, reduceSub, reduceMul, reduceEqDiff, reduceLeDiff, reduceLT, Nat.reduceBEq, Nat.reduceBNe, ↓reduceIte, reduceIte, spMt, Za4, Zdz, Zdw, joiS, PlayR.av] at h; obtain ⟨rfl, rfl, rfl, rfl⟩ := h; refine ⟨?_, ?_⟩) | ((with_reducible refine Ob.mk ?_); first | exact trivial | (intros; omega) | ((repeat' first | apply And.intro | (intro a; have b := a; try simp only [zH] at b)) <;> first | assumption | omega | (simp only [zH]; omega)))
    refine Zaz rfl rfl (Zcu rfl ?_ rfl)
    exact Zh5 (met_6 hv hff hb)
  have hvr : 0 ≤ v ∧ v < o.length := by omega
  have hme := met_0 (a := a) (b := b) (v := v) hv hff (by show ¬ (v < 0 ∨ (o.length : Int) ≤ v); omega)
  clear hb
  have hbo := fun u (hu : u < o.length) => Zfd hv hff.1 hff.2 hu
  have hbl2 : (Zb3 o.length a b).length = o.length := Zhg
  have hOk : OkCh ⟨o, p, x⟩ (Zb3 o.length a b) := fun u hu => (hbo u (by omega)).2
  have hpe := @Zhz ⟨o, p, x⟩ (Zb3 o.length a b) v hv hbl2 (by simp only [Gm.n]; omega) hOk
  have hag : ∃ L k, Zex (chF (Zb3 o.length a b)) v.toNat L k ∧ L ≤ o.length := by
    refine Zhj fun j => ?_
    induction j with
    | zero => show v.toNat < _; omega
    | succ j ih =>
      have h1 := (hbo _ ih).2
      obtain ⟨q, hq, e⟩ := Ze5 h1
      have h2 := hG.at' _ ih q hq
      rw [e] at h2
      have h2 : 0 ≤ (Zb3 o.length a b).getD (orb (chF (Zb3 o.length a b)) v.toNat j) 0 ∧ (Zb3 o.length a b).getD (orb (chF (Zb3 o.length a b)) v.toNat j) 0 < (o.length : Int) := h2
      show ((Zb3 o.length a b).getD _ 0).toNat < o.length
      omega
  obtain ⟨L, k, hA, hLn⟩ := hag
  have hpe := hpe hA
  have hwl : (way (Zb3 o.length a b) v.toNat L).length = L := by simp [way]
  repeat' first
    | with_reducible first | apply Zar | apply Zan | apply Zaa | apply Zad | apply Zah | apply Zap | apply Zag | apply Zaj | apply Zaq | apply Zas | apply Zao | apply Zal | apply Zac | apply Zak
    | ((with_reducible refine Zai ?_ ?_); exact rfl) | ((with_reducible refine Zat ?_); refine Zam rfl ?_ ?_ <;> intro hb <;> (try simp only [zH] at hb)) | ((with_reducible refine Zay 8 ?_ ?_); (· exact rfl); (first | refine Zae htb hmz Zbu fF rfl rfl ?_ | refine Zaf hmo htb hmz Zbu fF rfl rfl (by kernel_rfl) ?_); intro _ _ _ _ h; simp only [zE, evp, evx, ev1, evLoad, evStore, evBin, evIf, Zab, forall_const, z38, tb, reduceAdd, reduceSub, reduceMul, reduceEqDiff, reduceLeDiff, reduceLT, Nat.reduceBEq, Nat.reduceBNe, ↓reduceIte, reduceIte, spMt, Za4, Zdz, Zdw, joiS, PlayR.av] at h; obtain ⟨rfl, rfl, rfl, rfl⟩ := h; refine ⟨?_, ?_⟩) | ((with_reducible refine Ob.mk ?_); first | exact trivial | (intros; omega) | ((repeat' first | apply And.intro | (intro a; have b := a; try simp only [zH] at b)) <;> first | assumption | omega | (simp only [zH]; omega)))
  have hz : (List.replicate a.length (0 : Int)) = mix (fun u => max (a.getD u 0) (b.getD u 0)) (fun _ => 0) o.length 0 := by
    rw [hal]
    unfold mix
    refine List.ext_getElem (by simp) fun j h1 h2 => by simp
  repeat' first
    | with_reducible first | apply Zar | apply Zan | apply Zaa | apply Zad | apply Zah | apply Zap | apply Zag | apply Zaj | apply Zaq | apply Zas | apply Zao | apply Zal | apply Zac | apply Zak
    | ((with_reducible refine Zai ?_ ?_); exact rfl) | ((with_reducible refine Zat ?_); refine Zam rfl ?_ ?_ <;> intro hb <;> (try simp only [zH] at hb)) | ((with_reducible refine Za7 ?_); (first | refine Zae htb hmz Zbu fF rfl rfl ?_ | refine Zaf hmo htb hmz Zbu fF rfl rfl (by kernel_rfl) ?_); intro _ _ _ _ h; simp only [zE, evp, evx, ev1, evLoad, evStore, evBin, evIf, Zab, forall_const, z38, tb, reduceAdd, reduceSub, reduceMul, reduceEqDiff, reduceLeDiff, reduceLT, Nat.reduceBEq, Nat.reduceBNe, ↓reduceIte, reduceIte, spMt, Za4, Zdz, Zdw, joiS, PlayR.av] at h; obtain ⟨rfl, rfl, rfl, rfl⟩ := h; refine ⟨?_, ?_⟩) | ((with_reducible refine Ob.mk ?_); first | exact trivial | (intros; omega) | ((repeat' first | apply And.intro | (intro a; have b := a; try simp only [zH] at b)) <;> first | assumption | omega | (simp only [zH]; omega)))
  refine Zbc (τ := Nat) (fun i => i ≤ o.length) (fun i => ⟨32, [(46, .int .i64 i), (45, .int .i64 o.length), (10, .own 27), (1, .roI a), (2, .roI b), (3, .int .i64 v), (4, .rop (.agg (.cons (.roI o) (.cons (.roI p) (.cons (.roII x) .nil))))), (8, .own 1)], [(27, some (.ints (mix (fun u => max (a.getD u 0) (b.getD u 0)) (fun _ => 0) o.length i))), (1, some (.box (.agg (.cons (.cst (.slice none 0 0)) (.cons (.cst (.slice none 0 0)) .nil)))))], []⟩) (fun i => o.length - i) 0 [] ?_ (Nat.zero_le _) ?_
  · (refine ⟨rfl, ?_, ?_⟩ <;> simp only [zE, evp, evx, ev1, evLoad, evStore, evBin, evIf, Zab, forall_const, z38, tb, reduceAdd, reduceSub, reduceMul, reduceEqDiff, reduceLeDiff, reduceLT, Nat.reduceBEq, Nat.reduceBNe, ↓reduceIte, reduceIte, spMt, Za4, Zdz, Zdw, joiS, PlayR.av, zI])
    · rw [List.length_replicate, hal]
    · exact hz
  intro i hi
  have hml : (mix (fun u => max (a.getD u 0) (b.getD u 0)) (fun _ => 0) o.length i).length = o.length := Zh3
  repeat' first
    | with_reducible first | apply Zar | apply Zan | apply Zaa | apply Zad | apply Zah | apply Zap | apply Zag | apply Zaj | apply Zaq | apply Zas | apply Zao | apply Zal | apply Zac | apply Zak
    | ((with_reducible refine Zai ?_ ?_); exact rfl) | ((with_reducible refine Zat ?_); refine Zam rfl ?_ ?_ <;> intro hb <;> (try simp only [zH] at hb)) | ((with_reducible refine Zay 10 ?_ ?_); (· exact rfl); (with_reducible refine Zay 13 ?_ ?_); (· exact rfl); (first | refine Zae htb hmz Zbu fF rfl rfl ?_ | refine Zaf hmo htb hmz Zbu fF rfl rfl (by kernel_rfl) ?_); intro _ _ _ _ h; simp only [zE, evp, evx, ev1, evLoad, evStore, evBin, evIf, Zab, forall_const, z38, tb, reduceAdd, reduceSub, reduceMul, reduceEqDiff, reduceLeDiff, reduceLT, Nat.reduceBEq, Nat.reduceBNe, ↓reduceIte, reduceIte, spMt, Za4, Zdz, Zdw, joiS, PlayR.av] at h; obtain ⟨rfl, rfl, rfl, rfl⟩ := h; refine ⟨?_, ?_⟩) | ((with_reducible refine Ob.mk ?_); first | exact trivial | (intros; omega) | ((repeat' first | apply And.intro | (intro a; have b := a; try simp only [zH] at b)) <;> first | assumption | omega | (simp only [zH]; omega)))
  · have hil : i < o.length := by omega
    repeat' first
      | with_reducible first | apply Zar | apply Zan | apply Zaa | apply Zad | apply Zah | apply Zap | apply Zag | apply Zaj | apply Zaq | apply Zas | apply Zao | apply Zal | apply Zac | apply Zak
      | ((with_reducible refine Zai ?_ ?_); exact rfl) | ((with_reducible refine Zat ?_); refine Zam rfl ?_ ?_ <;> intro hb <;> (try simp only [zH] at hb)) | ((with_reducible refine Za7 ?_); (first | refine Zae htb hmz Zbu fF rfl rfl ?_ | refine Zaf hmo htb hmz Zbu fF rfl rfl (by kernel_rfl) ?_); intro _ _ _ _ h; simp only [zE, evp, evx, ev1, evLoad, evStore, evBin, evIf, Zab, forall_const, z38, tb, reduceAdd, reduceSub, reduceMul, reduceEqDiff, reduceLeDiff, reduceLT, Nat.reduceBEq, Nat.reduceBNe, ↓reduceIte, reduceIte, spMt, Za4, Zdz, Zdw, joiS, PlayR.av] at h; obtain ⟨rfl, rfl, rfl, rfl⟩ := h; refine ⟨?_, ?_⟩) | ((with_reducible refine Ob.mk ?_); first | exact trivial | (intros; omega) | ((repeat' first | apply And.intro | (intro a; have b := a; try simp only [zH] at b)) <;> first | assumption | omega | (simp only [zH]; omega)))
    refine back (i + 1) [] ?_ (by omega) (by omega)
    (refine ⟨rfl, ?_, ?_⟩ <;> simp only [zE, evp, evx, ev1, evLoad, evStore, evBin, evIf, Zab, forall_const, z38, tb, reduceAdd, reduceSub, reduceMul, reduceEqDiff, reduceLeDiff, reduceLT, Nat.reduceBEq, Nat.reduceBNe, ↓reduceIte, reduceIte, spMt, Za4, Zdz, Zdw, joiS, PlayR.av, zI])
    exact Zh2
  have hie : i = o.length := by omega
  subst hie
  rw [Zh4]
  refine Zdo 27 (.roI (Zb3 o.length a b)) (by simp only [Za9, Zbh, fzE, fzA, fzR, fzB, set1, nbeq, reduceEqDiff, decide_true, decide_false, ↓reduceIte, reduceIte, cond_true, cond_false, List.take_length, Option.some.injEq]; rfl) (by first | exact rfl | (refine ⟨?_, rfl⟩; first | rfl | (intros; rfl))) (by simp only [Za9, Zbh, fzE, fzA, fzR, fzB, set1, nbeq, reduceEqDiff, decide_true, decide_false, ↓reduceIte, reduceIte, cond_true, cond_false, List.take_length, Option.some.injEq]; rfl) (by simp only [Za9, Zbh, fzE, fzA, fzR, fzB, set1, nbeq, reduceEqDiff, decide_true, decide_false, ↓reduceIte, reduceIte, cond_true, cond_false, List.take_length, Option.some.injEq]; rfl) ?_
  have hf1 : [(way (Zb3 o.length a b) v.toNat L).take k].flatten.length ≤ 100000 := by
    simp only [List.flatten_cons, List.flatten_nil, List.append_nil, List.length_take]; omega
  have hf2 : [(way (Zb3 o.length a b) v.toNat L).drop k].flatten.length ≤ 100000 := by
    have hd : ((way (Zb3 o.length a b) v.toNat L).drop k).length = (way (Zb3 o.length a b) v.toNat L).length - k := List.length_drop ..
    rw [List.flatten_cons, List.flatten_nil, List.append_nil, hd, hwl]; omega
  repeat' first
    | with_reducible first | apply Zar | apply Zan | apply Zaa | apply Zad | apply Zah | apply Zap | apply Zag | apply Zaj | apply Zaq | apply Zas | apply Zao | apply Zal | apply Zac | apply Zak
    | ((with_reducible refine Zai ?_ ?_); exact rfl) | ((with_reducible refine Zat ?_); refine Zam rfl ?_ ?_ <;> intro hb <;> (try simp only [zH] at hb)) | ((with_reducible refine Zay 14 ?_ ?_); (· exact rfl); (first | refine Zae htb hmz Zbu fF rfl rfl ?_ | refine Zaf hmo htb hmz Zbu fF rfl rfl (by kernel_rfl) ?_); intro _ _ _ _ h; simp only [zE, evp, evx, ev1, evLoad, evStore, evBin, evIf, Zab, forall_const, z38, tb, reduceAdd, reduceSub, reduceMul, reduceEqDiff, reduceLeDiff, reduceLT, Nat.reduceBEq, Nat.reduceBNe, ↓reduceIte, reduceIte, spMt, Za4, Zdz, Zdw, joiS, PlayR.av] at h; obtain ⟨rfl, rfl, rfl, rfl⟩ := h; refine ⟨?_, ?_⟩) | ((with_reducible refine Ob.mk ?_); first | exact trivial | (intros; omega) | ((repeat' first | apply And.intro | (intro a; have b := a; try simp only [zH] at b)) <;> first | assumption | omega | (simp only [zH]; omega)))
  rw [hpe]
  rw [hpe] at hme
  repeat' first
    | with_reducible first | apply Zar | apply Zan | apply Zaa | apply Zad | apply Zah | apply Zap | apply Zag | apply Zaj | apply Zaq | apply Zas | apply Zao | apply Zal | apply Zac | apply Zak
    | ((with_reducible refine Zai ?_ ?_); exact rfl) | ((with_reducible refine Zat ?_); refine Zam rfl ?_ ?_ <;> intro hb <;> (try simp only [zH] at hb)) | ((with_reducible refine Zay 15 ?_ ?_); (· exact rfl); (with_reducible refine Zay 16 ?_ ?_); (· exact rfl); (first | refine Zae htb hmz Zbu fF rfl rfl ?_ | refine Zaf hmo htb hmz Zbu fF rfl rfl (by kernel_rfl) ?_); intro _ _ _ _ h; simp only [zE, evp, evx, ev1, evLoad, evStore, evBin, evIf, Zab, forall_const, z38, tb, reduceAdd, reduceSub, reduceMul, reduceEqDiff, reduceLeDiff, reduceLT, Nat.reduceBEq, Nat.reduceBNe, ↓reduceIte, reduceIte, spMt, Za4, Zdz, Zdw, joiS, PlayR.av] at h; obtain ⟨rfl, rfl, rfl, rfl⟩ := h; refine ⟨?_, ?_⟩) | ((with_reducible refine Ob.mk ?_); first | exact trivial | (intros; omega) | ((repeat' first | apply And.intro | (intro a; have b := a; try simp only [zH] at b)) <;> first | assumption | omega | (simp only [zH]; omega)))
  · cases hb
  repeat' first
    | with_reducible first | apply Zar | apply Zan | apply Zaa | apply Zad | apply Zah | apply Zap | apply Zag | apply Zaj | apply Zaq | apply Zas | apply Zao | apply Zal | apply Zac | apply Zak
    | ((with_reducible refine Zai ?_ ?_); exact rfl) | ((with_reducible refine Zat ?_); refine Zam rfl ?_ ?_ <;> intro hb <;> (try simp only [zH] at hb)) | ((with_reducible refine Za7 ?_); (first | refine Zae htb hmz Zbu fF rfl rfl ?_ | refine Zaf hmo htb hmz Zbu fF rfl rfl (by kernel_rfl) ?_); intro _ _ _ _ h; simp only [zE, evp, evx, ev1, evLoad, evStore, evBin, evIf, Zab, forall_const, z38, tb, reduceAdd, reduceSub, reduceMul, reduceEqDiff, reduceLeDiff, reduceLT, Nat.reduceBEq, Nat.reduceBNe, ↓reduceIte, reduceIte, spMt, Za4, Zdz, Zdw, joiS, PlayR.av] at h; obtain ⟨rfl, rfl, rfl, rfl⟩ := h; refine ⟨?_, ?_⟩) | ((with_reducible refine Ob.mk ?_); first | exact trivial | (intros; omega) | ((repeat' first | apply And.intro | (intro a; have b := a; try simp only [zH] at b)) <;> first | assumption | omega | (simp only [zH]; omega)))
  refine Zaz rfl rfl (Za1 rfl ?_ rfl)
  rw [hme]
  simp only [List.flatten_cons, List.flatten_nil, List.append_nil]
  rfl
section
open Go Pl
variable {g : Gm} {a b W C : List Int} {v : Int}
theorem Zib {c : List Int} {f L i : Nat} (h : i < L) : (way c f L).getD i 0 = (orb (chF c) f i : Int) := by
  simp [way, List.getD_eq_getElem?_getD, h]
theorem Zdu {c : List Int} {f L : Nat} : (way c f L).length = L := by simp [way]
theorem met_play (hv : Zbb g = true) (ha : Zdi g 0 a = true) (hb : Zdi g 1 b = true) {v L k : Nat} (hvn : v < g.own.length) (hA : Zex (chF (Zb3 g.own.length a b)) v L k) :
    isP g ((way (Zb3 g.own.length a b) v L).take k) ((way (Zb3 g.own.length a b) v L).drop k) = true ∧
      psP ((way (Zb3 g.own.length a b) v L).take k ++ (way (Zb3 g.own.length a b) v L).drop k) 0 = v ∧
      ∀ i : Nat, i < ((way (Zb3 g.own.length a b) v L).take k ++ (way (Zb3 g.own.length a b) v L).drop k).length → psP ((way (Zb3 g.own.length a b) v L).take k ++ (way (Zb3 g.own.length a b) v L).drop k) i < g.own.length ∧
        aftP ((way (Zb3 g.own.length a b) v L).take k ++ (way (Zb3 g.own.length a b) v L).drop k) ((way (Zb3 g.own.length a b) v L).drop k) i = (Zb3 g.own.length a b).getD (psP ((way (Zb3 g.own.length a b) v L).take k ++ (way (Zb3 g.own.length a b) v L).drop k) i) 0 := by
  have hG := gok (validB_iff.1 hv)
  obtain ⟨c, hc⟩ : ∃ c, Zb3 g.own.length a b = c := ⟨_, rfl⟩
  have hbo : ∀ u, u < g.own.length → c.getD u 0 ∈ g.nxt.getD u [] := fun u hu => by rw [← hc]; exact (Zfd hv ha hb hu).2
  rw [hc] at hA ⊢
  obtain ⟨hfr, hkL, hL⟩ := hA
  have hr : ∀ u, u < g.own.length → 0 ≤ c.getD u 0 ∧ c.getD u 0 < (g.own.length : Int) := fun u hu => by
    obtain ⟨q, hq, e⟩ := Ze5 (hbo u hu)
    have := hG.at' u hu q hq
    rw [e] at this
    exact this
  have ho : ∀ j, orb (chF c) v j < g.own.length := fun j => by
    induction j with
    | zero => exact hvn
    | succ j ih =>
      have := hr _ ih
      show (c.getD (orb (chF c) v j) 0).toNat < _
      omega
  have hs : ∀ j, ((orb (chF c) v (j + 1) : Nat) : Int) = c.getD (orb (chF c) v j) 0 := fun j => Int.toNat_of_nonneg (hr _ (ho j)).1
  rw [List.take_append_drop]
  have hps : ∀ i, i < L → psP (way c v L) i = orb (chF c) v i := fun i hi => by
    unfold psP
    rw [Zib hi]
    rfl
  have hdl : ((way c v L).drop k).length = L - k := by rw [List.length_drop, Zdu]
  have hd0 : ((way c v L).drop k).getD 0 0 = (orb (chF c) v k : Int) := by
    rw [List.getD_eq_getElem?_getD, List.getElem?_drop, Nat.add_zero, ← List.getD_eq_getElem?_getD, Zib hkL]
  have haf : ∀ i : Nat, i < L → aftP (way c v L) ((way c v L).drop k) i = c.getD (orb (chF c) v i) 0 := fun i hi => by
    unfold aftP
    rw [Zdu]
    by_cases h : (i : Int) + 1 < L
    · rw [if_pos h, show ((i : Int) + 1).toNat = i + 1 by omega, Zib (by omega), hs]
    · rw [if_neg h, hd0, ← hL, show L = i + 1 by omega, hs]
  refine ⟨isP_iff.2 ⟨fun e => ?_, fun i hi => ?_, fun i hi => ?_⟩, hps 0 (by omega), fun i hi => ?_⟩
  · have := congrArg List.length e
    rw [hdl] at this
    simp at this
    omega
  · rw [List.take_append_drop] at hi ⊢
    rw [Zdu] at hi
    rw [Zib hi]
    have := ho i
    omega
  · rw [List.take_append_drop] at hi ⊢
    rw [Zdu] at hi
    rw [haf i hi, hps i hi]
    exact hbo _ (ho i)
  · rw [Zdu] at hi
    rw [hps i hi]
    exact ⟨ho i, haf i hi⟩
theorem met_win (hv : Zbb g = true) (hs : solB g W C = true) {v : Nat} (hvn : v < g.own.length) (ha : Zdi g 0 a = true) (hb : Zdi g 1 b = true) (hx : ∀ u, u < g.own.length → g.own.getD u 0 = W.getD v 0 → W.getD u 0 = W.getD v 0 → (if W.getD v 0 = 0 then a.getD u 0 else b.getD u 0) = C.getD u 0) :
    winR g (metR g a b v).stem (metR g a b v).loop = (W.getD v 0, 0) ∧ (metR g a b v).stem.length ≤ g.own.length ∧ (metR g a b v).loop.length ≤ g.own.length := by
  have hG := gok (validB_iff.1 hv)
  obtain ⟨hc, hS⟩ := (Zgv (validB_iff.1 hv)).1 hs
  obtain ⟨_, _, hc⟩ := of_decide_eq_true hc
  have hw := (hc v hvn).1
  have hm := met_0 (a := a) (b := b) (v := (v : Int)) hv ⟨ha, hb⟩ (by omega)
  have hag : ∃ L k, Zex (chF (Zb3 g.own.length a b)) v L k ∧ L ≤ g.own.length := by
    refine Zhj fun j => ?_
    induction j with
    | zero => exact hvn
    | succ j ih =>
      have h1 := (Zfd hv ha hb ih).2
      obtain ⟨q, hq, e⟩ := Ze5 h1
      have h2 := hG.at' _ ih q hq
      rw [e] at h2
      show ((Zb3 g.own.length a b).getD _ 0).toNat < g.own.length
      omega
  obtain ⟨L, k, hA, hLn⟩ := hag
  have hpe := @Zhz g (Zb3 g.own.length a b) v hv Zhg (by simp only [Gm.n]; omega) (fun u hu => (Zfd hv ha hb (by rw [Zhg] at hu; exact hu)).2) L k hA
  rw [Int.toNat_natCast] at hpe
  rw [hm, hpe]
  obtain ⟨h1, h2, h3⟩ := met_play hv ha hb hvn hA
  have hwin := fol_win hv (hS _ hw) hw h1 (by rw [h2]) fun i hi ho hw2 => by
    obtain ⟨q1, q2⟩ := h3 i hi
    rw [q2, (Zfd hv ha hb q1).1]
    have := hx _ q1 ho hw2
    rcases hw with h | h
    · rw [h] at this ho
      rw [if_pos rfl] at this
      rw [if_pos ho, this]
    · rw [h] at this ho
      rw [if_neg (by decide)] at this
      rw [if_neg (by rw [ho]; decide), this]
  refine ⟨?_, ?_, ?_⟩
  · unfold winR
    rw [if_pos hv, if_pos h1, hwin.2]
  · show ((way (Zb3 g.own.length a b) v L).take k).length ≤ _
    rw [List.length_take, Zdu]; omega
  · show ((way (Zb3 g.own.length a b) v L).drop k).length ≤ _
    rw [List.length_drop, Zdu]; omega
theorem met_full (h : (metR g a b v).err = 0) : Zdi g 0 a = true ∧ Zdi g 1 b = true := by
  by_cases hv : Zbb g = true
  · by_cases hf : Zdi g 0 a = true ∧ Zdi g 1 b = true
    · exact hf
    · rw [met_4 hv hf] at h; exact absurd h (by decide)
  · rw [met_1 (by simpa using hv)] at h; exact absurd h (by decide)
end
open Go Pl
theorem chk_ok {g : Gm} {w c s l : List Int} {e : Int} (h : chkQ g w c s l e) : e = 0 ∧ (Zbb g = true ∧ Zb9 g w c = true ∧ solB g w c = true ∧ s = [] ∧ l = []) ∨ e ≠ 0 := by
  rcases h with ⟨_, rfl, _⟩ | ⟨_, _, rfl, _⟩ | ⟨h1, h2, h3, rfl, h4⟩ | ⟨_, _, _, rfl⟩
  · exact .inr (by decide)
  · exact .inr (by decide)
  · exact .inl ⟨rfl, h1, h2, h3, h4⟩
  · exact .inr (by decide)
open Go
section
variable {P : Program} {ro : Option Nat} {N κ : Nat} {tb : Nat → Option TI} {sp : Nat → Option Spec}
theorem runsTo_ap {its : Nat → Item} {B : List Nat} {s1 s' : St} : ∀ {A : List Nat} {s : St}, Zb8 N its A s s1 → Zb8 N its B s1 s' → Zb8 N its (A ++ B) s s'
  | [], s, h, h2 => by
    obtain rfl : s = s1 := h
    exact h2
  | a :: A, s, h, h2 => ⟨h.1, runsTo_ap (A := A) h.2 h2⟩
theorem Zf8 {its its' : Nat → Item} {s' : St} : ∀ {L : List Nat} {s : St}, (∀ i, i ∈ L → its i = its' i) → Zb8 N its L s s' → Zb8 N its' L s s'
  | [], _, _, h => h
  | a :: L, s, he, h => by
    have ha := he a List.mem_cons_self
    refine ⟨ha ▸ h.1, ?_⟩
    rw [← ha]
    exact Zf8 (L := L) (fun i hi => he i (List.mem_cons_of_mem _ hi)) h.2
end
open Go
section
variable {P : Program} {ro : Option Nat} {N κ : Nat} {tb : Nat → Option TI} {sp : Nat → Option Spec}
theorem oprun_sem {ops : Array Oper} {o : Oper} {v : AV} {ins : List (Nat × AV)} {rd : List (Nat × Blk)} (hgd : o.guard.isNone = true) (hnd : ∀ c, o.op ≠ .defer c) (hsem : ∀ env : Env, (∀ p, p ∈ ins → env p.1 = p.2) → OpSem P o (opv env) v rd [] none) : Zgm P ro N ops o ⟨o.dst, ins, v, rd, [], none⟩ := by
  intro n K Z ν w a σ hg hft next Q hnext
  rw [if_pos (Zcf hgd _)]
  refine ⟨fun f hf => trivial, ?_⟩
  refine (Zcd (ro := ro) hnd (hsem σ.env hft.ins)) n K Z ν w a σ.mu σ.rs hg.one hg.rs hg.zk hg.kl (fun x _ => ⟨Zh0 hg x, Zgc hg x⟩) hft.rd hft.kn _ _ ?_
  intro y Z' ν' w' hst hν h1 hrs hr hm hz
  exact hnext Z' ν' w' _ hst hν (hg.next hft hst hν h1 hrs hr hm hz)
theorem awp_opmid (hmo : P.follows .mixedOrders = true) (htb : Zct P tb) (hmz : ∀ t i, tb t = some i → men noK i.zero = true) (hsp : SpOK P sp) (ch : Nat → Bool) {id m : Nat} {all : List Oper} {ops : Array Oper} (os1 : List Oper) {o : Oper} (os2 : List Oper) (kx : Nat) {B : Blk} {v : AV} (ins : List (Nat × AV))
    {env : List (Nat × AV)} {l : List (Nat × Option Blk)} {ms : List Nat} {Q : Exit → St → Prop}
    (hops : ops = all.toArray) (hall : all = os1 ++ o :: os2) (hN1 : Zc5 N os1 = true) (hNo : Zc5 N [o] = true) (hN2 : Zc5 N os2 = true) (hκ : Nat.ble κ m = true)
    (hor : Zgm P ro N all.toArray o ⟨o.dst, ins, v, [(kx, B)], [], none⟩) (hA : Zim all = true)
    (hd : Zja all 0 all.length ((Zbo tb sp ch m all os1 0 env l).its ++ ⟨o.dst, ins, v, [(kx, B)], [], none⟩ :: (Zbo tb sp ch m all os2 (os1.length + 1) (putE o.dst v (Zbo tb sp ch m all os1 0 env l).env) (Zbo tb sp ch m all os1 0 env l).l).its) = true)
    (h : ∀ m1 e1 l1 ob1, evOut tb sp ch m all os1 0 ⟨m, env, l, True⟩ = ⟨m1, e1, l1, ob1⟩ → Ob ob1 ∧ ((∀ p, p ∈ ins → lke e1 p.1 = p.2) ∧ lkr l1 kx = some B) ∧
      ∀ m2 e2 l2 ob2, evOut tb sp ch m all os2 (os1.length + 1) ⟨m1 + 1, putE o.dst v e1, l1, True⟩ = ⟨m2, e2, l2, ob2⟩ → Ob ob2 ∧ Q .normal (CS.st ⟨m2, e2, l2, ms⟩)) : awp P ro N κ (.region id ops true) (CS.st ⟨m, env, l, ms⟩) Q := by
  subst hops
  obtain ⟨hob1, ⟨hr1, hr2⟩, hrest⟩ := h _ _ _ _ rfl
  obtain ⟨h1, h2, h3, h4⟩ := Zdk ch m all os1 0 m env l True hob1
  rw [h1] at hr1 hrest
  rw [h2] at hr2 hrest
  rw [h4] at hrest
  obtain ⟨hob2, hq⟩ := hrest _ _ _ _ rfl
  obtain ⟨p1, p2, p3, p4⟩ := Zdk ch m all os2 (os1.length + 1) (m + os1.length + 1) (putE o.dst v (Zbo tb sp ch m all os1 0 env l).env) (Zbo tb sp ch m all os1 0 env l).l True hob2
  rw [p1, p2, p4] at hq
  obtain ⟨g1, g2, μ1, g3, g4, g5⟩ := Zdl (ro := ro) (N := N) htb hmz hsp ch m all ms os1 0 env l (ltK m) hN1 (fun j hj => by show Nat.blt j m = false; cases hb : Nat.blt j m with | false => rfl | true => rw [Nat.blt_eq] at hb; omega) h3
  obtain ⟨k1, k2, μ2, k3, k4, k5⟩ := Zdl (ro := ro) (N := N) htb hmz hsp ch m all ms os2 (os1.length + 1) (putE o.dst v (Zbo tb sp ch m all os1 0 env l).env) (Zbo tb sp ch m all os1 0 env l).l μ1 hN2 (fun j hj => g3 j (by omega)) p3
  have hd1 := hd
  generalize hE1 : Zbo tb sp ch m all os1 0 env l = E1 at *
  generalize hE2 : Zbo tb sp ch m all os2 (os1.length + 1) (putE o.dst v E1.env) E1.l = E2 at *
  have hlen : all.length = os1.length + (os2.length + 1) := by rw [hall, List.length_append, List.length_cons]
  have hit1 : ∀ x, x < os1.length → Zbg (E1.its ++ ⟨o.dst, ins, v, [(kx, B)], [], none⟩ :: E2.its) x = Zbg E1.its x := fun x hx => by
    simp only [Zbg, List.getD_eq_getElem?_getD]
    rw [List.getElem?_append_left (by omega)]
  have hitc : Zbg (E1.its ++ ⟨o.dst, ins, v, [(kx, B)], [], none⟩ :: E2.its) os1.length = ⟨o.dst, ins, v, [(kx, B)], [], none⟩ := by
    simp only [Zbg, List.getD_eq_getElem?_getD]
    rw [List.getElem?_append_right (by omega), g1, Nat.sub_self]; rfl
  have hit2 : ∀ x, Zbg (E1.its ++ ⟨o.dst, ins, v, [(kx, B)], [], none⟩ :: E2.its) (os1.length + 1 + x) = Zbg E2.its x := fun x => by
    simp only [Zbg, List.getD_eq_getElem?_getD]
    rw [List.getElem?_append_right (by omega), g1, show os1.length + 1 + x - os1.length = x + 1 by omega, List.getElem?_cons_succ]
  refine awp_drawD hmo ?_
  intro n K Z ν w a hg fuel listed hsz hlo hhi hfuel
  refine run_seg (κ := κ) 0 all.length (by simp) (E1.its ++ ⟨o.dst, ins, v, [(kx, B)], [], none⟩ :: E2.its) (by simpa using hA) (by simpa using hd1) (fun i hi => ?_) (σ' := ⟨μ2, lke E2.env, lkr E2.l, ms⟩) ?_ fuel listed (List.range' 0 all.length) (CS.st ⟨m, env, l, ms⟩) hsz (by rw [List.length_range']; simpa using hfuel) (fun i => ?_) hlo (fun i hi1 hi2 => hhi i (Nat.zero_le _) hi2) (by simpa using List.pairwise_lt_range' (s := 0) (n := all.length)) (closed_of (Zig (by simpa using hA)) hlo hhi) (fun j hj => ?_) ?_ n K Z ν w a hg
  · rw [Nat.zero_add]
    rcases Nat.lt_trichotomy i os1.length with hl | rfl | hl
    · refine ⟨os1[i], ?_, ?_⟩
      · rw [List.getElem?_toArray, hall, List.getElem?_append_left hl, List.getElem?_eq_getElem hl]
      · rw [hit1 i hl]
        exact g2 _ _ (List.getElem?_eq_getElem hl)
    · refine ⟨o, ?_, ?_⟩
      · rw [List.getElem?_toArray, hall, List.getElem?_append_right (Nat.le_refl _), Nat.sub_self]; rfl
      · rw [hitc]
        exact hor
    · obtain ⟨x, rfl⟩ : ∃ x, i = os1.length + 1 + x := ⟨i - (os1.length + 1), by omega⟩
      have hx : x < os2.length := by omega
      refine ⟨os2[x], ?_, ?_⟩
      · rw [List.getElem?_toArray, hall, List.getElem?_append_right (by omega), show os1.length + 1 + x - os1.length = x + 1 by omega, List.getElem?_cons_succ, List.getElem?_eq_getElem hx]
      · rw [hit2]
        exact k2 _ _ (List.getElem?_eq_getElem hx)
  · intro n K Z ν w a hg
    refine awpD_end (by rw [Nat.zero_add, List.size_toArray]; exact Nat.beq_refl _) hq n K Z ν w a (hg.widen fun j hj => ?_)
    show Nat.blt j (m + os1.length + 1 + os2.length) = true
    rw [Nat.blt_eq]
    rcases Nat.lt_or_ge j (m + os1.length + 1 + os2.length) with h | h
    · exact h
    · rw [k3 j (by omega)] at hj; cases hj
  · rw [List.mem_range']
    constructor
    · rintro ⟨q, hq, rfl⟩
      exact ⟨⟨by omega, by omega⟩, hhi _ (by omega) (by rw [List.size_toArray]; omega)⟩
    · rintro ⟨⟨h1, h2⟩, _⟩
      exact ⟨i, by omega, by omega⟩
  · show Nat.blt j m = true
    rw [Nat.blt_eq]
    have := Nat.le_of_ble_eq_true hκ
    omega
  · have hdo : ∀ d, o.dst = some d → d < N := fun d hd2 => by
      simp [Zc5, hd2] at hNo; exact hNo
    have er : List.range' 0 all.length = List.range' 0 os1.length ++ (os1.length :: List.range' (os1.length + 1) os2.length) := by
      rw [hlen, ← List.range'_append_1, Nat.zero_add, List.range'_succ]
    rw [er]
    refine runsTo_ap (s1 := ⟨μ1, lke E1.env, lkr E1.l, ms⟩) (Zf8 (fun i hi => ?_) g5) ⟨?_, ?_⟩
    · rw [List.mem_range'] at hi
      obtain ⟨q, hq, rfl⟩ := hi
      rw [Nat.sub_zero, hit1 _ (by omega)]
    · dsimp only
      rw [Nat.sub_zero, hitc]
      exact ⟨hr1, fun p hp => by rw [List.mem_singleton.1 hp]; exact hr2, fun k hk => (by cases hk), hdo⟩
    · dsimp only
      rw [Nat.sub_zero, hitc]
      have e2 : Item.app ⟨o.dst, ins, v, [(kx, B)], [], none⟩ ⟨μ1, lke E1.env, lkr E1.l, ms⟩ = ⟨μ1, lke (putE o.dst v E1.env), lkr E1.l, ms⟩ := by
        rw [Zfr]; rfl
      rw [e2]
      refine Zf8 (fun i hi => ?_) k5
      rw [List.mem_range'] at hi
      obtain ⟨q, hq, rfl⟩ := hi
      rw [Nat.sub_zero, show os1.length + 1 + 1 * q - (os1.length + 1) = q by omega, show os1.length + 1 + 1 * q = os1.length + 1 + q by omega, hit2]
theorem opsem_store_boxX {o : Oper} {t k off n : Nat} {get : Operand → AV} {a x : Operand} {u : AV} (ho : o.op = .store t a x) (hstr : ∀ (v : Value) (a : Addr) (w w' : World), v.cells.size = n → (storeCells a v.cells.toList).run P w = .ok () w' → (Instr.storeAt t (.pointer (some a)) v).run P w = .ok () w') (ha : (get a = .own k ∧ off = 0) ∨ get a = .adr k 0 0 off) (hc : isCC (get x) = true) (hp : properL (cellsL (get x)) = true) (hlen : lenL (cellsL (get x)) = n) (hpos : 0 < n)
    (hu : isV u = true) (hpu : properL (cellsL u) = true) (hle : off + n ≤ lenL (cellsL u)) (hax : isAg u = false → isAg (get x) = false) : OpSem P o get .any [(k, .box u)] [(k, some (.box (updv u off (get x))))] none :=
  ⟨fun K Z ν w ev μ rs h1 hg hzk hkl hx hrd hkn => by
    obtain ⟨ra, ma⟩ := hx a (by rw [ho]; simp [Op.operands])
    obtain ⟨rx, mx⟩ := hx x (by rw [ho]; simp [Op.operands])
    have hk : rs k = some (.box u) := hrd (k, .box u) (by simp)
    obtain ⟨F0, s0, m0, u0, hF0, swap⟩ := Zdy hg hzk hkl hk
    obtain ⟨b, cells, T, hxv, hb, r, hF⟩ := s0
    have hbF : F0 b := (hF b).2 rfl
    have rxc := Zdg h1 (Zfn hc) rx
    have hr := Zfk hp rxc
    have hvs : (ev x).cells.toList.length = n := by rw [hr, hlen]
    have hclen : cells.size = lenL (cellsL u) := by simpa using Zfk hpu (Zfl hu r)
    have ea : ev a = .pointer (some ⟨b, off, none⟩) := by
      rcases ha with ⟨ha, rfl⟩ | ha
      · rw [ha] at ra; rw [one1 ra, hxv]
      · rw [ha] at ra
        obtain ⟨b', f', hb', e⟩ := ra
        rw [hxv] at hb'
        simp only [Zd1, Option.some.injEq, Prod.mk.injEq] at hb'
        obtain ⟨rfl, rfl⟩ := hb'
        rw [one1 e]; simp
    have hst := run_storeCells_at (P := P) b off T (ev x).cells.toList 0 cells w hb (by omega) (Zjb h1 hc rx)
    simp only [Nat.add_zero] at hst
    have hnew := setRow_heap w b cells (cells.toList.take off ++ (ev x).cells.toList ++ cells.toList.drop (off + (ev x).cells.toList.length)).toArray T (0, 0) hb
    generalize hwd : w.setRow b _ = w' at hst hnew
    have w1 : ∀ y, y ≠ b → w'.heap[y]? = w.heap[y]? := fun y hy => by rw [← hwd]; exact setRow_other w b y _ hy
    have w2 : w'.heap.size = w.heap.size := by rw [← hwd]; simp
    have hzw : ∀ y, Z y → w'.heap[y]? = w.heap[y]? := fun y hy => w1 y (fun e => (hF0 b hbF).1 (hzk b (e ▸ hy)))
    refine ⟨undef, w', ν, Z, .inr ⟨Zey ho ?_, rfl⟩, ⟨⟨by rw [← hwd]; rfl, by rw [← hwd]; rfl, by rw [← hwd]; rfl, by omega, fun y hy => w1 y (fun e => (hF0 b hbF).1 (e ▸ hy))⟩, fun _ h => h, fun _ h => .inl h⟩, fun _ _ => rfl, h1, ?_, ⟨_, rfl⟩, rfl, fun y hy => by rw [w2]; exact hkl y (hzk y hy)⟩
    · rw [ea]
      exact hstr _ _ _ _ (by simpa using hvs) hst
    · rw [Zbp hzk]
      have := swap w' ν k (.box (updv u off (get x))) F0 (by omega) (fun y hy _ => w1 y (fun e => hy (e ▸ hbF))) (fun _ _ => rfl) (.inl rfl)
        ⟨b, _, T, hxv, hnew, by
          have := Zis (o := off) (x := get x) hp hu hpu (by omega) (by omega) hax (Zi5 (Zfn hc)) (Zbm (fun _ h => h) hzw r) (Zbm (fun _ h => h) hzw rxc)
          simpa using this, hF⟩
        (Zd9 Zb5 (Zg4 m0 mx)) (fun y hy => ⟨.inl hy, by rw [w2]; exact (hF0 y hy).2⟩)
      rw [Zee u0, Zdp] at this
      exact this⟩
theorem opsem_pair {o : Oper} {t : Nat} {x y : Operand} {get : Operand → AV} (ho : o.op = .build t #[(0, x), (1, y)]) (hx : isC (get x) = true ∧ isAg (get x) = false) (hy : isC (get y) = true ∧ isAg (get y) = false) (hb : ∀ a b : Value, a.cells = #[a] → b.cells = #[b] → P.built t [(0, a), (1, b)] = some #[a, b]) : OpSem P o get (.agg (.cons (get x) (.cons (get y) .nil))) [] [] none :=
  Zb7 fun K Z ν w ev μ rs hone hg hv hrd => by
    obtain ⟨rx, mx⟩ := hv x (by rw [ho]; simp [Op.operands])
    obtain ⟨ry, my⟩ := hv y (by rw [ho]; simp [Op.operands])
    have ex := (Zcl hone hx.1 hx.2 rx).2
    have ey := (Zcl hone hy.1 hy.2 ry).2
    refine ⟨.agg #[ev x, ev y], ?_, ⟨[ev x, ev y], rfl, ev x, [ev y], rfl, rx, ev y, [], rfl, ry, rfl⟩, ?_⟩
    · have := run_build (P := P) w t #[(0, ev x), (1, ev y)] _ (hb _ _ ex ey)
      simp [execOp, ho, Sem.run_bind, this, Result.andThen, Sem.run]
    · show (men μ (get x) && (men μ (get y) && true)) = true
      rw [mx, my]; rfl
theorem opsem_allocX {o : Oper} {t : Nat} {get : Operand → AV} {z : AV} {cs : Array Value} (ho : o.op = .alloc t) (hz : ∀ Z w ν, R Z w z ν false cs.toList) (hm : men noK z = true) (hrun : ∀ w : World, (Instr.alloc t true (Value.tuple #[])).run P w = .ok (.pointer (some ⟨w.heap.size, 0, none⟩)) (w.alloc (.cells cs t))) (kn : Nat) : OpSem P o get (.own kn) [] [(kn, some (.box z))] (some kn) :=
  ⟨fun K Z ν w ev μ rs h1 hg hzk hkl hx hrd hkn => by
    have hk := hkn kn rfl
    refine ⟨.pointer (some ⟨w.heap.size, 0, none⟩), w.alloc (.cells cs t), upN ν kn (.pointer (some ⟨w.heap.size, 0, none⟩)), Z, .inl ?_, Zcr hkl _, Zby hk, Zco h1 rfl, ?_, ?_, Zbr, fun b hb => by have := hkl b (hzk b hb); simp; omega⟩
    · simp [execOp, ho, Sem.run_bind, hrun, Result.andThen, Sem.run]
    · rw [Zbp hzk]
      exact Zde (F := fun y => y = w.heap.size) hg hzk hkl hk (by simp) (fun y hy => Zbj _ hy) ⟨w.heap.size, cs, t, rfl, Zcn _, hz _ _ _, fun _ => Iff.rfl⟩ (Zb1 hm) (fun y hy => by subst hy; simp)
    · show [_] = [_]; rw [upN_same]⟩
theorem Zds {o : Oper} {t k c : Nat} {x y : Operand} {get : Operand → AV} {u : AV} (ho : o.op = .indexAddr t x y) (hx : get x = .own k) (hy : get y = .int .i64 c) (hrun : ∀ (b : Nat) (w : World), (Instr.indexAt t (.pointer (some ⟨b, 0, none⟩)) (.int .i64 c)).run P w = .ok (.pointer (some ⟨b, c, none⟩)) w) : OpSem P o get (.adr k 0 0 c) [(k, .box u)] [] none :=
  Zb7 fun K Z ν w ev μ rs hone hg hv hrd => by
    obtain ⟨rx, mx⟩ := hv x (by rw [ho]; simp [Op.operands])
    obtain ⟨ry, _⟩ := hv y (by rw [ho]; simp [Op.operands])
    rw [hx] at rx mx
    rw [hy] at ry
    have ex := one1 rx
    have ey := one1 ry
    obtain ⟨Ft, hF⟩ := hg
    obtain ⟨_, _, ⟨b, cells, T, hk, _⟩, _⟩ := hF k _ (hrd (k, .box u) (by simp))
    refine ⟨.pointer (some ⟨b, c, none⟩), ?_, ⟨b, 0, by rw [hk]; rfl, by simp⟩, mx⟩
    simp [execOp, ho, Sem.run_bind, ex, ey, hk, hrun, Result.andThen, Sem.run]
end
end Go.Proofs.YtdhoadhkkecjjaaDoor.Cal
