/- Own texts of the proof, merged, in order. -/
import Derived.Test.YtbcghiagomkadaaS16
set_option linter.unusedVariables false
set_option linter.unusedSimpArgs false
namespace Go.Proofs.Ytbcghiagomkadaa.Cal
open Go Pl
def nanS : Spec
  | [.int .i64 _] => some ⟨True, .bool false, none⟩
  | _ => none
set_option maxRecDepth 4000 in
set_option maxHeartbeats 4000000 in
theorem nan_ok : FSpec Try.prog 63 nanS := by
  refine Zba htb (fn := Try.f63) (by kernel_rfl) (by kernel_rfl) rfl (fun args r hS => ?_) (fun args r hS hob hl => ?_)
  · unfold nanS at hS; split at hS <;> first | (cases hS; done) | (cases hS; exact Nat.le_of_ble_eq_true rfl)
  unfold nanS at hS
  split at hS
  case h_2 => cases hS
  rename_i a
  simp only [Option.some.injEq] at hS
  subst hS
  simp only [lenP, mkL, lim] at hl
  dsimp only at hob
  repeat' first
    | with_reducible first | refine Zas ?_ | refine Zao ?_ | refine Zac ?_ | refine Zad ?_ | refine Zai ?_ | refine Zaq ?_ | refine Zah ?_ | refine Zak ?_ | refine Zar ?_ | refine Zat ?_ | refine Zap ?_ | refine Zam ?_ | refine Zaa ?_ | refine Zae ?_ | refine Zab ?_ | refine Zal ?_
    | ((with_reducible refine Zaj ?_ ?_); exact rfl)
    | ((with_reducible refine Zau ?_); refine Zan rfl ?_ ?_ <;> intro hb <;> (try simp only [zH] at hb))
    | ((with_reducible refine Za0 ?_); (first | refine Zaf htb hmz noSp (fun _ => false) rfl rfl ?_ | refine Zag hmo htb hmz noSp (fun _ => false) rfl rfl (by kernel_rfl) ?_); intro m' e' l' ob h; simp only [zE0, zE1, zE2, zE3, zE4, zE5, evp, evx, ev1, evLoad, evStore, evBin, isBoolK, forall_const, z38, tb, Nat.reduceAdd, Nat.reduceSub, Nat.reduceMul, Nat.reduceEqDiff, Nat.reduceLeDiff, Nat.reduceLT, Nat.reduceBEq, Nat.reduceBNe, ↓reduceIte, reduceIte] at h; obtain ⟨rfl, rfl, rfl, rfl⟩ := h; refine ⟨?_, ?_⟩)
    | ((with_reducible refine Ob.mk ?_); first | exact trivial | (intros; omega) | ((repeat' first | apply And.intro | (intro hg; have hg' := hg; try simp only [zH] at hg')) <;> first | assumption | omega | (simp only [zH]; omega)))
  refine Zay rfl rfl (Zaw rfl ?_ rfl)
  rfl
def sgnI (a b : Int) : Int := if a < b then -1 else if b < a then 1 else 0
def cmpS : Spec
  | [.int .i64 a, .int .i64 b] => some ⟨True, .int .i64 (sgnI a b), none⟩
  | _ => none
def spCm : Nat → Option Spec
  | 63 => some nanS
  | _ => none
theorem spCm_ok : SpOK Try.prog spCm := by
  intro f S h
  unfold spCm at h
  split at h
  · cases h; exact nan_ok
  · cases h
set_option maxRecDepth 4000 in
set_option maxHeartbeats 4000000 in
theorem cmp_ok : FSpec Try.prog 61 cmpS := by
  refine Zba htb (fn := Try.f61) (by kernel_rfl) (by kernel_rfl) rfl (fun args r hS => ?_) (fun args r hS hob hl => ?_)
  · unfold cmpS at hS; split at hS <;> first | (cases hS; done) | (cases hS; exact Nat.le_of_ble_eq_true rfl)
  unfold cmpS at hS
  split at hS
  case h_2 => cases hS
  rename_i a b
  simp only [Option.some.injEq] at hS
  subst hS
  simp only [lenP, mkL, lim] at hl
  dsimp only at hob
  repeat' first
    | with_reducible first | refine Zas ?_ | refine Zao ?_ | refine Zac ?_ | refine Zad ?_ | refine Zai ?_ | refine Zaq ?_ | refine Zah ?_ | refine Zak ?_ | refine Zar ?_ | refine Zat ?_ | refine Zap ?_ | refine Zam ?_ | refine Zaa ?_ | refine Zae ?_ | refine Zab ?_ | refine Zal ?_
    | ((with_reducible refine Zaj ?_ ?_); exact rfl)
    | ((with_reducible refine Zau ?_); refine Zan rfl ?_ ?_ <;> intro hb <;> (try simp only [zH] at hb))
    | ((with_reducible refine Za0 ?_); (first | refine Zaf htb hmz spCm_ok (fun _ => false) rfl rfl ?_ | refine Zag hmo htb hmz spCm_ok (fun _ => false) rfl rfl (by kernel_rfl) ?_); intro m' e' l' ob h; simp only [zE0, zE1, zE2, zE3, zE4, zE5, evp, evx, ev1, evLoad, evStore, evBin, isBoolK, forall_const, z38, tb, Nat.reduceAdd, Nat.reduceSub, Nat.reduceMul, Nat.reduceEqDiff, Nat.reduceLeDiff, Nat.reduceLT, Nat.reduceBEq, Nat.reduceBNe, ↓reduceIte, reduceIte, spCm, nanS] at h; obtain ⟨rfl, rfl, rfl, rfl⟩ := h; refine ⟨?_, ?_⟩)
    | ((with_reducible refine Ob.mk ?_); first | exact trivial | (intros; omega) | ((repeat' first | apply And.intro | (intro hg; have hg' := hg; try simp only [zH] at hg')) <;> first | assumption | omega | (simp only [zH]; omega)))
  · cases hb
  · rename_i h
    cases h
  · cases hb
  · refine Zay rfl rfl (Zaw rfl ?_ rfl)
    rw [show sgnI a b = -1 from if_pos hb]; rfl
  · rename_i h
    refine Zay rfl rfl (Zaw rfl ?_ rfl)
    rw [show sgnI a b = 1 by unfold sgnI; rw [if_neg (by omega), if_pos hb]]; rfl
  · rename_i h
    refine Zay rfl rfl (Zaw rfl ?_ rfl)
    rw [show sgnI a b = 0 by unfold sgnI; rw [if_neg (by omega), if_neg (by omega)]]; rfl
/-- A value of a play. -/
structure Vl where
  e : Bool
  n : Bool
  m : List Int
def vlA (v : Vl) : AV := .agg (.cons (.bool v.e) (.cons (.bool v.n) (.cons (.roI v.m) .nil)))
def plusV (v : Vl) (p : Nat) : Vl := if v.e = true ∨ v.n = true then v else ⟨false, false, v.m.set p (v.m.getD p 0 + 1)⟩
def rankV (v : Vl) : Int := if v.n = true then -1 else if v.e = true then 1 else 0
/-- The numbers compared from the place before k on downwards. -/
def cmpK (pl : Int) (a b : List Int) : Nat → Int
  | 0 => 0
  | k + 1 => if sgnI (a.getD k 0) (b.getD k 0) ≠ 0 then (if (k : Int) % 2 ≠ pl then -(sgnI (a.getD k 0) (b.getD k 0)) else sgnI (a.getD k 0) (b.getD k 0)) else cmpK pl a b k
def cmpV (pl : Int) (a b : Vl) : Int := if sgnI (rankV a) (rankV b) ≠ 0 ∨ rankV a ≠ 0 then sgnI (rankV a) (rankV b) else cmpK pl a.m b.m a.m.length
def rankS : Spec
  | [.agg (.cons (.bool e) (.cons (.bool n) (.cons (.roI m) .nil)))] => some ⟨True, .int .i64 (rankV ⟨e, n, m⟩), none⟩
  | _ => none
set_option maxRecDepth 4000 in
set_option maxHeartbeats 4000000 in
theorem rank_ok : FSpec Try.prog 62 rankS := by
  refine Zba htb (fn := Try.f62) (by kernel_rfl) (by kernel_rfl) rfl (fun args r hS => ?_) (fun args r hS hob hl => ?_)
  · unfold rankS at hS; split at hS <;> first | (cases hS; done) | (cases hS; exact Nat.le_of_ble_eq_true rfl)
  unfold rankS at hS
  split at hS
  case h_2 => cases hS
  rename_i e n m
  simp only [Option.some.injEq] at hS
  subst hS
  simp only [lenP, mkL, lim] at hl
  dsimp only at hob
  repeat' first
    | with_reducible first | refine Zas ?_ | refine Zao ?_ | refine Zac ?_ | refine Zad ?_ | refine Zai ?_ | refine Zaq ?_ | refine Zah ?_ | refine Zak ?_ | refine Zar ?_ | refine Zat ?_ | refine Zap ?_ | refine Zam ?_ | refine Zaa ?_ | refine Zae ?_ | refine Zab ?_ | refine Zal ?_
    | ((with_reducible refine Zaj ?_ ?_); exact rfl)
    | ((with_reducible refine Zau ?_); refine Zan rfl ?_ ?_ <;> intro hb <;> (try simp only [zH] at hb))
    | ((with_reducible refine Za0 ?_); (first | refine Zaf htb hmz noSp (fun _ => false) rfl rfl ?_ | refine Zag hmo htb hmz noSp (fun _ => false) rfl rfl (by kernel_rfl) ?_); intro m' e' l' ob h; simp only [zE0, zE1, zE2, zE3, zE4, zE5, evp, evx, ev1, evLoad, evStore, evBin, isBoolK, forall_const, z38, tb, Nat.reduceAdd, Nat.reduceSub, Nat.reduceMul, Nat.reduceEqDiff, Nat.reduceLeDiff, Nat.reduceLT, Nat.reduceBEq, Nat.reduceBNe, ↓reduceIte, reduceIte] at h; obtain ⟨rfl, rfl, rfl, rfl⟩ := h; refine ⟨?_, ?_⟩)
    | ((with_reducible refine Ob.mk ?_); first | exact trivial | (intros; omega) | ((repeat' first | apply And.intro | (intro hg; have hg' := hg; try simp only [zH] at hg')) <;> first | assumption | omega | (simp only [zH]; omega)))
  · refine Zay rfl rfl (Zaw rfl ?_ rfl)
    rw [show rankV ⟨e, n, m⟩ = -1 from if_pos hb]; rfl
  · rename_i h
    refine Zay rfl rfl (Zaw rfl ?_ rfl)
    rw [show rankV ⟨e, n, m⟩ = 1 by unfold rankV; rw [if_neg (by simp [h]), if_pos hb]]; rfl
  · rename_i h
    refine Zay rfl rfl (Zaw rfl ?_ rfl)
    rw [show rankV ⟨e, n, m⟩ = 0 by unfold rankV; rw [if_neg (by simp [h]), if_neg (by simp [hb])]]; rfl
def compareS : Spec
  | [.agg (.cons (.bool e) (.cons (.bool n) (.cons (.roI m) .nil))), .agg (.cons (.bool e') (.cons (.bool n') (.cons (.roI m') .nil))), .int .i64 pl] => some ⟨m.length ≤ 1000000 ∧ (rankV ⟨e, n, m⟩ = 0 → rankV ⟨e', n', m'⟩ = 0 → m.length ≤ m'.length), .int .i64 (cmpV pl ⟨e, n, m⟩ ⟨e', n', m'⟩), none⟩
  | _ => none
def spCo : Nat → Option Spec
  | 62 => some rankS
  | 61 => some cmpS
  | _ => none
theorem Zb4 : SpOK Try.prog spCo := by
  intro f S h
  unfold spCo at h
  split at h
  · cases h; exact rank_ok
  · cases h; exact cmp_ok
  · cases h
theorem sgn_0 {a b : Int} (h : sgnI a b = 0) : a = b := by
  unfold sgnI at h
  split at h
  · cases h
  · split at h
    · cases h
    · omega
set_option maxRecDepth 4000 in
set_option maxHeartbeats 4000000 in
theorem compare_ok : FSpec Try.prog 59 compareS := by
  refine Zba htb (fn := Try.f59) (by kernel_rfl) (by kernel_rfl) rfl (fun args r hS => ?_) (fun args r hS hob hl => ?_)
  · unfold compareS at hS; split at hS <;> first | (cases hS; done) | (cases hS; exact Nat.le_of_ble_eq_true rfl)
  unfold compareS at hS
  split at hS
  case h_2 => cases hS
  rename_i e n m e' n' m' pl
  simp only [Option.some.injEq] at hS
  subst hS
  simp only [lenP, mkL, lim] at hl
  dsimp only at hob
  obtain ⟨hm6, hmm⟩ := hob
  have hC : cmpV pl ⟨e, n, m⟩ ⟨e', n', m'⟩ = if sgnI (rankV ⟨e, n, m⟩) (rankV ⟨e', n', m'⟩) ≠ 0 ∨ rankV ⟨e, n, m⟩ ≠ 0 then sgnI (rankV ⟨e, n, m⟩) (rankV ⟨e', n', m'⟩) else cmpK pl m m' m.length := rfl
  have hs0 := @sgn_0 (rankV ⟨e, n, m⟩) (rankV ⟨e', n', m'⟩)
  repeat' first
    | with_reducible first | refine Zas ?_ | refine Zao ?_ | refine Zac ?_ | refine Zad ?_ | refine Zai ?_ | refine Zaq ?_ | refine Zah ?_ | refine Zak ?_ | refine Zar ?_ | refine Zat ?_ | refine Zap ?_ | refine Zam ?_ | refine Zaa ?_ | refine Zae ?_ | refine Zab ?_ | refine Zal ?_
    | ((with_reducible refine Zaj ?_ ?_); exact rfl)
    | ((with_reducible refine Zau ?_); refine Zan rfl ?_ ?_ <;> intro hb <;> (try simp only [zH] at hb))
    | ((with_reducible refine Zav 3 ?_ ?_); (· exact rfl); (with_reducible refine Zav 4 ?_ ?_); (· exact rfl); (first | refine Zaf htb hmz Zb4 (fun _ => false) rfl rfl ?_ | refine Zag hmo htb hmz Zb4 (fun _ => false) rfl rfl (by kernel_rfl) ?_); intro m' e' l' ob h; simp only [zE0, zE1, zE2, zE3, zE4, zE5, evp, evx, ev1, evLoad, evStore, evBin, isBoolK, forall_const, z38, tb, Nat.reduceAdd, Nat.reduceSub, Nat.reduceMul, Nat.reduceEqDiff, Nat.reduceLeDiff, Nat.reduceLT, Nat.reduceBEq, Nat.reduceBNe, ↓reduceIte, reduceIte, spCo, rankS, cmpS] at h; obtain ⟨rfl, rfl, rfl, rfl⟩ := h; refine ⟨?_, ?_⟩)
    | ((with_reducible refine Ob.mk ?_); first | exact trivial | (intros; omega) | ((repeat' first | apply And.intro | (intro hg; have hg' := hg; try simp only [zH] at hg')) <;> first | assumption | omega | (simp only [zH]; omega)))
  · repeat' first
      | with_reducible first | refine Zas ?_ | refine Zao ?_ | refine Zac ?_ | refine Zad ?_ | refine Zai ?_ | refine Zaq ?_ | refine Zah ?_ | refine Zak ?_ | refine Zar ?_ | refine Zat ?_ | refine Zap ?_ | refine Zam ?_ | refine Zaa ?_ | refine Zae ?_ | refine Zab ?_ | refine Zal ?_
      | ((with_reducible refine Zaj ?_ ?_); exact rfl)
      | ((with_reducible refine Zau ?_); refine Zan rfl ?_ ?_ <;> intro hb <;> (try simp only [zH] at hb))
      | ((with_reducible refine Za0 ?_); (first | refine Zaf htb hmz Zb4 (fun _ => false) rfl rfl ?_ | refine Zag hmo htb hmz Zb4 (fun _ => false) rfl rfl (by kernel_rfl) ?_); intro m' e' l' ob h; simp only [zE0, zE1, zE2, zE3, zE4, zE5, evp, evx, ev1, evLoad, evStore, evBin, isBoolK, forall_const, z38, tb, Nat.reduceAdd, Nat.reduceSub, Nat.reduceMul, Nat.reduceEqDiff, Nat.reduceLeDiff, Nat.reduceLT, Nat.reduceBEq, Nat.reduceBNe, ↓reduceIte, reduceIte, spCo, rankS, cmpS] at h; obtain ⟨rfl, rfl, rfl, rfl⟩ := h; refine ⟨?_, ?_⟩)
      | ((with_reducible refine Ob.mk ?_); first | exact trivial | (intros; omega) | ((repeat' first | apply And.intro | (intro hg; have hg' := hg; try simp only [zH] at hg')) <;> first | assumption | omega | (simp only [zH]; omega)))
    refine Zay rfl rfl (Zaw rfl ?_ rfl)
    rw [hC, if_pos hb]
    rfl
  have hr0 : rankV ⟨e, n, m⟩ = 0 := hb.2
  have hsg : sgnI (rankV ⟨e, n, m⟩) (rankV ⟨e', n', m'⟩) = 0 := hb.1
  have hr1 := hs0 hsg
  have hml := hmm hr0 (by rw [← hr1]; exact hr0)
  have hC : cmpV pl ⟨e, n, m⟩ ⟨e', n', m'⟩ = cmpK pl m m' m.length := by rw [hC, if_neg (fun h => h.elim (fun h => h hsg) (fun h => h hr0))]
  rw [hC]
  clear hC hs0 hmm hr1 hsg hr0 hb
  repeat' first
    | with_reducible first | refine Zas ?_ | refine Zao ?_ | refine Zac ?_ | refine Zad ?_ | refine Zai ?_ | refine Zaq ?_ | refine Zah ?_ | refine Zak ?_ | refine Zar ?_ | refine Zat ?_ | refine Zap ?_ | refine Zam ?_ | refine Zaa ?_ | refine Zae ?_ | refine Zab ?_ | refine Zal ?_
    | ((with_reducible refine Zaj ?_ ?_); exact rfl)
    | ((with_reducible refine Zau ?_); refine Zan rfl ?_ ?_ <;> intro hb <;> (try simp only [zH] at hb))
    | ((with_reducible refine Za0 ?_); (first | refine Zaf htb hmz Zb4 (fun _ => false) rfl rfl ?_ | refine Zag hmo htb hmz Zb4 (fun _ => false) rfl rfl (by kernel_rfl) ?_); intro m' e' l' ob h; simp only [zE0, zE1, zE2, zE3, zE4, zE5, evp, evx, ev1, evLoad, evStore, evBin, isBoolK, forall_const, z38, tb, Nat.reduceAdd, Nat.reduceSub, Nat.reduceMul, Nat.reduceEqDiff, Nat.reduceLeDiff, Nat.reduceLT, Nat.reduceBEq, Nat.reduceBNe, ↓reduceIte, reduceIte, spCo, rankS, cmpS] at h; obtain ⟨rfl, rfl, rfl, rfl⟩ := h; refine ⟨?_, ?_⟩)
    | ((with_reducible refine Ob.mk ?_); first | exact trivial | (intros; omega) | ((repeat' first | apply And.intro | (intro hg; have hg' := hg; try simp only [zH] at hg')) <;> first | assumption | omega | (simp only [zH]; omega)))
  refine Za1 (τ := Nat) (fun k => k ≤ m.length ∧ cmpK pl m m' m.length = cmpK pl m m' k) (fun k => ⟨16, [(8, .int .i64 ((k : Int) - 1)), (4, .rop (.agg (.cons (.bool e') (.cons (.bool n') (.cons (.roI m') .nil))))), (3, .rop (.agg (.cons (.bool e) (.cons (.bool n) (.cons (.roI m) .nil))))), (2, .int .i64 pl)], [], []⟩) (fun k => k) m.length [] ?_ ⟨Nat.le_refl _, rfl⟩ ?_
  · (refine ⟨rfl, ?_, ?_⟩ <;> simp only [zE0, zE1, zE2, zE3, zE4, zE5, evp, evx, ev1, evLoad, evStore, evBin, isBoolK, forall_const, z38, tb, Nat.reduceAdd, Nat.reduceSub, Nat.reduceMul, Nat.reduceEqDiff, Nat.reduceLeDiff, Nat.reduceLT, Nat.reduceBEq, Nat.reduceBNe, ↓reduceIte, reduceIte, spCo, rankS, cmpS, zI])
  rintro k ⟨hk, hck⟩
  repeat' first
    | with_reducible first | refine Zas ?_ | refine Zao ?_ | refine Zac ?_ | refine Zad ?_ | refine Zai ?_ | refine Zaq ?_ | refine Zah ?_ | refine Zak ?_ | refine Zar ?_ | refine Zat ?_ | refine Zap ?_ | refine Zam ?_ | refine Zaa ?_ | refine Zae ?_ | refine Zab ?_ | refine Zal ?_
    | ((with_reducible refine Zaj ?_ ?_); exact rfl)
    | ((with_reducible refine Zau ?_); refine Zan rfl ?_ ?_ <;> intro hb <;> (try simp only [zH] at hb))
    | ((with_reducible refine Zav 7 ?_ ?_); (· exact rfl); (with_reducible refine Zav 12 ?_ ?_); (· exact rfl); (first | refine Zaf htb hmz Zb4 (fun _ => false) rfl rfl ?_ | refine Zag hmo htb hmz Zb4 (fun _ => false) rfl rfl (by kernel_rfl) ?_); intro m' e' l' ob h; simp only [zE0, zE1, zE2, zE3, zE4, zE5, evp, evx, ev1, evLoad, evStore, evBin, isBoolK, forall_const, z38, tb, Nat.reduceAdd, Nat.reduceSub, Nat.reduceMul, Nat.reduceEqDiff, Nat.reduceLeDiff, Nat.reduceLT, Nat.reduceBEq, Nat.reduceBNe, ↓reduceIte, reduceIte, spCo, rankS, cmpS] at h; obtain ⟨rfl, rfl, rfl, rfl⟩ := h; refine ⟨?_, ?_⟩)
    | ((with_reducible refine Ob.mk ?_); first | exact trivial | (intros; omega) | ((repeat' first | apply And.intro | (intro hg; have hg' := hg; try simp only [zH] at hg')) <;> first | assumption | omega | (simp only [zH]; omega)))
  · cases k with
    | zero => exfalso; omega
    | succ k =>
      have e1 : ((k + 1 : Nat) : Int) - 1 = (k : Int) := by omega
      rw [e1]
      have hcs : cmpK pl m m' (k + 1) = if sgnI (m.getD k 0) (m'.getD k 0) ≠ 0 then (if (k : Int) % 2 ≠ pl then -(sgnI (m.getD k 0) (m'.getD k 0)) else sgnI (m.getD k 0) (m'.getD k 0)) else cmpK pl m m' k := rfl
      have hsr : -1 ≤ sgnI (m.getD k 0) (m'.getD k 0) ∧ sgnI (m.getD k 0) (m'.getD k 0) ≤ 1 := by unfold sgnI; split <;> (try split) <;> omega
      repeat' first
        | with_reducible first | refine Zas ?_ | refine Zao ?_ | refine Zac ?_ | refine Zad ?_ | refine Zai ?_ | refine Zaq ?_ | refine Zah ?_ | refine Zak ?_ | refine Zar ?_ | refine Zat ?_ | refine Zap ?_ | refine Zam ?_ | refine Zaa ?_ | refine Zae ?_ | refine Zab ?_ | refine Zal ?_
        | ((with_reducible refine Zaj ?_ ?_); exact rfl)
        | ((with_reducible refine Zau ?_); refine Zan rfl ?_ ?_ <;> intro hb <;> (try simp only [zH] at hb))
        | ((with_reducible refine Zav 9 ?_ ?_); (· exact rfl); (with_reducible refine Zav 6 ?_ ?_); (· exact rfl); (first | refine Zaf htb hmz Zb4 (fun _ => false) rfl rfl ?_ | refine Zag hmo htb hmz Zb4 (fun _ => false) rfl rfl (by kernel_rfl) ?_); intro m' e' l' ob h; simp only [zE0, zE1, zE2, zE3, zE4, zE5, evp, evx, ev1, evLoad, evStore, evBin, isBoolK, forall_const, z38, tb, Nat.reduceAdd, Nat.reduceSub, Nat.reduceMul, Nat.reduceEqDiff, Nat.reduceLeDiff, Nat.reduceLT, Nat.reduceBEq, Nat.reduceBNe, ↓reduceIte, reduceIte, spCo, rankS, cmpS] at h; obtain ⟨rfl, rfl, rfl, rfl⟩ := h; refine ⟨?_, ?_⟩)
        | ((with_reducible refine Ob.mk ?_); first | exact trivial | (intros; omega) | ((repeat' first | apply And.intro | (intro hg; have hg' := hg; try simp only [zH] at hg')) <;> first | assumption | omega | (simp only [zH]; omega)))
      · repeat' first
          | with_reducible first | refine Zas ?_ | refine Zao ?_ | refine Zac ?_ | refine Zad ?_ | refine Zai ?_ | refine Zaq ?_ | refine Zah ?_ | refine Zak ?_ | refine Zar ?_ | refine Zat ?_ | refine Zap ?_ | refine Zam ?_ | refine Zaa ?_ | refine Zae ?_ | refine Zab ?_ | refine Zal ?_
          | ((with_reducible refine Zaj ?_ ?_); exact rfl)
          | ((with_reducible refine Zau ?_); refine Zan rfl ?_ ?_ <;> intro hb <;> (try simp only [zH] at hb))
          | ((with_reducible refine Za0 ?_); (first | refine Zaf htb hmz Zb4 (fun _ => false) rfl rfl ?_ | refine Zag hmo htb hmz Zb4 (fun _ => false) rfl rfl (by kernel_rfl) ?_); intro m' e' l' ob h; simp only [zE0, zE1, zE2, zE3, zE4, zE5, evp, evx, ev1, evLoad, evStore, evBin, isBoolK, forall_const, z38, tb, Nat.reduceAdd, Nat.reduceSub, Nat.reduceMul, Nat.reduceEqDiff, Nat.reduceLeDiff, Nat.reduceLT, Nat.reduceBEq, Nat.reduceBNe, ↓reduceIte, reduceIte, spCo, rankS, cmpS] at h; obtain ⟨rfl, rfl, rfl, rfl⟩ := h; refine ⟨?_, ?_⟩)
          | ((with_reducible refine Ob.mk ?_); first | exact trivial | (intros; omega) | ((repeat' first | apply And.intro | (intro hg; have hg' := hg; try simp only [zH] at hg')) <;> first | assumption | omega | (simp only [zH]; omega)))
        · refine Zay rfl rfl (Zaw rfl ?_ rfl)
          rename_i h
          have hw : IntKind.i64.wrap (-sgnI (m.getD k 0) (m'.getD k 0)) = -sgnI (m.getD k 0) (m'.getD k 0) := by
            rcases (show sgnI (m.getD k 0) (m'.getD k 0) = -1 ∨ sgnI (m.getD k 0) (m'.getD k 0) = 0 ∨ sgnI (m.getD k 0) (m'.getD k 0) = 1 by omega) with h3 | h3 | h3 <;> rw [h3] <;> rfl
          rw [hck, hcs, if_pos h, if_pos hb, hw]; rfl
        · refine Zay rfl rfl (Zaw rfl ?_ rfl)
          rename_i h
          rw [hck, hcs, if_pos h, if_neg (fun h2 => h2 hb)]; rfl
      · have h0 : sgnI (m.getD k 0) (m'.getD k 0) = 0 := hb
        rw [if_neg (fun h => h h0)] at hcs
        repeat' first
          | with_reducible first | refine Zas ?_ | refine Zao ?_ | refine Zac ?_ | refine Zad ?_ | refine Zai ?_ | refine Zaq ?_ | refine Zah ?_ | refine Zak ?_ | refine Zar ?_ | refine Zat ?_ | refine Zap ?_ | refine Zam ?_ | refine Zaa ?_ | refine Zae ?_ | refine Zab ?_ | refine Zal ?_
          | ((with_reducible refine Zaj ?_ ?_); exact rfl)
          | ((with_reducible refine Zau ?_); refine Zan rfl ?_ ?_ <;> intro hb <;> (try simp only [zH] at hb))
          | ((with_reducible refine Za0 ?_); (first | refine Zaf htb hmz Zb4 (fun _ => false) rfl rfl ?_ | refine Zag hmo htb hmz Zb4 (fun _ => false) rfl rfl (by kernel_rfl) ?_); intro m' e' l' ob h; simp only [zE0, zE1, zE2, zE3, zE4, zE5, evp, evx, ev1, evLoad, evStore, evBin, isBoolK, forall_const, z38, tb, Nat.reduceAdd, Nat.reduceSub, Nat.reduceMul, Nat.reduceEqDiff, Nat.reduceLeDiff, Nat.reduceLT, Nat.reduceBEq, Nat.reduceBNe, ↓reduceIte, reduceIte, spCo, rankS, cmpS] at h; obtain ⟨rfl, rfl, rfl, rfl⟩ := h; refine ⟨?_, ?_⟩)
          | ((with_reducible refine Ob.mk ?_); first | exact trivial | (intros; omega) | ((repeat' first | apply And.intro | (intro hg; have hg' := hg; try simp only [zH] at hg')) <;> first | assumption | omega | (simp only [zH]; omega)))
        refine back k [] ?_ ⟨by omega, by rw [hck, hcs]⟩ (by omega)
        (refine ⟨rfl, ?_, ?_⟩ <;> simp only [zE0, zE1, zE2, zE3, zE4, zE5, evp, evx, ev1, evLoad, evStore, evBin, isBoolK, forall_const, z38, tb, Nat.reduceAdd, Nat.reduceSub, Nat.reduceMul, Nat.reduceEqDiff, Nat.reduceLeDiff, Nat.reduceLT, Nat.reduceBEq, Nat.reduceBNe, ↓reduceIte, reduceIte, spCo, rankS, cmpS, zI])
  have hk0 : k = 0 := by omega
  subst hk0
  repeat' first
    | with_reducible first | refine Zas ?_ | refine Zao ?_ | refine Zac ?_ | refine Zad ?_ | refine Zai ?_ | refine Zaq ?_ | refine Zah ?_ | refine Zak ?_ | refine Zar ?_ | refine Zat ?_ | refine Zap ?_ | refine Zam ?_ | refine Zaa ?_ | refine Zae ?_ | refine Zab ?_ | refine Zal ?_
    | ((with_reducible refine Zaj ?_ ?_); exact rfl)
    | ((with_reducible refine Zau ?_); refine Zan rfl ?_ ?_ <;> intro hb <;> (try simp only [zH] at hb))
    | ((with_reducible refine Za0 ?_); (first | refine Zaf htb hmz Zb4 (fun _ => false) rfl rfl ?_ | refine Zag hmo htb hmz Zb4 (fun _ => false) rfl rfl (by kernel_rfl) ?_); intro m' e' l' ob h; simp only [zE0, zE1, zE2, zE3, zE4, zE5, evp, evx, ev1, evLoad, evStore, evBin, isBoolK, forall_const, z38, tb, Nat.reduceAdd, Nat.reduceSub, Nat.reduceMul, Nat.reduceEqDiff, Nat.reduceLeDiff, Nat.reduceLT, Nat.reduceBEq, Nat.reduceBNe, ↓reduceIte, reduceIte, spCo, rankS, cmpS] at h; obtain ⟨rfl, rfl, rfl, rfl⟩ := h; refine ⟨?_, ?_⟩)
    | ((with_reducible refine Ob.mk ?_); first | exact trivial | (intros; omega) | ((repeat' first | apply And.intro | (intro hg; have hg' := hg; try simp only [zH] at hg')) <;> first | assumption | omega | (simp only [zH]; omega)))
  refine Zay rfl rfl (Zaw rfl ?_ rfl)
  rw [hck]
  rfl
def plusS : Spec
  | [.agg (.cons (.bool e) (.cons (.bool n) (.cons (.roI m) .nil))), .int .i64 p] => some ⟨e = false → n = false → (m.length ≤ 1000000 ∧ 0 ≤ p ∧ p < m.length ∧ 0 ≤ m.getD p.toNat 0 ∧ m.getD p.toNat 0 ≤ 1000000000000), .agg (.cons (.bool (plusV ⟨e, n, m⟩ p.toNat).e) (.cons (.bool (plusV ⟨e, n, m⟩ p.toNat).n) (.cons (.roI (plusV ⟨e, n, m⟩ p.toNat).m) .nil))), none⟩
  | _ => none
set_option maxRecDepth 4000 in
set_option maxHeartbeats 4000000 in
theorem plus_ok : FSpec Try.prog 60 plusS := by
  refine Zba htb (fn := Try.f60) (by kernel_rfl) (by kernel_rfl) rfl (fun args r hS => ?_) (fun args r hS hob hl => ?_)
  · unfold plusS at hS; split at hS <;> first | (cases hS; done) | (cases hS; exact Nat.le_of_ble_eq_true rfl)
  unfold plusS at hS
  split at hS
  case h_2 => cases hS
  rename_i e n m p
  simp only [Option.some.injEq] at hS
  subst hS
  simp only [lenP, mkL, lim] at hl
  dsimp only at hob
  repeat' first
    | with_reducible first | refine Zas ?_ | refine Zao ?_ | refine Zac ?_ | refine Zad ?_ | refine Zai ?_ | refine Zaq ?_ | refine Zah ?_ | refine Zak ?_ | refine Zar ?_ | refine Zat ?_ | refine Zap ?_ | refine Zam ?_ | refine Zaa ?_ | refine Zae ?_ | refine Zab ?_ | refine Zal ?_
    | ((with_reducible refine Zaj ?_ ?_); exact rfl)
    | ((with_reducible refine Zau ?_); refine Zan rfl ?_ ?_ <;> intro hb <;> (try simp only [zH] at hb))
    | ((with_reducible refine Zav 2 ?_ ?_); (· exact rfl); (with_reducible refine Zav 3 ?_ ?_); (· exact rfl); (first | refine Zaf htb hmz noSp (fun _ => false) rfl rfl ?_ | refine Zag hmo htb hmz noSp (fun _ => false) rfl rfl (by kernel_rfl) ?_); intro m' e' l' ob h; simp only [zE0, zE1, zE2, zE3, zE4, zE5, evp, evx, ev1, evLoad, evStore, evBin, isBoolK, forall_const, z38, tb, Nat.reduceAdd, Nat.reduceSub, Nat.reduceMul, Nat.reduceEqDiff, Nat.reduceLeDiff, Nat.reduceLT, Nat.reduceBEq, Nat.reduceBNe, ↓reduceIte, reduceIte] at h; obtain ⟨rfl, rfl, rfl, rfl⟩ := h; refine ⟨?_, ?_⟩)
    | ((with_reducible refine Ob.mk ?_); first | exact trivial | (intros; omega) | ((repeat' first | apply And.intro | (intro hg; have hg' := hg; try simp only [zH] at hg')) <;> first | assumption | omega | (simp only [zH]; omega)))
  · repeat' first
      | with_reducible first | refine Zas ?_ | refine Zao ?_ | refine Zac ?_ | refine Zad ?_ | refine Zai ?_ | refine Zaq ?_ | refine Zah ?_ | refine Zak ?_ | refine Zar ?_ | refine Zat ?_ | refine Zap ?_ | refine Zam ?_ | refine Zaa ?_ | refine Zae ?_ | refine Zab ?_ | refine Zal ?_
      | ((with_reducible refine Zaj ?_ ?_); exact rfl)
      | ((with_reducible refine Zau ?_); refine Zan rfl ?_ ?_ <;> intro hb <;> (try simp only [zH] at hb))
      | ((with_reducible refine Za0 ?_); (first | refine Zaf htb hmz noSp (fun _ => false) rfl rfl ?_ | refine Zag hmo htb hmz noSp (fun _ => false) rfl rfl (by kernel_rfl) ?_); intro m' e' l' ob h; simp only [zE0, zE1, zE2, zE3, zE4, zE5, evp, evx, ev1, evLoad, evStore, evBin, isBoolK, forall_const, z38, tb, Nat.reduceAdd, Nat.reduceSub, Nat.reduceMul, Nat.reduceEqDiff, Nat.reduceLeDiff, Nat.reduceLT, Nat.reduceBEq, Nat.reduceBNe, ↓reduceIte, reduceIte] at h; obtain ⟨rfl, rfl, rfl, rfl⟩ := h; refine ⟨?_, ?_⟩)
      | ((with_reducible refine Ob.mk ?_); first | exact trivial | (intros; omega) | ((repeat' first | apply And.intro | (intro hg; have hg' := hg; try simp only [zH] at hg')) <;> first | assumption | omega | (simp only [zH]; omega)))
    refine Zay rfl rfl (Zaw rfl ?_ rfl)
    rw [show plusV ⟨e, n, m⟩ p.toNat = ⟨e, n, m⟩ from if_pos hb]
    rfl
  have he : e = false := by cases e with | false => rfl | true => simp at hb
  have hne : n = false := by cases n with | false => rfl | true => simp at hb
  subst he hne
  obtain ⟨h1, h2, h3, h4, h5⟩ := hob rfl rfl
  (refine Zaf htb hmz noSp (fun i => Nat.beq i 0) rfl rfl ?_; intro m' e' l' ob h; simp only [zE0, zE1, zE2, zE3, zE4, zE5, evp, evx, ev1, evLoad, evStore, evBin, isBoolK, forall_const, z38, tb, Nat.reduceAdd, Nat.reduceSub, Nat.reduceMul, Nat.reduceEqDiff, Nat.reduceLeDiff, Nat.reduceLT, Nat.reduceBEq, Nat.reduceBNe, ↓reduceIte, reduceIte] at h; obtain ⟨rfl, rfl, rfl, rfl⟩ := h; refine ⟨?_, ?_⟩)
  · first | ((with_reducible refine Ob.mk ?_); first | exact trivial | (intros; omega) | ((repeat' first | apply And.intro | (intro hg; have hg' := hg; try simp only [zH] at hg')) <;> first | assumption | omega | (simp only [zH]; omega))) | skip
  refine Zac ?_
  repeat' first
    | with_reducible first | refine Zas ?_ | refine Zao ?_ | refine Zac ?_ | refine Zad ?_ | refine Zai ?_ | refine Zaq ?_ | refine Zah ?_ | refine Zak ?_ | refine Zar ?_ | refine Zat ?_ | refine Zap ?_ | refine Zam ?_ | refine Zaa ?_ | refine Zae ?_ | refine Zab ?_ | refine Zal ?_
    | ((with_reducible refine Zaj ?_ ?_); exact rfl)
    | ((with_reducible refine Zau ?_); refine Zan rfl ?_ ?_ <;> intro hb <;> (try simp only [zH] at hb))
    | ((with_reducible refine Zav 5 ?_ ?_); (· exact rfl); (first | refine Zaf htb hmz noSp (fun _ => false) rfl rfl ?_ | refine Zag hmo htb hmz noSp (fun _ => false) rfl rfl (by kernel_rfl) ?_); intro m' e' l' ob h; simp only [zE0, zE1, zE2, zE3, zE4, zE5, evp, evx, ev1, evLoad, evStore, evBin, isBoolK, forall_const, z38, tb, Nat.reduceAdd, Nat.reduceSub, Nat.reduceMul, Nat.reduceEqDiff, Nat.reduceLeDiff, Nat.reduceLT, Nat.reduceBEq, Nat.reduceBNe, ↓reduceIte, reduceIte] at h; obtain ⟨rfl, rfl, rfl, rfl⟩ := h; refine ⟨?_, ?_⟩)
    | ((with_reducible refine Ob.mk ?_); first | exact trivial | (intros; omega) | ((repeat' first | apply And.intro | (intro hg; have hg' := hg; try simp only [zH] at hg')) <;> first | assumption | omega | (simp only [zH]; omega)))
  refine Zbv 11 (.roI (m.set p.toNat (m.getD p.toNat 0 + 1))) (by simp only [Zax, Za4, fzE, fzA, fzR, fzB, set1, nbeq, Nat.reduceEqDiff, decide_true, decide_false, ↓reduceIte, reduceIte, cond_true, cond_false, List.take_length, Option.some.injEq]; rfl) (by first | exact rfl | (refine ⟨?_, rfl⟩; first | rfl | (intros; rfl))) (by simp only [Zax, Za4, fzE, fzA, fzR, fzB, set1, nbeq, Nat.reduceEqDiff, decide_true, decide_false, ↓reduceIte, reduceIte, cond_true, cond_false, List.take_length, Option.some.injEq]; rfl) (by simp only [Zax, Za4, fzE, fzA, fzR, fzB, set1, nbeq, Nat.reduceEqDiff, decide_true, decide_false, ↓reduceIte, reduceIte, cond_true, cond_false, List.take_length, Option.some.injEq]; rfl) ?_
  repeat' first
    | with_reducible first | refine Zas ?_ | refine Zao ?_ | refine Zac ?_ | refine Zad ?_ | refine Zai ?_ | refine Zaq ?_ | refine Zah ?_ | refine Zak ?_ | refine Zar ?_ | refine Zat ?_ | refine Zap ?_ | refine Zam ?_ | refine Zaa ?_ | refine Zae ?_ | refine Zab ?_ | refine Zal ?_
    | ((with_reducible refine Zaj ?_ ?_); exact rfl)
    | ((with_reducible refine Zau ?_); refine Zan rfl ?_ ?_ <;> intro hb <;> (try simp only [zH] at hb))
    | ((with_reducible refine Za0 ?_); (first | refine Zaf htb hmz noSp (fun _ => false) rfl rfl ?_ | refine Zag hmo htb hmz noSp (fun _ => false) rfl rfl (by kernel_rfl) ?_); intro m' e' l' ob h; simp only [zE0, zE1, zE2, zE3, zE4, zE5, evp, evx, ev1, evLoad, evStore, evBin, isBoolK, forall_const, z38, tb, Nat.reduceAdd, Nat.reduceSub, Nat.reduceMul, Nat.reduceEqDiff, Nat.reduceLeDiff, Nat.reduceLT, Nat.reduceBEq, Nat.reduceBNe, ↓reduceIte, reduceIte] at h; obtain ⟨rfl, rfl, rfl, rfl⟩ := h; refine ⟨?_, ?_⟩)
    | ((with_reducible refine Ob.mk ?_); first | exact trivial | (intros; omega) | ((repeat' first | apply And.intro | (intro hg; have hg' := hg; try simp only [zH] at hg')) <;> first | assumption | omega | (simp only [zH]; omega)))
  refine Zay rfl rfl (Zaw rfl ?_ rfl)
  rfl
end Go.Proofs.Ytbcghiagomkadaa.Cal
namespace Go.Proofs.Ytbcghiagomkadaa.Cal
open Go Pl
/-- Values as they occur: K digits of at most D. -/
def VOK (K : Nat) (D : Int) (v : Vl) : Prop := v.m.length ≤ 1000000 ∧ (rankV v = 0 → v.m.length = K ∧ ∀ q, 0 ≤ v.m.getD q 0 ∧ v.m.getD q 0 ≤ D)
def minV (pl : Int) (l : Nat → Vl) (row : List Int) : Vl := row.foldl (fun out w => if cmpV pl (l w.toNat) out < 0 then l w.toNat else out) ⟨true, false, []⟩
def bhV (o p : List Int) (x : List (List Int)) (pl : Int) (st : Vl) (ch : List Int) (l : Nat → Vl) (v : Nat) : Vl :=
  plusV (if o.getD v 0 = pl then (if ch.getD v 0 < 0 then st else l (ch.getD v 0).toNat) else minV pl l (x.getD v [])) (p.getD v 0).toNat
theorem min_next {pl : Int} {l : Nat → Vl} {row : List Int} {i : Nat} (h : i < row.length) : minV pl l (row.take (i + 1)) = if cmpV pl (l (row.getD i 0).toNat) (minV pl l (row.take i)) < 0 then l (row.getD i 0).toNat else minV pl l (row.take i) := by
  unfold minV
  rw [Zf3 (d := 0) h, List.foldl_append]; rfl
theorem min_ok {pl : Int} {l : Nat → Vl} {K : Nat} {D : Int} : ∀ {row : List Int}, (∀ w, w ∈ row → VOK K D (l w.toNat)) → VOK K D (minV pl l row) := by
  intro row
  unfold minV
  generalize h0 : (⟨true, false, []⟩ : Vl) = out
  have hout : VOK K D out := by
    rw [← h0]
    refine ⟨by simp, fun h => ?_⟩
    simp [rankV] at h
  clear h0
  induction row generalizing out with
  | nil => intro _; exact hout
  | cons a row ih =>
    intro h
    rw [List.foldl_cons]
    refine ih _ ?_ fun w hw => h w (List.mem_cons_of_mem _ hw)
    split
    · exact h a List.mem_cons_self
    · exact hout
theorem Zf0 {K : Nat} {D : Int} {v : Vl} {q : Nat} (h : VOK K D v) (hq : q < K) : v.e = false → v.n = false → v.m.length ≤ 1000000 ∧ q < v.m.length ∧ 0 ≤ v.m.getD q 0 ∧ v.m.getD q 0 ≤ D := fun he hn => by
  have hr : rankV v = 0 := by unfold rankV; rw [if_neg (by simp [hn]), if_neg (by simp [he])]
  obtain ⟨h1, h2⟩ := h.2 hr
  exact ⟨h.1, by omega, h2 q⟩
noncomputable def spBh : Nat → Option Spec
  | 59 => some compareS
  | 60 => some plusS
  | _ => none
theorem Zbu : SpOK Try.prog spBh := by
  intro f S h
  unfold spBh at h
  split at h
  · cases h; exact compare_ok
  · cases h; exact plus_ok
  · cases h
set_option maxRecDepth 4000 in
set_option maxHeartbeats 4000000 in
theorem behind_fg {o p : List Int} {x : List (List Int)} {pl : Int} {st : Vl} {ls : List Bool} {ch : List Int} {l : Nat → Vl} {K v : Nat} {D : Int} (hn : o.length ≤ 20000) (hpl : p.length = o.length) (hxl : x.length = o.length) (hcl : ch.length = o.length) (hv : v < o.length) (hD : D ≤ 1000000000000)
    (hp : 0 ≤ p.getD v 0 ∧ (p.getD v 0).toNat < K) (hch : ch.getD v 0 < o.length) (hvo : ∀ u, u < o.length → VOK K D (l u)) (hst : VOK K D st) (hr : (x.getD v []).length ≤ 64 ∧ ∀ j, j < (x.getD v []).length → 0 ≤ (x.getD v []).getD j 0 ∧ (x.getD v []).getD j 0 < (o.length : Int)) :
    FG Try.prog 58 [.agg (.cons (.roI o) (.cons (.roI p) (.cons (.roII x) (.cons (.int .i64 pl) (.cons (.bool st.e) (.cons (.bool st.n) (.cons (.roI st.m) (.cons (.roB ls) (.cons (.own 1) .nil))))))))), .own 0, .int .i64 v] [(0, some (.avs 3 o.length fun j => vlA (l j))), (1, some (.ints ch))] 2
      fun g => g = ⟨2, vlA (bhV o p x pl st ch l v), [(0, some (.avs 3 o.length fun j => vlA (l j))), (1, some (.ints ch))]⟩ := by
  refine Zd1 htb (fn := Try.f58) (by kernel_rfl) (by kernel_rfl) rfl (Nat.le_of_ble_eq_true rfl) fun hl => ?_
  simp only [lenP, mkL, lim] at hl
  have hbh : ∀ b, (if o.getD v 0 = pl then (if ch.getD v 0 < 0 then st else l (ch.getD v 0).toNat) else minV pl l (x.getD v [])) = b → bhV o p x pl st ch l v = plusV b (p.getD v 0).toNat := fun b h => by unfold bhV; rw [h]
  repeat' first
    | with_reducible first | refine Zas ?_ | refine Zao ?_ | refine Zac ?_ | refine Zad ?_ | refine Zai ?_ | refine Zaq ?_ | refine Zah ?_ | refine Zak ?_ | refine Zar ?_ | refine Zat ?_ | refine Zap ?_ | refine Zam ?_ | refine Zaa ?_ | refine Zae ?_ | refine Zab ?_ | refine Zal ?_
    | ((with_reducible refine Zaj ?_ ?_); exact rfl)
    | ((with_reducible refine Zau ?_); refine Zan rfl ?_ ?_ <;> intro hb <;> (try simp only [zH] at hb))
    | ((with_reducible refine Zav 2 ?_ ?_); (· exact rfl); (with_reducible refine Zav 5 ?_ ?_); (· exact rfl); (first | refine Zaf htb hmz Zbu (fun _ => false) rfl rfl ?_ | refine Zag hmo htb hmz Zbu (fun _ => false) rfl rfl (by kernel_rfl) ?_); intro m' e' l' ob h; simp only [zE0, zE1, zE2, zE3, zE4, zE5, evp, evx, ev1, evLoad, evStore, evBin, isBoolK, forall_const, z38, tb, Nat.reduceAdd, Nat.reduceSub, Nat.reduceMul, Nat.reduceEqDiff, Nat.reduceLeDiff, Nat.reduceLT, Nat.reduceBEq, Nat.reduceBNe, ↓reduceIte, reduceIte, spBh, compareS, plusS, vlA] at h; obtain ⟨rfl, rfl, rfl, rfl⟩ := h; refine ⟨?_, ?_⟩)
    | ((with_reducible refine Ob.mk ?_); first | exact trivial | (intros; omega) | ((repeat' first | apply And.intro | (intro hg; have hg' := hg; try simp only [zH] at hg')) <;> first | (with_reducible exact True.intro) | assumption | omega | (simp only [zH]; omega)))
  · have ho := hb
    clear hb
    repeat' first
      | with_reducible first | refine Zas ?_ | refine Zao ?_ | refine Zac ?_ | refine Zad ?_ | refine Zai ?_ | refine Zaq ?_ | refine Zah ?_ | refine Zak ?_ | refine Zar ?_ | refine Zat ?_ | refine Zap ?_ | refine Zam ?_ | refine Zaa ?_ | refine Zae ?_ | refine Zab ?_ | refine Zal ?_
      | ((with_reducible refine Zaj ?_ ?_); exact rfl)
      | ((with_reducible refine Zau ?_); refine Zan rfl ?_ ?_ <;> intro hb <;> (try simp only [zH] at hb))
      | ((with_reducible refine Zav 3 ?_ ?_); (· exact rfl); (with_reducible refine Zav 4 ?_ ?_); (· exact rfl); (first | refine Zaf htb hmz Zbu (fun _ => false) rfl rfl ?_ | refine Zag hmo htb hmz Zbu (fun _ => false) rfl rfl (by kernel_rfl) ?_); intro m' e' l' ob h; simp only [zE0, zE1, zE2, zE3, zE4, zE5, evp, evx, ev1, evLoad, evStore, evBin, isBoolK, forall_const, z38, tb, Nat.reduceAdd, Nat.reduceSub, Nat.reduceMul, Nat.reduceEqDiff, Nat.reduceLeDiff, Nat.reduceLT, Nat.reduceBEq, Nat.reduceBNe, ↓reduceIte, reduceIte, spBh, compareS, plusS, vlA] at h; obtain ⟨rfl, rfl, rfl, rfl⟩ := h; refine ⟨?_, ?_⟩)
      | ((with_reducible refine Ob.mk ?_); first | exact trivial | (intros; omega) | ((repeat' first | apply And.intro | (intro hg; have hg' := hg; try simp only [zH] at hg')) <;> first | (with_reducible exact True.intro) | assumption | omega | (simp only [zH]; omega)))
    · have hb1 := hbh st (by rw [if_pos ho, if_pos hb])
      have hpo := Zf0 hst hp.2
      rw [hb1]
      repeat' first
        | with_reducible first | refine Zas ?_ | refine Zao ?_ | refine Zac ?_ | refine Zad ?_ | refine Zai ?_ | refine Zaq ?_ | refine Zah ?_ | refine Zak ?_ | refine Zar ?_ | refine Zat ?_ | refine Zap ?_ | refine Zam ?_ | refine Zaa ?_ | refine Zae ?_ | refine Zab ?_ | refine Zal ?_
        | ((with_reducible refine Zaj ?_ ?_); exact rfl)
        | ((with_reducible refine Zau ?_); refine Zan rfl ?_ ?_ <;> intro hb <;> (try simp only [zH] at hb))
        | ((with_reducible refine Za0 ?_); (first | refine Zaf htb hmz Zbu (fun _ => false) rfl rfl ?_ | refine Zag hmo htb hmz Zbu (fun _ => false) rfl rfl (by kernel_rfl) ?_); intro m' e' l' ob h; simp only [zE0, zE1, zE2, zE3, zE4, zE5, evp, evx, ev1, evLoad, evStore, evBin, isBoolK, forall_const, z38, tb, Nat.reduceAdd, Nat.reduceSub, Nat.reduceMul, Nat.reduceEqDiff, Nat.reduceLeDiff, Nat.reduceLT, Nat.reduceBEq, Nat.reduceBNe, ↓reduceIte, reduceIte, spBh, compareS, plusS, vlA] at h; obtain ⟨rfl, rfl, rfl, rfl⟩ := h; refine ⟨?_, ?_⟩)
        | ((with_reducible refine Ob.mk ?_); first | exact trivial | (intros; omega) | ((repeat' first | apply And.intro | (intro hg; have hg' := hg; try simp only [zH] at hg')) <;> first | (with_reducible exact True.intro) | assumption | omega | (simp only [zH]; omega)))
      · refine Ob.mk ⟨⟨by omega, by omega⟩, fun he hn2 => ?_⟩
        obtain ⟨a1, a2, a3, a4⟩ := hpo he hn2
        exact ⟨a1, by omega, by omega, a3, by omega⟩
      refine Zay rfl rfl (Zcw (⟨2, vlA (plusV st (p.getD v 0).toNat), [(0, some (.avs 3 o.length fun j => vlA (l j))), (1, some (.ints ch))]⟩) ([]) rfl rfl (Zbp rfl) ?_)
      simp only [grR, zE0, zE1, zE2, zE3, zE4, zE5, evp, evx, ev1, evLoad, evStore, evBin, isBoolK, forall_const, z38, tb, Nat.reduceAdd, Nat.reduceSub, Nat.reduceMul, Nat.reduceEqDiff, Nat.reduceLeDiff, Nat.reduceLT, Nat.reduceBEq, Nat.reduceBNe, ↓reduceIte, reduceIte, spBh, compareS, plusS, vlA]
    · have hb1 := hbh (l (ch.getD v 0).toNat) (by rw [if_pos ho, if_neg (by omega)])
      have hcv : (ch.getD v 0).toNat < o.length := by omega
      have hpo := Zf0 (hvo _ hcv) hp.2
      rw [hb1]
      repeat' first
        | with_reducible first | refine Zas ?_ | refine Zao ?_ | refine Zac ?_ | refine Zad ?_ | refine Zai ?_ | refine Zaq ?_ | refine Zah ?_ | refine Zak ?_ | refine Zar ?_ | refine Zat ?_ | refine Zap ?_ | refine Zam ?_ | refine Zaa ?_ | refine Zae ?_ | refine Zab ?_ | refine Zal ?_
        | ((with_reducible refine Zaj ?_ ?_); exact rfl)
        | ((with_reducible refine Zau ?_); refine Zan rfl ?_ ?_ <;> intro hb <;> (try simp only [zH] at hb))
        | ((with_reducible refine Za0 ?_); (first | refine Zaf htb hmz Zbu (fun _ => false) rfl rfl ?_ | refine Zag hmo htb hmz Zbu (fun _ => false) rfl rfl (by kernel_rfl) ?_); intro m' e' l' ob h; simp only [zE0, zE1, zE2, zE3, zE4, zE5, evp, evx, ev1, evLoad, evStore, evBin, isBoolK, forall_const, z38, tb, Nat.reduceAdd, Nat.reduceSub, Nat.reduceMul, Nat.reduceEqDiff, Nat.reduceLeDiff, Nat.reduceLT, Nat.reduceBEq, Nat.reduceBNe, ↓reduceIte, reduceIte, spBh, compareS, plusS, vlA] at h; obtain ⟨rfl, rfl, rfl, rfl⟩ := h; refine ⟨?_, ?_⟩)
        | ((with_reducible refine Ob.mk ?_); first | exact trivial | (intros; omega) | ((repeat' first | apply And.intro | (intro hg; have hg' := hg; try simp only [zH] at hg')) <;> first | (with_reducible exact True.intro) | assumption | omega | (simp only [zH]; omega)))
      · refine Ob.mk ⟨⟨⟨⟨⟨⟨by omega, by omega⟩, by omega⟩, by omega, by omega⟩, by omega⟩, by omega, by omega⟩, fun he hn2 => ?_⟩
        obtain ⟨a1, a2, a3, a4⟩ := hpo he hn2
        exact ⟨a1, by omega, by omega, a3, by omega⟩
      refine Zay rfl rfl (Zcw (⟨2, vlA (plusV (l (ch.getD v 0).toNat) (p.getD v 0).toNat), [(0, some (.avs 3 o.length fun j => vlA (l j))), (1, some (.ints ch))]⟩) ([]) rfl rfl (Zbp rfl) ?_)
      simp only [grR, zE0, zE1, zE2, zE3, zE4, zE5, evp, evx, ev1, evLoad, evStore, evBin, isBoolK, forall_const, z38, tb, Nat.reduceAdd, Nat.reduceSub, Nat.reduceMul, Nat.reduceEqDiff, Nat.reduceLeDiff, Nat.reduceLT, Nat.reduceBEq, Nat.reduceBNe, ↓reduceIte, reduceIte, spBh, compareS, plusS, vlA]
  have ho : ¬ o.getD v 0 = pl := hb
  clear hb
  have hb1 := hbh (minV pl l (x.getD v [])) (by rw [if_neg ho])
  have hmk : ∀ i, i ≤ (x.getD v []).length → VOK K D (minV pl l ((x.getD v []).take i)) := fun i hi => min_ok fun w hw => by
    obtain ⟨j, hj, rfl⟩ := Zc9 (List.mem_of_mem_take hw)
    have := hr.2 j hj
    exact hvo _ (by omega)
  have hmn := fun i => @min_next pl l (x.getD v []) i
  have hm0 : minV pl l ((x.getD v []).take 0) = ⟨true, false, []⟩ := rfl
  have hma : minV pl l ((x.getD v []).take (x.getD v []).length) = minV pl l (x.getD v []) := by rw [List.take_length]
  rw [hb1]
  clear hbh hb1
  repeat' first
    | with_reducible first | refine Zas ?_ | refine Zao ?_ | refine Zac ?_ | refine Zad ?_ | refine Zai ?_ | refine Zaq ?_ | refine Zah ?_ | refine Zak ?_ | refine Zar ?_ | refine Zat ?_ | refine Zap ?_ | refine Zam ?_ | refine Zaa ?_ | refine Zae ?_ | refine Zab ?_ | refine Zal ?_
    | ((with_reducible refine Zaj ?_ ?_); exact rfl)
    | ((with_reducible refine Zau ?_); refine Zan rfl ?_ ?_ <;> intro hb <;> (try simp only [zH] at hb))
    | ((with_reducible refine Za0 ?_); (first | refine Zaf htb hmz Zbu (fun _ => false) rfl rfl ?_ | refine Zag hmo htb hmz Zbu (fun _ => false) rfl rfl (by kernel_rfl) ?_); intro m' e' l' ob h; simp only [zE0, zE1, zE2, zE3, zE4, zE5, evp, evx, ev1, evLoad, evStore, evBin, isBoolK, forall_const, z38, tb, Nat.reduceAdd, Nat.reduceSub, Nat.reduceMul, Nat.reduceEqDiff, Nat.reduceLeDiff, Nat.reduceLT, Nat.reduceBEq, Nat.reduceBNe, ↓reduceIte, reduceIte, spBh, compareS, plusS, vlA] at h; obtain ⟨rfl, rfl, rfl, rfl⟩ := h; refine ⟨?_, ?_⟩)
    | ((with_reducible refine Ob.mk ?_); first | exact trivial | (intros; omega) | ((repeat' first | apply And.intro | (intro hg; have hg' := hg; try simp only [zH] at hg')) <;> first | (with_reducible exact True.intro) | assumption | omega | (simp only [zH]; omega)))
  refine Zgr 14 rfl rfl ?_
  generalize x.getD v [] = rw at *
  refine Za1 (τ := Nat) (fun i => i ≤ rw.length) (fun i => ⟨24, [(57, .int .i64 i), (56, .int .i64 rw.length), (55, .roI rw), (7, .own 14), (6, .own 3), (3, .own 2), (1, .own 0), (2, .int .i64 v)], [(0, some (.avs 3 o.length fun j => vlA (l j))), (1, some (.ints ch)), (2, some (.box (.agg (.cons (.roI o) (.cons (.roI p) (.cons (.roII x) (.cons (.int .i64 pl) (.cons (.bool st.e) (.cons (.bool st.n) (.cons (.roI st.m) (.cons (.roB ls) (.cons (.own 1) .nil)))))))))))), (3, some (.box (.agg (.cons (.bool false) (.cons (.bool false) (.cons (.cst (.slice none 0 0)) .nil)))))), (14, some (.box (vlA (minV pl l (rw.take i)))))], []⟩) (fun i => rw.length - i) 0 [] ?_ (Nat.zero_le _) ?_
  · (refine ⟨rfl, ?_, ?_⟩ <;> simp only [zE0, zE1, zE2, zE3, zE4, zE5, evp, evx, ev1, evLoad, evStore, evBin, isBoolK, forall_const, z38, tb, Nat.reduceAdd, Nat.reduceSub, Nat.reduceMul, Nat.reduceEqDiff, Nat.reduceLeDiff, Nat.reduceLT, Nat.reduceBEq, Nat.reduceBNe, ↓reduceIte, reduceIte, spBh, compareS, plusS, vlA, zI])
    rw [hm0]
    rfl
  intro i hi
  have hmk1 := hmk i hi
  have hmn1 := hmn i
  have hr1 := hr.2 i
  clear hmk hmn
  repeat' first
    | with_reducible first | refine Zas ?_ | refine Zao ?_ | refine Zac ?_ | refine Zad ?_ | refine Zai ?_ | refine Zaq ?_ | refine Zah ?_ | refine Zak ?_ | refine Zar ?_ | refine Zat ?_ | refine Zap ?_ | refine Zam ?_ | refine Zaa ?_ | refine Zae ?_ | refine Zab ?_ | refine Zal ?_
    | ((with_reducible refine Zaj ?_ ?_); exact rfl)
    | ((with_reducible refine Zau ?_); refine Zan rfl ?_ ?_ <;> intro hb <;> (try simp only [zH] at hb))
    | ((with_reducible refine Zav 9 ?_ ?_); (· exact rfl); (with_reducible refine Zav 12 ?_ ?_); (· exact rfl); (first | refine Zaf htb hmz Zbu (fun _ => false) rfl rfl ?_ | refine Zag hmo htb hmz Zbu (fun _ => false) rfl rfl (by kernel_rfl) ?_); intro m' e' l' ob h; simp only [zE0, zE1, zE2, zE3, zE4, zE5, evp, evx, ev1, evLoad, evStore, evBin, isBoolK, forall_const, z38, tb, Nat.reduceAdd, Nat.reduceSub, Nat.reduceMul, Nat.reduceEqDiff, Nat.reduceLeDiff, Nat.reduceLT, Nat.reduceBEq, Nat.reduceBNe, ↓reduceIte, reduceIte, spBh, compareS, plusS, vlA] at h; obtain ⟨rfl, rfl, rfl, rfl⟩ := h; refine ⟨?_, ?_⟩)
    | ((with_reducible refine Ob.mk ?_); first | exact trivial | (intros; omega) | ((repeat' first | apply And.intro | (intro hg; have hg' := hg; try simp only [zH] at hg')) <;> first | (with_reducible exact True.intro) | assumption | omega | (simp only [zH]; omega)))
  · have hil : i < rw.length := by omega
    obtain ⟨c1, c2⟩ := hr1 hil
    have hmn1 := hmn1 hil
    have hw : (rw.getD i 0).toNat < o.length := by omega
    have hv1 := hvo _ hw
    generalize minV pl l (rw.take i) = mn at *
    generalize rw.getD i 0 = w at *
    repeat' first
      | with_reducible first | refine Zas ?_ | refine Zao ?_ | refine Zac ?_ | refine Zad ?_ | refine Zai ?_ | refine Zaq ?_ | refine Zah ?_ | refine Zak ?_ | refine Zar ?_ | refine Zat ?_ | refine Zap ?_ | refine Zam ?_ | refine Zaa ?_ | refine Zae ?_ | refine Zab ?_ | refine Zal ?_
      | ((with_reducible refine Zaj ?_ ?_); exact rfl)
      | ((with_reducible refine Zau ?_); refine Zan rfl ?_ ?_ <;> intro hb <;> (try simp only [zH] at hb))
      | ((with_reducible refine Zav 10 ?_ ?_); (· exact rfl); (with_reducible refine Zav 11 ?_ ?_); (· exact rfl); (first | refine Zaf htb hmz Zbu (fun _ => false) rfl rfl ?_ | refine Zag hmo htb hmz Zbu (fun _ => false) rfl rfl (by kernel_rfl) ?_); intro m' e' l' ob h; simp only [zE0, zE1, zE2, zE3, zE4, zE5, evp, evx, ev1, evLoad, evStore, evBin, isBoolK, forall_const, z38, tb, Nat.reduceAdd, Nat.reduceSub, Nat.reduceMul, Nat.reduceEqDiff, Nat.reduceLeDiff, Nat.reduceLT, Nat.reduceBEq, Nat.reduceBNe, ↓reduceIte, reduceIte, spBh, compareS, plusS, vlA] at h; obtain ⟨rfl, rfl, rfl, rfl⟩ := h; refine ⟨?_, ?_⟩)
      | ((with_reducible refine Ob.mk ?_); first | exact trivial | (intros; omega) | ((repeat' first | apply And.intro | (intro hg; have hg' := hg; try simp only [zH] at hg')) <;> first | (with_reducible exact True.intro) | assumption | omega | (simp only [zH]; omega)))
    · refine Ob.mk ⟨⟨⟨by omega, by omega⟩, by omega⟩, hv1.1, fun h1 h2 => ?_⟩
      rw [(hv1.2 h1).1, (hmk1.2 h2).1]
      exact Nat.le_refl _
    · rw [if_pos hb] at hmn1
      repeat' first
        | with_reducible first | refine Zas ?_ | refine Zao ?_ | refine Zac ?_ | refine Zad ?_ | refine Zai ?_ | refine Zaq ?_ | refine Zah ?_ | refine Zak ?_ | refine Zar ?_ | refine Zat ?_ | refine Zap ?_ | refine Zam ?_ | refine Zaa ?_ | refine Zae ?_ | refine Zab ?_ | refine Zal ?_
        | ((with_reducible refine Zaj ?_ ?_); exact rfl)
        | ((with_reducible refine Zau ?_); refine Zan rfl ?_ ?_ <;> intro hb <;> (try simp only [zH] at hb))
        | ((with_reducible refine Za0 ?_); (first | refine Zaf htb hmz Zbu (fun _ => false) rfl rfl ?_ | refine Zag hmo htb hmz Zbu (fun _ => false) rfl rfl (by kernel_rfl) ?_); intro m' e' l' ob h; simp only [zE0, zE1, zE2, zE3, zE4, zE5, evp, evx, ev1, evLoad, evStore, evBin, isBoolK, forall_const, z38, tb, Nat.reduceAdd, Nat.reduceSub, Nat.reduceMul, Nat.reduceEqDiff, Nat.reduceLeDiff, Nat.reduceLT, Nat.reduceBEq, Nat.reduceBNe, ↓reduceIte, reduceIte, spBh, compareS, plusS, vlA] at h; obtain ⟨rfl, rfl, rfl, rfl⟩ := h; refine ⟨?_, ?_⟩)
        | ((with_reducible refine Ob.mk ?_); first | exact trivial | (intros; omega) | ((repeat' first | apply And.intro | (intro hg; have hg' := hg; try simp only [zH] at hg')) <;> first | (with_reducible exact True.intro) | assumption | omega | (simp only [zH]; omega)))
      refine back (i + 1) [] ?_ (by omega) (by omega)
      (refine ⟨rfl, ?_, ?_⟩ <;> simp only [zE0, zE1, zE2, zE3, zE4, zE5, evp, evx, ev1, evLoad, evStore, evBin, isBoolK, forall_const, z38, tb, Nat.reduceAdd, Nat.reduceSub, Nat.reduceMul, Nat.reduceEqDiff, Nat.reduceLeDiff, Nat.reduceLT, Nat.reduceBEq, Nat.reduceBNe, ↓reduceIte, reduceIte, spBh, compareS, plusS, vlA, zI])
      rw [hmn1]
      exact ⟨rfl, rfl, rfl⟩
    · rw [if_neg (Int.not_lt.2 hb)] at hmn1
      repeat' first
        | with_reducible first | refine Zas ?_ | refine Zao ?_ | refine Zac ?_ | refine Zad ?_ | refine Zai ?_ | refine Zaq ?_ | refine Zah ?_ | refine Zak ?_ | refine Zar ?_ | refine Zat ?_ | refine Zap ?_ | refine Zam ?_ | refine Zaa ?_ | refine Zae ?_ | refine Zab ?_ | refine Zal ?_
        | ((with_reducible refine Zaj ?_ ?_); exact rfl)
        | ((with_reducible refine Zau ?_); refine Zan rfl ?_ ?_ <;> intro hb <;> (try simp only [zH] at hb))
        | ((with_reducible refine Za0 ?_); (first | refine Zaf htb hmz Zbu (fun _ => false) rfl rfl ?_ | refine Zag hmo htb hmz Zbu (fun _ => false) rfl rfl (by kernel_rfl) ?_); intro m' e' l' ob h; simp only [zE0, zE1, zE2, zE3, zE4, zE5, evp, evx, ev1, evLoad, evStore, evBin, isBoolK, forall_const, z38, tb, Nat.reduceAdd, Nat.reduceSub, Nat.reduceMul, Nat.reduceEqDiff, Nat.reduceLeDiff, Nat.reduceLT, Nat.reduceBEq, Nat.reduceBNe, ↓reduceIte, reduceIte, spBh, compareS, plusS, vlA] at h; obtain ⟨rfl, rfl, rfl, rfl⟩ := h; refine ⟨?_, ?_⟩)
        | ((with_reducible refine Ob.mk ?_); first | exact trivial | (intros; omega) | ((repeat' first | apply And.intro | (intro hg; have hg' := hg; try simp only [zH] at hg')) <;> first | (with_reducible exact True.intro) | assumption | omega | (simp only [zH]; omega)))
      refine back (i + 1) [] ?_ (by omega) (by omega)
      (refine ⟨rfl, ?_, ?_⟩ <;> simp only [zE0, zE1, zE2, zE3, zE4, zE5, evp, evx, ev1, evLoad, evStore, evBin, isBoolK, forall_const, z38, tb, Nat.reduceAdd, Nat.reduceSub, Nat.reduceMul, Nat.reduceEqDiff, Nat.reduceLeDiff, Nat.reduceLT, Nat.reduceBEq, Nat.reduceBNe, ↓reduceIte, reduceIte, spBh, compareS, plusS, vlA, zI])
      rw [hmn1]
      exact ⟨rfl, rfl, rfl⟩
  have hie : i = rw.length := by omega
  subst hie
  rw [hma] at hmk1 ⊢
  have hpo := Zf0 hmk1 hp.2
  repeat' first
    | with_reducible first | refine Zas ?_ | refine Zao ?_ | refine Zac ?_ | refine Zad ?_ | refine Zai ?_ | refine Zaq ?_ | refine Zah ?_ | refine Zak ?_ | refine Zar ?_ | refine Zat ?_ | refine Zap ?_ | refine Zam ?_ | refine Zaa ?_ | refine Zae ?_ | refine Zab ?_ | refine Zal ?_
    | ((with_reducible refine Zaj ?_ ?_); exact rfl)
    | ((with_reducible refine Zau ?_); refine Zan rfl ?_ ?_ <;> intro hb <;> (try simp only [zH] at hb))
    | ((with_reducible refine Za0 ?_); (first | refine Zaf htb hmz Zbu (fun _ => false) rfl rfl ?_ | refine Zag hmo htb hmz Zbu (fun _ => false) rfl rfl (by kernel_rfl) ?_); intro m' e' l' ob h; simp only [zE0, zE1, zE2, zE3, zE4, zE5, evp, evx, ev1, evLoad, evStore, evBin, isBoolK, forall_const, z38, tb, Nat.reduceAdd, Nat.reduceSub, Nat.reduceMul, Nat.reduceEqDiff, Nat.reduceLeDiff, Nat.reduceLT, Nat.reduceBEq, Nat.reduceBNe, ↓reduceIte, reduceIte, spBh, compareS, plusS, vlA] at h; obtain ⟨rfl, rfl, rfl, rfl⟩ := h; refine ⟨?_, ?_⟩)
    | ((with_reducible refine Ob.mk ?_); first | exact trivial | (intros; omega) | ((repeat' first | apply And.intro | (intro hg; have hg' := hg; try simp only [zH] at hg')) <;> first | (with_reducible exact True.intro) | assumption | omega | (simp only [zH]; omega)))
  · refine Ob.mk ⟨⟨by omega, by omega⟩, fun he hn2 => ?_⟩
    obtain ⟨a1, a2, a3, a4⟩ := hpo he hn2
    exact ⟨a1, by omega, by omega, a3, by omega⟩
  refine Zay rfl rfl (Zcw (⟨2, vlA (plusV (minV pl l rw) (p.getD v 0).toNat), [(0, some (.avs 3 o.length fun j => vlA (l j))), (1, some (.ints ch))]⟩) ([]) rfl rfl (Zbp rfl) ?_)
  simp only [grR, zE0, zE1, zE2, zE3, zE4, zE5, evp, evx, ev1, evLoad, evStore, evBin, isBoolK, forall_const, z38, tb, Nat.reduceAdd, Nat.reduceSub, Nat.reduceMul, Nat.reduceEqDiff, Nat.reduceLeDiff, Nat.reduceLT, Nat.reduceBEq, Nat.reduceBNe, ↓reduceIte, reduceIte, spBh, compareS, plusS, vlA]
end Go.Proofs.Ytbcghiagomkadaa.Cal
