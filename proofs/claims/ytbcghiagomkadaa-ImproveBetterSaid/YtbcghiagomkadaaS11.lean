/- Own texts, merged. -/
import Derived.Test.YtbcghiagomkadaaS10
set_option linter.unusedVariables false
set_option linter.unusedSimpArgs false
open Nat (reduceAdd reduceSub reduceMul reduceEqDiff reduceLeDiff reduceLT)
namespace Go.Proofs.Ytbcghiagomkadaa.Cal
open Go Pl
structure Im where
  o : List Int
  p : List Int
  x : List (List Int)
  pl : Int
  st : Vl
  ls : List Bool
def Im.bh (h : Im) (ch : List Int) (l : Nat → Vl) (v : Nat) : Vl := bhV h.o h.p h.x h.pl h.st ch l v
def Zha (h : Im) (ch : List Int) (s : (Nat → Vl) × Bool) (v : Nat) : (Nat → Vl) × Bool := if h.ls.getD v false = false ∧ cmpV h.pl (h.bh ch s.1 v) (s.1 v) < 0 then (fun j => if j = v then h.bh ch s.1 v else s.1 j, true) else s
def Zc3 (h : Im) (ch : List Int) (l : Nat → Vl) (i : Nat) : (Nat → Vl) × Bool := (List.range i).foldl (Zha h ch) (l, false)
def vIt (h : Im) (ch : List Int) : Nat → Nat → Vl
  | 0 => fun v => ⟨!h.ls.getD v false, h.ls.getD v false, []⟩
  | k + 1 => (Zc3 h ch (vIt h ch k) h.o.length).1
def VEnd (h : Im) (ch : List Int) (k : Nat) : Prop := k ≤ 20001 ∧ (∀ j, j < k → (Zc3 h ch (vIt h ch j) h.o.length).2 = true) ∧ (Zc3 h ch (vIt h ch k) h.o.length).2 = false
theorem Zcr {h : Im} {ch : List Int} {l : Nat → Vl} {i : Nat} : Zc3 h ch l (i + 1) = Zha h ch (Zc3 h ch l i) i := by
  unfold Zc3
  rw [List.range_succ, List.foldl_append]; rfl
theorem Zfz {h : Im} {ch : List Int} {l : Nat → Vl} : ∀ {i : Nat}, (Zc3 h ch l i).2 = false → (Zc3 h ch l i).1 = l
  | 0, _ => rfl
  | i + 1, hh => by
    rw [Zcr] at hh ⊢
    unfold Zha at hh ⊢
    split at hh
    · cases hh
    · rename_i h2
      rw [if_neg h2]
      exact Zfz hh
theorem Zcf {K : Nat} {D D' : Int} {v : Vl} (h : VOK K D v) (hD : D ≤ D') : VOK K D' v := ⟨h.1, fun hr => ⟨(h.2 hr).1, fun q => ⟨((h.2 hr).2 q).1, Int.le_trans ((h.2 hr).2 q).2 hD⟩⟩⟩
theorem vok_plus1 {K : Nat} {D : Int} {v : Vl} {q : Nat} (h : VOK K D v) : VOK K (D + 1) (Zed v q) := by
  unfold Zed
  split
  · exact Zcf h (by omega)
  · rename_i h2
    have he : v.e = false := by cases hv : v.e with | false => rfl | true => exact absurd (.inl hv) h2
    have hn : v.n = false := by cases hv : v.n with | false => rfl | true => exact absurd (.inr hv) h2
    have hr : Zch v = 0 := by unfold Zch; rw [if_neg (by simp [hn]), if_neg (by simp [he])]
    obtain ⟨h3, h4⟩ := h.2 hr
    refine ⟨by dsimp only; rw [List.length_set]; exact h.1, fun _ => ⟨by dsimp only; rw [List.length_set]; exact h3, fun q' => ?_⟩⟩
    dsimp only
    have e : (v.m.set q (v.m.getD q 0 + 1)).getD q' 0 = if q' = q ∧ q < v.m.length then v.m.getD q 0 + 1 else v.m.getD q' 0 := by
      simp only [List.getD_eq_getElem?_getD, List.getElem?_set]
      by_cases e : q = q'
      · subst e
        by_cases e2 : q < v.m.length
        · simp [e2]
        · simp [e2]
      · rw [if_neg e, if_neg (fun h => e h.1.symm)]
    rw [e]
    have := h4 q
    have := h4 q'
    split <;> omega
structure ImOK (h : Im) (K : Nat) : Prop where
  n : h.o.length ≤ 20000
  plen : h.p.length = h.o.length
  xl : h.x.length = h.o.length
  p0 : ∀ v, v < h.o.length → 0 ≤ h.p.getD v 0 ∧ (h.p.getD v 0).toNat < K
  row : ∀ v, v < h.o.length → (h.x.getD v []).length ≤ 64 ∧ ∀ j, j < (h.x.getD v []).length → 0 ≤ (h.x.getD v []).getD j 0 ∧ (h.x.getD v []).getD j 0 < (h.o.length : Int)
  st : VOK K 0 h.st
  ls : h.ls.length = h.o.length
theorem Zk0 {h : Im} {K : Nat} (H : ImOK h K) {ch : List Int} (hc : ∀ v, v < h.o.length → ch.getD v 0 < h.o.length) {l : Nat → Vl} {D : Int} (hD : 0 ≤ D) (hl : ∀ u, u < h.o.length → VOK K D (l u)) {v : Nat} (hv : v < h.o.length) : VOK K (D + 1) (h.bh ch l v) := by
  unfold Im.bh bhV
  refine vok_plus1 ?_
  split
  · split
    · exact Zcf H.st hD
    · have := hc v hv
      exact hl _ (by omega)
  · refine Zj9 fun w hw => ?_
    obtain ⟨j, hj, rfl⟩ := Zc0 hw
    have := (H.row v hv).2 j hj
    exact hl _ (by omega)
theorem Zhw {h : Im} {K : Nat} (H : ImOK h K) {ch : List Int} (hc : ∀ v, v < h.o.length → ch.getD v 0 < h.o.length) {l : Nat → Vl} {D : Int} (hD : 0 ≤ D) (hl : ∀ u, u < h.o.length → VOK K D (l u)) : ∀ {i : Nat}, i ≤ h.o.length → ∀ u, u < h.o.length → VOK K (D + i) ((Zc3 h ch l i).1 u)
  | 0, _, u, hu => by
    show VOK K (D + 0) (l u)
    rw [Int.add_zero]; exact hl u hu
  | i + 1, hi, u, hu => by
    have ih := Zhw H hc hD hl (i := i) (by omega)
    rw [Zcr]
    unfold Zha
    split
    · dsimp only
      split
      · have := Zk0 H hc (show 0 ≤ D + i by omega) ih (v := i) (by omega)
        rw [show D + ((i + 1 : Nat) : Int) = D + i + 1 by omega]
        exact this
      · exact Zcf (ih u hu) (by omega)
    · exact Zcf (ih u hu) (by omega)
theorem Zky {h : Im} {K : Nat} (H : ImOK h K) {ch : List Int} (hc : ∀ v, v < h.o.length → ch.getD v 0 < h.o.length) : ∀ {k : Nat}, ∀ u, u < h.o.length → VOK K (k * (h.o.length : Int)) (vIt h ch k u)
  | 0, u, hu => by
    refine ⟨Nat.zero_le _, fun hr => ?_⟩
    exfalso
    have hb : ∀ b : Bool, Zch ⟨!b, b, []⟩ ≠ 0 := fun b => by cases b <;> decide
    exact hb _ hr
  | k + 1, u, hu => by
    have hk : 0 ≤ (k : Int) * (h.o.length : Int) := Int.mul_nonneg (by omega) (by omega)
    have := Zhw H hc hk (Zky H hc (k := k)) (i := h.o.length) (Nat.le_refl _) u hu
    rw [show ((k + 1 : Nat) : Int) * (h.o.length : Int) = (k : Int) * h.o.length + h.o.length by rw [Int.natCast_add, Int.add_mul]; simp]
    exact this
def viZ (ls : List Bool) (i j : Nat) : AV := if j < i then .agg (.cons (.bool (!ls.getD j false)) (.cons (.bool (ls.getD j false)) (.cons (.cst (.slice none 0 0)) .nil))) else .agg (.cons (.bool false) (.cons (.bool false) (.cons (.cst (.slice none 0 0)) .nil)))
theorem viZ_zero {ls : List Bool} : (fun _ => AV.agg (.cons (.bool false) (.cons (.bool false) (.cons (.cst (.slice none 0 0)) .nil)))) = viZ ls 0 := by
  funext j; unfold viZ; rw [if_neg (Nat.not_lt_zero _)]
theorem Zbf {ls : List Bool} {i : Nat} : viZ ls i i = .agg (.cons (.bool false) (.cons (.bool false) (.cons (.cst (.slice none 0 0)) .nil))) := if_neg (Nat.lt_irrefl _)
theorem Zbs {μ : Nat → Bool} {ls : List Bool} {i j : Nat} : men μ (viZ ls i j) = true := by unfold viZ; split <;> rfl
theorem Zbr {ρ : Nat → Nat} {ls : List Bool} {i j : Nat} : ren ρ (viZ ls i j) = viZ ls i j := by unfold viZ; split <;> rfl
theorem viZ_next {ls : List Bool} {i : Nat} : (fun j => if j = i then AV.agg (.cons (.bool (!ls.getD i false)) (.cons (.bool (ls.getD i false)) (.cons (.cst (.slice none 0 0)) .nil))) else viZ ls i j) = viZ ls (i + 1) := by
  funext j
  unfold viZ
  by_cases h : j = i
  · subst h; rw [if_pos rfl, if_pos (by omega)]
  · rw [if_neg h]
    by_cases h2 : j < i
    · rw [if_pos h2, if_pos (by omega)]
    · rw [if_neg h2, if_neg (by omega)]
noncomputable def spVa : Nat → Option Spec
  | 59 => some Zau
  | _ => none
theorem Za0 : SpOK Try.prog spVa := by
  intro f S h
  unfold spVa at h
  split at h
  · cases h; exact compare_ok
  · cases h
structure VaS where
  j : Nat
  c : Bool
set_option maxRecDepth 4000 in
set_option maxHeartbeats 4000000 in
theorem values_fg {o p : List Int} {x : List (List Int)} {pl : Int} {st : Vl} {ls : List Bool} {ch : List Int} {K k : Nat} (H : ImOK ⟨o, p, x, pl, st, ls⟩ K) (hcl : ch.length = o.length) (hc : ∀ v, v < o.length → ch.getD v 0 < o.length) (hk : VEnd ⟨o, p, x, pl, st, ls⟩ ch k) :
    FG Try.prog 49 [.agg (.cons (.roI o) (.cons (.roI p) (.cons (.roII x) (.cons (.int .i64 pl) (.cons (.bool st.e) (.cons (.bool st.n) (.cons (.roI st.m) (.cons (.roB ls) (.cons (.own 0) .nil)))))))))] [(0, some (.ints ch))] 1
      fun g => g = ⟨2, .own 1, [(0, some (.ints ch)), (1, some (.avs 3 o.length fun j => vlA (vIt ⟨o, p, x, pl, st, ls⟩ ch k j)))]⟩ := by
  have hn : o.length ≤ 20000 := H.n
  have hpl : p.length = o.length := H.plen
  have hxl : x.length = o.length := H.xl
  have hll : ls.length = o.length := H.ls
  refine Zf5 htb (fn := Try.f49) (by kernel_rfl) (by kernel_rfl) rfl (Nat.le_of_ble_eq_true rfl) fun hl => ?_
  simp only [lenP, mkL, lim] at hl
  repeat' first
    | with_reducible first | apply Zan | apply Zaj | apply Zab | apply Zac | apply Zag | apply Zal | apply Zaf | apply Zah | apply Zam | apply Zao | apply Zak
    | ((with_reducible refine Zap ?_); refine Zai rfl ?_ ?_ <;> intro hb <;> (try simp only [zH] at hb)) | ((with_reducible refine Zax ?_); (first | refine Zad htb hmz Za0 fF rfl rfl ?_ | refine Zae hmo htb hmz Za0 fF rfl rfl (by kernel_rfl) ?_); intro _ _ _ _ h; simp only [zE, evp, evx, ev1, evLoad, evStore, evBin, Zaa, forall_const, z38, tb, reduceAdd, reduceSub, reduceMul, reduceEqDiff, reduceLeDiff, reduceLT, Nat.reduceBEq, Nat.reduceBNe, ↓reduceIte, reduceIte, spVa, Zau, vlA, Zbs, Zbr, Zbf] at h; obtain ⟨rfl, rfl, rfl, rfl⟩ := h; refine ⟨?_, ?_⟩) | ((with_reducible refine Ob.mk ?_); first | exact trivial | (intros; omega) | ((repeat' first | apply And.intro | (intro a; have b := a; try simp only [zH] at b)) <;> first | (with_reducible exact True.intro) | assumption | omega | (simp only [zH]; omega)))
  refine Zat (τ := Nat) (fun i => i ≤ o.length) (fun i => ⟨12, [(15, .int .i64 i), (14, .int .i64 o.length), (3, .own 7), (1, .own 1)], [(0, some (.ints ch)), (1, some (.box (.agg (.cons (.roI o) (.cons (.roI p) (.cons (.roII x) (.cons (.int .i64 pl) (.cons (.bool st.e) (.cons (.bool st.n) (.cons (.roI st.m) (.cons (.roB ls) (.cons (.own 0) .nil)))))))))))), (7, some (.avs 3 o.length (viZ ls i)))], []⟩) (fun i => o.length - i) 0 [] ?_ (Nat.zero_le _) ?_
  · (refine ⟨rfl, ?_, ?_⟩ <;> simp only [zE, evp, evx, ev1, evLoad, evStore, evBin, Zaa, forall_const, z38, tb, reduceAdd, reduceSub, reduceMul, reduceEqDiff, reduceLeDiff, reduceLT, Nat.reduceBEq, Nat.reduceBNe, ↓reduceIte, reduceIte, spVa, Zau, vlA, Zbs, Zbr, Zbf, zI])
    exact congrArg (Blk.avs 3 o.length) viZ_zero
  intro i hi
  repeat' first
    | with_reducible first | apply Zan | apply Zaj | apply Zab | apply Zac | apply Zag | apply Zal | apply Zaf | apply Zah | apply Zam | apply Zao | apply Zak
    | ((with_reducible refine Zap ?_); refine Zai rfl ?_ ?_ <;> intro hb <;> (try simp only [zH] at hb)) | ((with_reducible refine Zaq 5 ?_ ?_); (· exact rfl); (with_reducible refine Zaq 7 ?_ ?_); (· exact rfl); (first | refine Zad htb hmz Za0 fF rfl rfl ?_ | refine Zae hmo htb hmz Za0 fF rfl rfl (by kernel_rfl) ?_); intro _ _ _ _ h; simp only [zE, evp, evx, ev1, evLoad, evStore, evBin, Zaa, forall_const, z38, tb, reduceAdd, reduceSub, reduceMul, reduceEqDiff, reduceLeDiff, reduceLT, Nat.reduceBEq, Nat.reduceBNe, ↓reduceIte, reduceIte, spVa, Zau, vlA, Zbs, Zbr, Zbf] at h; obtain ⟨rfl, rfl, rfl, rfl⟩ := h; refine ⟨?_, ?_⟩) | ((with_reducible refine Ob.mk ?_); first | exact trivial | (intros; omega) | ((repeat' first | apply And.intro | (intro a; have b := a; try simp only [zH] at b)) <;> first | (with_reducible exact True.intro) | assumption | omega | (simp only [zH]; omega)))
  · have hil : i < o.length := by omega
    repeat' first
      | with_reducible first | apply Zan | apply Zaj | apply Zab | apply Zac | apply Zag | apply Zal | apply Zaf | apply Zah | apply Zam | apply Zao | apply Zak
      | ((with_reducible refine Zap ?_); refine Zai rfl ?_ ?_ <;> intro hb <;> (try simp only [zH] at hb)) | ((with_reducible refine Zax ?_); (first | refine Zad htb hmz Za0 fF rfl rfl ?_ | refine Zae hmo htb hmz Za0 fF rfl rfl (by kernel_rfl) ?_); intro _ _ _ _ h; simp only [zE, evp, evx, ev1, evLoad, evStore, evBin, Zaa, forall_const, z38, tb, reduceAdd, reduceSub, reduceMul, reduceEqDiff, reduceLeDiff, reduceLT, Nat.reduceBEq, Nat.reduceBNe, ↓reduceIte, reduceIte, spVa, Zau, vlA, Zbs, Zbr, Zbf] at h; obtain ⟨rfl, rfl, rfl, rfl⟩ := h; refine ⟨?_, ?_⟩) | ((with_reducible refine Ob.mk ?_); first | exact trivial | (intros; omega) | ((repeat' first | apply And.intro | (intro a; have b := a; try simp only [zH] at b)) <;> first | (with_reducible exact True.intro) | assumption | omega | (simp only [zH]; omega)))
    refine back (i + 1) [] ?_ (by omega) (by omega)
    (refine ⟨rfl, ?_, ?_⟩ <;> simp only [zE, evp, evx, ev1, evLoad, evStore, evBin, Zaa, forall_const, z38, tb, reduceAdd, reduceSub, reduceMul, reduceEqDiff, reduceLeDiff, reduceLT, Nat.reduceBEq, Nat.reduceBNe, ↓reduceIte, reduceIte, spVa, Zau, vlA, Zbs, Zbr, Zbf, zI])
    exact congrArg (Blk.avs 3 o.length) viZ_next
  have hie : i = o.length := by omega
  subst hie
  refine awp_nroA 7 (fun j => vlA (vIt ⟨o, p, x, pl, st, ls⟩ ch 0 j)) rfl (fun j hj => by unfold viZ; rw [if_pos hj]; rfl) (by simp only [Zar, Zaw, fzE, fzA, fzR, fzB, set1, nbeq, reduceEqDiff, decide_true, decide_false, ↓reduceIte, reduceIte, cond_true, cond_false, List.take_length, Option.some.injEq] <;> rfl) ?_
  have hK := fun j => Zky H hc (k := j)
  have hP : ∀ j, j ≤ k → ∀ i, i ≤ o.length → ∀ u, u < o.length → VOK K 900000000000 ((Zc3 ⟨o, p, x, pl, st, ls⟩ ch (vIt ⟨o, p, x, pl, st, ls⟩ ch j) i).1 u) := fun j hj i hi u hu => by
    have hj2 : j ≤ 20001 := Nat.le_trans hj hk.1
    have h1 : (j : Int) * (o.length : Int) ≤ 20001 * 20000 := Int.mul_le_mul (by omega) (by omega) (by omega) (by omega)
    exact Zcf (Zhw H hc (Int.mul_nonneg (by omega) (by omega)) (hK j) hi u hu) (by show (j : Int) * (o.length : Int) + i ≤ _; omega)
  repeat' first
    | with_reducible first | apply Zan | apply Zaj | apply Zab | apply Zac | apply Zag | apply Zal | apply Zaf | apply Zah | apply Zam | apply Zao | apply Zak
    | ((with_reducible refine Zap ?_); refine Zai rfl ?_ ?_ <;> intro hb <;> (try simp only [zH] at hb)) | ((with_reducible refine Zaq 8 ?_ ?_); (· exact rfl); (first | refine Zad htb hmz Za0 fF rfl rfl ?_ | refine Zae hmo htb hmz Za0 fF rfl rfl (by kernel_rfl) ?_); intro _ _ _ _ h; simp only [zE, evp, evx, ev1, evLoad, evStore, evBin, Zaa, forall_const, z38, tb, reduceAdd, reduceSub, reduceMul, reduceEqDiff, reduceLeDiff, reduceLT, Nat.reduceBEq, Nat.reduceBNe, ↓reduceIte, reduceIte, spVa, Zau, vlA, Zbs, Zbr, Zbf] at h; obtain ⟨rfl, rfl, rfl, rfl⟩ := h; refine ⟨?_, ?_⟩) | ((with_reducible refine Ob.mk ?_); first | exact trivial | (intros; omega) | ((repeat' first | apply And.intro | (intro a; have b := a; try simp only [zH] at b)) <;> first | (with_reducible exact True.intro) | assumption | omega | (simp only [zH]; omega)))
  refine Zat (τ := VaS) (fun s => s.j ≤ k + 1 ∧ s.c = decide (s.j ≤ k)) (fun s => ⟨15, [(5, .bool s.c), (3, .own 7), (1, .own 1)], [(0, some (.ints ch)), (1, some (.box (.agg (.cons (.roI o) (.cons (.roI p) (.cons (.roII x) (.cons (.int .i64 pl) (.cons (.bool st.e) (.cons (.bool st.n) (.cons (.roI st.m) (.cons (.roB ls) (.cons (.own 0) .nil)))))))))))), (7, some (.avs 3 o.length fun v => vlA (vIt ⟨o, p, x, pl, st, ls⟩ ch s.j v)))], []⟩) (fun s => k + 1 - s.j) ⟨0, true⟩ [] ?_ ⟨Nat.zero_le _, (decide_eq_true (Nat.zero_le _)).symm⟩ ?_
  · (refine ⟨rfl, ?_, ?_⟩ <;> simp only [zE, evp, evx, ev1, evLoad, evStore, evBin, Zaa, forall_const, z38, tb, reduceAdd, reduceSub, reduceMul, reduceEqDiff, reduceLeDiff, reduceLT, Nat.reduceBEq, Nat.reduceBNe, ↓reduceIte, reduceIte, spVa, Zau, vlA, Zbs, Zbr, Zbf, zI])
  rintro ⟨j, c⟩ ⟨hj, hjc⟩
  dsimp only at hj hjc ⊢
  repeat' first
    | with_reducible first | apply Zan | apply Zaj | apply Zab | apply Zac | apply Zag | apply Zal | apply Zaf | apply Zah | apply Zam | apply Zao | apply Zak
    | ((with_reducible refine Zap ?_); refine Zai rfl ?_ ?_ <;> intro hb <;> (try simp only [zH] at hb)) | ((with_reducible refine Zaq 11 ?_ ?_); (· exact rfl); (with_reducible refine Zaq 17 ?_ ?_); (· exact rfl); (first | refine Zad htb hmz Za0 fF rfl rfl ?_ | refine Zae hmo htb hmz Za0 fF rfl rfl (by kernel_rfl) ?_); intro _ _ _ _ h; simp only [zE, evp, evx, ev1, evLoad, evStore, evBin, Zaa, forall_const, z38, tb, reduceAdd, reduceSub, reduceMul, reduceEqDiff, reduceLeDiff, reduceLT, Nat.reduceBEq, Nat.reduceBNe, ↓reduceIte, reduceIte, spVa, Zau, vlA, Zbs, Zbr, Zbf] at h; obtain ⟨rfl, rfl, rfl, rfl⟩ := h; refine ⟨?_, ?_⟩) | ((with_reducible refine Ob.mk ?_); first | exact trivial | (intros; omega) | ((repeat' first | apply And.intro | (intro a; have b := a; try simp only [zH] at b)) <;> first | (with_reducible exact True.intro) | assumption | omega | (simp only [zH]; omega)))
  · have hjk : j ≤ k := by rw [hjc] at hb; exact of_decide_eq_true hb
    have hPj := hP j hjk
    have hnx : (vIt ⟨o, p, x, pl, st, ls⟩ ch (j + 1)) = (Zc3 ⟨o, p, x, pl, st, ls⟩ ch (vIt ⟨o, p, x, pl, st, ls⟩ ch j) o.length).1 := rfl
    have hfl : (Zc3 ⟨o, p, x, pl, st, ls⟩ ch (vIt ⟨o, p, x, pl, st, ls⟩ ch j) o.length).2 = decide (j + 1 ≤ k) := by
      rcases Nat.lt_or_ge j k with h | h
      · rw [decide_eq_true (by omega)]; exact hk.2.1 j h
      · have : j = k := by omega
        subst this
        rw [decide_eq_false (by omega)]; exact hk.2.2
    generalize vIt ⟨o, p, x, pl, st, ls⟩ ch j = L at *
    clear hK hP
    refine Zat (τ := Nat) (fun i => i ≤ o.length) (fun i => ⟨20, [(37, .int .i64 i), (36, .int .i64 o.length), (5, .bool (Zc3 ⟨o, p, x, pl, st, ls⟩ ch L i).2), (3, .own 7), (1, .own 1)], [(0, some (.ints ch)), (1, some (.box (.agg (.cons (.roI o) (.cons (.roI p) (.cons (.roII x) (.cons (.int .i64 pl) (.cons (.bool st.e) (.cons (.bool st.n) (.cons (.roI st.m) (.cons (.roB ls) (.cons (.own 0) .nil)))))))))))), (7, some (.avs 3 o.length fun v => vlA ((Zc3 ⟨o, p, x, pl, st, ls⟩ ch L i).1 v)))], []⟩) (fun i => o.length - i) 0 [] ?_ (Nat.zero_le _) ?_
    · (refine ⟨rfl, ?_, ?_⟩ <;> simp only [zE, evp, evx, ev1, evLoad, evStore, evBin, Zaa, forall_const, z38, tb, reduceAdd, reduceSub, reduceMul, reduceEqDiff, reduceLeDiff, reduceLT, Nat.reduceBEq, Nat.reduceBNe, ↓reduceIte, reduceIte, spVa, Zau, vlA, Zbs, Zbr, Zbf, zI])
      · rfl
      · rfl
    intro i hi
    have hPi := hPj i hi
    have hpn := @Zcr ⟨o, p, x, pl, st, ls⟩ ch L i
    repeat' first
      | with_reducible first | apply Zan | apply Zaj | apply Zab | apply Zac | apply Zag | apply Zal | apply Zaf | apply Zah | apply Zam | apply Zao | apply Zak
      | ((with_reducible refine Zap ?_); refine Zai rfl ?_ ?_ <;> intro hb <;> (try simp only [zH] at hb)) | ((with_reducible refine Zaq 13 ?_ ?_); (· exact rfl); (with_reducible refine Zaq 17 ?_ ?_); (· exact rfl); (first | refine Zad htb hmz Za0 fF rfl rfl ?_ | refine Zae hmo htb hmz Za0 fF rfl rfl (by kernel_rfl) ?_); intro _ _ _ _ h; simp only [zE, evp, evx, ev1, evLoad, evStore, evBin, Zaa, forall_const, z38, tb, reduceAdd, reduceSub, reduceMul, reduceEqDiff, reduceLeDiff, reduceLT, Nat.reduceBEq, Nat.reduceBNe, ↓reduceIte, reduceIte, spVa, Zau, vlA, Zbs, Zbr, Zbf] at h; obtain ⟨rfl, rfl, rfl, rfl⟩ := h; refine ⟨?_, ?_⟩) | ((with_reducible refine Ob.mk ?_); first | exact trivial | (intros; omega) | ((repeat' first | apply And.intro | (intro a; have b := a; try simp only [zH] at b)) <;> first | (with_reducible exact True.intro) | assumption | omega | (simp only [zH]; omega)))
    · have hil : i < o.length := by omega
      have hp0 := H.p0 i hil
      have hrow := H.row i hil
      have hci := hc i hil
      generalize Zc3 ⟨o, p, x, pl, st, ls⟩ ch L i = s at *
      have hby : VOK K (900000000000 + 1) (bhV o p x pl st ch s.1 i) := Zk0 H hc (by decide) hPi hil
      refine Zcy ([_, _, _]) ([_, _]) rfl rfl ?_
      refine Zay htb hmz Za0 fF rfl rfl rfl ?_; intro _ _ _ _ h; simp only [zE, evp, evx, ev1, evLoad, evStore, evBin, Zaa, forall_const, z38, tb, reduceAdd, reduceSub, reduceMul, reduceEqDiff, reduceLeDiff, reduceLT, Nat.reduceBEq, Nat.reduceBNe, ↓reduceIte, reduceIte, spVa, Zau, vlA, Zbs, Zbr, Zbf] at h; obtain ⟨rfl, rfl, rfl, rfl⟩ := h; refine ⟨?_, Zab ?_⟩
      · first | ((with_reducible refine Ob.mk ?_); first | exact trivial | (intros; omega) | ((repeat' first | apply And.intro | (intro a; have b := a; try simp only [zH] at b)) <;> first | (with_reducible exact True.intro) | assumption | omega | (simp only [zH]; omega))) | skip
      refine Zbg ([7, 0]) (behind_fg (o := o) (p := p) (x := x) (pl := pl) (st := st) (ls := ls) (ch := ch) (l := s.1) (K := K) (v := i) (D := 900000000000) hn hpl hxl hcl hil (by decide) hp0 hci hPi (Zcf H.st (by decide)) hrow) rfl rfl rfl rfl rfl rfl rfl rfl rfl (by simp only [rinR, rhoC, zE, evp, evx, ev1, evLoad, evStore, evBin, Zaa, forall_const, z38, tb, reduceAdd, reduceSub, reduceMul, reduceEqDiff, reduceLeDiff, reduceLT, Nat.reduceBEq, Nat.reduceBNe, ↓reduceIte, reduceIte, spVa, Zau, vlA, Zbs, Zbr, Zbf]) ?_; intro gm gv gr hq m' e' l' h; simp only [GR.mk.injEq] at hq; obtain ⟨rfl, rfl, rfl⟩ := hq; simp only [rhoC, outR, renR, dels, zE, evp, evx, ev1, evLoad, evStore, evBin, Zaa, forall_const, z38, tb, reduceAdd, reduceSub, reduceMul, reduceEqDiff, reduceLeDiff, reduceLT, Nat.reduceBEq, Nat.reduceBNe, ↓reduceIte, reduceIte, spVa, Zau, vlA, Zbs, Zbr, Zbf] at h; obtain ⟨rfl, rfl, rfl⟩ := h; refine Zab ?_
      refine Zay htb hmz Za0 fF rfl rfl rfl ?_; intro _ _ _ _ h; simp only [zE, evp, evx, ev1, evLoad, evStore, evBin, Zaa, forall_const, z38, tb, reduceAdd, reduceSub, reduceMul, reduceEqDiff, reduceLeDiff, reduceLT, Nat.reduceBEq, Nat.reduceBNe, ↓reduceIte, reduceIte, spVa, Zau, vlA, Zbs, Zbr, Zbf] at h; obtain ⟨rfl, rfl, rfl, rfl⟩ := h; refine ⟨?_, ?_⟩
      · first | ((with_reducible refine Ob.mk ?_); first | exact trivial | (intros; omega) | ((repeat' first | apply And.intro | (intro a; have b := a; try simp only [zH] at b)) <;> first | (with_reducible exact True.intro) | assumption | omega | (simp only [zH]; omega))) | skip
      refine Zab ?_
      have hst : Zha ⟨o, p, x, pl, st, ls⟩ ch s i = if ls.getD i false = false ∧ cmpV pl (bhV o p x pl st ch s.1 i) (s.1 i) < 0 then (fun j => if j = i then bhV o p x pl st ch s.1 i else s.1 j, true) else s := rfl
      rw [hst] at hpn
      clear hst
      have hvi := hPi i hil
      generalize bhV o p x pl st ch s.1 i = y at *
      repeat' first
        | with_reducible first | apply Zan | apply Zaj | apply Zab | apply Zac | apply Zag | apply Zal | apply Zaf | apply Zah | apply Zam | apply Zao | apply Zak
        | ((with_reducible refine Zap ?_); refine Zai rfl ?_ ?_ <;> intro hb <;> (try simp only [zH] at hb)) | ((with_reducible refine Zaq 15 ?_ ?_); (· exact rfl); (with_reducible refine Zaq 16 ?_ ?_); (· exact rfl); (first | refine Zad htb hmz Za0 fF rfl rfl ?_ | refine Zae hmo htb hmz Za0 fF rfl rfl (by kernel_rfl) ?_); intro _ _ _ _ h; simp only [zE, evp, evx, ev1, evLoad, evStore, evBin, Zaa, forall_const, z38, tb, reduceAdd, reduceSub, reduceMul, reduceEqDiff, reduceLeDiff, reduceLT, Nat.reduceBEq, Nat.reduceBNe, ↓reduceIte, reduceIte, spVa, Zau, vlA, Zbs, Zbr, Zbf] at h; obtain ⟨rfl, rfl, rfl, rfl⟩ := h; refine ⟨?_, ?_⟩) | ((with_reducible refine Ob.mk ?_); first | exact trivial | (intros; omega) | ((repeat' first | apply And.intro | (intro a; have b := a; try simp only [zH] at b)) <;> first | (with_reducible exact True.intro) | assumption | omega | (simp only [zH]; omega)))
      · refine Ob.mk ⟨⟨⟨⟨by omega, by omega⟩, fun h => ⟨h, by omega, by omega⟩⟩, fun h => ⟨h, hil⟩⟩, fun h => ⟨h, hby.1, fun h1 h2 => ?_⟩⟩
        rw [(hby.2 h1).1, (hvi.2 h2).1]
        exact Nat.le_refl _
      · rw [if_pos hb] at hpn
        repeat' first
          | with_reducible first | apply Zan | apply Zaj | apply Zab | apply Zac | apply Zag | apply Zal | apply Zaf | apply Zah | apply Zam | apply Zao | apply Zak
          | ((with_reducible refine Zap ?_); refine Zai rfl ?_ ?_ <;> intro hb <;> (try simp only [zH] at hb)) | ((with_reducible refine Zax ?_); (first | refine Zad htb hmz Za0 fF rfl rfl ?_ | refine Zae hmo htb hmz Za0 fF rfl rfl (by kernel_rfl) ?_); intro _ _ _ _ h; simp only [zE, evp, evx, ev1, evLoad, evStore, evBin, Zaa, forall_const, z38, tb, reduceAdd, reduceSub, reduceMul, reduceEqDiff, reduceLeDiff, reduceLT, Nat.reduceBEq, Nat.reduceBNe, ↓reduceIte, reduceIte, spVa, Zau, vlA, Zbs, Zbr, Zbf] at h; obtain ⟨rfl, rfl, rfl, rfl⟩ := h; refine ⟨?_, ?_⟩) | ((with_reducible refine Ob.mk ?_); first | exact trivial | (intros; omega) | ((repeat' first | apply And.intro | (intro a; have b := a; try simp only [zH] at b)) <;> first | (with_reducible exact True.intro) | assumption | omega | (simp only [zH]; omega)))
        refine back (i + 1) [] ?_ (by omega) (by omega)
        (refine ⟨rfl, ?_, ?_⟩ <;> simp only [zE, evp, evx, ev1, evLoad, evStore, evBin, Zaa, forall_const, z38, tb, reduceAdd, reduceSub, reduceMul, reduceEqDiff, reduceLeDiff, reduceLT, Nat.reduceBEq, Nat.reduceBNe, ↓reduceIte, reduceIte, spVa, Zau, vlA, Zbs, Zbr, Zbf, zI])
        · rw [hpn]
        · rw [hpn]
          refine congrArg (Blk.avs 3 o.length) (funext fun j => ?_)
          dsimp only
          split <;> rfl
      · rw [if_neg (fun h => by
          rcases hb with h2 | h2
          · rw [h.1] at h2; cases h2
          · exact absurd h.2 (Int.not_lt.2 h2))] at hpn
        repeat' first
          | with_reducible first | apply Zan | apply Zaj | apply Zab | apply Zac | apply Zag | apply Zal | apply Zaf | apply Zah | apply Zam | apply Zao | apply Zak
          | ((with_reducible refine Zap ?_); refine Zai rfl ?_ ?_ <;> intro hb <;> (try simp only [zH] at hb)) | ((with_reducible refine Zax ?_); (first | refine Zad htb hmz Za0 fF rfl rfl ?_ | refine Zae hmo htb hmz Za0 fF rfl rfl (by kernel_rfl) ?_); intro _ _ _ _ h; simp only [zE, evp, evx, ev1, evLoad, evStore, evBin, Zaa, forall_const, z38, tb, reduceAdd, reduceSub, reduceMul, reduceEqDiff, reduceLeDiff, reduceLT, Nat.reduceBEq, Nat.reduceBNe, ↓reduceIte, reduceIte, spVa, Zau, vlA, Zbs, Zbr, Zbf] at h; obtain ⟨rfl, rfl, rfl, rfl⟩ := h; refine ⟨?_, ?_⟩) | ((with_reducible refine Ob.mk ?_); first | exact trivial | (intros; omega) | ((repeat' first | apply And.intro | (intro a; have b := a; try simp only [zH] at b)) <;> first | (with_reducible exact True.intro) | assumption | omega | (simp only [zH]; omega)))
        refine back (i + 1) [] ?_ (by omega) (by omega)
        (refine ⟨rfl, ?_, ?_⟩ <;> simp only [zE, evp, evx, ev1, evLoad, evStore, evBin, Zaa, forall_const, z38, tb, reduceAdd, reduceSub, reduceMul, reduceEqDiff, reduceLeDiff, reduceLT, Nat.reduceBEq, Nat.reduceBNe, ↓reduceIte, reduceIte, spVa, Zau, vlA, Zbs, Zbr, Zbf, zI])
        · rw [hpn]
        · rw [hpn]
    have hie : i = o.length := by omega
    subst hie
    repeat' first
      | with_reducible first | apply Zan | apply Zaj | apply Zab | apply Zac | apply Zag | apply Zal | apply Zaf | apply Zah | apply Zam | apply Zao | apply Zak
      | ((with_reducible refine Zap ?_); refine Zai rfl ?_ ?_ <;> intro hb <;> (try simp only [zH] at hb)) | ((with_reducible refine Zax ?_); (first | refine Zad htb hmz Za0 fF rfl rfl ?_ | refine Zae hmo htb hmz Za0 fF rfl rfl (by kernel_rfl) ?_); intro _ _ _ _ h; simp only [zE, evp, evx, ev1, evLoad, evStore, evBin, Zaa, forall_const, z38, tb, reduceAdd, reduceSub, reduceMul, reduceEqDiff, reduceLeDiff, reduceLT, Nat.reduceBEq, Nat.reduceBNe, ↓reduceIte, reduceIte, spVa, Zau, vlA, Zbs, Zbr, Zbf] at h; obtain ⟨rfl, rfl, rfl, rfl⟩ := h; refine ⟨?_, ?_⟩) | ((with_reducible refine Ob.mk ?_); first | exact trivial | (intros; omega) | ((repeat' first | apply And.intro | (intro a; have b := a; try simp only [zH] at b)) <;> first | (with_reducible exact True.intro) | assumption | omega | (simp only [zH]; omega)))
    refine back ⟨j + 1, (Zc3 ⟨o, p, x, pl, st, ls⟩ ch L o.length).2⟩ [] ?_ ⟨by dsimp only; omega, hfl⟩ (by dsimp only; omega)
    (refine ⟨rfl, ?_, ?_⟩ <;> simp only [zE, evp, evx, ev1, evLoad, evStore, evBin, Zaa, forall_const, z38, tb, reduceAdd, reduceSub, reduceMul, reduceEqDiff, reduceLeDiff, reduceLT, Nat.reduceBEq, Nat.reduceBNe, ↓reduceIte, reduceIte, spVa, Zau, vlA, Zbs, Zbr, Zbf, zI])
    rw [hnx]
  have hjk : j = k + 1 := by
    rw [hjc] at hb
    have := of_decide_eq_false hb
    omega
  subst hjk
  have hfin : vIt ⟨o, p, x, pl, st, ls⟩ ch (k + 1) = vIt ⟨o, p, x, pl, st, ls⟩ ch k := Zfz hk.2.2
  rw [hfin]
  repeat' first
    | with_reducible first | apply Zan | apply Zaj | apply Zab | apply Zac | apply Zag | apply Zal | apply Zaf | apply Zah | apply Zam | apply Zao | apply Zak
    | ((with_reducible refine Zap ?_); refine Zai rfl ?_ ?_ <;> intro hb <;> (try simp only [zH] at hb)) | ((with_reducible refine Zax ?_); (first | refine Zad htb hmz Za0 fF rfl rfl ?_ | refine Zae hmo htb hmz Za0 fF rfl rfl (by kernel_rfl) ?_); intro _ _ _ _ h; simp only [zE, evp, evx, ev1, evLoad, evStore, evBin, Zaa, forall_const, z38, tb, reduceAdd, reduceSub, reduceMul, reduceEqDiff, reduceLeDiff, reduceLT, Nat.reduceBEq, Nat.reduceBNe, ↓reduceIte, reduceIte, spVa, Zau, vlA, Zbs, Zbr, Zbf] at h; obtain ⟨rfl, rfl, rfl, rfl⟩ := h; refine ⟨?_, ?_⟩) | ((with_reducible refine Ob.mk ?_); first | exact trivial | (intros; omega) | ((repeat' first | apply And.intro | (intro a; have b := a; try simp only [zH] at b)) <;> first | (with_reducible exact True.intro) | assumption | omega | (simp only [zH]; omega)))
  refine Zav rfl rfl (Zee (⟨2, .own 1, [(0, some (.ints ch)), (1, some (.avs 3 o.length fun j => vlA (vIt ⟨o, p, x, pl, st, ls⟩ ch k j)))]⟩) ([(1, 7)]) rfl rfl (Zcb rfl) ?_)
  simp only [grR, zE, evp, evx, ev1, evLoad, evStore, evBin, Zaa, forall_const, z38, tb, reduceAdd, reduceSub, reduceMul, reduceEqDiff, reduceLeDiff, reduceLT, Nat.reduceBEq, Nat.reduceBNe, ↓reduceIte, reduceIte, spVa, Zau, vlA, Zbs, Zbr, Zbf]
open Go Pl
def btIn (pl : Int) (l : Nat → Vl) (row : List Int) (s : Vl × Int × Bool) : Vl × Int × Bool := row.foldl (fun s w => if 0 < cmpV pl (l w.toNat) s.1 then (l w.toNat, w, true) else s) s
theorem btIn_next {pl : Int} {l : Nat → Vl} {row : List Int} {s : Vl × Int × Bool} {i : Nat} (h : i < row.length) : btIn pl l (row.take (i + 1)) s = if 0 < cmpV pl (l (row.getD i 0).toNat) (btIn pl l (row.take i) s).1 then (l (row.getD i 0).toNat, row.getD i 0, true) else btIn pl l (row.take i) s := by
  unfold btIn
  rw [Zhb (d := 0) h, List.foldl_append]; rfl
def nowV (h : Im) (ch : List Int) (l : Nat → Vl) (v : Nat) : Vl := if 0 ≤ ch.getD v 0 then l (ch.getD v 0).toNat else h.st
def Ziu (h : Im) (l : Nat → Vl) (s : List Int × Bool) (v : Nat) : List Int × Bool :=
  if h.o.getD v 0 ≠ h.pl then s else (s.1.set v (btIn h.pl l (h.x.getD v []) (nowV h s.1 l v, s.1.getD v 0, s.2)).2.1, (btIn h.pl l (h.x.getD v []) (nowV h s.1 l v, s.1.getD v 0, s.2)).2.2)
def Ze0 (h : Im) (l : Nat → Vl) (ch : List Int) (i : Nat) : List Int × Bool := (List.range i).foldl (Ziu h l) (ch, false)
theorem Zey {h : Im} {l : Nat → Vl} {ch : List Int} {i : Nat} : Ze0 h l ch (i + 1) = Ziu h l (Ze0 h l ch i) i := by
  unfold Ze0
  rw [List.range_succ, List.foldl_append]; rfl
theorem bStep_len {h : Im} {l : Nat → Vl} {s : List Int × Bool} {v : Nat} : (Ziu h l s v).1.length = s.1.length := by
  unfold Ziu
  split
  · rfl
  · exact List.length_set
theorem Zd7 {h : Im} {l : Nat → Vl} {ch : List Int} : ∀ {i : Nat}, (Ze0 h l ch i).1.length = ch.length
  | 0 => rfl
  | i + 1 => by rw [Zey, bStep_len, Zd7]
theorem btIn_ch {pl : Int} {l : Nat → Vl} {P : Vl × Int × Bool → Prop} : ∀ {row : List Int} {s : Vl × Int × Bool}, P s → (∀ s w, w ∈ row → P s → 0 < cmpV pl (l w.toNat) s.1 → P (l w.toNat, w, true)) → P (btIn pl l row s) := by
  intro row
  induction row with
  | nil => intro s h _; exact h
  | cons a row ih =>
    intro s h hP
    unfold btIn
    rw [List.foldl_cons]
    refine ih ?_ fun s w hw => hP s w (List.mem_cons_of_mem _ hw)
    split
    · rename_i h2
      exact hP s a List.mem_cons_self h h2
    · exact h
theorem Zil {h : Im} {l : Nat → Vl} {ch : List Int} {n : Int} (hr : ∀ v w, w ∈ h.x.getD v [] → v < ch.length → w < n) : ∀ {i : Nat}, i ≤ ch.length → (∀ v, v < ch.length → ch.getD v 0 < n) → ∀ v, v < ch.length → (Ze0 h l ch i).1.getD v 0 < n
  | 0, _, hc => hc
  | i + 1, hi, hc => fun v hv => by
    have ih := Zil (l := l) hr (i := i) (by omega) hc
    rw [Zey]
    unfold Ziu
    split
    · exact ih v hv
    · dsimp only
      have hl := @Zd7 h l ch i
      have e : ∀ y, ((Ze0 h l ch i).1.set i y).getD v 0 = if v = i then y else (Ze0 h l ch i).1.getD v 0 := fun y => by
        simp only [List.getD_eq_getElem?_getD, List.getElem?_set]
        by_cases e : i = v
        · subst e; simp [hl, hv]
        · rw [if_neg e, if_neg (fun h => e h.symm)]
      rw [e]
      split
      · exact btIn_ch (P := fun s => s.2.1 < n) (ih i (by omega)) fun s w hw _ _ => hr i w hw (by omega)
      · exact ih v hv
theorem btIn_ok {pl : Int} {l : Nat → Vl} {K : Nat} {D : Int} {row : List Int} {s : Vl × Int × Bool} (h : VOK K D s.1) (hl : ∀ w, w ∈ row → VOK K D (l w.toNat)) : VOK K D (btIn pl l row s).1 :=
  btIn_ch (P := fun s => VOK K D s.1) h fun s w hw _ _ => hl w hw
set_option maxRecDepth 4000 in
set_option maxHeartbeats 4000000 in
theorem better_fg {o p : List Int} {x : List (List Int)} {pl : Int} {st : Vl} {ls : List Bool} {ch : List Int} {l : Nat → Vl} {K : Nat} {D : Int} (H : ImOK ⟨o, p, x, pl, st, ls⟩ K) (hD : 0 ≤ D) (hcl : ch.length = o.length) (hc : ∀ v, v < o.length → ch.getD v 0 < o.length) (hvo : ∀ u, u < o.length → VOK K D (l u)) :
    FG Try.prog 50 [.agg (.cons (.roI o) (.cons (.roI p) (.cons (.roII x) (.cons (.int .i64 pl) (.cons (.bool st.e) (.cons (.bool st.n) (.cons (.roI st.m) (.cons (.roB ls) (.cons (.own 1) .nil))))))))), .own 0] [(0, some (.avs 3 o.length fun j => vlA (l j))), (1, some (.ints ch))] 2
      fun g => g = ⟨2, .bool (Ze0 ⟨o, p, x, pl, st, ls⟩ l ch o.length).2, [(0, some (.avs 3 o.length fun j => vlA (l j))), (1, some (.ints (Ze0 ⟨o, p, x, pl, st, ls⟩ l ch o.length).1))]⟩ := by
  have hn : o.length ≤ 20000 := H.n
  have hxl : x.length = o.length := H.xl
  have hlt := fun i hi => Zil (h := ⟨o, p, x, pl, st, ls⟩) (l := l) (ch := ch) (n := o.length) (fun v w hw hv => by
    obtain ⟨j, hj, rfl⟩ := Zc0 hw
    exact ((H.row v (by show v < o.length; omega)).2 j hj).2) (i := i) hi (fun v hv => hc v (by omega))
  have hbl := fun i => @Zd7 ⟨o, p, x, pl, st, ls⟩ l ch i
  have hbn := fun i => @Zey ⟨o, p, x, pl, st, ls⟩ l ch i
  refine Zf5 htb (fn := Try.f50) (by kernel_rfl) (by kernel_rfl) rfl (Nat.le_of_ble_eq_true rfl) fun hl => ?_
  simp only [lenP, mkL, lim] at hl
  repeat' first
    | with_reducible first | apply Zan | apply Zaj | apply Zab | apply Zac | apply Zag | apply Zal | apply Zaf | apply Zah | apply Zam | apply Zao | apply Zak
    | ((with_reducible refine Zap ?_); refine Zai rfl ?_ ?_ <;> intro hb <;> (try simp only [zH] at hb)) | ((with_reducible refine Zax ?_); (first | refine Zad htb hmz Za0 fF rfl rfl ?_ | refine Zae hmo htb hmz Za0 fF rfl rfl (by kernel_rfl) ?_); intro _ _ _ _ h; simp only [zE, evp, evx, ev1, evLoad, evStore, evBin, Zaa, forall_const, z38, tb, reduceAdd, reduceSub, reduceMul, reduceEqDiff, reduceLeDiff, reduceLT, Nat.reduceBEq, Nat.reduceBNe, ↓reduceIte, reduceIte, spVa, Zau, vlA] at h; obtain ⟨rfl, rfl, rfl, rfl⟩ := h; refine ⟨?_, ?_⟩) | ((with_reducible refine Ob.mk ?_); first | exact trivial | (intros; omega) | ((repeat' first | apply And.intro | (intro a; have b := a; try simp only [zH] at b)) <;> first | (with_reducible exact True.intro) | assumption | omega | (simp only [zH]; omega)))
  refine Zat (τ := Nat) (fun i => i ≤ o.length) (fun i => ⟨12, [(13, .int .i64 i), (12, .int .i64 o.length), (5, .bool (Ze0 ⟨o, p, x, pl, st, ls⟩ l ch i).2), (1, .own 0), (2, .own 2)], [(0, some (.avs 3 o.length fun j => vlA (l j))), (1, some (.ints (Ze0 ⟨o, p, x, pl, st, ls⟩ l ch i).1)), (2, some (.box (.agg (.cons (.roI o) (.cons (.roI p) (.cons (.roII x) (.cons (.int .i64 pl) (.cons (.bool st.e) (.cons (.bool st.n) (.cons (.roI st.m) (.cons (.roB ls) (.cons (.own 1) .nil))))))))))))], []⟩) (fun i => o.length - i) 0 [] ?_ (Nat.zero_le _) ?_
  · (refine ⟨rfl, ?_, ?_⟩ <;> simp only [zE, evp, evx, ev1, evLoad, evStore, evBin, Zaa, forall_const, z38, tb, reduceAdd, reduceSub, reduceMul, reduceEqDiff, reduceLeDiff, reduceLT, Nat.reduceBEq, Nat.reduceBNe, ↓reduceIte, reduceIte, spVa, Zau, vlA, zI])
    · exact ⟨by omega, rfl⟩
    · rfl
  intro i hi
  have hlt1 := hlt i (by omega)
  have hbl1 := hbl i
  have hbn1 := hbn i
  clear hlt hbl hbn
  generalize hsd : Ze0 ⟨o, p, x, pl, st, ls⟩ l ch i = s at *
  repeat' first
    | with_reducible first | apply Zan | apply Zaj | apply Zab | apply Zac | apply Zag | apply Zal | apply Zaf | apply Zah | apply Zam | apply Zao | apply Zak
    | ((with_reducible refine Zap ?_); refine Zai rfl ?_ ?_ <;> intro hb <;> (try simp only [zH] at hb)) | ((with_reducible refine Zaq 6 ?_ ?_); (· exact rfl); (with_reducible refine Zaq 7 ?_ ?_); (· exact rfl); (with_reducible refine Zaq 16 ?_ ?_); (· exact rfl); (first | refine Zad htb hmz Za0 fF rfl rfl ?_ | refine Zae hmo htb hmz Za0 fF rfl rfl (by kernel_rfl) ?_); intro _ _ _ _ h; simp only [zE, evp, evx, ev1, evLoad, evStore, evBin, Zaa, forall_const, z38, tb, reduceAdd, reduceSub, reduceMul, reduceEqDiff, reduceLeDiff, reduceLT, Nat.reduceBEq, Nat.reduceBNe, ↓reduceIte, reduceIte, spVa, Zau, vlA] at h; obtain ⟨rfl, rfl, rfl, rfl⟩ := h; refine ⟨?_, ?_⟩) | ((with_reducible refine Ob.mk ?_); first | exact trivial | (intros; omega) | ((repeat' first | apply And.intro | (intro a; have b := a; try simp only [zH] at b)) <;> first | (with_reducible exact True.intro) | assumption | omega | (simp only [zH]; omega)))
  · have hst : Ziu ⟨o, p, x, pl, st, ls⟩ l s i = s := if_pos hb
    rw [hst] at hbn1
    refine back (i + 1) [] ?_ (by omega) (by omega)
    (refine ⟨rfl, ?_, ?_⟩ <;> simp only [zE, evp, evx, ev1, evLoad, evStore, evBin, Zaa, forall_const, z38, tb, reduceAdd, reduceSub, reduceMul, reduceEqDiff, reduceLeDiff, reduceLT, Nat.reduceBEq, Nat.reduceBNe, ↓reduceIte, reduceIte, spVa, Zau, vlA, zI])
    all_goals rw [hbn1]
  · have hil : i < o.length := by omega
    have ho : o.getD i 0 = pl := hb
    have hst : Ziu ⟨o, p, x, pl, st, ls⟩ l s i = (s.1.set i (btIn pl l (x.getD i []) (nowV ⟨o, p, x, pl, st, ls⟩ s.1 l i, s.1.getD i 0, s.2)).2.1, (btIn pl l (x.getD i []) (nowV ⟨o, p, x, pl, st, ls⟩ s.1 l i, s.1.getD i 0, s.2)).2.2) := if_neg (fun h => h ho)
    rw [hst] at hbn1
    clear hst hb
    have hci := hlt1 i (by omega)
    have hnw : 0 ≤ s.1.getD i 0 → nowV ⟨o, p, x, pl, st, ls⟩ s.1 l i = l (s.1.getD i 0).toNat := fun h => if_pos h
    have hnw2 : s.1.getD i 0 < 0 → nowV ⟨o, p, x, pl, st, ls⟩ s.1 l i = st := fun h => if_neg (by show ¬ 0 ≤ s.1.getD i 0; omega)
    have hwok : VOK K D (nowV ⟨o, p, x, pl, st, ls⟩ s.1 l i) := by
      by_cases h : 0 ≤ s.1.getD i 0
      · rw [hnw h]; exact hvo _ (by omega)
      · rw [hnw2 (by omega)]; exact Zcf H.st hD
    generalize nowV ⟨o, p, x, pl, st, ls⟩ s.1 l i = now at *
    have hrow : (x.getD i []).length ≤ 64 ∧ ∀ j, j < (x.getD i []).length → 0 ≤ (x.getD i []).getD j 0 ∧ (x.getD i []).getD j 0 < (o.length : Int) := H.row i hil
    have hsl : s.1.length = ch.length := hbl1
    have hse : s.1.set i (s.1.getD i 0) = s.1 := by
      refine ext0 List.length_set fun j hj => ?_
      simp only [List.getD_eq_getElem?_getD, List.getElem?_set]
      by_cases e : i = j
      · subst e
        rw [List.length_set] at hj
        simp [hj]
      · rw [if_neg e]
    repeat' first
      | with_reducible first | apply Zan | apply Zaj | apply Zab | apply Zac | apply Zag | apply Zal | apply Zaf | apply Zah | apply Zam | apply Zao | apply Zak
      | ((with_reducible refine Zap ?_); refine Zai rfl ?_ ?_ <;> intro hb <;> (try simp only [zH] at hb)) | ((with_reducible refine Zaq 8 ?_ ?_); (· exact rfl); (with_reducible refine Zaq 9 ?_ ?_); (· exact rfl); (with_reducible refine Zaq 16 ?_ ?_); (· exact rfl); (first | refine Zad htb hmz Za0 fF rfl rfl ?_ | refine Zae hmo htb hmz Za0 fF rfl rfl (by kernel_rfl) ?_); intro _ _ _ _ h; simp only [zE, evp, evx, ev1, evLoad, evStore, evBin, Zaa, forall_const, z38, tb, reduceAdd, reduceSub, reduceMul, reduceEqDiff, reduceLeDiff, reduceLT, Nat.reduceBEq, Nat.reduceBNe, ↓reduceIte, reduceIte, spVa, Zau, vlA] at h; obtain ⟨rfl, rfl, rfl, rfl⟩ := h; refine ⟨?_, ?_⟩) | ((with_reducible refine Ob.mk ?_); first | exact trivial | (intros; omega) | ((repeat' first | apply And.intro | (intro a; have b := a; try simp only [zH] at b)) <;> first | (with_reducible exact True.intro) | assumption | omega | (simp only [zH]; omega)))
    · have hnw := hnw hb
      repeat' first
        | with_reducible first | apply Zan | apply Zaj | apply Zab | apply Zac | apply Zag | apply Zal | apply Zaf | apply Zah | apply Zam | apply Zao | apply Zak
        | ((with_reducible refine Zap ?_); refine Zai rfl ?_ ?_ <;> intro hb <;> (try simp only [zH] at hb)) | ((with_reducible refine Zaq 9 ?_ ?_); (· exact rfl); (first | refine Zad htb hmz Za0 fF rfl rfl ?_ | refine Zae hmo htb hmz Za0 fF rfl rfl (by kernel_rfl) ?_); intro _ _ _ _ h; simp only [zE, evp, evx, ev1, evLoad, evStore, evBin, Zaa, forall_const, z38, tb, reduceAdd, reduceSub, reduceMul, reduceEqDiff, reduceLeDiff, reduceLT, Nat.reduceBEq, Nat.reduceBNe, ↓reduceIte, reduceIte, spVa, Zau, vlA] at h; obtain ⟨rfl, rfl, rfl, rfl⟩ := h; refine ⟨?_, ?_⟩) | ((with_reducible refine Ob.mk ?_); first | exact trivial | (intros; omega) | ((repeat' first | apply And.intro | (intro a; have b := a; try simp only [zH] at b)) <;> first | assumption | omega | (simp only [zH]; omega)))
      refine Zje ⟨50, [(7, .own 26), (6, .int .i64 i), (13, .int .i64 i), (12, .int .i64 o.length), (5, .bool s.2), (1, .own 0), (2, .own 2)], [(0, some (.avs 3 o.length fun j => vlA (l j))), (1, some (.ints s.1)), (2, some (.box (.agg (.cons (.roI o) (.cons (.roI p) (.cons (.roII x) (.cons (.int .i64 pl) (.cons (.bool st.e) (.cons (.bool st.n) (.cons (.roI st.m) (.cons (.roB ls) (.cons (.own 1) .nil)))))))))))), (26, some (.box (vlA now)))], []⟩ [] ?_ ?_
      · (refine ⟨rfl, ?_, ?_⟩ <;> simp only [zE, evp, evx, ev1, evLoad, evStore, evBin, Zaa, forall_const, z38, tb, reduceAdd, reduceSub, reduceMul, reduceEqDiff, reduceLeDiff, reduceLT, Nat.reduceBEq, Nat.reduceBNe, ↓reduceIte, reduceIte, spVa, Zau, vlA, zI])
        rw [hnw]
        exact ⟨rfl, rfl, rfl⟩
      clear hlt1
      repeat' first
        | with_reducible first | apply Zan | apply Zaj | apply Zab | apply Zac | apply Zag | apply Zal | apply Zaf | apply Zah | apply Zam | apply Zao | apply Zak
        | ((with_reducible refine Zap ?_); refine Zai rfl ?_ ?_ <;> intro hb <;> (try simp only [zH] at hb)) | ((with_reducible refine Zaq 10 ?_ ?_); (· exact rfl); (first | refine Zad htb hmz Za0 fF rfl rfl ?_ | refine Zae hmo htb hmz Za0 fF rfl rfl (by kernel_rfl) ?_); intro _ _ _ _ h; simp only [zE, evp, evx, ev1, evLoad, evStore, evBin, Zaa, forall_const, z38, tb, reduceAdd, reduceSub, reduceMul, reduceEqDiff, reduceLeDiff, reduceLT, Nat.reduceBEq, Nat.reduceBNe, ↓reduceIte, reduceIte, spVa, Zau, vlA] at h; obtain ⟨rfl, rfl, rfl, rfl⟩ := h; refine ⟨?_, ?_⟩) | ((with_reducible refine Ob.mk ?_); first | exact trivial | (intros; omega) | ((repeat' first | apply And.intro | (intro a; have b := a; try simp only [zH] at b)) <;> first | assumption | omega | (simp only [zH]; omega)))
      generalize x.getD i [] = rw at *
      refine Zat (τ := Nat) (fun j => j ≤ rw.length) (fun j => ⟨50, [(48, .int .i64 j), (47, .int .i64 rw.length), (46, .roI rw), (7, .own 26), (6, .int .i64 i), (13, .int .i64 i), (12, .int .i64 o.length), (5, .bool (btIn pl l (rw.take j) (now, s.1.getD i 0, s.2)).2.2), (1, .own 0), (2, .own 2)], [(0, some (.avs 3 o.length fun j => vlA (l j))), (1, some (.ints (s.1.set i (btIn pl l (rw.take j) (now, s.1.getD i 0, s.2)).2.1))), (2, some (.box (.agg (.cons (.roI o) (.cons (.roI p) (.cons (.roII x) (.cons (.int .i64 pl) (.cons (.bool st.e) (.cons (.bool st.n) (.cons (.roI st.m) (.cons (.roB ls) (.cons (.own 1) .nil)))))))))))), (26, some (.box (vlA (btIn pl l (rw.take j) (now, s.1.getD i 0, s.2)).1)))], []⟩) (fun j => rw.length - j) 0 [] ?_ (Nat.zero_le _) ?_
      · (refine ⟨rfl, ?_, ?_⟩ <;> simp only [zE, evp, evx, ev1, evLoad, evStore, evBin, Zaa, forall_const, z38, tb, reduceAdd, reduceSub, reduceMul, reduceEqDiff, reduceLeDiff, reduceLT, Nat.reduceBEq, Nat.reduceBNe, ↓reduceIte, reduceIte, spVa, Zau, vlA, zI])
        · rfl
        · exact ⟨hse.symm, rfl, rfl, rfl⟩
      intro j hj
      have hbj := @btIn_next pl l rw (now, s.1.getD i 0, s.2) j
      have hrj := hrow.2 j
      have hok : VOK K D (btIn pl l (rw.take j) (now, s.1.getD i 0, s.2)).1 := btIn_ok hwok fun w hw => by
        obtain ⟨t, ht, rfl⟩ := Zc0 (List.mem_of_mem_take hw)
        have := hrow.2 t ht
        exact hvo _ (by omega)
      repeat' first
        | with_reducible first | apply Zan | apply Zaj | apply Zab | apply Zac | apply Zag | apply Zal | apply Zaf | apply Zah | apply Zam | apply Zao | apply Zak
        | ((with_reducible refine Zap ?_); refine Zai rfl ?_ ?_ <;> intro hb <;> (try simp only [zH] at hb)) | ((with_reducible refine Zaq 12 ?_ ?_); (· exact rfl); (with_reducible refine Zaq 15 ?_ ?_); (· exact rfl); (with_reducible refine Zaq 15 ?_ ?_); (· exact rfl); (first | refine Zad htb hmz Za0 fF rfl rfl ?_ | refine Zae hmo htb hmz Za0 fF rfl rfl (by kernel_rfl) ?_); intro _ _ _ _ h; simp only [zE, evp, evx, ev1, evLoad, evStore, evBin, Zaa, forall_const, z38, tb, reduceAdd, reduceSub, reduceMul, reduceEqDiff, reduceLeDiff, reduceLT, Nat.reduceBEq, Nat.reduceBNe, ↓reduceIte, reduceIte, spVa, Zau, vlA] at h; obtain ⟨rfl, rfl, rfl, rfl⟩ := h; refine ⟨?_, ?_⟩) | ((with_reducible refine Ob.mk ?_); first | exact trivial | (intros; omega) | ((repeat' first | apply And.intro | (intro a; have b := a; try simp only [zH] at b)) <;> first | (with_reducible exact True.intro) | assumption | omega | (simp only [zH]; omega)))
      · have hjl : j < rw.length := by omega
        obtain ⟨c1, c2⟩ := hrj hjl
        have hbj := hbj hjl
        have hvw := hvo (rw.getD j 0).toNat (by omega)
        generalize btIn pl l (rw.take j) (now, s.1.getD i 0, s.2) = r at *
        generalize rw.getD j 0 = w at *
        repeat' first
          | with_reducible first | apply Zan | apply Zaj | apply Zab | apply Zac | apply Zag | apply Zal | apply Zaf | apply Zah | apply Zam | apply Zao | apply Zak
          | ((with_reducible refine Zap ?_); refine Zai rfl ?_ ?_ <;> intro hb <;> (try simp only [zH] at hb)) | ((with_reducible refine Zaq 13 ?_ ?_); (· exact rfl); (with_reducible refine Zaq 14 ?_ ?_); (· exact rfl); (with_reducible refine Zaq 15 ?_ ?_); (· exact rfl); (first | refine Zad htb hmz Za0 fF rfl rfl ?_ | refine Zae hmo htb hmz Za0 fF rfl rfl (by kernel_rfl) ?_); intro _ _ _ _ h; simp only [zE, evp, evx, ev1, evLoad, evStore, evBin, Zaa, forall_const, z38, tb, reduceAdd, reduceSub, reduceMul, reduceEqDiff, reduceLeDiff, reduceLT, Nat.reduceBEq, Nat.reduceBNe, ↓reduceIte, reduceIte, spVa, Zau, vlA] at h; obtain ⟨rfl, rfl, rfl, rfl⟩ := h; refine ⟨?_, ?_⟩) | ((with_reducible refine Ob.mk ?_); first | exact trivial | (intros; omega) | ((repeat' first | apply And.intro | (intro a; have b := a; try simp only [zH] at b)) <;> first | (with_reducible exact True.intro) | assumption | omega | (simp only [zH]; omega)))
        · refine Ob.mk ⟨⟨⟨by omega, by omega⟩, by omega⟩, hvw.1, fun h1 h2 => ?_⟩
          rw [(hvw.2 h1).1, (hok.2 h2).1]
          exact Nat.le_refl _
        · rw [if_pos hb] at hbj
          repeat' first
            | with_reducible first | apply Zan | apply Zaj | apply Zab | apply Zac | apply Zag | apply Zal | apply Zaf | apply Zah | apply Zam | apply Zao | apply Zak
            | ((with_reducible refine Zap ?_); refine Zai rfl ?_ ?_ <;> intro hb <;> (try simp only [zH] at hb)) | ((with_reducible refine Zax ?_); (first | refine Zad htb hmz Za0 fF rfl rfl ?_ | refine Zae hmo htb hmz Za0 fF rfl rfl (by kernel_rfl) ?_); intro _ _ _ _ h; simp only [zE, evp, evx, ev1, evLoad, evStore, evBin, Zaa, forall_const, z38, tb, reduceAdd, reduceSub, reduceMul, reduceEqDiff, reduceLeDiff, reduceLT, Nat.reduceBEq, Nat.reduceBNe, ↓reduceIte, reduceIte, spVa, Zau, vlA] at h; obtain ⟨rfl, rfl, rfl, rfl⟩ := h; refine ⟨?_, ?_⟩) | ((with_reducible refine Ob.mk ?_); first | exact trivial | (intros; omega) | ((repeat' first | apply And.intro | (intro a; have b := a; try simp only [zH] at b)) <;> first | (with_reducible exact True.intro) | assumption | omega | (simp only [zH]; omega)))
          refine back (j + 1) [] ?_ (by omega) (by omega)
          (refine ⟨rfl, ?_, ?_⟩ <;> simp only [zE, evp, evx, ev1, evLoad, evStore, evBin, Zaa, forall_const, z38, tb, reduceAdd, reduceSub, reduceMul, reduceEqDiff, reduceLeDiff, reduceLT, Nat.reduceBEq, Nat.reduceBNe, ↓reduceIte, reduceIte, spVa, Zau, vlA, zI])
          all_goals rw [hbj]
          exact ⟨by rw [List.set_set], rfl, rfl, rfl⟩
        · rw [if_neg (Int.not_lt.2 hb)] at hbj
          repeat' first
            | with_reducible first | apply Zan | apply Zaj | apply Zab | apply Zac | apply Zag | apply Zal | apply Zaf | apply Zah | apply Zam | apply Zao | apply Zak
            | ((with_reducible refine Zap ?_); refine Zai rfl ?_ ?_ <;> intro hb <;> (try simp only [zH] at hb)) | ((with_reducible refine Zax ?_); (first | refine Zad htb hmz Za0 fF rfl rfl ?_ | refine Zae hmo htb hmz Za0 fF rfl rfl (by kernel_rfl) ?_); intro _ _ _ _ h; simp only [zE, evp, evx, ev1, evLoad, evStore, evBin, Zaa, forall_const, z38, tb, reduceAdd, reduceSub, reduceMul, reduceEqDiff, reduceLeDiff, reduceLT, Nat.reduceBEq, Nat.reduceBNe, ↓reduceIte, reduceIte, spVa, Zau, vlA] at h; obtain ⟨rfl, rfl, rfl, rfl⟩ := h; refine ⟨?_, ?_⟩) | ((with_reducible refine Ob.mk ?_); first | exact trivial | (intros; omega) | ((repeat' first | apply And.intro | (intro a; have b := a; try simp only [zH] at b)) <;> first | (with_reducible exact True.intro) | assumption | omega | (simp only [zH]; omega)))
          refine back (j + 1) [] ?_ (by omega) (by omega)
          (refine ⟨rfl, ?_, ?_⟩ <;> simp only [zE, evp, evx, ev1, evLoad, evStore, evBin, Zaa, forall_const, z38, tb, reduceAdd, reduceSub, reduceMul, reduceEqDiff, reduceLeDiff, reduceLT, Nat.reduceBEq, Nat.reduceBNe, ↓reduceIte, reduceIte, spVa, Zau, vlA, zI])
          all_goals rw [hbj]
          exact ⟨rfl, rfl, rfl, rfl⟩
      have hje : j = rw.length := by omega
      subst hje
      rw [List.take_length]
      repeat' first
        | with_reducible first | apply Zan | apply Zaj | apply Zab | apply Zac | apply Zag | apply Zal | apply Zaf | apply Zah | apply Zam | apply Zao | apply Zak
        | ((with_reducible refine Zap ?_); refine Zai rfl ?_ ?_ <;> intro hb <;> (try simp only [zH] at hb)) | ((with_reducible refine Zax ?_); (first | refine Zad htb hmz Za0 fF rfl rfl ?_ | refine Zae hmo htb hmz Za0 fF rfl rfl (by kernel_rfl) ?_); intro _ _ _ _ h; simp only [zE, evp, evx, ev1, evLoad, evStore, evBin, Zaa, forall_const, z38, tb, reduceAdd, reduceSub, reduceMul, reduceEqDiff, reduceLeDiff, reduceLT, Nat.reduceBEq, Nat.reduceBNe, ↓reduceIte, reduceIte, spVa, Zau, vlA] at h; obtain ⟨rfl, rfl, rfl, rfl⟩ := h; refine ⟨?_, ?_⟩) | ((with_reducible refine Ob.mk ?_); first | exact trivial | (intros; omega) | ((repeat' first | apply And.intro | (intro a; have b := a; try simp only [zH] at b)) <;> first | (with_reducible exact True.intro) | assumption | omega | (simp only [zH]; omega)))
      refine back (i + 1) [] ?_ (by omega) (by omega)
      (refine ⟨rfl, ?_, ?_⟩ <;> simp only [zE, evp, evx, ev1, evLoad, evStore, evBin, Zaa, forall_const, z38, tb, reduceAdd, reduceSub, reduceMul, reduceEqDiff, reduceLeDiff, reduceLT, Nat.reduceBEq, Nat.reduceBNe, ↓reduceIte, reduceIte, spVa, Zau, vlA, zI])
      all_goals rw [hbn1]
    · have hnw2 := hnw2 (by omega)
      refine Zje ⟨50, [(7, .own 26), (6, .int .i64 i), (13, .int .i64 i), (12, .int .i64 o.length), (5, .bool s.2), (1, .own 0), (2, .own 2)], [(0, some (.avs 3 o.length fun j => vlA (l j))), (1, some (.ints s.1)), (2, some (.box (.agg (.cons (.roI o) (.cons (.roI p) (.cons (.roII x) (.cons (.int .i64 pl) (.cons (.bool st.e) (.cons (.bool st.n) (.cons (.roI st.m) (.cons (.roB ls) (.cons (.own 1) .nil)))))))))))), (26, some (.box (vlA now)))], []⟩ [] ?_ ?_
      · (refine ⟨rfl, ?_, ?_⟩ <;> simp only [zE, evp, evx, ev1, evLoad, evStore, evBin, Zaa, forall_const, z38, tb, reduceAdd, reduceSub, reduceMul, reduceEqDiff, reduceLeDiff, reduceLT, Nat.reduceBEq, Nat.reduceBNe, ↓reduceIte, reduceIte, spVa, Zau, vlA, zI])
        rw [hnw2]
        exact ⟨rfl, rfl, rfl⟩
      clear hlt1
      repeat' first
        | with_reducible first | apply Zan | apply Zaj | apply Zab | apply Zac | apply Zag | apply Zal | apply Zaf | apply Zah | apply Zam | apply Zao | apply Zak
        | ((with_reducible refine Zap ?_); refine Zai rfl ?_ ?_ <;> intro hb <;> (try simp only [zH] at hb)) | ((with_reducible refine Zaq 10 ?_ ?_); (· exact rfl); (first | refine Zad htb hmz Za0 fF rfl rfl ?_ | refine Zae hmo htb hmz Za0 fF rfl rfl (by kernel_rfl) ?_); intro _ _ _ _ h; simp only [zE, evp, evx, ev1, evLoad, evStore, evBin, Zaa, forall_const, z38, tb, reduceAdd, reduceSub, reduceMul, reduceEqDiff, reduceLeDiff, reduceLT, Nat.reduceBEq, Nat.reduceBNe, ↓reduceIte, reduceIte, spVa, Zau, vlA] at h; obtain ⟨rfl, rfl, rfl, rfl⟩ := h; refine ⟨?_, ?_⟩) | ((with_reducible refine Ob.mk ?_); first | exact trivial | (intros; omega) | ((repeat' first | apply And.intro | (intro a; have b := a; try simp only [zH] at b)) <;> first | assumption | omega | (simp only [zH]; omega)))
      generalize x.getD i [] = rw at *
      refine Zat (τ := Nat) (fun j => j ≤ rw.length) (fun j => ⟨50, [(48, .int .i64 j), (47, .int .i64 rw.length), (46, .roI rw), (7, .own 26), (6, .int .i64 i), (13, .int .i64 i), (12, .int .i64 o.length), (5, .bool (btIn pl l (rw.take j) (now, s.1.getD i 0, s.2)).2.2), (1, .own 0), (2, .own 2)], [(0, some (.avs 3 o.length fun j => vlA (l j))), (1, some (.ints (s.1.set i (btIn pl l (rw.take j) (now, s.1.getD i 0, s.2)).2.1))), (2, some (.box (.agg (.cons (.roI o) (.cons (.roI p) (.cons (.roII x) (.cons (.int .i64 pl) (.cons (.bool st.e) (.cons (.bool st.n) (.cons (.roI st.m) (.cons (.roB ls) (.cons (.own 1) .nil)))))))))))), (26, some (.box (vlA (btIn pl l (rw.take j) (now, s.1.getD i 0, s.2)).1)))], []⟩) (fun j => rw.length - j) 0 [] ?_ (Nat.zero_le _) ?_
      · (refine ⟨rfl, ?_, ?_⟩ <;> simp only [zE, evp, evx, ev1, evLoad, evStore, evBin, Zaa, forall_const, z38, tb, reduceAdd, reduceSub, reduceMul, reduceEqDiff, reduceLeDiff, reduceLT, Nat.reduceBEq, Nat.reduceBNe, ↓reduceIte, reduceIte, spVa, Zau, vlA, zI])
        · rfl
        · exact ⟨hse.symm, rfl, rfl, rfl⟩
      intro j hj
      have hbj := @btIn_next pl l rw (now, s.1.getD i 0, s.2) j
      have hrj := hrow.2 j
      have hok : VOK K D (btIn pl l (rw.take j) (now, s.1.getD i 0, s.2)).1 := btIn_ok hwok fun w hw => by
        obtain ⟨t, ht, rfl⟩ := Zc0 (List.mem_of_mem_take hw)
        have := hrow.2 t ht
        exact hvo _ (by omega)
      repeat' first
        | with_reducible first | apply Zan | apply Zaj | apply Zab | apply Zac | apply Zag | apply Zal | apply Zaf | apply Zah | apply Zam | apply Zao | apply Zak
        | ((with_reducible refine Zap ?_); refine Zai rfl ?_ ?_ <;> intro hb <;> (try simp only [zH] at hb)) | ((with_reducible refine Zaq 12 ?_ ?_); (· exact rfl); (with_reducible refine Zaq 15 ?_ ?_); (· exact rfl); (with_reducible refine Zaq 15 ?_ ?_); (· exact rfl); (first | refine Zad htb hmz Za0 fF rfl rfl ?_ | refine Zae hmo htb hmz Za0 fF rfl rfl (by kernel_rfl) ?_); intro _ _ _ _ h; simp only [zE, evp, evx, ev1, evLoad, evStore, evBin, Zaa, forall_const, z38, tb, reduceAdd, reduceSub, reduceMul, reduceEqDiff, reduceLeDiff, reduceLT, Nat.reduceBEq, Nat.reduceBNe, ↓reduceIte, reduceIte, spVa, Zau, vlA] at h; obtain ⟨rfl, rfl, rfl, rfl⟩ := h; refine ⟨?_, ?_⟩) | ((with_reducible refine Ob.mk ?_); first | exact trivial | (intros; omega) | ((repeat' first | apply And.intro | (intro a; have b := a; try simp only [zH] at b)) <;> first | (with_reducible exact True.intro) | assumption | omega | (simp only [zH]; omega)))
      · have hjl : j < rw.length := by omega
        obtain ⟨c1, c2⟩ := hrj hjl
        have hbj := hbj hjl
        have hvw := hvo (rw.getD j 0).toNat (by omega)
        generalize btIn pl l (rw.take j) (now, s.1.getD i 0, s.2) = r at *
        generalize rw.getD j 0 = w at *
        repeat' first
          | with_reducible first | apply Zan | apply Zaj | apply Zab | apply Zac | apply Zag | apply Zal | apply Zaf | apply Zah | apply Zam | apply Zao | apply Zak
          | ((with_reducible refine Zap ?_); refine Zai rfl ?_ ?_ <;> intro hb <;> (try simp only [zH] at hb)) | ((with_reducible refine Zaq 13 ?_ ?_); (· exact rfl); (with_reducible refine Zaq 14 ?_ ?_); (· exact rfl); (with_reducible refine Zaq 15 ?_ ?_); (· exact rfl); (first | refine Zad htb hmz Za0 fF rfl rfl ?_ | refine Zae hmo htb hmz Za0 fF rfl rfl (by kernel_rfl) ?_); intro _ _ _ _ h; simp only [zE, evp, evx, ev1, evLoad, evStore, evBin, Zaa, forall_const, z38, tb, reduceAdd, reduceSub, reduceMul, reduceEqDiff, reduceLeDiff, reduceLT, Nat.reduceBEq, Nat.reduceBNe, ↓reduceIte, reduceIte, spVa, Zau, vlA] at h; obtain ⟨rfl, rfl, rfl, rfl⟩ := h; refine ⟨?_, ?_⟩) | ((with_reducible refine Ob.mk ?_); first | exact trivial | (intros; omega) | ((repeat' first | apply And.intro | (intro a; have b := a; try simp only [zH] at b)) <;> first | (with_reducible exact True.intro) | assumption | omega | (simp only [zH]; omega)))
        · refine Ob.mk ⟨⟨⟨by omega, by omega⟩, by omega⟩, hvw.1, fun h1 h2 => ?_⟩
          rw [(hvw.2 h1).1, (hok.2 h2).1]
          exact Nat.le_refl _
        · rw [if_pos hb] at hbj
          repeat' first
            | with_reducible first | apply Zan | apply Zaj | apply Zab | apply Zac | apply Zag | apply Zal | apply Zaf | apply Zah | apply Zam | apply Zao | apply Zak
            | ((with_reducible refine Zap ?_); refine Zai rfl ?_ ?_ <;> intro hb <;> (try simp only [zH] at hb)) | ((with_reducible refine Zax ?_); (first | refine Zad htb hmz Za0 fF rfl rfl ?_ | refine Zae hmo htb hmz Za0 fF rfl rfl (by kernel_rfl) ?_); intro _ _ _ _ h; simp only [zE, evp, evx, ev1, evLoad, evStore, evBin, Zaa, forall_const, z38, tb, reduceAdd, reduceSub, reduceMul, reduceEqDiff, reduceLeDiff, reduceLT, Nat.reduceBEq, Nat.reduceBNe, ↓reduceIte, reduceIte, spVa, Zau, vlA] at h; obtain ⟨rfl, rfl, rfl, rfl⟩ := h; refine ⟨?_, ?_⟩) | ((with_reducible refine Ob.mk ?_); first | exact trivial | (intros; omega) | ((repeat' first | apply And.intro | (intro a; have b := a; try simp only [zH] at b)) <;> first | (with_reducible exact True.intro) | assumption | omega | (simp only [zH]; omega)))
          refine back (j + 1) [] ?_ (by omega) (by omega)
          (refine ⟨rfl, ?_, ?_⟩ <;> simp only [zE, evp, evx, ev1, evLoad, evStore, evBin, Zaa, forall_const, z38, tb, reduceAdd, reduceSub, reduceMul, reduceEqDiff, reduceLeDiff, reduceLT, Nat.reduceBEq, Nat.reduceBNe, ↓reduceIte, reduceIte, spVa, Zau, vlA, zI])
          all_goals rw [hbj]
          exact ⟨by rw [List.set_set], rfl, rfl, rfl⟩
        · rw [if_neg (Int.not_lt.2 hb)] at hbj
          repeat' first
            | with_reducible first | apply Zan | apply Zaj | apply Zab | apply Zac | apply Zag | apply Zal | apply Zaf | apply Zah | apply Zam | apply Zao | apply Zak
            | ((with_reducible refine Zap ?_); refine Zai rfl ?_ ?_ <;> intro hb <;> (try simp only [zH] at hb)) | ((with_reducible refine Zax ?_); (first | refine Zad htb hmz Za0 fF rfl rfl ?_ | refine Zae hmo htb hmz Za0 fF rfl rfl (by kernel_rfl) ?_); intro _ _ _ _ h; simp only [zE, evp, evx, ev1, evLoad, evStore, evBin, Zaa, forall_const, z38, tb, reduceAdd, reduceSub, reduceMul, reduceEqDiff, reduceLeDiff, reduceLT, Nat.reduceBEq, Nat.reduceBNe, ↓reduceIte, reduceIte, spVa, Zau, vlA] at h; obtain ⟨rfl, rfl, rfl, rfl⟩ := h; refine ⟨?_, ?_⟩) | ((with_reducible refine Ob.mk ?_); first | exact trivial | (intros; omega) | ((repeat' first | apply And.intro | (intro a; have b := a; try simp only [zH] at b)) <;> first | (with_reducible exact True.intro) | assumption | omega | (simp only [zH]; omega)))
          refine back (j + 1) [] ?_ (by omega) (by omega)
          (refine ⟨rfl, ?_, ?_⟩ <;> simp only [zE, evp, evx, ev1, evLoad, evStore, evBin, Zaa, forall_const, z38, tb, reduceAdd, reduceSub, reduceMul, reduceEqDiff, reduceLeDiff, reduceLT, Nat.reduceBEq, Nat.reduceBNe, ↓reduceIte, reduceIte, spVa, Zau, vlA, zI])
          all_goals rw [hbj]
          exact ⟨rfl, rfl, rfl, rfl⟩
      have hje : j = rw.length := by omega
      subst hje
      rw [List.take_length]
      repeat' first
        | with_reducible first | apply Zan | apply Zaj | apply Zab | apply Zac | apply Zag | apply Zal | apply Zaf | apply Zah | apply Zam | apply Zao | apply Zak
        | ((with_reducible refine Zap ?_); refine Zai rfl ?_ ?_ <;> intro hb <;> (try simp only [zH] at hb)) | ((with_reducible refine Zax ?_); (first | refine Zad htb hmz Za0 fF rfl rfl ?_ | refine Zae hmo htb hmz Za0 fF rfl rfl (by kernel_rfl) ?_); intro _ _ _ _ h; simp only [zE, evp, evx, ev1, evLoad, evStore, evBin, Zaa, forall_const, z38, tb, reduceAdd, reduceSub, reduceMul, reduceEqDiff, reduceLeDiff, reduceLT, Nat.reduceBEq, Nat.reduceBNe, ↓reduceIte, reduceIte, spVa, Zau, vlA] at h; obtain ⟨rfl, rfl, rfl, rfl⟩ := h; refine ⟨?_, ?_⟩) | ((with_reducible refine Ob.mk ?_); first | exact trivial | (intros; omega) | ((repeat' first | apply And.intro | (intro a; have b := a; try simp only [zH] at b)) <;> first | (with_reducible exact True.intro) | assumption | omega | (simp only [zH]; omega)))
      refine back (i + 1) [] ?_ (by omega) (by omega)
      (refine ⟨rfl, ?_, ?_⟩ <;> simp only [zE, evp, evx, ev1, evLoad, evStore, evBin, Zaa, forall_const, z38, tb, reduceAdd, reduceSub, reduceMul, reduceEqDiff, reduceLeDiff, reduceLT, Nat.reduceBEq, Nat.reduceBNe, ↓reduceIte, reduceIte, spVa, Zau, vlA, zI])
      all_goals rw [hbn1]
  have hie : i = o.length := by omega
  subst hie
  rw [hsd]
  repeat' first
    | with_reducible first | apply Zan | apply Zaj | apply Zab | apply Zac | apply Zag | apply Zal | apply Zaf | apply Zah | apply Zam | apply Zao | apply Zak
    | ((with_reducible refine Zap ?_); refine Zai rfl ?_ ?_ <;> intro hb <;> (try simp only [zH] at hb)) | ((with_reducible refine Zax ?_); (first | refine Zad htb hmz Za0 fF rfl rfl ?_ | refine Zae hmo htb hmz Za0 fF rfl rfl (by kernel_rfl) ?_); intro _ _ _ _ h; simp only [zE, evp, evx, ev1, evLoad, evStore, evBin, Zaa, forall_const, z38, tb, reduceAdd, reduceSub, reduceMul, reduceEqDiff, reduceLeDiff, reduceLT, Nat.reduceBEq, Nat.reduceBNe, ↓reduceIte, reduceIte, spVa, Zau, vlA] at h; obtain ⟨rfl, rfl, rfl, rfl⟩ := h; refine ⟨?_, ?_⟩) | ((with_reducible refine Ob.mk ?_); first | exact trivial | (intros; omega) | ((repeat' first | apply And.intro | (intro a; have b := a; try simp only [zH] at b)) <;> first | (with_reducible exact True.intro) | assumption | omega | (simp only [zH]; omega)))
  refine Zav rfl rfl (Zee (⟨2, .bool s.2, [(0, some (.avs 3 o.length fun j => vlA (l j))), (1, some (.ints s.1))]⟩) ([]) rfl rfl (Zcb rfl) ?_)
  simp only [grR, zE, evp, evx, ev1, evLoad, evStore, evBin, Zaa, forall_const, z38, tb, reduceAdd, reduceSub, reduceMul, reduceEqDiff, reduceLeDiff, reduceLT, Nat.reduceBEq, Nat.reduceBNe, ↓reduceIte, reduceIte, spVa, Zau, vlA]
open Go
theorem Zfp {k : Int} : ∀ {es : List (Int × Int × Nat)} {i : Nat}, fnd k es (i + 1) = (fnd k es i).map fun p => (p.1 + 1, p.2)
  | [], _ => rfl
  | e :: t, i => by
    unfold fnd
    split
    · rfl
    · exact Zfp
theorem Zen {k : Int} {e : Int × Int × Nat} {t : List (Int × Int × Nat)} : mget k (e :: t) = if k = e.1 then e.2.1 else mget k t := by
  unfold mget
  rw [fnd]
  by_cases h : k = e.1
  · rw [if_pos h, if_pos h]
  · rw [if_neg h, if_neg h, Zfp]
    cases fnd k t 0 <;> rfl
theorem mput_cons {k v : Int} {c : Nat} {e : Int × Int × Nat} {t : List (Int × Int × Nat)} : mput k v c (e :: t) = if k = e.1 then (k, v, e.2.2) :: t else e :: mput k v c t := by
  unfold mput
  rw [fnd]
  by_cases h : k = e.1
  · rw [if_pos h, if_pos h]; rfl
  · rw [if_neg h, if_neg h, Zfp]
    cases fnd k t 0 <;> rfl
theorem mget_mput {k k' v : Int} {c : Nat} : ∀ {es : List (Int × Int × Nat)}, mget k (mput k' v c es) = if k = k' then v else mget k es
  | [] => by
    have : mput k' v c [] = [(k', v, c)] := rfl
    rw [this, Zen]
  | e :: t => by
    rw [mput_cons]
    by_cases h : k' = e.1
    · rw [if_pos h, Zen, Zen]
      dsimp only
      rw [← h]
      split <;> rfl
    · rw [if_neg h, Zen, Zen, mget_mput (es := t)]
      by_cases h2 : k = e.1
      · rw [if_pos h2, if_pos h2, if_neg (fun e2 : k = k' => h (by rw [← e2]; exact h2))]
      · rw [if_neg h2, if_neg h2]
theorem Zem {k : Int} {e : Int × Int × Nat} {t : List (Int × Int × Nat)} : mhas k (e :: t) = if k = e.1 then true else mhas k t := by
  unfold mhas
  rw [fnd]
  by_cases h : k = e.1
  · rw [if_pos h, if_pos h]
  · rw [if_neg h, if_neg h, Zfp]
    cases fnd k t 0 <;> rfl
theorem mhas_mput {k k' v : Int} {c : Nat} : ∀ {es : List (Int × Int × Nat)}, mhas k (mput k' v c es) = if k = k' then true else mhas k es
  | [] => by
    have : mput k' v c [] = [(k', v, c)] := rfl
    rw [this, Zem]
  | e :: t => by
    rw [mput_cons]
    by_cases h : k' = e.1
    · rw [if_pos h, Zem, Zem]
      dsimp only
      rw [← h]
      split <;> rfl
    · rw [if_neg h, Zem, Zem, mhas_mput (es := t)]
      by_cases h2 : k = e.1
      · rw [if_pos h2, if_pos h2]
        split <;> rfl
      · rw [if_neg h2, if_neg h2]
section
open Pl
structure MQ (es : List (Int × Int × Nat)) (L : List (Nat × Nat)) : Prop where
  has : ∀ v : Nat, mhas v es = decide (v ∈ L.map Prod.fst)
  get : ∀ v u : Nat, (v, u) ∈ L → mget v es = u
theorem MQ_nil : MQ [] [] := ⟨fun v => rfl, fun v u h => by cases h⟩
theorem MQ_put {es : List (Int × Int × Nat)} {L : List (Nat × Nat)} {w u c : Nat} (h : MQ es L) (hw : w ∉ L.map Prod.fst) : MQ (mput w u c es) (L ++ [(w, u)]) := by
  refine ⟨fun v => ?_, fun v z hv => ?_⟩
  · rw [mhas_mput, h.has]
    by_cases e : v = w
    · subst e; simp
    · rw [if_neg (by omega)]
      simp [e]
  · rw [mget_mput]
    rcases List.mem_append.1 hv with hv | hv
    · have : v ≠ w := fun e => hw (e ▸ List.mem_map.2 ⟨_, hv, rfl⟩)
      rw [if_neg (by omega)]
      exact h.get v z hv
    · rw [List.mem_singleton] at hv
      injection hv with h1 h2
      rw [if_pos (by omega), h2]
variable {nx : Nat → List Nat} {thr : Nat → Prop} {n fr : Nat} {L : List (Nat × Nat)} {i j v w u : Nat}
def qF (fr : Nat) (L : List (Nat × Nat)) : List Nat := fr :: L.map Prod.fst
structure RQ (nx : Nat → List Nat) (thr : Nat → Prop) (n fr : Nat) (L : List (Nat × Nat)) (i j : Nat) : Prop where
  nd : (L.map Prod.fst).Nodup
  lt : ∀ v, v ∈ qF fr L → v < n
  hi : i ≤ (qF fr L).length
  ed : ∀ (k w u : Nat), L[k]? = some (w, u) → w ∈ nx u ∧ thr w ∧ u ∈ (qF fr L).take (k + 1)
  cl : ∀ u, u ∈ (qF fr L).take i → ∀ w, w ∈ nx u → thr w → w ∈ L.map Prod.fst
  cj : ∀ u, (qF fr L)[i]? = some u → ∀ w, w ∈ (nx u).take j → thr w → w ∈ L.map Prod.fst
theorem RQ_first (hf : fr < n) : RQ nx thr n fr [] 0 0 :=
  ⟨by simp, (fun v hv => by rw [show qF fr [] = [fr] from rfl, List.mem_singleton] at hv; omega), Nat.zero_le _, (fun k w u h => by simp at h), (fun u h => by simp at h), (fun u _ w h => by rw [List.take_zero] at h; cases h)⟩
theorem Zjw (h : RQ nx thr n fr L i j) : L.length ≤ n := by
  have := Zfl n _ h.nd fun x hx => h.lt x (List.mem_cons_of_mem _ hx)
  rwa [List.length_map] at this
theorem Zhf : (qF fr L).length = L.length + 1 := by simp [qF]
theorem RQ_skip (h : RQ nx thr n fr L i j) (hu : (qF fr L)[i]? = some u) (hw : (nx u)[j]? = some w) (hs : w ∈ L.map Prod.fst ∨ ¬ thr w) : RQ nx thr n fr L i (j + 1) := by
  refine ⟨h.nd, h.lt, h.hi, h.ed, h.cl, fun u' hu' w' hw' ht => ?_⟩
  obtain rfl : u = u' := by rw [hu] at hu'; injection hu'
  rw [List.take_add_one, hw, List.mem_append] at hw'
  rcases hw' with hw' | hw'
  · exact h.cj u hu w' hw' ht
  · rw [Option.toList_some, List.mem_singleton] at hw'
    subst hw'
    rcases hs with hs | hs
    · exact hs
    · exact absurd ht hs
theorem Zf3 : qF fr (L ++ [(w, u)]) = qF fr L ++ [w] := by simp [qF]
theorem Zho {l : List Nat} {a k : Nat} (h : k ≤ l.length) : (l ++ [a]).take k = l.take k := List.take_append_of_le_length h
theorem RQ_add (h : RQ nx thr n fr L i j) (hu : (qF fr L)[i]? = some u) (hw : (nx u)[j]? = some w) (hwn : w < n) (hnew : w ∉ L.map Prod.fst) (ht : thr w) : RQ nx thr n fr (L ++ [(w, u)]) i (j + 1) := by
  have hi : i < (qF fr L).length := (List.getElem?_eq_some_iff.1 hu).1
  have hm : ∀ {x}, x ∈ L.map Prod.fst → x ∈ (L ++ [(w, u)]).map Prod.fst := fun {x} hx => by rw [List.map_append]; exact List.mem_append_left _ hx
  refine ⟨?_, fun v hv => ?_, ?_, fun k w' u' hk => ?_, fun u' hu' w' hw' ht' => ?_, fun u' hu' w' hw' ht' => ?_⟩
  · rw [List.map_append, List.nodup_append]
    refine ⟨h.nd, by simp, fun a ha b hb => ?_⟩
    rw [List.map_cons, List.map_nil, List.mem_singleton] at hb
    intro e
    have hb : b = w := hb
    exact hnew (by rw [← hb, ← e]; exact ha)
  · rw [Zf3, List.mem_append, List.mem_singleton] at hv
    rcases hv with hv | rfl
    · exact h.lt v hv
    · exact hwn
  · rw [Zf3, List.length_append]; omega
  · rw [Zf3]
    rcases Nat.lt_or_ge k L.length with hkl | hkl
    · rw [List.getElem?_append_left hkl] at hk
      obtain ⟨e1, e2, e3⟩ := h.ed k w' u' hk
      rw [Zho (by rw [Zhf]; omega)]
      exact ⟨e1, e2, e3⟩
    · rw [List.getElem?_append_right hkl] at hk
      have hk0 : k - L.length = 0 := by
        have := (List.getElem?_eq_some_iff.1 hk).1
        simp at this; omega
      rw [hk0] at hk
      simp only [List.getElem?_cons_zero, Option.some.injEq, Prod.mk.injEq] at hk
      obtain ⟨rfl, rfl⟩ := hk
      refine ⟨List.mem_of_getElem? hw, ht, ?_⟩
      have hkk : k = L.length := by omega
      subst hkk
      rw [Zho (by rw [Zhf]; exact Nat.le_refl _), List.take_of_length_le (by rw [Zhf]; exact Nat.le_refl _)]
      exact List.mem_of_getElem? hu
  · rw [Zf3, Zho (by omega)] at hu'
    exact hm (h.cl u' hu' w' hw' ht')
  · rw [Zf3, List.getElem?_append_left hi, hu] at hu'
    obtain rfl : u = u' := by injection hu'
    rw [List.take_add_one, hw, List.mem_append] at hw'
    rcases hw' with hw' | hw'
    · exact hm (h.cj u hu w' hw' ht')
    · rw [Option.toList_some, List.mem_singleton] at hw'
      subst hw'
      rw [List.map_append]
      exact List.mem_append_right _ (by simp)
theorem RQ_next (h : RQ nx thr n fr L i j) (hu : (qF fr L)[i]? = some u) (hj : (nx u).length ≤ j) : RQ nx thr n fr L (i + 1) 0 := by
  have hi : i < (qF fr L).length := (List.getElem?_eq_some_iff.1 hu).1
  refine ⟨h.nd, h.lt, hi, h.ed, fun u' hu' w' hw' ht' => ?_, fun u' _ w' hw' => by rw [List.take_zero] at hw'; cases hw'⟩
  rw [List.take_add_one, hu, List.mem_append] at hu'
  rcases hu' with hu' | hu'
  · exact h.cl u' hu' w' hw' ht'
  · rw [Option.toList_some, List.mem_singleton] at hu'
    subst hu'
    exact h.cj u' hu w' (by rw [List.take_of_length_le hj]; exact hw') ht'
def RE (nx : Nat → List Nat) (thr : Nat → Prop) (n fr : Nat) (L : List (Nat × Nat)) : Prop := RQ nx thr n fr L (qF fr L).length 0
def SE (nx : Nat → List Nat) (thr : Nat → Prop) (a b : Nat) : Prop := b ∈ nx a ∧ thr b
theorem RE_iff (h : RE nx thr n fr L) (w : Nat) : w ∈ L.map Prod.fst ↔ ∃ t, SE nx thr fr t ∧ Rch (SE nx thr) t w := by
  constructor
  · intro hw
    -- by the place of w
    obtain ⟨k, hk, e⟩ := List.getElem_of_mem hw
    have hkl : k < L.length := by simpa using hk
    induction k using Nat.strongRecOn generalizing w with
    | ind k ih =>
      have hLk : L[k]? = some (w, L[k].2) := by
        rw [List.getElem?_eq_getElem hkl]
        rw [List.getElem_map] at e
        rw [← e]
      obtain ⟨e1, e2, e3⟩ := h.ed k _ _ hLk
      rw [show qF fr L = fr :: L.map Prod.fst from rfl, List.take_succ_cons] at e3
      rcases List.mem_cons.1 e3 with e4 | e4
      · exact ⟨w, ⟨e4 ▸ e1, e2⟩, .refl _⟩
      · obtain ⟨k2, hk2, e5⟩ := List.getElem_of_mem e4
        rw [List.length_take] at hk2
        rw [List.getElem_take] at e5
        obtain ⟨t, t1, t2⟩ := ih k2 (by omega) L[k].2 (by rw [← e5]; exact List.getElem_mem _) (by omega) e5 (by simp at hk2; omega)
        exact ⟨t, t1, .step t2 ⟨e1, e2⟩⟩
  · rintro ⟨t, t1, t2⟩
    have hcl : ∀ u, u ∈ qF fr L → ∀ w, w ∈ nx u → thr w → w ∈ L.map Prod.fst := fun u hu => h.cl u (by rw [List.take_length]; exact hu)
    induction t2 with
    | refl => exact hcl fr List.mem_cons_self t t1.1 t1.2
    | step _ e ih => exact hcl _ (List.mem_cons_of_mem _ ih) _ e.1 e.2
structure BkQ (nx : Nat → List Nat) (fr : Nat) (L : List (Nat × Nat)) (to : Nat) (v : Nat) (o : List Nat) : Prop where
  hd : ∃ o', o = to :: o'
  ks : ∀ z, z ∈ o → z ∈ L.map Prod.fst
  nd : o.Nodup
  nf : ∀ z, z ∈ o.drop 1 → z ≠ fr
  ch : ∀ (k a b : Nat), o[k]? = some a → (o ++ [v])[k + 1]? = some b → a ∈ nx b ∧ (a, b) ∈ L
  ix : v = fr ∨ ∃ k, k < L.length ∧ (L.map Prod.fst)[k]? = some v ∧ ∀ z, z ∈ o → ∃ k', k < k' ∧ (L.map Prod.fst)[k']? = some z
theorem Zke (h : RQ nx thr n fr L i j) {v : Nat} (hv : v ∈ L.map Prod.fst) : ∃ (k u : Nat), L[k]? = some (v, u) ∧ (v, u) ∈ L ∧ v ∈ nx u ∧ thr v ∧ (u = fr ∨ ∃ k', k' < k ∧ (L.map Prod.fst)[k']? = some u) := by
  obtain ⟨k, hk, e⟩ := List.getElem_of_mem hv
  have hkl : k < L.length := by simpa using hk
  have hLk : L[k]? = some (v, L[k].2) := by
    rw [List.getElem?_eq_getElem hkl]
    rw [List.getElem_map] at e
    rw [← e]
  obtain ⟨e1, e2, e3⟩ := h.ed k _ _ hLk
  refine ⟨k, L[k].2, hLk, List.mem_of_getElem? hLk, e1, e2, ?_⟩
  rw [show qF fr L = fr :: L.map Prod.fst from rfl, List.take_succ_cons] at e3
  rcases List.mem_cons.1 e3 with e4 | e4
  · exact .inl e4
  · obtain ⟨k2, hk2, e5⟩ := List.getElem_of_mem e4
    rw [List.length_take] at hk2
    rw [List.getElem_take] at e5
    exact .inr ⟨k2, by omega, by rw [← e5]; exact List.getElem?_eq_getElem _⟩
theorem Zfm {l : List Nat} (hn : l.Nodup) {a b z : Nat} (h1 : l[a]? = some z) (h2 : l[b]? = some z) : a = b := by
  obtain ⟨ha, e1⟩ := List.getElem?_eq_some_iff.1 h1
  obtain ⟨hb, e2⟩ := List.getElem?_eq_some_iff.1 h2
  rcases Nat.lt_trichotomy a b with h | h | h
  · exact absurd (e1.trans e2.symm) (List.pairwise_iff_getElem.1 hn a b ha hb h)
  · exact h
  · exact absurd (e2.trans e1.symm) (List.pairwise_iff_getElem.1 hn b a hb ha h)
theorem Bk_first (h : RQ nx thr n fr L i j) {to u : Nat} (hu : (to, u) ∈ L) : BkQ nx fr L to u [to] := by
  have hk : to ∈ L.map Prod.fst := List.mem_map.2 ⟨_, hu, rfl⟩
  obtain ⟨k, u', h1, h2, h3, h4, h5⟩ := Zke h hk
  have e : u = u' := by
    obtain ⟨a, ha, e1⟩ := List.getElem_of_mem hu
    have g1 : (L.map Prod.fst)[a]? = some to := by rw [List.getElem?_map, List.getElem?_eq_getElem ha, e1]; rfl
    have g2 : (L.map Prod.fst)[k]? = some to := by rw [List.getElem?_map, h1]; rfl
    have := Zfm h.nd g1 g2
    subst this
    rw [List.getElem?_eq_getElem ha, e1] at h1
    injection h1 with h1; injection h1
  subst e
  refine ⟨⟨[], rfl⟩, fun z hz => by rw [List.mem_singleton.1 hz]; exact hk, by simp, fun z hz => by simp at hz, fun k a b ha hb => ?_, ?_⟩
  · obtain rfl : k = 0 := by
      have := (List.getElem?_eq_some_iff.1 ha).1
      simp at this; omega
    simp at ha hb
    rw [← ha, ← hb]; exact ⟨h3, hu⟩
  · rcases h5 with h5 | ⟨k', h6, h7⟩
    · exact .inl h5
    · refine .inr ⟨k', by have := (List.getElem?_eq_some_iff.1 h7).1; simpa using this, h7, fun z hz => ?_⟩
      rw [List.mem_singleton.1 hz]
      exact ⟨k, h6, by rw [List.getElem?_map, h1]; rfl⟩
theorem Bk_key {to v : Nat} {o : List Nat} (hb : BkQ nx fr L to v o) (hv : v ≠ fr) : ∃ u, (v, u) ∈ L := by
  rcases hb.ix with e | ⟨k, h1, h2, _⟩
  · exact absurd e hv
  · rw [List.getElem?_map, List.getElem?_eq_getElem h1] at h2
    refine ⟨L[k].2, ?_⟩
    have : L[k] = (v, L[k].2) := by
      have h2 : L[k].1 = v := by injection h2
      rw [← h2]
    rw [← this]
    exact List.getElem_mem _
noncomputable def bkM (fr : Nat) (L : List (Nat × Nat)) (v : Nat) : Nat := if v = fr then 0 else (L.map Prod.fst).idxOf v + 1
theorem ix_of {l : List Nat} (hn : l.Nodup) {k z : Nat} (h : l[k]? = some z) : l.idxOf z = k := by
  have hm : z ∈ l := List.mem_of_getElem? h
  have hlt := List.idxOf_lt_length_of_mem hm
  refine Zfm hn (z := z) ?_ h
  rw [List.getElem?_eq_getElem hlt, List.getElem_idxOf hlt]
theorem Bk_next (h : RQ nx thr n fr L i j) {to u : Nat} {o : List Nat} (hb : BkQ nx fr L to v o) (hv : v ≠ fr) (hu : (v, u) ∈ L) : BkQ nx fr L to u (o ++ [v]) ∧ bkM fr L u < bkM fr L v := by
  obtain ⟨o', ho⟩ := hb.hd
  have hlen : 0 < o.length := by rw [ho]; simp
  have hkv : v ∈ L.map Prod.fst := List.mem_map.2 ⟨_, hu, rfl⟩
  obtain ⟨k, u', h1, h2, h3, h4, h5⟩ := Zke h hkv
  have gk : (L.map Prod.fst)[k]? = some v := by rw [List.getElem?_map, h1]; rfl
  have e : u = u' := by
    obtain ⟨a, ha, e1⟩ := List.getElem_of_mem hu
    have g1 : (L.map Prod.fst)[a]? = some v := by rw [List.getElem?_map, List.getElem?_eq_getElem ha, e1]; rfl
    have := Zfm h.nd g1 gk
    subst this
    rw [List.getElem?_eq_getElem ha, e1] at h1
    injection h1 with h1; injection h1
  subst e
  rcases hb.ix with e | ⟨kv, q1, q2, q3⟩
  · exact absurd e hv
  have ekv : kv = k := Zfm h.nd q2 gk
  subst ekv
  refine ⟨⟨⟨o' ++ [v], by rw [ho]; rfl⟩, fun z hz => ?_, ?_, fun z hz => ?_, fun k2 a b ha hb2 => ?_, ?_⟩, ?_⟩
  · rcases List.mem_append.1 hz with hz | hz
    · exact hb.ks z hz
    · rw [List.mem_singleton.1 hz]; exact hkv
  · refine List.nodup_append.2 ⟨hb.nd, by simp, fun a ha b hb2 => ?_⟩
    rw [List.mem_singleton.1 hb2]
    rintro rfl
    obtain ⟨k', q4, q5⟩ := q3 a ha
    have := Zfm h.nd q5 gk
    omega
  · rw [List.drop_append_of_le_length (by omega)] at hz
    rcases List.mem_append.1 hz with hz | hz
    · exact hb.nf z hz
    · rw [List.mem_singleton.1 hz]; exact hv
  · rcases Nat.lt_or_ge k2 o.length with hk2 | hk2
    · rw [List.getElem?_append_left hk2] at ha
      refine hb.ch k2 a b ha ?_
      rw [List.getElem?_append_left (by simp; omega)] at hb2
      exact hb2
    · have hk3 : k2 = o.length := by
        have := (List.getElem?_eq_some_iff.1 ha).1
        simp at this; omega
      subst hk3
      rw [List.getElem?_append_right (Nat.le_refl _), Nat.sub_self] at ha
      rw [List.getElem?_append_right (by simp)] at hb2
      simp at ha hb2
      rw [← ha, ← hb2]; exact ⟨h3, hu⟩
  · rcases h5 with h5 | ⟨k', h6, h7⟩
    · exact .inl h5
    · refine .inr ⟨k', by omega, h7, fun z hz => ?_⟩
      rcases List.mem_append.1 hz with hz | hz
      · obtain ⟨k2, q4, q5⟩ := q3 z hz
        exact ⟨k2, by omega, q5⟩
      · rw [List.mem_singleton.1 hz]
        exact ⟨kv, h6, gk⟩
  · unfold bkM
    rw [if_neg hv, ix_of h.nd gk]
    split
    · omega
    · rcases h5 with h5 | ⟨k', h6, h7⟩
      · rename_i h8; exact absurd h5 h8
      · rw [ix_of h.nd h7]; omega
theorem nodup_subL : ∀ {l m : List Nat}, l.Nodup → (∀ x, x ∈ l → x ∈ m) → l.length ≤ m.length
  | [], _, _, _ => Nat.zero_le _
  | a :: l, m, h, hs => by
    have hm := hs a List.mem_cons_self
    have := nodup_subL (l := l) (m := m.erase a) (List.nodup_cons.1 h).2 fun x hx => (List.mem_erase_of_ne (fun e : x = a => (List.nodup_cons.1 h).1 (e ▸ hx))).2 (hs x (List.mem_cons_of_mem _ hx))
    rw [List.length_erase_of_mem hm] at this
    have := List.length_pos_of_mem hm
    rw [List.length_cons]
    omega
theorem Bk_len {to : Nat} {o : List Nat} (hb : BkQ nx fr L to v o) : o.length ≤ L.length := by
  have := nodup_subL hb.nd hb.ks
  simpa using this
end
end Go.Proofs.Ytbcghiagomkadaa.Cal
