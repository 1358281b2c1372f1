/- Own texts of the proof, merged, in order. -/
import Derived.Test.YtbcghiagomkadaaS17
set_option linter.unusedVariables false
set_option linter.unusedSimpArgs false
namespace Go.Proofs.Ytbcghiagomkadaa.Cal
open Go Pl
/-- What the values are made of. -/
structure Im where
  o : List Int
  p : List Int
  x : List (List Int)
  pl : Int
  st : Vl
  ls : List Bool
def Im.bh (h : Im) (ch : List Int) (l : Nat → Vl) (v : Nat) : Vl := bhV h.o h.p h.x h.pl h.st ch l v
def vStep (h : Im) (ch : List Int) (s : (Nat → Vl) × Bool) (v : Nat) : (Nat → Vl) × Bool := if h.ls.getD v false = false ∧ cmpV h.pl (h.bh ch s.1 v) (s.1 v) < 0 then (fun j => if j = v then h.bh ch s.1 v else s.1 j, true) else s
/-- The first i positions of a pass. -/
def vPass (h : Im) (ch : List Int) (l : Nat → Vl) (i : Nat) : (Nat → Vl) × Bool := (List.range i).foldl (vStep h ch) (l, false)
def vIt (h : Im) (ch : List Int) : Nat → Nat → Vl
  | 0 => fun v => ⟨!h.ls.getD v false, h.ls.getD v false, []⟩
  | k + 1 => (vPass h ch (vIt h ch k) h.o.length).1
/-- The passes come to an end: after k of them. -/
def VEnd (h : Im) (ch : List Int) (k : Nat) : Prop := k ≤ 20001 ∧ (∀ j, j < k → (vPass h ch (vIt h ch j) h.o.length).2 = true) ∧ (vPass h ch (vIt h ch k) h.o.length).2 = false
theorem Zeu {h : Im} {ch : List Int} {l : Nat → Vl} {i : Nat} : vPass h ch l (i + 1) = vStep h ch (vPass h ch l i) i := by
  unfold vPass
  rw [List.range_succ, List.foldl_append]; rfl
theorem vPass_keep {h : Im} {ch : List Int} {l : Nat → Vl} : ∀ {i : Nat}, (vPass h ch l i).2 = false → (vPass h ch l i).1 = l
  | 0, _ => rfl
  | i + 1, hh => by
    rw [Zeu] at hh ⊢
    unfold vStep at hh ⊢
    split at hh
    · cases hh
    · rename_i h2
      rw [if_neg h2]
      exact vPass_keep hh
theorem Zc0 {K : Nat} {D D' : Int} {v : Vl} (h : VOK K D v) (hD : D ≤ D') : VOK K D' v := ⟨h.1, fun hr => ⟨(h.2 hr).1, fun q => ⟨((h.2 hr).2 q).1, Int.le_trans ((h.2 hr).2 q).2 hD⟩⟩⟩
theorem vok_plus1 {K : Nat} {D : Int} {v : Vl} {q : Nat} (h : VOK K D v) : VOK K (D + 1) (plusV v q) := by
  unfold plusV
  split
  · exact Zc0 h (by omega)
  · rename_i h2
    have he : v.e = false := by cases hv : v.e with | false => rfl | true => exact absurd (.inl hv) h2
    have hn : v.n = false := by cases hv : v.n with | false => rfl | true => exact absurd (.inr hv) h2
    have hr : rankV v = 0 := by unfold rankV; rw [if_neg (by simp [hn]), if_neg (by simp [he])]
    obtain ⟨h3, h4⟩ := h.2 hr
    refine ⟨by dsimp only; rw [List.length_set]; exact h.1, fun _ => ⟨by dsimp only; rw [List.length_set]; exact h3, fun q' => ?_⟩⟩
    dsimp only
    have e : (v.m.set q (v.m.getD q 0 + 1)).getD q' 0 = if q' = q ∧ q < v.m.length then v.m.getD q 0 + 1 else v.m.getD q' 0 := by
      simp only [List.getD_eq_getElem?_getD, List.getElem?_set]
      by_cases e : q = q'
      · subst e
        by_cases e2 : q < v.m.length
        · simp [e2]
        · simp [e2]
      · rw [if_neg e, if_neg (fun h => e h.1.symm)]
    rw [e]
    have := h4 q
    have := h4 q'
    split <;> omega
/-- The game, the strategy's room and the lost ones fit. -/
structure ImOK (h : Im) (K : Nat) : Prop where
  n : h.o.length ≤ 20000
  plen : h.p.length = h.o.length
  xl : h.x.length = h.o.length
  p0 : ∀ v, v < h.o.length → 0 ≤ h.p.getD v 0 ∧ (h.p.getD v 0).toNat < K
  row : ∀ v, v < h.o.length → (h.x.getD v []).length ≤ 64 ∧ ∀ j, j < (h.x.getD v []).length → 0 ≤ (h.x.getD v []).getD j 0 ∧ (h.x.getD v []).getD j 0 < (h.o.length : Int)
  st : VOK K 0 h.st
  ls : h.ls.length = h.o.length
theorem bh_ok {h : Im} {K : Nat} (H : ImOK h K) {ch : List Int} (hc : ∀ v, v < h.o.length → ch.getD v 0 < h.o.length) {l : Nat → Vl} {D : Int} (hD : 0 ≤ D) (hl : ∀ u, u < h.o.length → VOK K D (l u)) {v : Nat} (hv : v < h.o.length) : VOK K (D + 1) (h.bh ch l v) := by
  unfold Im.bh bhV
  refine vok_plus1 ?_
  split
  · split
    · exact Zc0 H.st hD
    · have := hc v hv
      exact hl _ (by omega)
  · refine min_ok fun w hw => ?_
    obtain ⟨j, hj, rfl⟩ := Zc9 hw
    have := (H.row v hv).2 j hj
    exact hl _ (by omega)
theorem Zg4 {h : Im} {K : Nat} (H : ImOK h K) {ch : List Int} (hc : ∀ v, v < h.o.length → ch.getD v 0 < h.o.length) {l : Nat → Vl} {D : Int} (hD : 0 ≤ D) (hl : ∀ u, u < h.o.length → VOK K D (l u)) : ∀ {i : Nat}, i ≤ h.o.length → ∀ u, u < h.o.length → VOK K (D + i) ((vPass h ch l i).1 u)
  | 0, _, u, hu => by
    show VOK K (D + 0) (l u)
    rw [Int.add_zero]; exact hl u hu
  | i + 1, hi, u, hu => by
    have ih := Zg4 H hc hD hl (i := i) (by omega)
    rw [Zeu]
    unfold vStep
    split
    · dsimp only
      split
      · have := bh_ok H hc (show 0 ≤ D + i by omega) ih (v := i) (by omega)
        rw [show D + ((i + 1 : Nat) : Int) = D + i + 1 by omega]
        exact this
      · exact Zc0 (ih u hu) (by omega)
    · exact Zc0 (ih u hu) (by omega)
theorem Zh4 {h : Im} {K : Nat} (H : ImOK h K) {ch : List Int} (hc : ∀ v, v < h.o.length → ch.getD v 0 < h.o.length) : ∀ {k : Nat}, ∀ u, u < h.o.length → VOK K (k * (h.o.length : Int)) (vIt h ch k u)
  | 0, u, hu => by
    refine ⟨Nat.zero_le _, fun hr => ?_⟩
    exfalso
    have hb : ∀ b : Bool, rankV ⟨!b, b, []⟩ ≠ 0 := fun b => by cases b <;> decide
    exact hb _ hr
  | k + 1, u, hu => by
    have hk : 0 ≤ (k : Int) * (h.o.length : Int) := Int.mul_nonneg (by omega) (by omega)
    have := Zg4 H hc hk (Zh4 H hc (k := k)) (i := h.o.length) (Nat.le_refl _) u hu
    rw [show ((k + 1 : Nat) : Int) * (h.o.length : Int) = (k : Int) * h.o.length + h.o.length by rw [Int.natCast_add, Int.add_mul]; simp]
    exact this
/-- The first i values made. -/
def viZ (ls : List Bool) (i j : Nat) : AV := if j < i then .agg (.cons (.bool (!ls.getD j false)) (.cons (.bool (ls.getD j false)) (.cons (.cst (.slice none 0 0)) .nil))) else .agg (.cons (.bool false) (.cons (.bool false) (.cons (.cst (.slice none 0 0)) .nil)))
theorem viZ_zero {ls : List Bool} : (fun _ => AV.agg (.cons (.bool false) (.cons (.bool false) (.cons (.cst (.slice none 0 0)) .nil)))) = viZ ls 0 := by
  funext j; unfold viZ; rw [if_neg (Nat.not_lt_zero _)]
theorem Zbg {ls : List Bool} {i : Nat} : viZ ls i i = .agg (.cons (.bool false) (.cons (.bool false) (.cons (.cst (.slice none 0 0)) .nil))) := if_neg (Nat.lt_irrefl _)
theorem Zbm {μ : Nat → Bool} {ls : List Bool} {i j : Nat} : men μ (viZ ls i j) = true := by unfold viZ; split <;> rfl
theorem Zbl {ρ : Nat → Nat} {ls : List Bool} {i j : Nat} : ren ρ (viZ ls i j) = viZ ls i j := by unfold viZ; split <;> rfl
theorem viZ_next {ls : List Bool} {i : Nat} : (fun j => if j = i then AV.agg (.cons (.bool (!ls.getD i false)) (.cons (.bool (ls.getD i false)) (.cons (.cst (.slice none 0 0)) .nil))) else viZ ls i j) = viZ ls (i + 1) := by
  funext j
  unfold viZ
  by_cases h : j = i
  · subst h; rw [if_pos rfl, if_pos (by omega)]
  · rw [if_neg h]
    by_cases h2 : j < i
    · rw [if_pos h2, if_pos (by omega)]
    · rw [if_neg h2, if_neg (by omega)]
noncomputable def spVa : Nat → Option Spec
  | 59 => some compareS
  | _ => none
theorem Za5 : SpOK Try.prog spVa := by
  intro f S h
  unfold spVa at h
  split at h
  · cases h; exact compare_ok
  · cases h
structure VaS where
  j : Nat
  c : Bool
set_option maxRecDepth 4000 in
set_option maxHeartbeats 4000000 in
theorem values_fg {o p : List Int} {x : List (List Int)} {pl : Int} {st : Vl} {ls : List Bool} {ch : List Int} {K k : Nat} (H : ImOK ⟨o, p, x, pl, st, ls⟩ K) (hcl : ch.length = o.length) (hc : ∀ v, v < o.length → ch.getD v 0 < o.length) (hk : VEnd ⟨o, p, x, pl, st, ls⟩ ch k) :
    FG Try.prog 49 [.agg (.cons (.roI o) (.cons (.roI p) (.cons (.roII x) (.cons (.int .i64 pl) (.cons (.bool st.e) (.cons (.bool st.n) (.cons (.roI st.m) (.cons (.roB ls) (.cons (.own 0) .nil)))))))))] [(0, some (.ints ch))] 1
      fun g => g = ⟨2, .own 1, [(0, some (.ints ch)), (1, some (.avs 3 o.length fun j => vlA (vIt ⟨o, p, x, pl, st, ls⟩ ch k j)))]⟩ := by
  have hn : o.length ≤ 20000 := H.n
  have hpl : p.length = o.length := H.plen
  have hxl : x.length = o.length := H.xl
  have hll : ls.length = o.length := H.ls
  refine Zd1 htb (fn := Try.f49) (by kernel_rfl) (by kernel_rfl) rfl (Nat.le_of_ble_eq_true rfl) fun hl => ?_
  simp only [lenP, mkL, lim] at hl
  repeat' first
    | with_reducible first | refine Zas ?_ | refine Zao ?_ | refine Zac ?_ | refine Zad ?_ | refine Zai ?_ | refine Zaq ?_ | refine Zah ?_ | refine Zak ?_ | refine Zar ?_ | refine Zat ?_ | refine Zap ?_ | refine Zam ?_ | refine Zaa ?_ | refine Zae ?_ | refine Zab ?_ | refine Zal ?_
    | ((with_reducible refine Zaj ?_ ?_); exact rfl)
    | ((with_reducible refine Zau ?_); refine Zan rfl ?_ ?_ <;> intro hb <;> (try simp only [zH] at hb))
    | ((with_reducible refine Za0 ?_); (first | refine Zaf htb hmz Za5 (fun _ => false) rfl rfl ?_ | refine Zag hmo htb hmz Za5 (fun _ => false) rfl rfl (by kernel_rfl) ?_); intro m' e' l' ob h; simp only [zE0, zE1, zE2, zE3, zE4, zE5, evp, evx, ev1, evLoad, evStore, evBin, isBoolK, forall_const, z38, tb, Nat.reduceAdd, Nat.reduceSub, Nat.reduceMul, Nat.reduceEqDiff, Nat.reduceLeDiff, Nat.reduceLT, Nat.reduceBEq, Nat.reduceBNe, ↓reduceIte, reduceIte, spVa, compareS, vlA, Zbm, Zbl, Zbg] at h; obtain ⟨rfl, rfl, rfl, rfl⟩ := h; refine ⟨?_, ?_⟩)
    | ((with_reducible refine Ob.mk ?_); first | exact trivial | (intros; omega) | ((repeat' first | apply And.intro | (intro hg; have hg' := hg; try simp only [zH] at hg')) <;> first | (with_reducible exact True.intro) | assumption | omega | (simp only [zH]; omega)))
  refine Za1 (τ := Nat) (fun i => i ≤ o.length) (fun i => ⟨12, [(15, .int .i64 i), (14, .int .i64 o.length), (3, .own 7), (1, .own 1)], [(0, some (.ints ch)), (1, some (.box (.agg (.cons (.roI o) (.cons (.roI p) (.cons (.roII x) (.cons (.int .i64 pl) (.cons (.bool st.e) (.cons (.bool st.n) (.cons (.roI st.m) (.cons (.roB ls) (.cons (.own 0) .nil)))))))))))), (7, some (.avs 3 o.length (viZ ls i)))], []⟩) (fun i => o.length - i) 0 [] ?_ (Nat.zero_le _) ?_
  · (refine ⟨rfl, ?_, ?_⟩ <;> simp only [zE0, zE1, zE2, zE3, zE4, zE5, evp, evx, ev1, evLoad, evStore, evBin, isBoolK, forall_const, z38, tb, Nat.reduceAdd, Nat.reduceSub, Nat.reduceMul, Nat.reduceEqDiff, Nat.reduceLeDiff, Nat.reduceLT, Nat.reduceBEq, Nat.reduceBNe, ↓reduceIte, reduceIte, spVa, compareS, vlA, Zbm, Zbl, Zbg, zI])
    exact congrArg (Blk.avs 3 o.length) viZ_zero
  intro i hi
  repeat' first
    | with_reducible first | refine Zas ?_ | refine Zao ?_ | refine Zac ?_ | refine Zad ?_ | refine Zai ?_ | refine Zaq ?_ | refine Zah ?_ | refine Zak ?_ | refine Zar ?_ | refine Zat ?_ | refine Zap ?_ | refine Zam ?_ | refine Zaa ?_ | refine Zae ?_ | refine Zab ?_ | refine Zal ?_
    | ((with_reducible refine Zaj ?_ ?_); exact rfl)
    | ((with_reducible refine Zau ?_); refine Zan rfl ?_ ?_ <;> intro hb <;> (try simp only [zH] at hb))
    | ((with_reducible refine Zav 5 ?_ ?_); (· exact rfl); (with_reducible refine Zav 7 ?_ ?_); (· exact rfl); (first | refine Zaf htb hmz Za5 (fun _ => false) rfl rfl ?_ | refine Zag hmo htb hmz Za5 (fun _ => false) rfl rfl (by kernel_rfl) ?_); intro m' e' l' ob h; simp only [zE0, zE1, zE2, zE3, zE4, zE5, evp, evx, ev1, evLoad, evStore, evBin, isBoolK, forall_const, z38, tb, Nat.reduceAdd, Nat.reduceSub, Nat.reduceMul, Nat.reduceEqDiff, Nat.reduceLeDiff, Nat.reduceLT, Nat.reduceBEq, Nat.reduceBNe, ↓reduceIte, reduceIte, spVa, compareS, vlA, Zbm, Zbl, Zbg] at h; obtain ⟨rfl, rfl, rfl, rfl⟩ := h; refine ⟨?_, ?_⟩)
    | ((with_reducible refine Ob.mk ?_); first | exact trivial | (intros; omega) | ((repeat' first | apply And.intro | (intro hg; have hg' := hg; try simp only [zH] at hg')) <;> first | (with_reducible exact True.intro) | assumption | omega | (simp only [zH]; omega)))
  · have hil : i < o.length := by omega
    repeat' first
      | with_reducible first | refine Zas ?_ | refine Zao ?_ | refine Zac ?_ | refine Zad ?_ | refine Zai ?_ | refine Zaq ?_ | refine Zah ?_ | refine Zak ?_ | refine Zar ?_ | refine Zat ?_ | refine Zap ?_ | refine Zam ?_ | refine Zaa ?_ | refine Zae ?_ | refine Zab ?_ | refine Zal ?_
      | ((with_reducible refine Zaj ?_ ?_); exact rfl)
      | ((with_reducible refine Zau ?_); refine Zan rfl ?_ ?_ <;> intro hb <;> (try simp only [zH] at hb))
      | ((with_reducible refine Za0 ?_); (first | refine Zaf htb hmz Za5 (fun _ => false) rfl rfl ?_ | refine Zag hmo htb hmz Za5 (fun _ => false) rfl rfl (by kernel_rfl) ?_); intro m' e' l' ob h; simp only [zE0, zE1, zE2, zE3, zE4, zE5, evp, evx, ev1, evLoad, evStore, evBin, isBoolK, forall_const, z38, tb, Nat.reduceAdd, Nat.reduceSub, Nat.reduceMul, Nat.reduceEqDiff, Nat.reduceLeDiff, Nat.reduceLT, Nat.reduceBEq, Nat.reduceBNe, ↓reduceIte, reduceIte, spVa, compareS, vlA, Zbm, Zbl, Zbg] at h; obtain ⟨rfl, rfl, rfl, rfl⟩ := h; refine ⟨?_, ?_⟩)
      | ((with_reducible refine Ob.mk ?_); first | exact trivial | (intros; omega) | ((repeat' first | apply And.intro | (intro hg; have hg' := hg; try simp only [zH] at hg')) <;> first | (with_reducible exact True.intro) | assumption | omega | (simp only [zH]; omega)))
    refine back (i + 1) [] ?_ (by omega) (by omega)
    (refine ⟨rfl, ?_, ?_⟩ <;> simp only [zE0, zE1, zE2, zE3, zE4, zE5, evp, evx, ev1, evLoad, evStore, evBin, isBoolK, forall_const, z38, tb, Nat.reduceAdd, Nat.reduceSub, Nat.reduceMul, Nat.reduceEqDiff, Nat.reduceLeDiff, Nat.reduceLT, Nat.reduceBEq, Nat.reduceBNe, ↓reduceIte, reduceIte, spVa, compareS, vlA, Zbm, Zbl, Zbg, zI])
    exact congrArg (Blk.avs 3 o.length) viZ_next
  have hie : i = o.length := by omega
  subst hie
  refine awp_nroA 7 (fun j => vlA (vIt ⟨o, p, x, pl, st, ls⟩ ch 0 j)) rfl (fun j hj => by unfold viZ; rw [if_pos hj]; rfl) (by simp only [Zax, Za4, fzE, fzA, fzR, fzB, set1, nbeq, Nat.reduceEqDiff, decide_true, decide_false, ↓reduceIte, reduceIte, cond_true, cond_false, List.take_length, Option.some.injEq] <;> rfl) ?_
  have hK := fun j => Zh4 H hc (k := j)
  have hP : ∀ j, j ≤ k → ∀ i, i ≤ o.length → ∀ u, u < o.length → VOK K 900000000000 ((vPass ⟨o, p, x, pl, st, ls⟩ ch (vIt ⟨o, p, x, pl, st, ls⟩ ch j) i).1 u) := fun j hj i hi u hu => by
    have hj2 : j ≤ 20001 := Nat.le_trans hj hk.1
    have h1 : (j : Int) * (o.length : Int) ≤ 20001 * 20000 := Int.mul_le_mul (by omega) (by omega) (by omega) (by omega)
    exact Zc0 (Zg4 H hc (Int.mul_nonneg (by omega) (by omega)) (hK j) hi u hu) (by show (j : Int) * (o.length : Int) + i ≤ _; omega)
  repeat' first
    | with_reducible first | refine Zas ?_ | refine Zao ?_ | refine Zac ?_ | refine Zad ?_ | refine Zai ?_ | refine Zaq ?_ | refine Zah ?_ | refine Zak ?_ | refine Zar ?_ | refine Zat ?_ | refine Zap ?_ | refine Zam ?_ | refine Zaa ?_ | refine Zae ?_ | refine Zab ?_ | refine Zal ?_
    | ((with_reducible refine Zaj ?_ ?_); exact rfl)
    | ((with_reducible refine Zau ?_); refine Zan rfl ?_ ?_ <;> intro hb <;> (try simp only [zH] at hb))
    | ((with_reducible refine Zav 8 ?_ ?_); (· exact rfl); (first | refine Zaf htb hmz Za5 (fun _ => false) rfl rfl ?_ | refine Zag hmo htb hmz Za5 (fun _ => false) rfl rfl (by kernel_rfl) ?_); intro m' e' l' ob h; simp only [zE0, zE1, zE2, zE3, zE4, zE5, evp, evx, ev1, evLoad, evStore, evBin, isBoolK, forall_const, z38, tb, Nat.reduceAdd, Nat.reduceSub, Nat.reduceMul, Nat.reduceEqDiff, Nat.reduceLeDiff, Nat.reduceLT, Nat.reduceBEq, Nat.reduceBNe, ↓reduceIte, reduceIte, spVa, compareS, vlA, Zbm, Zbl, Zbg] at h; obtain ⟨rfl, rfl, rfl, rfl⟩ := h; refine ⟨?_, ?_⟩)
    | ((with_reducible refine Ob.mk ?_); first | exact trivial | (intros; omega) | ((repeat' first | apply And.intro | (intro hg; have hg' := hg; try simp only [zH] at hg')) <;> first | (with_reducible exact True.intro) | assumption | omega | (simp only [zH]; omega)))
  refine Za1 (τ := VaS) (fun s => s.j ≤ k + 1 ∧ s.c = decide (s.j ≤ k)) (fun s => ⟨15, [(5, .bool s.c), (3, .own 7), (1, .own 1)], [(0, some (.ints ch)), (1, some (.box (.agg (.cons (.roI o) (.cons (.roI p) (.cons (.roII x) (.cons (.int .i64 pl) (.cons (.bool st.e) (.cons (.bool st.n) (.cons (.roI st.m) (.cons (.roB ls) (.cons (.own 0) .nil)))))))))))), (7, some (.avs 3 o.length fun v => vlA (vIt ⟨o, p, x, pl, st, ls⟩ ch s.j v)))], []⟩) (fun s => k + 1 - s.j) ⟨0, true⟩ [] ?_ ⟨Nat.zero_le _, (decide_eq_true (Nat.zero_le _)).symm⟩ ?_
  · (refine ⟨rfl, ?_, ?_⟩ <;> simp only [zE0, zE1, zE2, zE3, zE4, zE5, evp, evx, ev1, evLoad, evStore, evBin, isBoolK, forall_const, z38, tb, Nat.reduceAdd, Nat.reduceSub, Nat.reduceMul, Nat.reduceEqDiff, Nat.reduceLeDiff, Nat.reduceLT, Nat.reduceBEq, Nat.reduceBNe, ↓reduceIte, reduceIte, spVa, compareS, vlA, Zbm, Zbl, Zbg, zI])
  rintro ⟨j, c⟩ ⟨hj, hjc⟩
  dsimp only at hj hjc ⊢
  repeat' first
    | with_reducible first | refine Zas ?_ | refine Zao ?_ | refine Zac ?_ | refine Zad ?_ | refine Zai ?_ | refine Zaq ?_ | refine Zah ?_ | refine Zak ?_ | refine Zar ?_ | refine Zat ?_ | refine Zap ?_ | refine Zam ?_ | refine Zaa ?_ | refine Zae ?_ | refine Zab ?_ | refine Zal ?_
    | ((with_reducible refine Zaj ?_ ?_); exact rfl)
    | ((with_reducible refine Zau ?_); refine Zan rfl ?_ ?_ <;> intro hb <;> (try simp only [zH] at hb))
    | ((with_reducible refine Zav 11 ?_ ?_); (· exact rfl); (with_reducible refine Zav 17 ?_ ?_); (· exact rfl); (first | refine Zaf htb hmz Za5 (fun _ => false) rfl rfl ?_ | refine Zag hmo htb hmz Za5 (fun _ => false) rfl rfl (by kernel_rfl) ?_); intro m' e' l' ob h; simp only [zE0, zE1, zE2, zE3, zE4, zE5, evp, evx, ev1, evLoad, evStore, evBin, isBoolK, forall_const, z38, tb, Nat.reduceAdd, Nat.reduceSub, Nat.reduceMul, Nat.reduceEqDiff, Nat.reduceLeDiff, Nat.reduceLT, Nat.reduceBEq, Nat.reduceBNe, ↓reduceIte, reduceIte, spVa, compareS, vlA, Zbm, Zbl, Zbg] at h; obtain ⟨rfl, rfl, rfl, rfl⟩ := h; refine ⟨?_, ?_⟩)
    | ((with_reducible refine Ob.mk ?_); first | exact trivial | (intros; omega) | ((repeat' first | apply And.intro | (intro hg; have hg' := hg; try simp only [zH] at hg')) <;> first | (with_reducible exact True.intro) | assumption | omega | (simp only [zH]; omega)))
  · have hjk : j ≤ k := by rw [hjc] at hb; exact of_decide_eq_true hb
    have hPj := hP j hjk
    have hnx : (vIt ⟨o, p, x, pl, st, ls⟩ ch (j + 1)) = (vPass ⟨o, p, x, pl, st, ls⟩ ch (vIt ⟨o, p, x, pl, st, ls⟩ ch j) o.length).1 := rfl
    have hfl : (vPass ⟨o, p, x, pl, st, ls⟩ ch (vIt ⟨o, p, x, pl, st, ls⟩ ch j) o.length).2 = decide (j + 1 ≤ k) := by
      rcases Nat.lt_or_ge j k with h | h
      · rw [decide_eq_true (by omega)]; exact hk.2.1 j h
      · have : j = k := by omega
        subst this
        rw [decide_eq_false (by omega)]; exact hk.2.2
    generalize vIt ⟨o, p, x, pl, st, ls⟩ ch j = L at *
    clear hK hP
    refine Za1 (τ := Nat) (fun i => i ≤ o.length) (fun i => ⟨20, [(37, .int .i64 i), (36, .int .i64 o.length), (5, .bool (vPass ⟨o, p, x, pl, st, ls⟩ ch L i).2), (3, .own 7), (1, .own 1)], [(0, some (.ints ch)), (1, some (.box (.agg (.cons (.roI o) (.cons (.roI p) (.cons (.roII x) (.cons (.int .i64 pl) (.cons (.bool st.e) (.cons (.bool st.n) (.cons (.roI st.m) (.cons (.roB ls) (.cons (.own 0) .nil)))))))))))), (7, some (.avs 3 o.length fun v => vlA ((vPass ⟨o, p, x, pl, st, ls⟩ ch L i).1 v)))], []⟩) (fun i => o.length - i) 0 [] ?_ (Nat.zero_le _) ?_
    · (refine ⟨rfl, ?_, ?_⟩ <;> simp only [zE0, zE1, zE2, zE3, zE4, zE5, evp, evx, ev1, evLoad, evStore, evBin, isBoolK, forall_const, z38, tb, Nat.reduceAdd, Nat.reduceSub, Nat.reduceMul, Nat.reduceEqDiff, Nat.reduceLeDiff, Nat.reduceLT, Nat.reduceBEq, Nat.reduceBNe, ↓reduceIte, reduceIte, spVa, compareS, vlA, Zbm, Zbl, Zbg, zI])
      · rfl
      · rfl
    intro i hi
    have hPi := hPj i hi
    have hpn := @Zeu ⟨o, p, x, pl, st, ls⟩ ch L i
    repeat' first
      | with_reducible first | refine Zas ?_ | refine Zao ?_ | refine Zac ?_ | refine Zad ?_ | refine Zai ?_ | refine Zaq ?_ | refine Zah ?_ | refine Zak ?_ | refine Zar ?_ | refine Zat ?_ | refine Zap ?_ | refine Zam ?_ | refine Zaa ?_ | refine Zae ?_ | refine Zab ?_ | refine Zal ?_
      | ((with_reducible refine Zaj ?_ ?_); exact rfl)
      | ((with_reducible refine Zau ?_); refine Zan rfl ?_ ?_ <;> intro hb <;> (try simp only [zH] at hb))
      | ((with_reducible refine Zav 13 ?_ ?_); (· exact rfl); (with_reducible refine Zav 17 ?_ ?_); (· exact rfl); (first | refine Zaf htb hmz Za5 (fun _ => false) rfl rfl ?_ | refine Zag hmo htb hmz Za5 (fun _ => false) rfl rfl (by kernel_rfl) ?_); intro m' e' l' ob h; simp only [zE0, zE1, zE2, zE3, zE4, zE5, evp, evx, ev1, evLoad, evStore, evBin, isBoolK, forall_const, z38, tb, Nat.reduceAdd, Nat.reduceSub, Nat.reduceMul, Nat.reduceEqDiff, Nat.reduceLeDiff, Nat.reduceLT, Nat.reduceBEq, Nat.reduceBNe, ↓reduceIte, reduceIte, spVa, compareS, vlA, Zbm, Zbl, Zbg] at h; obtain ⟨rfl, rfl, rfl, rfl⟩ := h; refine ⟨?_, ?_⟩)
      | ((with_reducible refine Ob.mk ?_); first | exact trivial | (intros; omega) | ((repeat' first | apply And.intro | (intro hg; have hg' := hg; try simp only [zH] at hg')) <;> first | (with_reducible exact True.intro) | assumption | omega | (simp only [zH]; omega)))
    · have hil : i < o.length := by omega
      have hp0 := H.p0 i hil
      have hrow := H.row i hil
      have hci := hc i hil
      generalize vPass ⟨o, p, x, pl, st, ls⟩ ch L i = s at *
      have hby : VOK K (900000000000 + 1) (bhV o p x pl st ch s.1 i) := bh_ok H hc (by decide) hPi hil
      refine Zcg ([_, _, _]) ([_, _]) rfl rfl ?_
      refine Zaz htb hmz Za5 (fun _ => false) rfl rfl rfl ?_; intro m' e' l' ob h; simp only [zE0, zE1, zE2, zE3, zE4, zE5, evp, evx, ev1, evLoad, evStore, evBin, isBoolK, forall_const, z38, tb, Nat.reduceAdd, Nat.reduceSub, Nat.reduceMul, Nat.reduceEqDiff, Nat.reduceLeDiff, Nat.reduceLT, Nat.reduceBEq, Nat.reduceBNe, ↓reduceIte, reduceIte, spVa, compareS, vlA, Zbm, Zbl, Zbg] at h; obtain ⟨rfl, rfl, rfl, rfl⟩ := h; refine ⟨?_, Zac ?_⟩
      · first | ((with_reducible refine Ob.mk ?_); first | exact trivial | (intros; omega) | ((repeat' first | apply And.intro | (intro hg; have hg' := hg; try simp only [zH] at hg')) <;> first | (with_reducible exact True.intro) | assumption | omega | (simp only [zH]; omega))) | skip
      refine Zbh ([7, 0]) (behind_fg (o := o) (p := p) (x := x) (pl := pl) (st := st) (ls := ls) (ch := ch) (l := s.1) (K := K) (v := i) (D := 900000000000) hn hpl hxl hcl hil (by decide) hp0 hci hPi (Zc0 H.st (by decide)) hrow) rfl rfl rfl rfl rfl rfl rfl rfl rfl (by simp only [rinR, rhoC, zE0, zE1, zE2, zE3, zE4, zE5, evp, evx, ev1, evLoad, evStore, evBin, isBoolK, forall_const, z38, tb, Nat.reduceAdd, Nat.reduceSub, Nat.reduceMul, Nat.reduceEqDiff, Nat.reduceLeDiff, Nat.reduceLT, Nat.reduceBEq, Nat.reduceBNe, ↓reduceIte, reduceIte, spVa, compareS, vlA, Zbm, Zbl, Zbg]) ?_; intro gm gv gr hq m' e' l' h; simp only [GR.mk.injEq] at hq; obtain ⟨rfl, rfl, rfl⟩ := hq; simp only [rhoC, outR, renR, dels, zE0, zE1, zE2, zE3, zE4, zE5, evp, evx, ev1, evLoad, evStore, evBin, isBoolK, forall_const, z38, tb, Nat.reduceAdd, Nat.reduceSub, Nat.reduceMul, Nat.reduceEqDiff, Nat.reduceLeDiff, Nat.reduceLT, Nat.reduceBEq, Nat.reduceBNe, ↓reduceIte, reduceIte, spVa, compareS, vlA, Zbm, Zbl, Zbg] at h; obtain ⟨rfl, rfl, rfl⟩ := h; refine Zac ?_
      refine Zaz htb hmz Za5 (fun _ => false) rfl rfl rfl ?_; intro m' e' l' ob h; simp only [zE0, zE1, zE2, zE3, zE4, zE5, evp, evx, ev1, evLoad, evStore, evBin, isBoolK, forall_const, z38, tb, Nat.reduceAdd, Nat.reduceSub, Nat.reduceMul, Nat.reduceEqDiff, Nat.reduceLeDiff, Nat.reduceLT, Nat.reduceBEq, Nat.reduceBNe, ↓reduceIte, reduceIte, spVa, compareS, vlA, Zbm, Zbl, Zbg] at h; obtain ⟨rfl, rfl, rfl, rfl⟩ := h; refine ⟨?_, ?_⟩
      · first | ((with_reducible refine Ob.mk ?_); first | exact trivial | (intros; omega) | ((repeat' first | apply And.intro | (intro hg; have hg' := hg; try simp only [zH] at hg')) <;> first | (with_reducible exact True.intro) | assumption | omega | (simp only [zH]; omega))) | skip
      refine Zac ?_
      have hst : vStep ⟨o, p, x, pl, st, ls⟩ ch s i = if ls.getD i false = false ∧ cmpV pl (bhV o p x pl st ch s.1 i) (s.1 i) < 0 then (fun j => if j = i then bhV o p x pl st ch s.1 i else s.1 j, true) else s := rfl
      rw [hst] at hpn
      clear hst
      have hvi := hPi i hil
      generalize bhV o p x pl st ch s.1 i = y at *
      repeat' first
        | with_reducible first | refine Zas ?_ | refine Zao ?_ | refine Zac ?_ | refine Zad ?_ | refine Zai ?_ | refine Zaq ?_ | refine Zah ?_ | refine Zak ?_ | refine Zar ?_ | refine Zat ?_ | refine Zap ?_ | refine Zam ?_ | refine Zaa ?_ | refine Zae ?_ | refine Zab ?_ | refine Zal ?_
        | ((with_reducible refine Zaj ?_ ?_); exact rfl)
        | ((with_reducible refine Zau ?_); refine Zan rfl ?_ ?_ <;> intro hb <;> (try simp only [zH] at hb))
        | ((with_reducible refine Zav 15 ?_ ?_); (· exact rfl); (with_reducible refine Zav 16 ?_ ?_); (· exact rfl); (first | refine Zaf htb hmz Za5 (fun _ => false) rfl rfl ?_ | refine Zag hmo htb hmz Za5 (fun _ => false) rfl rfl (by kernel_rfl) ?_); intro m' e' l' ob h; simp only [zE0, zE1, zE2, zE3, zE4, zE5, evp, evx, ev1, evLoad, evStore, evBin, isBoolK, forall_const, z38, tb, Nat.reduceAdd, Nat.reduceSub, Nat.reduceMul, Nat.reduceEqDiff, Nat.reduceLeDiff, Nat.reduceLT, Nat.reduceBEq, Nat.reduceBNe, ↓reduceIte, reduceIte, spVa, compareS, vlA, Zbm, Zbl, Zbg] at h; obtain ⟨rfl, rfl, rfl, rfl⟩ := h; refine ⟨?_, ?_⟩)
        | ((with_reducible refine Ob.mk ?_); first | exact trivial | (intros; omega) | ((repeat' first | apply And.intro | (intro hg; have hg' := hg; try simp only [zH] at hg')) <;> first | (with_reducible exact True.intro) | assumption | omega | (simp only [zH]; omega)))
      · refine Ob.mk ⟨⟨⟨⟨by omega, by omega⟩, fun h => ⟨h, by omega, by omega⟩⟩, fun h => ⟨h, hil⟩⟩, fun h => ⟨h, hby.1, fun h1 h2 => ?_⟩⟩
        rw [(hby.2 h1).1, (hvi.2 h2).1]
        exact Nat.le_refl _
      · rw [if_pos hb] at hpn
        repeat' first
          | with_reducible first | refine Zas ?_ | refine Zao ?_ | refine Zac ?_ | refine Zad ?_ | refine Zai ?_ | refine Zaq ?_ | refine Zah ?_ | refine Zak ?_ | refine Zar ?_ | refine Zat ?_ | refine Zap ?_ | refine Zam ?_ | refine Zaa ?_ | refine Zae ?_ | refine Zab ?_ | refine Zal ?_
          | ((with_reducible refine Zaj ?_ ?_); exact rfl)
          | ((with_reducible refine Zau ?_); refine Zan rfl ?_ ?_ <;> intro hb <;> (try simp only [zH] at hb))
          | ((with_reducible refine Za0 ?_); (first | refine Zaf htb hmz Za5 (fun _ => false) rfl rfl ?_ | refine Zag hmo htb hmz Za5 (fun _ => false) rfl rfl (by kernel_rfl) ?_); intro m' e' l' ob h; simp only [zE0, zE1, zE2, zE3, zE4, zE5, evp, evx, ev1, evLoad, evStore, evBin, isBoolK, forall_const, z38, tb, Nat.reduceAdd, Nat.reduceSub, Nat.reduceMul, Nat.reduceEqDiff, Nat.reduceLeDiff, Nat.reduceLT, Nat.reduceBEq, Nat.reduceBNe, ↓reduceIte, reduceIte, spVa, compareS, vlA, Zbm, Zbl, Zbg] at h; obtain ⟨rfl, rfl, rfl, rfl⟩ := h; refine ⟨?_, ?_⟩)
          | ((with_reducible refine Ob.mk ?_); first | exact trivial | (intros; omega) | ((repeat' first | apply And.intro | (intro hg; have hg' := hg; try simp only [zH] at hg')) <;> first | (with_reducible exact True.intro) | assumption | omega | (simp only [zH]; omega)))
        refine back (i + 1) [] ?_ (by omega) (by omega)
        (refine ⟨rfl, ?_, ?_⟩ <;> simp only [zE0, zE1, zE2, zE3, zE4, zE5, evp, evx, ev1, evLoad, evStore, evBin, isBoolK, forall_const, z38, tb, Nat.reduceAdd, Nat.reduceSub, Nat.reduceMul, Nat.reduceEqDiff, Nat.reduceLeDiff, Nat.reduceLT, Nat.reduceBEq, Nat.reduceBNe, ↓reduceIte, reduceIte, spVa, compareS, vlA, Zbm, Zbl, Zbg, zI])
        · rw [hpn]
        · rw [hpn]
          refine congrArg (Blk.avs 3 o.length) (funext fun j => ?_)
          dsimp only
          split <;> rfl
      · rw [if_neg (fun h => by
          rcases hb with h2 | h2
          · rw [h.1] at h2; cases h2
          · exact absurd h.2 (Int.not_lt.2 h2))] at hpn
        repeat' first
          | with_reducible first | refine Zas ?_ | refine Zao ?_ | refine Zac ?_ | refine Zad ?_ | refine Zai ?_ | refine Zaq ?_ | refine Zah ?_ | refine Zak ?_ | refine Zar ?_ | refine Zat ?_ | refine Zap ?_ | refine Zam ?_ | refine Zaa ?_ | refine Zae ?_ | refine Zab ?_ | refine Zal ?_
          | ((with_reducible refine Zaj ?_ ?_); exact rfl)
          | ((with_reducible refine Zau ?_); refine Zan rfl ?_ ?_ <;> intro hb <;> (try simp only [zH] at hb))
          | ((with_reducible refine Za0 ?_); (first | refine Zaf htb hmz Za5 (fun _ => false) rfl rfl ?_ | refine Zag hmo htb hmz Za5 (fun _ => false) rfl rfl (by kernel_rfl) ?_); intro m' e' l' ob h; simp only [zE0, zE1, zE2, zE3, zE4, zE5, evp, evx, ev1, evLoad, evStore, evBin, isBoolK, forall_const, z38, tb, Nat.reduceAdd, Nat.reduceSub, Nat.reduceMul, Nat.reduceEqDiff, Nat.reduceLeDiff, Nat.reduceLT, Nat.reduceBEq, Nat.reduceBNe, ↓reduceIte, reduceIte, spVa, compareS, vlA, Zbm, Zbl, Zbg] at h; obtain ⟨rfl, rfl, rfl, rfl⟩ := h; refine ⟨?_, ?_⟩)
          | ((with_reducible refine Ob.mk ?_); first | exact trivial | (intros; omega) | ((repeat' first | apply And.intro | (intro hg; have hg' := hg; try simp only [zH] at hg')) <;> first | (with_reducible exact True.intro) | assumption | omega | (simp only [zH]; omega)))
        refine back (i + 1) [] ?_ (by omega) (by omega)
        (refine ⟨rfl, ?_, ?_⟩ <;> simp only [zE0, zE1, zE2, zE3, zE4, zE5, evp, evx, ev1, evLoad, evStore, evBin, isBoolK, forall_const, z38, tb, Nat.reduceAdd, Nat.reduceSub, Nat.reduceMul, Nat.reduceEqDiff, Nat.reduceLeDiff, Nat.reduceLT, Nat.reduceBEq, Nat.reduceBNe, ↓reduceIte, reduceIte, spVa, compareS, vlA, Zbm, Zbl, Zbg, zI])
        · rw [hpn]
        · rw [hpn]
    have hie : i = o.length := by omega
    subst hie
    repeat' first
      | with_reducible first | refine Zas ?_ | refine Zao ?_ | refine Zac ?_ | refine Zad ?_ | refine Zai ?_ | refine Zaq ?_ | refine Zah ?_ | refine Zak ?_ | refine Zar ?_ | refine Zat ?_ | refine Zap ?_ | refine Zam ?_ | refine Zaa ?_ | refine Zae ?_ | refine Zab ?_ | refine Zal ?_
      | ((with_reducible refine Zaj ?_ ?_); exact rfl)
      | ((with_reducible refine Zau ?_); refine Zan rfl ?_ ?_ <;> intro hb <;> (try simp only [zH] at hb))
      | ((with_reducible refine Za0 ?_); (first | refine Zaf htb hmz Za5 (fun _ => false) rfl rfl ?_ | refine Zag hmo htb hmz Za5 (fun _ => false) rfl rfl (by kernel_rfl) ?_); intro m' e' l' ob h; simp only [zE0, zE1, zE2, zE3, zE4, zE5, evp, evx, ev1, evLoad, evStore, evBin, isBoolK, forall_const, z38, tb, Nat.reduceAdd, Nat.reduceSub, Nat.reduceMul, Nat.reduceEqDiff, Nat.reduceLeDiff, Nat.reduceLT, Nat.reduceBEq, Nat.reduceBNe, ↓reduceIte, reduceIte, spVa, compareS, vlA, Zbm, Zbl, Zbg] at h; obtain ⟨rfl, rfl, rfl, rfl⟩ := h; refine ⟨?_, ?_⟩)
      | ((with_reducible refine Ob.mk ?_); first | exact trivial | (intros; omega) | ((repeat' first | apply And.intro | (intro hg; have hg' := hg; try simp only [zH] at hg')) <;> first | (with_reducible exact True.intro) | assumption | omega | (simp only [zH]; omega)))
    refine back ⟨j + 1, (vPass ⟨o, p, x, pl, st, ls⟩ ch L o.length).2⟩ [] ?_ ⟨by dsimp only; omega, hfl⟩ (by dsimp only; omega)
    (refine ⟨rfl, ?_, ?_⟩ <;> simp only [zE0, zE1, zE2, zE3, zE4, zE5, evp, evx, ev1, evLoad, evStore, evBin, isBoolK, forall_const, z38, tb, Nat.reduceAdd, Nat.reduceSub, Nat.reduceMul, Nat.reduceEqDiff, Nat.reduceLeDiff, Nat.reduceLT, Nat.reduceBEq, Nat.reduceBNe, ↓reduceIte, reduceIte, spVa, compareS, vlA, Zbm, Zbl, Zbg, zI])
    rw [hnx]
  have hjk : j = k + 1 := by
    rw [hjc] at hb
    have := of_decide_eq_false hb
    omega
  subst hjk
  have hfin : vIt ⟨o, p, x, pl, st, ls⟩ ch (k + 1) = vIt ⟨o, p, x, pl, st, ls⟩ ch k := vPass_keep hk.2.2
  rw [hfin]
  repeat' first
    | with_reducible first | refine Zas ?_ | refine Zao ?_ | refine Zac ?_ | refine Zad ?_ | refine Zai ?_ | refine Zaq ?_ | refine Zah ?_ | refine Zak ?_ | refine Zar ?_ | refine Zat ?_ | refine Zap ?_ | refine Zam ?_ | refine Zaa ?_ | refine Zae ?_ | refine Zab ?_ | refine Zal ?_
    | ((with_reducible refine Zaj ?_ ?_); exact rfl)
    | ((with_reducible refine Zau ?_); refine Zan rfl ?_ ?_ <;> intro hb <;> (try simp only [zH] at hb))
    | ((with_reducible refine Za0 ?_); (first | refine Zaf htb hmz Za5 (fun _ => false) rfl rfl ?_ | refine Zag hmo htb hmz Za5 (fun _ => false) rfl rfl (by kernel_rfl) ?_); intro m' e' l' ob h; simp only [zE0, zE1, zE2, zE3, zE4, zE5, evp, evx, ev1, evLoad, evStore, evBin, isBoolK, forall_const, z38, tb, Nat.reduceAdd, Nat.reduceSub, Nat.reduceMul, Nat.reduceEqDiff, Nat.reduceLeDiff, Nat.reduceLT, Nat.reduceBEq, Nat.reduceBNe, ↓reduceIte, reduceIte, spVa, compareS, vlA, Zbm, Zbl, Zbg] at h; obtain ⟨rfl, rfl, rfl, rfl⟩ := h; refine ⟨?_, ?_⟩)
    | ((with_reducible refine Ob.mk ?_); first | exact trivial | (intros; omega) | ((repeat' first | apply And.intro | (intro hg; have hg' := hg; try simp only [zH] at hg')) <;> first | (with_reducible exact True.intro) | assumption | omega | (simp only [zH]; omega)))
  refine Zay rfl rfl (Zcw (⟨2, .own 1, [(0, some (.ints ch)), (1, some (.avs 3 o.length fun j => vlA (vIt ⟨o, p, x, pl, st, ls⟩ ch k j)))]⟩) ([(1, 7)]) rfl rfl (Zbp rfl) ?_)
  simp only [grR, zE0, zE1, zE2, zE3, zE4, zE5, evp, evx, ev1, evLoad, evStore, evBin, isBoolK, forall_const, z38, tb, Nat.reduceAdd, Nat.reduceSub, Nat.reduceMul, Nat.reduceEqDiff, Nat.reduceLeDiff, Nat.reduceLT, Nat.reduceBEq, Nat.reduceBNe, ↓reduceIte, reduceIte, spVa, compareS, vlA, Zbm, Zbl, Zbg]
end Go.Proofs.Ytbcghiagomkadaa.Cal
