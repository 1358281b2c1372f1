/- Own texts, merged. -/
import Derived.WideLaws
import Derived.WalkSpells
import Derived.Test.YtdhoadhkkecjjaaDoorS10
set_option linter.unusedVariables false
set_option linter.unusedSimpArgs false
open Nat (reduceAdd reduceSub reduceMul reduceEqDiff reduceLeDiff reduceLT)
namespace Go.Proofs.YtdhoadhkkecjjaaDoor.Cal
open Go Pl
structure LpS where
  L : List (Nat × Nat)
  S : List Nat
  es : List (Int × Int × Nat)
  clk : Nat
structure LbS where
  u : Nat
  k : Nat
  t : List Nat
structure LqS where
  L : List (Nat × Nat)
  S : List Nat
  j : Nat
  es : List (Int × Int × Nat)
  clk : Nat
noncomputable def spLp : Nat → Option Spec
  | 42 => some nvS
  | _ => none
theorem Zba : SpOK Tryd.prog spLp := by
  intro f S h
  unfold spLp at h
  split at h
  · cases h; exact Zi3
  · cases h
def LpOK (g : Gm) (W C : List Int) (v : Nat) (l : List Nat) : Prop := (∃ r, l = v :: r) ∧ (∀ z, z ∈ l → z < g.own.length) ∧ l.Nodup ∧ Chn (nxVn g W C (W.getD v 0)) (l ++ [v]) ∧ ∀ z, z ∈ l → g.pri.getD z 0 ≤ g.pri.getD v 0
set_option maxRecDepth 4000 in
set_option maxHeartbeats 4000000 in
theorem loop_fg {o p w c : List Int} {x : List (List Int)} {v : Nat} (hn : o.length ≤ 20000) (hpl : p.length = o.length) (hxl : x.length = o.length) (hwl : w.length = o.length) (hcl : c.length = o.length) (hv : v < o.length)
    (hrow : ∀ u, u < o.length → (nvF o w c x (w.getD v 0) u).length ≤ 64 ∧ ∀ j, j < (nvF o w c x (w.getD v 0) u).length → 0 ≤ (nvF o w c x (w.getD v 0) u).getD j 0 ∧ (nvF o w c x (w.getD v 0) u).getD j 0 < (o.length : Int)) :
    FG Tryd.prog 63 [.agg (.cons (.roI o) (.cons (.roI p) (.cons (.roII x) (.cons (.roI w) (.cons (.roI c) .nil))))), .int .i64 v] [] 0 fun g => (¬ Cyc (fun a b => b ∈ nxVn ⟨o, p, x⟩ w c (w.getD v 0) a) (fun v => p.getD v 0) v ∧ g = ⟨0, .cst (.slice none 0 0), []⟩) ∨ ∃ l, LpOK ⟨o, p, x⟩ w c v l ∧ g = ⟨0, .roI (Zbg l), []⟩ := by
  refine Zho htb (fn := Tryd.f63) (by kernel_rfl) (by kernel_rfl) rfl (Nat.le_of_ble_eq_true rfl) fun hl => ?_
  simp only [lenP, mkL, lim] at hl
  repeat' first
    | with_reducible first | apply Zar | apply Zan | apply Zaa | apply Zad | apply Zah | apply Zao | apply Zag | apply Zaj | apply Zaq | apply Zas | apply Zap | apply Zal | apply Zac | apply Zak
    | ((with_reducible refine Zai ?_ ?_); exact rfl) | ((with_reducible refine Zat ?_); refine Zam rfl ?_ ?_ <;> intro hb <;> (try simp only [zH] at hb)) | ((with_reducible refine Zau 1 ?_ ?_); (· exact rfl); (first | refine Zaf htb hmz Zba fF rfl rfl ?_ | refine Zae hmo htb hmz Zba fF rfl rfl (by kernel_rfl) ?_); intro _ _ _ _ h; simp only [zE, evp, evx, ev1, evLoad, evStore, evBin, evIf, Zab, forall_const, z38, tb, reduceAdd, reduceSub, reduceMul, reduceEqDiff, reduceLeDiff, reduceLT, Nat.reduceBEq, Nat.reduceBNe, ↓reduceIte, reduceIte, spLp, nvS] at h; obtain ⟨rfl, rfl, rfl, rfl⟩ := h; refine ⟨?_, ?_⟩) | ((with_reducible refine Ob.mk ?_); first | exact trivial | (intros; omega) | ((repeat' first | apply And.intro | (intro a; have b := a; try simp only [zH] at b)) <;> first | assumption | omega | (simp only [zH]; omega)))
  (refine Zae hmo htb hmz Zba fF rfl rfl (by kernel_rfl) ?_; intro _ _ _ _ h; simp only [zE, evp, evx, ev1, evLoad, evStore, evBin, evIf, Zab, forall_const, z38, tb, reduceAdd, reduceSub, reduceMul, reduceEqDiff, reduceLeDiff, reduceLT, Nat.reduceBEq, Nat.reduceBNe, ↓reduceIte, reduceIte, spLp, nvS] at h; obtain ⟨rfl, rfl, rfl, rfl⟩ := h; refine ⟨?_, ?_⟩)
  repeat' first
    | with_reducible first | apply Zar | apply Zan | apply Zaa | apply Zad | apply Zah | apply Zao | apply Zag | apply Zaj | apply Zaq | apply Zas | apply Zap | apply Zal | apply Zac | apply Zak
    | ((with_reducible refine Zai ?_ ?_); exact rfl) | ((with_reducible refine Zat ?_); refine Zam rfl ?_ ?_ <;> intro hb <;> (try simp only [zH] at hb)) | ((with_reducible refine Zau 3 ?_ ?_); (· exact rfl); (first | refine Zaf htb hmz Zba fF rfl rfl ?_ | refine Zae hmo htb hmz Zba fF rfl rfl (by kernel_rfl) ?_); intro _ _ _ _ h; simp only [zE, evp, evx, ev1, evLoad, evStore, evBin, evIf, Zab, forall_const, z38, tb, reduceAdd, reduceSub, reduceMul, reduceEqDiff, reduceLeDiff, reduceLT, Nat.reduceBEq, Nat.reduceBNe, ↓reduceIte, reduceIte, spLp, nvS] at h; obtain ⟨rfl, rfl, rfl, rfl⟩ := h; refine ⟨?_, ?_⟩) | ((with_reducible refine Ob.mk ?_); first | exact trivial | (intros; omega) | ((repeat' first | apply And.intro | (intro a; have b := a; try simp only [zH] at b)) <;> first | assumption | omega | (simp only [zH]; omega)))
  (refine Zaf htb hmz Zba (fun i => Nat.beq i 1) rfl rfl ?_; intro _ _ _ _ h; simp only [zE, evp, evx, ev1, evLoad, evStore, evBin, evIf, Zab, forall_const, z38, tb, reduceAdd, reduceSub, reduceMul, reduceEqDiff, reduceLeDiff, reduceLT, Nat.reduceBEq, Nat.reduceBNe, ↓reduceIte, reduceIte, spLp, nvS] at h; obtain ⟨rfl, rfl, rfl, rfl⟩ := h; refine ⟨?_, ?_⟩)
  · first | ((with_reducible refine Ob.mk ?_); first | exact trivial | (intros; omega) | ((repeat' first | apply And.intro | (intro a; have b := a; try simp only [zH] at b)) <;> first | assumption | omega | (simp only [zH]; omega))) | skip
  refine Zaa ?_
  have hF : ∀ u, nxVn ⟨o, p, x⟩ w c (w.getD v 0) u = (nvF o w c x (w.getD v 0) u).map Int.toNat := fun u => rfl
  obtain ⟨q, hq⟩ : ∃ q, w.getD v 0 = q := ⟨_, rfl⟩
  obtain ⟨b, hb0⟩ : ∃ b, p.getD v 0 = b := ⟨_, rfl⟩
  rw [hq] at hrow hF
  rw [hq, hb0]
  repeat' first
    | with_reducible first | apply Zar | apply Zan | apply Zaa | apply Zad | apply Zah | apply Zao | apply Zag | apply Zaj | apply Zaq | apply Zas | apply Zap | apply Zal | apply Zac | apply Zak
    | ((with_reducible refine Zai ?_ ?_); exact rfl) | ((with_reducible refine Zat ?_); refine Zam rfl ?_ ?_ <;> intro hb <;> (try simp only [zH] at hb)) | ((with_reducible refine Zau 4 ?_ ?_); (· exact rfl); (first | refine Zaf htb hmz Zba fF rfl rfl ?_ | refine Zae hmo htb hmz Zba fF rfl rfl (by kernel_rfl) ?_); intro _ _ _ _ h; simp only [zE, evp, evx, ev1, evLoad, evStore, evBin, evIf, Zab, forall_const, z38, tb, reduceAdd, reduceSub, reduceMul, reduceEqDiff, reduceLeDiff, reduceLT, Nat.reduceBEq, Nat.reduceBNe, ↓reduceIte, reduceIte, spLp, nvS] at h; obtain ⟨rfl, rfl, rfl, rfl⟩ := h; refine ⟨?_, ?_⟩) | ((with_reducible refine Ob.mk ?_); first | exact trivial | (intros; omega) | ((repeat' first | apply And.intro | (intro a; have b := a; try simp only [zH] at b)) <;> first | assumption | omega | (simp only [zH]; omega)))
  refine Za6 (τ := LpS) (fun s => SQ (nxVn ⟨o, p, x⟩ w c q) (fun z => p.getD z 0 ≤ b) o.length v s.L s.S [] 0 ∧ MQ s.es s.L) (fun s => ⟨21, [(8, .own 19), (7, .own 16), (6, .int .i64 b), (5, .int .i64 q), (4, .cst (.slice none 0 0)), (2, .rop (.agg (.cons (.roI o) (.cons (.roI p) (.cons (.roII x) (.cons (.roI w) (.cons (.roI c) .nil))))))), (1, .int .i64 v)], [(19, some (.ints (Zbg s.S))), (16, some (.mp s.es s.clk))], []⟩) (fun s => 2 * (o.length - s.L.length) + s.S.length) ⟨[], [v], [], 0⟩ [] ?_ ⟨SQ_first hv, MQ_nil⟩ ?_
  · (refine ⟨rfl, ?_, ?_⟩ <;> simp only [zE, evp, evx, ev1, evLoad, evStore, evBin, evIf, Zab, forall_const, z38, tb, reduceAdd, reduceSub, reduceMul, reduceEqDiff, reduceLeDiff, reduceLT, Nat.reduceBEq, Nat.reduceBNe, ↓reduceIte, reduceIte, spLp, nvS, zI])
    all_goals rfl
  rintro ⟨L, S, es, clk⟩ ⟨hS, hM⟩
  dsimp only at hS hM ⊢
  have hLn := Ziy hS
  have hSl := hS.ls
  have hcs : (Zbg S).length = S.length := List.length_map ..
  repeat' first
    | with_reducible first | apply Zar | apply Zan | apply Zaa | apply Zad | apply Zah | apply Zao | apply Zag | apply Zaj | apply Zaq | apply Zas | apply Zap | apply Zal | apply Zac | apply Zak
    | ((with_reducible refine Zai ?_ ?_); exact rfl) | ((with_reducible refine Zat ?_); refine Zam rfl ?_ ?_ <;> intro hb <;> (try simp only [zH] at hb)) | ((with_reducible refine Zau 5 ?_ ?_); (· exact rfl); (with_reducible refine Zau 16 ?_ ?_); (· exact rfl); (first | refine Zaf htb hmz Zba fF rfl rfl ?_ | refine Zae hmo htb hmz Zba fF rfl rfl (by kernel_rfl) ?_); intro _ _ _ _ h; simp only [zE, evp, evx, ev1, evLoad, evStore, evBin, evIf, Zab, forall_const, z38, tb, reduceAdd, reduceSub, reduceMul, reduceEqDiff, reduceLeDiff, reduceLT, Nat.reduceBEq, Nat.reduceBNe, ↓reduceIte, reduceIte, spLp, nvS] at h; obtain ⟨rfl, rfl, rfl, rfl⟩ := h; refine ⟨?_, ?_⟩) | ((with_reducible refine Ob.mk ?_); first | exact trivial | (intros; omega) | ((repeat' first | apply And.intro | (intro a; have b := a; try simp only [zH] at b)) <;> first | assumption | omega | (simp only [zH]; omega)))
  · have hS0 : 0 < S.length := by omega
    obtain ⟨S', u, rfl⟩ : ∃ S' u, S = S' ++ [u] := ⟨S.dropLast, S.getLast (by intro h; subst h; simp at hS0), (List.dropLast_concat_getLast _).symm⟩
    have hu := hS.ss u (by simp)
    have hun := hS.lt u hu
    have hP := SQ_pop hS
    rw [List.length_append, List.length_singleton] at hSl hcs
    have hg : (Zbg (S' ++ [u])).getD S'.length 0 = (u : Int) := by
      rw [Zej]
      simp [List.getD_eq_getElem?_getD]
    have htk : (Zbg (S' ++ [u])).take S'.length = Zbg S' := by
      unfold Zbg
      rw [List.map_append, List.take_append_of_le_length (by simp), List.take_of_length_le (by simp)]
    have hci : (((Zbg (S' ++ [u])).length : Int) - 1).toNat = S'.length := by omega
    have hrw := hrow u hun
    repeat' first
      | with_reducible first | apply Zar | apply Zan | apply Zaa | apply Zad | apply Zah | apply Zao | apply Zag | apply Zaj | apply Zaq | apply Zas | apply Zap | apply Zal | apply Zac | apply Zak
      | ((with_reducible refine Zai ?_ ?_); exact rfl) | ((with_reducible refine Zat ?_); refine Zam rfl ?_ ?_ <;> intro hb <;> (try simp only [zH] at hb)) | ((with_reducible refine Zau 6 ?_ ?_); (· exact rfl); (first | refine Zaf htb hmz Zba fF rfl rfl ?_ | refine Zae hmo htb hmz Zba fF rfl rfl (by kernel_rfl) ?_); intro _ _ _ _ h; simp only [zE, evp, evx, ev1, evLoad, evStore, evBin, evIf, Zab, forall_const, z38, tb, reduceAdd, reduceSub, reduceMul, reduceEqDiff, reduceLeDiff, reduceLT, Nat.reduceBEq, Nat.reduceBNe, ↓reduceIte, reduceIte, spLp, nvS] at h; obtain ⟨rfl, rfl, rfl, rfl⟩ := h; refine ⟨?_, ?_⟩) | ((with_reducible refine Ob.mk ?_); first | exact trivial | (intros; omega) | ((repeat' first | apply And.intro | (intro a; have b := a; try simp only [zH] at b)) <;> first | assumption | omega | (simp only [zH]; omega)))
    rw [hci, hg]
    repeat' first
      | with_reducible first | apply Zar | apply Zan | apply Zaa | apply Zad | apply Zah | apply Zao | apply Zag | apply Zaj | apply Zaq | apply Zas | apply Zap | apply Zal | apply Zac | apply Zak
      | ((with_reducible refine Zai ?_ ?_); exact rfl) | ((with_reducible refine Zat ?_); refine Zam rfl ?_ ?_ <;> intro hb <;> (try simp only [zH] at hb)) | ((with_reducible refine Zau 7 ?_ ?_); (· exact rfl); (first | refine Zaf htb hmz Zba fF rfl rfl ?_ | refine Zae hmo htb hmz Zba fF rfl rfl (by kernel_rfl) ?_); intro _ _ _ _ h; simp only [zE, evp, evx, ev1, evLoad, evStore, evBin, evIf, Zab, forall_const, z38, tb, reduceAdd, reduceSub, reduceMul, reduceEqDiff, reduceLeDiff, reduceLT, Nat.reduceBEq, Nat.reduceBNe, ↓reduceIte, reduceIte, spLp, nvS] at h; obtain ⟨rfl, rfl, rfl, rfl⟩ := h; refine ⟨?_, ?_⟩) | ((with_reducible refine Ob.mk ?_); first | exact trivial | (intros; omega) | ((repeat' first | apply And.intro | (intro a; have b := a; try simp only [zH] at b)) <;> first | assumption | omega | (simp only [zH]; omega)))
    rw [hci, htk]
    have hat : ∀ j, j < (nvF o w c x q u).length → (nxVn ⟨o, p, x⟩ w c q u)[j]? = some ((nvF o w c x q u).getD j 0).toNat := fun j hj => by
      rw [hF, List.getElem?_map, List.getD_eq_getElem?_getD, List.getElem?_eq_getElem hj]; rfl
    have hxl2 : (nxVn ⟨o, p, x⟩ w c q u).length = (nvF o w c x q u).length := by rw [hF, List.length_map]
    repeat' first
      | with_reducible first | apply Zar | apply Zan | apply Zaa | apply Zad | apply Zah | apply Zao | apply Zag | apply Zaj | apply Zaq | apply Zas | apply Zap | apply Zal | apply Zac | apply Zak
      | ((with_reducible refine Zai ?_ ?_); exact rfl) | ((with_reducible refine Zat ?_); refine Zam rfl ?_ ?_ <;> intro hb <;> (try simp only [zH] at hb)) | ((with_reducible refine Zau 8 ?_ ?_); (· exact rfl); (first | refine Zaf htb hmz Zba fF rfl rfl ?_ | refine Zae hmo htb hmz Zba fF rfl rfl (by kernel_rfl) ?_); intro _ _ _ _ h; simp only [zE, evp, evx, ev1, evLoad, evStore, evBin, evIf, Zab, forall_const, z38, tb, reduceAdd, reduceSub, reduceMul, reduceEqDiff, reduceLeDiff, reduceLT, Nat.reduceBEq, Nat.reduceBNe, ↓reduceIte, reduceIte, spLp, nvS] at h; obtain ⟨rfl, rfl, rfl, rfl⟩ := h; refine ⟨?_, ?_⟩) | ((with_reducible refine Ob.mk ?_); first | exact trivial | (intros; omega) | ((repeat' first | apply And.intro | (intro a; have b := a; try simp only [zH] at b)) <;> first | assumption | omega | (simp only [zH]; omega)))
    obtain ⟨hr64, hrb⟩ := hrw
    generalize nvF o w c x q u = rw at *
    refine Za6 (τ := LqS) (fun s => SQ (nxVn ⟨o, p, x⟩ w c q) (fun z => p.getD z 0 ≤ b) o.length v s.L s.S [u] 1 ∧ MQ s.es s.L ∧ u ∈ qF v s.L ∧ s.j ≤ rw.length ∧ (∀ z, z ∈ (nxVn ⟨o, p, x⟩ w c q u).take s.j → p.getD z 0 ≤ b → z ∈ s.L.map Prod.fst) ∧ 2 * (o.length - s.L.length) + s.S.length ≤ 2 * (o.length - L.length) + S'.length) (fun s => ⟨43, [(52, .int .i64 s.j), (51, .int .i64 rw.length), (50, .roI rw), (9, .int .i64 u), (8, .own 35), (7, .own 16), (6, .int .i64 b), (5, .int .i64 q), (4, .cst (.slice none 0 0)), (2, .rop (.agg (.cons (.roI o) (.cons (.roI p) (.cons (.roII x) (.cons (.roI w) (.cons (.roI c) .nil))))))), (1, .int .i64 v)], [(35, some (.ints (Zbg s.S))), (16, some (.mp s.es s.clk))], []⟩) (fun s => rw.length - s.j) ⟨L, S', 0, es, clk⟩ [] ?_ ⟨hP, hM, hu, Nat.zero_le _, (fun z hz => by rw [List.take_zero] at hz; cases hz), Nat.le_refl _⟩ ?_
    · (refine ⟨rfl, ?_, ?_⟩ <;> simp only [zE, evp, evx, ev1, evLoad, evStore, evBin, evIf, Zab, forall_const, z38, tb, reduceAdd, reduceSub, reduceMul, reduceEqDiff, reduceLeDiff, reduceLT, Nat.reduceBEq, Nat.reduceBNe, ↓reduceIte, reduceIte, spLp, nvS, zI])
    rintro ⟨L2, S2, j, es2, clk2⟩ ⟨hS2, hM2, hu2, hj, hcj, hmu⟩
    dsimp only at hS2 hM2 hu2 hj hcj hmu ⊢
    have hLn2 := Ziy hS2
    have hSl2 := hS2.ls
    have hcs2 : (Zbg S2).length = S2.length := List.length_map ..
    repeat' first
      | with_reducible first | apply Zar | apply Zan | apply Zaa | apply Zad | apply Zah | apply Zao | apply Zag | apply Zaj | apply Zaq | apply Zas | apply Zap | apply Zal | apply Zac | apply Zak
      | ((with_reducible refine Zai ?_ ?_); exact rfl) | ((with_reducible refine Zat ?_); refine Zam rfl ?_ ?_ <;> intro hb <;> (try simp only [zH] at hb)) | ((with_reducible refine Zau 9 ?_ ?_); (· exact rfl); (with_reducible refine Zau 16 ?_ ?_); (· exact rfl); (first | refine Zaf htb hmz Zba fF rfl rfl ?_ | refine Zae hmo htb hmz Zba fF rfl rfl (by kernel_rfl) ?_); intro _ _ _ _ h; simp only [zE, evp, evx, ev1, evLoad, evStore, evBin, evIf, Zab, forall_const, z38, tb, reduceAdd, reduceSub, reduceMul, reduceEqDiff, reduceLeDiff, reduceLT, Nat.reduceBEq, Nat.reduceBNe, ↓reduceIte, reduceIte, spLp, nvS] at h; obtain ⟨rfl, rfl, rfl, rfl⟩ := h; refine ⟨?_, ?_⟩) | ((with_reducible refine Ob.mk ?_); first | exact trivial | (intros; omega) | ((repeat' first | apply And.intro | (intro a; have b := a; try simp only [zH] at b)) <;> first | assumption | omega | (simp only [zH]; omega)))
    · have hjl : j < rw.length := by omega
      obtain ⟨b1, b2⟩ := hrb j hjl
      obtain ⟨z, hz⟩ := Int.eq_ofNat_of_zero_le b1
      have hjz := hat j hjl
      rw [hz] at hjz b2
      rw [Int.toNat_natCast] at hjz
      have hzn : z < o.length := by omega
      have hhas := hM2.has z
      have hzm : z ∈ nxVn ⟨o, p, x⟩ w c q u := List.mem_of_getElem? hjz
      have htj : (nxVn ⟨o, p, x⟩ w c q u).take (j + 1) = (nxVn ⟨o, p, x⟩ w c q u).take j ++ [z] := by rw [List.take_add_one, hjz]; rfl
      repeat' first
        | with_reducible first | apply Zar | apply Zan | apply Zaa | apply Zad | apply Zah | apply Zao | apply Zag | apply Zaj | apply Zaq | apply Zas | apply Zap | apply Zal | apply Zac | apply Zak
        | ((with_reducible refine Zai ?_ ?_); exact rfl) | ((with_reducible refine Zat ?_); refine Zam rfl ?_ ?_ <;> intro hb <;> (try simp only [zH] at hb)) | ((with_reducible refine Zau 10 ?_ ?_); (· exact rfl); (first | refine Zaf htb hmz Zba fF rfl rfl ?_ | refine Zae hmo htb hmz Zba fF rfl rfl (by kernel_rfl) ?_); intro _ _ _ _ h; simp only [zE, evp, evx, ev1, evLoad, evStore, evBin, evIf, Zab, forall_const, z38, tb, reduceAdd, reduceSub, reduceMul, reduceEqDiff, reduceLeDiff, reduceLT, Nat.reduceBEq, Nat.reduceBNe, ↓reduceIte, reduceIte, spLp, nvS] at h; obtain ⟨rfl, rfl, rfl, rfl⟩ := h; refine ⟨?_, ?_⟩) | ((with_reducible refine Ob.mk ?_); first | exact trivial | (intros; omega) | ((repeat' first | apply And.intro | (intro a; have b := a; try simp only [zH] at b)) <;> first | assumption | omega | (simp only [zH]; omega)))
      rw [hz]
      repeat' first
        | with_reducible first | apply Zar | apply Zan | apply Zaa | apply Zad | apply Zah | apply Zao | apply Zag | apply Zaj | apply Zaq | apply Zas | apply Zap | apply Zal | apply Zac | apply Zak
        | ((with_reducible refine Zai ?_ ?_); exact rfl) | ((with_reducible refine Zat ?_); refine Zam rfl ?_ ?_ <;> intro hb <;> (try simp only [zH] at hb)) | ((with_reducible refine Zau 12 ?_ ?_); (· exact rfl); (with_reducible refine Zau 15 ?_ ?_); (· exact rfl); (first | refine Zaf htb hmz Zba fF rfl rfl ?_ | refine Zae hmo htb hmz Zba fF rfl rfl (by kernel_rfl) ?_); intro _ _ _ _ h; simp only [zE, evp, evx, ev1, evLoad, evStore, evBin, evIf, Zab, forall_const, z38, tb, reduceAdd, reduceSub, reduceMul, reduceEqDiff, reduceLeDiff, reduceLT, Nat.reduceBEq, Nat.reduceBNe, ↓reduceIte, reduceIte, spLp, nvS] at h; obtain ⟨rfl, rfl, rfl, rfl⟩ := h; refine ⟨?_, ?_⟩) | ((with_reducible refine Ob.mk ?_); first | exact trivial | (intros; omega) | ((repeat' first | apply And.intro | (intro a; have b := a; try simp only [zH] at b)) <;> first | assumption | omega | (simp only [zH]; omega)))
      · have hskip : p.getD z 0 ≤ b → z ∈ L2.map Prod.fst := fun hle => by
          rcases hb with hb | hb
          · rw [hhas] at hb; exact of_decide_eq_true hb
          · omega
        repeat' first
          | with_reducible first | apply Zar | apply Zan | apply Zaa | apply Zad | apply Zah | apply Zao | apply Zag | apply Zaj | apply Zaq | apply Zas | apply Zap | apply Zal | apply Zac | apply Zak
          | ((with_reducible refine Zai ?_ ?_); exact rfl) | ((with_reducible refine Zat ?_); refine Zam rfl ?_ ?_ <;> intro hb <;> (try simp only [zH] at hb)) | ((with_reducible refine Za3 ?_); (first | refine Zaf htb hmz Zba fF rfl rfl ?_ | refine Zae hmo htb hmz Zba fF rfl rfl (by kernel_rfl) ?_); intro _ _ _ _ h; simp only [zE, evp, evx, ev1, evLoad, evStore, evBin, evIf, Zab, forall_const, z38, tb, reduceAdd, reduceSub, reduceMul, reduceEqDiff, reduceLeDiff, reduceLT, Nat.reduceBEq, Nat.reduceBNe, ↓reduceIte, reduceIte, spLp, nvS] at h; obtain ⟨rfl, rfl, rfl, rfl⟩ := h; refine ⟨?_, ?_⟩) | ((with_reducible refine Ob.mk ?_); first | exact trivial | (intros; omega) | ((repeat' first | apply And.intro | (intro a; have b := a; try simp only [zH] at b)) <;> first | assumption | omega | (simp only [zH]; omega)))
        refine back ⟨L2, S2, j + 1, es2, clk2⟩ [] ?_ ⟨hS2, hM2, hu2, by dsimp only; omega, fun z' hz' hle => ?_, hmu⟩ (by dsimp only; omega)
        · (refine ⟨rfl, ?_, ?_⟩ <;> simp only [zE, evp, evx, ev1, evLoad, evStore, evBin, evIf, Zab, forall_const, z38, tb, reduceAdd, reduceSub, reduceMul, reduceEqDiff, reduceLeDiff, reduceLT, Nat.reduceBEq, Nat.reduceBNe, ↓reduceIte, reduceIte, spLp, nvS, zI])
        · rw [show (LqS.mk L2 S2 (j + 1) es2 clk2).j = j + 1 from rfl, htj] at hz'
          rcases List.mem_append.1 hz' with h | h
          · exact hcj z' h hle
          · obtain rfl := List.mem_singleton.1 h
            exact hskip hle
      · have hnew : z ∉ L2.map Prod.fst := fun hm => by
          rw [hhas, decide_eq_true hm] at hb
          exact absurd hb.1 (by decide)
        have hb1 := hb
        have hM3 := MQ_put (u := u) (c := clk2) hM2 hnew
        repeat' first
          | with_reducible first | apply Zar | apply Zan | apply Zaa | apply Zad | apply Zah | apply Zao | apply Zag | apply Zaj | apply Zaq | apply Zas | apply Zap | apply Zal | apply Zac | apply Zak
          | ((with_reducible refine Zai ?_ ?_); exact rfl) | ((with_reducible refine Zat ?_); refine Zam rfl ?_ ?_ <;> intro hb <;> (try simp only [zH] at hb)) | ((with_reducible refine Zau 14 ?_ ?_); (· exact rfl); (with_reducible refine Zau 16 ?_ ?_); (· exact rfl); (first | refine Zaf htb hmz Zba fF rfl rfl ?_ | refine Zae hmo htb hmz Zba fF rfl rfl (by kernel_rfl) ?_); intro _ _ _ _ h; simp only [zE, evp, evx, ev1, evLoad, evStore, evBin, evIf, Zab, forall_const, z38, tb, reduceAdd, reduceSub, reduceMul, reduceEqDiff, reduceLeDiff, reduceLT, Nat.reduceBEq, Nat.reduceBNe, ↓reduceIte, reduceIte, spLp, nvS] at h; obtain ⟨rfl, rfl, rfl, rfl⟩ := h; refine ⟨?_, ?_⟩) | ((with_reducible refine Ob.mk ?_); first | exact trivial | (intros; omega) | ((repeat' first | apply And.intro | (intro a; have b := a; try simp only [zH] at b)) <;> first | assumption | omega | (simp only [zH]; omega)))
        · obtain rfl : z = v := by omega
          have hSF := SQ_hit hS2 hu2 hzm hv (by rw [hb0]; exact Int.le_refl _)
          generalize mput (z : Int) u clk2 es2 = es3 at *
          generalize mclk (z : Int) clk2 es2 = clk3 at *
          generalize L2 ++ [(z, u)] = L3 at *
          have hhz : mhas (z : Int) es3 = true := by rw [hM3.has]; exact decide_eq_true hSF.fv
          obtain ⟨k0, u0, hm0, hB0⟩ := SB_first hSF
          have hg0 : mget (z : Int) es3 = u0 := hM3.get z u0 hm0
          repeat' first
            | with_reducible first | apply Zar | apply Zan | apply Zaa | apply Zad | apply Zah | apply Zao | apply Zag | apply Zaj | apply Zaq | apply Zas | apply Zap | apply Zal | apply Zac | apply Zak
            | ((with_reducible refine Zai ?_ ?_); exact rfl) | ((with_reducible refine Zat ?_); refine Zam rfl ?_ ?_ <;> intro hb <;> (try simp only [zH] at hb)) | ((with_reducible refine Zau 19 ?_ ?_); (· exact rfl); (first | refine Zaf htb hmz Zba fF rfl rfl ?_ | refine Zae hmo htb hmz Zba fF rfl rfl (by kernel_rfl) ?_); intro _ _ _ _ h; simp only [zE, evp, evx, ev1, evLoad, evStore, evBin, evIf, Zab, forall_const, z38, tb, reduceAdd, reduceSub, reduceMul, reduceEqDiff, reduceLeDiff, reduceLT, Nat.reduceBEq, Nat.reduceBNe, ↓reduceIte, reduceIte, spLp, nvS] at h; obtain ⟨rfl, rfl, rfl, rfl⟩ := h; refine ⟨?_, ?_⟩) | ((with_reducible refine Ob.mk ?_); first | exact trivial | (intros; omega) | ((repeat' first | apply And.intro | (intro a; have b := a; try simp only [zH] at b)) <;> first | assumption | omega | (simp only [zH]; omega)))
          · rw [hhz] at hb; cases hb
          (refine Zaf htb hmz Zba (fun i => Nat.beq i 1) rfl rfl ?_; intro _ _ _ _ h; simp only [zE, evp, evx, ev1, evLoad, evStore, evBin, evIf, Zab, forall_const, z38, tb, reduceAdd, reduceSub, reduceMul, reduceEqDiff, reduceLeDiff, reduceLT, Nat.reduceBEq, Nat.reduceBNe, ↓reduceIte, reduceIte, spLp, nvS] at h; obtain ⟨rfl, rfl, rfl, rfl⟩ := h; refine ⟨?_, ?_⟩)
          · first | ((with_reducible refine Ob.mk ?_); first | exact trivial | (intros; omega) | ((repeat' first | apply And.intro | (intro a; have b := a; try simp only [zH] at b)) <;> first | assumption | omega | (simp only [zH]; omega))) | skip
          refine Zaa ?_
          repeat' first
            | with_reducible first | apply Zar | apply Zan | apply Zaa | apply Zad | apply Zah | apply Zao | apply Zag | apply Zaj | apply Zaq | apply Zas | apply Zap | apply Zal | apply Zac | apply Zak
            | ((with_reducible refine Zai ?_ ?_); exact rfl) | ((with_reducible refine Zat ?_); refine Zam rfl ?_ ?_ <;> intro hb <;> (try simp only [zH] at hb)) | ((with_reducible refine Zau 21 ?_ ?_); (· exact rfl); (first | refine Zaf htb hmz Zba fF rfl rfl ?_ | refine Zae hmo htb hmz Zba fF rfl rfl (by kernel_rfl) ?_); intro _ _ _ _ h; simp only [zE, evp, evx, ev1, evLoad, evStore, evBin, evIf, Zab, forall_const, z38, tb, reduceAdd, reduceSub, reduceMul, reduceEqDiff, reduceLeDiff, reduceLT, Nat.reduceBEq, Nat.reduceBNe, ↓reduceIte, reduceIte, spLp, nvS] at h; obtain ⟨rfl, rfl, rfl, rfl⟩ := h; refine ⟨?_, ?_⟩) | ((with_reducible refine Ob.mk ?_); first | exact trivial | (intros; omega) | ((repeat' first | apply And.intro | (intro a; have b := a; try simp only [zH] at b)) <;> first | assumption | omega | (simp only [zH]; omega)))
          rw [hg0]
          refine Za6 (τ := LbS) (fun s => SB (nxVn ⟨o, p, x⟩ w c q) z L3 s.u s.k s.t) (fun s => ⟨85, [(17, .int .i64 s.u), (16, .own 84), (7, .own 16), (4, .cst (.slice none 0 0)), (1, .int .i64 z)], [(84, some (.ints (Zbg (z :: s.t)))), (16, some (.mp es3 clk3))], []⟩) (fun s => s.k) ⟨u0, k0, []⟩ [] ?_ hB0 ?_
          · (refine ⟨rfl, ?_, ?_⟩ <;> simp only [zE, evp, evx, ev1, evLoad, evStore, evBin, evIf, Zab, forall_const, z38, tb, reduceAdd, reduceSub, reduceMul, reduceEqDiff, reduceLeDiff, reduceLT, Nat.reduceBEq, Nat.reduceBNe, ↓reduceIte, reduceIte, spLp, nvS, zI])
            rfl
          rintro ⟨y, k, t⟩ hB
          dsimp only at hB ⊢
          have hct : (Zbg (z :: t)).length = t.length + 1 := List.length_map ..
          have htn : t.length ≤ o.length := Ze2 _ _ hB.nd fun z' hz' => hSF.lt z' (List.mem_cons_of_mem _ (hB.nt z' hz').1)
          repeat' first
            | with_reducible first | apply Zar | apply Zan | apply Zaa | apply Zad | apply Zah | apply Zao | apply Zag | apply Zaj | apply Zaq | apply Zas | apply Zap | apply Zal | apply Zac | apply Zak
            | ((with_reducible refine Zai ?_ ?_); exact rfl) | ((with_reducible refine Zat ?_); refine Zam rfl ?_ ?_ <;> intro hb <;> (try simp only [zH] at hb)) | ((with_reducible refine Zau 23 ?_ ?_); (· exact rfl); (with_reducible refine Zau 24 ?_ ?_); (· exact rfl); (first | refine Zaf htb hmz Zba fF rfl rfl ?_ | refine Zae hmo htb hmz Zba fF rfl rfl (by kernel_rfl) ?_); intro _ _ _ _ h; simp only [zE, evp, evx, ev1, evLoad, evStore, evBin, evIf, Zab, forall_const, z38, tb, reduceAdd, reduceSub, reduceMul, reduceEqDiff, reduceLeDiff, reduceLT, Nat.reduceBEq, Nat.reduceBNe, ↓reduceIte, reduceIte, spLp, nvS] at h; obtain ⟨rfl, rfl, rfl, rfl⟩ := h; refine ⟨?_, ?_⟩) | ((with_reducible refine Ob.mk ?_); first | exact trivial | (intros; omega) | ((repeat' first | apply And.intro | (intro a; have b := a; try simp only [zH] at b)) <;> first | assumption | omega | (simp only [zH]; omega)))
          · obtain ⟨k', y', hk', hm', hB'⟩ := SB_next hSF hB (by omega)
            have hg' : mget (y : Int) es3 = y' := hM3.get y y' hm'
            have hca : Zbg (z :: t) ++ [(y : Int)] = Zbg (z :: (t ++ [y])) := by unfold Zbg; rw [← List.cons_append, List.map_append]; rfl
            repeat' first
              | with_reducible first | apply Zar | apply Zan | apply Zaa | apply Zad | apply Zah | apply Zao | apply Zag | apply Zaj | apply Zaq | apply Zas | apply Zap | apply Zal | apply Zac | apply Zak
              | ((with_reducible refine Zai ?_ ?_); exact rfl) | ((with_reducible refine Zat ?_); refine Zam rfl ?_ ?_ <;> intro hb <;> (try simp only [zH] at hb)) | ((with_reducible refine Za3 ?_); (first | refine Zaf htb hmz Zba fF rfl rfl ?_ | refine Zae hmo htb hmz Zba fF rfl rfl (by kernel_rfl) ?_); intro _ _ _ _ h; simp only [zE, evp, evx, ev1, evLoad, evStore, evBin, evIf, Zab, forall_const, z38, tb, reduceAdd, reduceSub, reduceMul, reduceEqDiff, reduceLeDiff, reduceLT, Nat.reduceBEq, Nat.reduceBNe, ↓reduceIte, reduceIte, spLp, nvS] at h; obtain ⟨rfl, rfl, rfl, rfl⟩ := h; refine ⟨?_, ?_⟩) | ((with_reducible refine Ob.mk ?_); first | exact trivial | (intros; omega) | ((repeat' first | apply And.intro | (intro a; have b := a; try simp only [zH] at b)) <;> first | assumption | omega | (simp only [zH]; omega)))
            refine back ⟨y', k', t ++ [y]⟩ [(84, 91)] ?_ hB' hk'
            (refine ⟨rfl, ?_, ?_⟩ <;> simp only [zE, evp, evx, ev1, evLoad, evStore, evBin, evIf, Zab, forall_const, z38, tb, reduceAdd, reduceSub, reduceMul, reduceEqDiff, reduceLeDiff, reduceLT, Nat.reduceBEq, Nat.reduceBNe, ↓reduceIte, reduceIte, spLp, nvS, zI])
            · exact hg'.symm
            · exact hca
          · obtain rfl : y = z := by omega
            have hE := SB_end hSF hB hv
            refine Zeb ([_]) ([]) rfl rfl ?_
            refine Zbb htb hmz Zba fF rfl rfl rfl ?_; intro _ _ _ _ h; simp only [zE, evp, evx, ev1, evLoad, evStore, evBin, evIf, Zab, forall_const, z38, tb, reduceAdd, reduceSub, reduceMul, reduceEqDiff, reduceLeDiff, reduceLT, Nat.reduceBEq, Nat.reduceBNe, ↓reduceIte, reduceIte, spLp, nvS] at h; obtain ⟨rfl, rfl, rfl, rfl⟩ := h; refine ⟨?_, Zaa ?_⟩
            · first | ((with_reducible refine Ob.mk ?_); first | exact trivial | (intros; omega) | ((repeat' first | apply And.intro | (intro a; have b := a; try simp only [zH] at b)) <;> first | assumption | omega | (simp only [zH]; omega))) | skip
            refine Zbp ([84]) (reverse_fg (l := Zbg (y :: t)) (by omega)) rfl rfl rfl rfl rfl rfl rfl rfl rfl (by simp only [rinR, rhoC, zE, evp, evx, ev1, evLoad, evStore, evBin, evIf, Zab, forall_const, z38, tb, reduceAdd, reduceSub, reduceMul, reduceEqDiff, reduceLeDiff, reduceLT, Nat.reduceBEq, Nat.reduceBNe, ↓reduceIte, reduceIte, spLp, nvS]) ?_; intro gm gv gr hq m' e' l' h; simp only [GR.mk.injEq] at hq; obtain ⟨rfl, rfl, rfl⟩ := hq; simp only [rhoC, outR, renR, dels, zE, evp, evx, ev1, evLoad, evStore, evBin, evIf, Zab, forall_const, z38, tb, reduceAdd, reduceSub, reduceMul, reduceEqDiff, reduceLeDiff, reduceLT, Nat.reduceBEq, Nat.reduceBNe, ↓reduceIte, reduceIte, spLp, nvS] at h; obtain ⟨rfl, rfl, rfl⟩ := h; refine Zaa ?_
            refine Zcl ?_
            refine Zaa ?_
            have hrv : (Zbg (y :: t)).reverse = Zbg t.reverse ++ [(y : Int)] := by unfold Zbg; rw [← List.map_reverse, List.reverse_cons, List.map_append]; rfl
            rw [hrv]
            have hrl : (Zbg t.reverse ++ [(y : Int)]).length = t.length + 1 := by simp [Zbg]
            have hrt : (Zbg t.reverse ++ [(y : Int)]).take t.length = Zbg t.reverse := by
              rw [List.take_append_of_le_length (by simp [Zbg]), List.take_of_length_le (by simp [Zbg])]
            have hrt2 : (Zbg t.reverse).length = t.length := by simp [Zbg]
            repeat' first
              | with_reducible first | apply Zar | apply Zan | apply Zaa | apply Zad | apply Zah | apply Zao | apply Zag | apply Zaj | apply Zaq | apply Zas | apply Zap | apply Zal | apply Zac | apply Zak
              | ((with_reducible refine Zai ?_ ?_); exact rfl) | ((with_reducible refine Zat ?_); refine Zam rfl ?_ ?_ <;> intro hb <;> (try simp only [zH] at hb)) | ((with_reducible refine Zau 25 ?_ ?_); (· exact rfl); (first | refine Zaf htb hmz Zba fF rfl rfl ?_ | refine Zae hmo htb hmz Zba fF rfl rfl (by kernel_rfl) ?_); intro _ _ _ _ h; simp only [zE, evp, evx, ev1, evLoad, evStore, evBin, evIf, Zab, forall_const, z38, tb, reduceAdd, reduceSub, reduceMul, reduceEqDiff, reduceLeDiff, reduceLT, Nat.reduceBEq, Nat.reduceBNe, ↓reduceIte, reduceIte, spLp, nvS] at h; obtain ⟨rfl, rfl, rfl, rfl⟩ := h; refine ⟨?_, ?_⟩) | ((with_reducible refine Ob.mk ?_); first | exact trivial | (intros; omega) | ((repeat' first | apply And.intro | (intro a; have b := a; try simp only [zH] at b)) <;> first | assumption | omega | (simp only [zH]; omega)))
            have hrn : (((Zbg t.reverse ++ [(y : Int)]).length : Int) - 1).toNat = t.length := by omega
            (refine Zaf htb hmz Zba (fun i => Nat.beq i 1) rfl rfl ?_; intro _ _ _ _ h; simp only [zE, evp, evx, ev1, evLoad, evStore, evBin, evIf, Zab, forall_const, z38, tb, reduceAdd, reduceSub, reduceMul, reduceEqDiff, reduceLeDiff, reduceLT, Nat.reduceBEq, Nat.reduceBNe, ↓reduceIte, reduceIte, spLp, nvS] at h; obtain ⟨rfl, rfl, rfl, rfl⟩ := h; refine ⟨?_, ?_⟩)
            · refine Ob.mk ?_
              rw [hrn, hrt, hrl]
              omega
            refine Zaa ?_
            have hrc : (y : Int) :: Zbg t.reverse = Zbg (y :: t.reverse) := rfl
            rw [hrn, hrt, hrc]
            refine Zdf 96 (.roI (Zbg (y :: t.reverse))) (by simp only [Za4, Zbf, fzE, fzA, fzR, fzB, set1, nbeq, reduceEqDiff, decide_true, decide_false, ↓reduceIte, reduceIte, cond_true, cond_false, List.take_length, Option.some.injEq]; rfl) (by first | exact rfl | (refine ⟨?_, rfl⟩; first | rfl | (intros; rfl))) (by simp only [Za4, Zbf, fzE, fzA, fzR, fzB, set1, nbeq, reduceEqDiff, decide_true, decide_false, ↓reduceIte, reduceIte, cond_true, cond_false, List.take_length, Option.some.injEq]; rfl) (by simp only [Za4, Zbf, fzE, fzA, fzR, fzB, set1, nbeq, reduceEqDiff, decide_true, decide_false, ↓reduceIte, reduceIte, cond_true, cond_false, List.take_length, Option.some.injEq]; rfl) ?_
            repeat' first
              | with_reducible first | apply Zar | apply Zan | apply Zaa | apply Zad | apply Zah | apply Zao | apply Zag | apply Zaj | apply Zaq | apply Zas | apply Zap | apply Zal | apply Zac | apply Zak
              | ((with_reducible refine Zai ?_ ?_); exact rfl) | ((with_reducible refine Zat ?_); refine Zam rfl ?_ ?_ <;> intro hb <;> (try simp only [zH] at hb)) | ((with_reducible refine Za3 ?_); (first | refine Zaf htb hmz Zba fF rfl rfl ?_ | refine Zae hmo htb hmz Zba fF rfl rfl (by kernel_rfl) ?_); intro _ _ _ _ h; simp only [zE, evp, evx, ev1, evLoad, evStore, evBin, evIf, Zab, forall_const, z38, tb, reduceAdd, reduceSub, reduceMul, reduceEqDiff, reduceLeDiff, reduceLT, Nat.reduceBEq, Nat.reduceBNe, ↓reduceIte, reduceIte, spLp, nvS] at h; obtain ⟨rfl, rfl, rfl, rfl⟩ := h; refine ⟨?_, ?_⟩) | ((with_reducible refine Ob.mk ?_); first | exact trivial | (intros; omega) | ((repeat' first | apply And.intro | (intro a; have b := a; try simp only [zH] at b)) <;> first | assumption | omega | (simp only [zH]; omega)))
            refine Zaz rfl rfl (Zdc ⟨0, .roI (Zbg (y :: t.reverse)), []⟩ [] (.inr ⟨y :: t.reverse, ⟨⟨_, rfl⟩, fun z' hz' => (hE.2.2 z' hz').1, hE.1, ?_, fun z' hz' => ?_⟩, rfl⟩) rfl (Zbz rfl) trivial)
            · rw [hq]
              exact hE.2.1
            · show p.getD z' 0 ≤ p.getD y 0
              rw [hb0]
              exact (hE.2.2 z' hz').2
        · have hne : z ≠ v := by omega
          have hS3 := SQ_add hS2 hu2 hzm hzn hnew hb1.2 hne
          have hL3 := Ziy hS3
          have hcs3 : Zbg S2 ++ [(z : Int)] = Zbg (S2 ++ [z]) := by unfold Zbg; rw [List.map_append]; rfl
          repeat' first
            | with_reducible first | apply Zar | apply Zan | apply Zaa | apply Zad | apply Zah | apply Zao | apply Zag | apply Zaj | apply Zaq | apply Zas | apply Zap | apply Zal | apply Zac | apply Zak
            | ((with_reducible refine Zai ?_ ?_); exact rfl) | ((with_reducible refine Zat ?_); refine Zam rfl ?_ ?_ <;> intro hb <;> (try simp only [zH] at hb)) | ((with_reducible refine Za3 ?_); (first | refine Zaf htb hmz Zba fF rfl rfl ?_ | refine Zae hmo htb hmz Zba fF rfl rfl (by kernel_rfl) ?_); intro _ _ _ _ h; simp only [zE, evp, evx, ev1, evLoad, evStore, evBin, evIf, Zab, forall_const, z38, tb, reduceAdd, reduceSub, reduceMul, reduceEqDiff, reduceLeDiff, reduceLT, Nat.reduceBEq, Nat.reduceBNe, ↓reduceIte, reduceIte, spLp, nvS] at h; obtain ⟨rfl, rfl, rfl, rfl⟩ := h; refine ⟨?_, ?_⟩) | ((with_reducible refine Ob.mk ?_); first | exact trivial | (intros; omega) | ((repeat' first | apply And.intro | (intro a; have b := a; try simp only [zH] at b)) <;> first | assumption | omega | (simp only [zH]; omega)))
          refine back ⟨L2 ++ [(z, u)], S2 ++ [z], j + 1, mput z u clk2 es2, mclk z clk2 es2⟩ [(35, 76)] ?_ ⟨hS3, hM3, (by rw [Zeo]; exact List.mem_append_left _ hu2), by dsimp only; omega, fun z' hz' hle => ?_, ?_⟩ (by dsimp only; omega)
          · (refine ⟨rfl, ?_, ?_⟩ <;> simp only [zE, evp, evx, ev1, evLoad, evStore, evBin, evIf, Zab, forall_const, z38, tb, reduceAdd, reduceSub, reduceMul, reduceEqDiff, reduceLeDiff, reduceLT, Nat.reduceBEq, Nat.reduceBNe, ↓reduceIte, reduceIte, spLp, nvS, zI])
            exact hcs3
          · rw [show (LqS.mk (L2 ++ [(z, u)]) (S2 ++ [z]) (j + 1) (mput z u clk2 es2) (mclk z clk2 es2)).j = j + 1 from rfl, htj] at hz'
            show z' ∈ (L2 ++ [(z, u)]).map Prod.fst
            rw [List.map_append]
            rcases List.mem_append.1 hz' with h | h
            · exact List.mem_append_left _ (hcj z' h hle)
            · obtain rfl := List.mem_singleton.1 h
              exact List.mem_append_right _ (by simp)
          · dsimp only
            rw [List.length_append, List.length_singleton] at hL3
            simp only [List.length_append, List.length_singleton]
            omega
    have hje : j = rw.length := by omega
    subst hje
    have hS4 := SQ_done hS2 (fun z hz hle => hcj z (by rw [List.take_of_length_le (by rw [hxl2]; exact Nat.le_refl _)]; exact hz) hle)
    refine back ⟨L2, S2, es2, clk2⟩ [(19, 35)] ?_ ⟨hS4, hM2⟩ (by dsimp only; rw [List.length_append, List.length_singleton]; omega)
    (refine ⟨rfl, ?_, ?_⟩ <;> simp only [zE, evp, evx, ev1, evLoad, evStore, evBin, evIf, Zab, forall_const, z38, tb, reduceAdd, reduceSub, reduceMul, reduceEqDiff, reduceLeDiff, reduceLT, Nat.reduceBEq, Nat.reduceBNe, ↓reduceIte, reduceIte, spLp, nvS, zI])
  have hS0 : S = [] := List.eq_nil_of_length_eq_zero (by omega)
  subst hS0
  have hhv : mhas (v : Int) es = false := by rw [hM.has]; exact decide_eq_false hS.fv
  repeat' first
    | with_reducible first | apply Zar | apply Zan | apply Zaa | apply Zad | apply Zah | apply Zao | apply Zag | apply Zaj | apply Zaq | apply Zas | apply Zap | apply Zal | apply Zac | apply Zak
    | ((with_reducible refine Zai ?_ ?_); exact rfl) | ((with_reducible refine Zat ?_); refine Zam rfl ?_ ?_ <;> intro hb <;> (try simp only [zH] at hb)) | ((with_reducible refine Zau 18 ?_ ?_); (· exact rfl); (first | refine Zaf htb hmz Zba fF rfl rfl ?_ | refine Zae hmo htb hmz Zba fF rfl rfl (by kernel_rfl) ?_); intro _ _ _ _ h; simp only [zE, evp, evx, ev1, evLoad, evStore, evBin, evIf, Zab, forall_const, z38, tb, reduceAdd, reduceSub, reduceMul, reduceEqDiff, reduceLeDiff, reduceLT, Nat.reduceBEq, Nat.reduceBNe, ↓reduceIte, reduceIte, spLp, nvS] at h; obtain ⟨rfl, rfl, rfl, rfl⟩ := h; refine ⟨?_, ?_⟩) | ((with_reducible refine Ob.mk ?_); first | exact trivial | (intros; omega) | ((repeat' first | apply And.intro | (intro a; have b := a; try simp only [zH] at b)) <;> first | assumption | omega | (simp only [zH]; omega)))
  · subst hb0
    repeat' first
      | with_reducible first | apply Zar | apply Zan | apply Zaa | apply Zad | apply Zah | apply Zao | apply Zag | apply Zaj | apply Zaq | apply Zas | apply Zap | apply Zal | apply Zac | apply Zak
      | ((with_reducible refine Zai ?_ ?_); exact rfl) | ((with_reducible refine Zat ?_); refine Zam rfl ?_ ?_ <;> intro hb <;> (try simp only [zH] at hb)) | ((with_reducible refine Za3 ?_); (first | refine Zaf htb hmz Zba fF rfl rfl ?_ | refine Zae hmo htb hmz Zba fF rfl rfl (by kernel_rfl) ?_); intro _ _ _ _ h; simp only [zE, evp, evx, ev1, evLoad, evStore, evBin, evIf, Zab, forall_const, z38, tb, reduceAdd, reduceSub, reduceMul, reduceEqDiff, reduceLeDiff, reduceLT, Nat.reduceBEq, Nat.reduceBNe, ↓reduceIte, reduceIte, spLp, nvS] at h; obtain ⟨rfl, rfl, rfl, rfl⟩ := h; refine ⟨?_, ?_⟩) | ((with_reducible refine Ob.mk ?_); first | exact trivial | (intros; omega) | ((repeat' first | apply And.intro | (intro a; have b := a; try simp only [zH] at b)) <;> first | assumption | omega | (simp only [zH]; omega)))
    refine Zaz rfl rfl (Zdc ⟨0, .cst (.slice none 0 0), []⟩ [] (.inl ⟨?_, rfl⟩) rfl (Zbz rfl) trivial)
    exact SQ_no (pri := fun z => p.getD z 0) hS
  · rw [hhv] at hb
    cases hb
open Go
section
variable {P : Program} {N κ : Nat}
theorem Zcg {o : Oper} {t : List Oper} {m : Nat} {env : List (Nat × AV)} {l : List (Nat × Option Blk)} {ms : List Nat} {val : AV} {rd : List (Nat × Blk)} {wr : List (Nat × Option Blk)} {kn : Option Nat} {Q : Exit → St → Prop}
    (hop : OpSem P o (opv (lke env)) val rd wr kn) (hd : Zdh N [o] = true) (hgd : o.guard = none) (hnd : ∀ c, o.op ≠ .defer c) (hrd : RdIn l rd) (hkn : kn = none ∨ kn = some m) (hκ : Nat.ble κ m = true)
    (h : awpL P none N κ t (CS.st ⟨m + 1, putE o.dst val env, setW wr l, ms⟩) Q) : awpL P none N κ (o :: t) (CS.st ⟨m, env, l, ms⟩) Q := by
  intro n K Z ν w a hg
  have hw : Region.wanted o (yielded #[] a.tmps) = true := Zco (by rw [hgd]; rfl) _
  simp only [wpListIn, hw, if_true]
  refine ⟨fun f hf => trivial, ?_⟩
  have hf : Fits N ⟨o.dst, [], val, rd, wr, kn⟩ (CS.st ⟨m, env, l, ms⟩) := by
    refine ⟨fun p hp => (by cases hp), fun p hp => hrd p hp, fun k hk => ?_, fun d hd2 => ?_⟩
    · have hk : kn = some k := hk
      rcases hkn with h1 | h1
      · rw [h1] at hk; cases hk
      · rw [h1] at hk; cases hk
        show Nat.blt m m = false
        cases hb : Nat.blt m m with
        | false => rfl
        | true => rw [Nat.blt_eq] at hb; omega
    · have hd2 : o.dst = some d := hd2
      simp [Zdh, hd2] at hd; exact hd
  refine (Zck (ro := none) hnd hop) n K Z ν w a (ltK m) (lkr l) hg.one hg.rs hg.zk hg.kl (fun x _ => ⟨Zig hg x, Zg0 hg x⟩) hf.rd hf.kn _ _ ?_
  intro y Z' ν' w' hst hν h1 hrs hr hm hz
  have hg2 := hg.next hf hst hν h1 hrs hr hm hz
  have e : (Item.app ⟨o.dst, [], val, rd, wr, kn⟩ (CS.st ⟨m, env, l, ms⟩)) = ⟨addK (ltK m) kn, lke (putE o.dst val env), lkr (setW wr l), ms⟩ := by
    show St.mk _ _ _ _ = St.mk _ _ _ _
    rw [Zgz, Ze4]; rfl
  rw [e] at hg2
  have hg3 := hg2.widen (μ' := ltK (m + 1)) (fun k hk => by
    rcases hkn with h1 | h1
    · rw [h1] at hk
      have hk : Nat.blt k m = true := hk
      show Nat.blt k (m + 1) = true
      rw [Nat.blt_eq] at hk ⊢; omega
    · rw [h1] at hk
      have hk : (Nat.blt k m || Nat.beq k m) = true := hk
      show Nat.blt k (m + 1) = true
      rw [Nat.blt_eq]
      rcases Bool.or_eq_true_iff.1 hk with h2 | h2
      · rw [Nat.blt_eq] at h2; omega
      · have := Nat.eq_of_beq_eq_true h2; omega)
  have hh := h n (un K Z') Z' ν' w' _ hg3
  refine Zb6 (fun e a2 w2 hp => ?_) hh
  refine hp.trans hst (fun k hk => hν k ?_)
  have := Nat.le_of_ble_eq_true hκ
  show Nat.blt k m = true
  rw [Nat.blt_eq]; omega
theorem Zez {o : Oper} {get : Operand → AV} {rd : List (Nat × Blk)} {kn : Nat} {ks : List Nat} {A : List Value → (Nat → Prop) → World → (Nat → Prop) → Prop}
    (h : ∀ (K Z : Nat → Prop) (ν : Nat → Value) (w : World) (ev : Operand → Value) (μ : Nat → Bool) (rs : Rs), (∀ k, (ν k).oneCell' = true) → GoodRs K Z w ν μ rs → (∀ x, x ∈ o.op.operands → R Z w (get x) ν true [ev x] ∧ men μ (get x) = true) → (∀ p, p ∈ rd → rs p.1 = some p.2) →
      ∃ y, (execOp ev o).run P w = .ok (.value y) w ∧ y.oneCell' = true ∧ (∀ k, k ∈ ks → μ k = true) ∧ ∀ (Z' : Nat → Prop) (w' : World), (∀ b, Z b → Z' b) → (∀ b, Z b → w'.heap[b]? = w.heap[b]?) → A (y :: ks.map ν) Z' w' (fun _ => False)) :
    OpSem P o get (.own kn) rd [(kn, some (.sem (kn :: ks) A))] (some kn) :=
  ⟨fun K Z ν w ev μ rs h1 hg hzk hkl hx hrd hkn => by
    have hk2 := hkn kn rfl
    obtain ⟨y, hrun, hy, hks, hA⟩ := h K Z ν w ev μ rs h1 hg hx hrd
    refine ⟨_, w, upN ν kn y, Z, .inl hrun, Step.refl K Z w, Zbw hk2, Zcp h1 hy, ?_, ?_, Zbq, fun b hb => hkl b (hzk b hb)⟩
    · rw [Zbu hzk]
      refine Zdb (F := fun _ => False) hg hzk hkl hk2 (Nat.le_refl _) (fun _ _ => rfl) ?_ (fun k hk => ?_) (fun y hy => hy.elim)
      · intro Z' w' hZ hw
        have e : (kn :: ks).map (upN ν kn y) = y :: ks.map ν := by
          rw [List.map_cons, upN_same]
          exact congrArg _ (List.map_congr_left fun k hk => Zbw hk2 k (hks k hk))
        rw [e]
        exact hA Z' w' hZ (fun b hb => hw b (.inl hb))
      · rcases List.mem_cons.1 hk with rfl | hk
        · exact Zbq
        · exact Zb2 k (hks k hk)
    · show [_] = [_]; rw [upN_same]⟩
theorem opsem_neqnil {o : Oper} {t e yt : Nat} {x : Operand} {get : Operand → AV} {l : List Int} (ho : o.op = .binOp .neq t x (.const (.slice none 0 0)) yt) (ht : P.underlying t = some (.slice e)) (hx : get x = .roI l) (hl : 0 < l.length) (hc : get (.const (.slice none 0 0)) = .cst (.slice none 0 0)) : OpSem P o get (.bool true) [] [] none :=
  Zcj fun K Z ν w ev μ rs hone hg hv hrd => by
    obtain ⟨rx, _⟩ := hv x (by rw [ho]; simp [Op.operands])
    obtain ⟨ry, _⟩ := hv (.const (.slice none 0 0)) (by rw [ho]; simp [Op.operands])
    rw [hx] at rx
    rw [hc] at ry
    have hy := one1 ry
    obtain ⟨A, cap, hcs, _, _, hA⟩ := rx
    injection hcs with hcs _
    obtain ⟨b, f, hA, _⟩ := hA hl
    subst hA
    refine ⟨.bool true, ?_, rfl, rfl⟩
    have hq := run_neq_slice_nil_any (P := P) w t e (some ⟨b, f, none⟩) l.length cap 0 0 ht
    simp only [execOp, ho, hcs, hy]
    simp [eqGuard, hq, Sem.run_bind, Result.andThen, Sem.run]
theorem opsem_neqnil0 {o : Oper} {t e yt : Nat} {x : Operand} {get : Operand → AV} (ho : o.op = .binOp .neq t x (.const (.slice none 0 0)) yt) (ht : P.underlying t = some (.slice e)) (hx : get x = .cst (.slice none 0 0)) (hc : get (.const (.slice none 0 0)) = .cst (.slice none 0 0)) : OpSem P o get (.bool false) [] [] none :=
  Zcj fun K Z ν w ev μ rs hone hg hv hrd => by
    obtain ⟨rx, _⟩ := hv x (by rw [ho]; simp [Op.operands])
    obtain ⟨ry, _⟩ := hv (.const (.slice none 0 0)) (by rw [ho]; simp [Op.operands])
    rw [hx] at rx
    rw [hc] at ry
    have hx := one1 rx
    have hy := one1 ry
    refine ⟨.bool false, ?_, rfl, rfl⟩
    have hq := run_neq_slice_nil_any (P := P) w t e none 0 0 0 0 ht
    simp only [execOp, ho, hx, hy]
    simp [eqGuard, hq, Sem.run_bind, Result.andThen, Sem.run]
theorem opsem_neqif {o : Oper} {t yt t2 k : Nat} {x : Operand} {get : Operand → AV} {u : AV} (ho : o.op = .binOp .neq t x (.const .nilIface) yt) (ht : P.underlying t = some (.interface (P.methodsAt t))) (hx : get x = .own k) (hc : get (.const .nilIface) = .cst .nilIface) : OpSem P o get (.bool true) [(k, .sem [k] (ifA t2 u))] [] none :=
  Zcj fun K Z ν w ev μ rs hone hg hv hrd => by
    obtain ⟨rx, _⟩ := hv x (by rw [ho]; simp [Op.operands])
    obtain ⟨ry, _⟩ := hv (.const .nilIface) (by rw [ho]; simp [Op.operands])
    rw [hx] at rx
    rw [hc] at ry
    have hx := one1 rx
    have hy := one1 ry
    obtain ⟨Ft, hF⟩ := hg
    obtain ⟨_, _, hs, _⟩ := hF k _ (hrd (k, .sem [k] (ifA t2 u)) (by simp))
    obtain ⟨_, v, hv2, _⟩ := hs Z w (fun _ h => h) (fun _ _ => rfl)
    have hk : ν k = .iface t2 v := by simpa using hv2
    refine ⟨.bool true, ?_, rfl, rfl⟩
    have hq := run_neq_held_nil (P := P) w t t2 v ht
    simp only [execOp, ho, hx, hk, hy]
    simp [eqGuard, hq, Sem.run_bind, Result.andThen, Sem.run]
theorem opsem_neqif0 {o : Oper} {t yt : Nat} {x : Operand} {get : Operand → AV} (ho : o.op = .binOp .neq t x (.const .nilIface) yt) (ht : P.underlying t = some (.interface (P.methodsAt t))) (hx : get x = .cst .nilIface) (hc : get (.const .nilIface) = .cst .nilIface) : OpSem P o get (.bool false) [] [] none :=
  Zcj fun K Z ν w ev μ rs hone hg hv hrd => by
    obtain ⟨rx, _⟩ := hv x (by rw [ho]; simp [Op.operands])
    obtain ⟨ry, _⟩ := hv (.const .nilIface) (by rw [ho]; simp [Op.operands])
    rw [hx] at rx
    rw [hc] at ry
    have hx := one1 rx
    have hy := one1 ry
    refine ⟨.bool false, ?_, rfl, rfl⟩
    have hq := run_neq_nil_nil (P := P) w t ht
    simp only [execOp, ho, hx, hy]
    simp [eqGuard, hq, Sem.run_bind, Result.andThen, Sem.run]
end
open Go Pl
theorem Zfq {o p w c : List Int} {x : List (List Int)} (hv : Zbh ⟨o, p, x⟩ = true) (hc : Zb0 ⟨o, p, x⟩ w c = true) (q : Int) : ∀ u, u < o.length → (nvF o w c x q u).length ≤ 64 ∧ 0 < (nvF o w c x q u).length ∧ ∀ j, j < (nvF o w c x q u).length → 0 ≤ (nvF o w c x q u).getD j 0 ∧ (nvF o w c x q u).getD j 0 < (o.length : Int) := by
  have hG := gok (validB_iff.1 hv)
  obtain ⟨hwl, hcl, hcc⟩ := of_decide_eq_true hc
  intro u hu
  have h1 : 1 ≤ (x.getD u []).length ∧ (x.getD u []).length ≤ 64 := hG.len u hu
  have hat : ∀ k, k < (x.getD u []).length → 0 ≤ (x.getD u []).getD k 0 ∧ (x.getD u []).getD k 0 < (o.length : Int) := hG.at' u hu
  unfold nvF
  split
  · rename_i h
    have hm : c.getD u 0 ∈ x.getD u [] := (hcc u hu).2.1 (h.1.trans h.2.symm)
    obtain ⟨k, hk, e⟩ := Zgm hm
    refine ⟨by simp, by simp, fun j hj => ?_⟩
    have hj0 : j = 0 := by simpa using hj
    subst hj0
    show 0 ≤ c.getD u 0 ∧ c.getD u 0 < _
    rw [← e]
    exact hat k hk
  · exact ⟨h1.2, h1.1, hat⟩
def errA (s l : List Int) : Blk := .sem [0] (ifA 65 (.agg (.cons (.roI s) (.cons (.roI l) .nil))))
theorem onN_step {o p w c : List Int} {x : List (List Int)} {q : Int} (hnv : ∀ u, u < o.length → (nvF o w c x q u).length ≤ 64 ∧ 0 < (nvF o w c x q u).length ∧ ∀ j, j < (nvF o w c x q u).length → 0 ≤ (nvF o w c x q u).getD j 0 ∧ (nvF o w c x q u).getD j 0 < (o.length : Int)) {u : Nat} (hu : u < o.length) :
    (∀ i, orb (onN o w c x q) u i < o.length) ∧ ∀ i, orb (onN o w c x q) u (i + 1) ∈ nxVn ⟨o, p, x⟩ w c q (orb (onN o w c x q) u i) := by
  have h1 : ∀ i, orb (onN o w c x q) u i < o.length := fun i => by
    induction i with
    | zero => exact hu
    | succ i ih =>
      have := (hnv _ ih).2.2 0 (hnv _ ih).2.1
      show ((nvF o w c x q (orb (onN o w c x q) u i)).getD 0 0).toNat < _
      omega
  refine ⟨h1, fun i => ?_⟩
  have h2 := (hnv _ (h1 i)).2.1
  show ((nvF o w c x q (orb (onN o w c x q) u i)).getD 0 0).toNat ∈ (nvF o w c x q (orb (onN o w c x q) u i)).map Int.toNat
  refine List.mem_map.2 ⟨_, ?_, rfl⟩
  rw [List.getD_eq_getElem?_getD, List.getElem?_eq_getElem h2]
  exact List.getElem_mem _
theorem on_cp {o p w c : List Int} {x : List (List Int)} (hv : Zbh ⟨o, p, x⟩ = true) (hc : Zb0 ⟨o, p, x⟩ w c = true) {v u : Nat} (hvn : v < o.length) (hu : u ∈ nxVn ⟨o, p, x⟩ w c (w.getD v 0) v) (hun : u < o.length) (hW : w.getD u 0 ≠ w.getD v 0) :
    CpOK ⟨o, p, x⟩ w c ((v : Int) :: onS1 (onN o w c x (w.getD v 0)) u) (onL1 (onN o w c x (w.getD v 0)) u) := by
  obtain ⟨h1, h2⟩ := onN_step (p := p) (Zfq hv hc (w.getD v 0)) hun
  obtain ⟨j, k, ha, hj⟩ := again_ex h1
  have := left_cp hv hc hvn hu hW h1 h2 ha.2.1 hj ha.2.2
  unfold onS1 onL1
  rw [agA_eq ha]
  have e : Zbg ((List.range j).map (orb (onN o w c x (w.getD v 0)) u)) = orL (onN o w c x (w.getD v 0)) u j := by unfold Zbg orL; rw [List.map_map]; rfl
  unfold Zbg at this e
  rw [List.map_take, List.map_drop, e] at this
  exact this
noncomputable def spLe : Nat → Option Spec
  | 42 => some nvS
  | 39 => some joiS
  | 62 => some onS
  | _ => none
theorem Zb9 : SpOK Tryd.prog spLe := by
  intro f S h
  unfold spLe at h
  split at h
  · cases h; exact Zi3
  · cases h; exact Ze5
  · cases h; exact on_ok
  · cases h
set_option maxRecDepth 4000 in
set_option maxHeartbeats 4000000 in
theorem left_fg {o p w c : List Int} {x : List (List Int)} (hv : Zbh ⟨o, p, x⟩ = true) (hc : Zb0 ⟨o, p, x⟩ w c = true) :
    FG Tryd.prog 52 [.agg (.cons (.roI o) (.cons (.roI p) (.cons (.roII x) (.cons (.roI w) (.cons (.roI c) .nil)))))] [] 0 fun g => ((∀ v, v < o.length → ∀ u, u ∈ nxVn ⟨o, p, x⟩ w c (w.getD v 0) v → w.getD u 0 = w.getD v 0) ∧ g = ⟨0, .cst .nilIface, []⟩) ∨ ∃ s l, CpOK ⟨o, p, x⟩ w c s l ∧ g = ⟨1, .own 0, [(0, some (errA s l))]⟩ := by
  refine Zho htb (fn := Tryd.f52) (by kernel_rfl) (by kernel_rfl) rfl (Nat.le_of_ble_eq_true rfl) fun hl => ?_
  simp only [lenP, mkL, lim] at hl
  have hG := gok (validB_iff.1 hv)
  obtain ⟨hwl, hcl, hcc⟩ := of_decide_eq_true hc
  have hxl : x.length = o.length := hG.xl
  have hn : o.length ≤ 20000 := hG.n
  have hwl : w.length = o.length := hwl
  have hcl : c.length = o.length := hcl
  clear hcc
  have hnvq := fun q => Zfq hv hc q
  repeat' first
    | with_reducible first | apply Zar | apply Zan | apply Zaa | apply Zad | apply Zah | apply Zao | apply Zag | apply Zaj | apply Zaq | apply Zas | apply Zap | apply Zal | apply Zac | apply Zak
    | ((with_reducible refine Zai ?_ ?_); exact rfl) | ((with_reducible refine Zat ?_); refine Zam rfl ?_ ?_ <;> intro hb <;> (try simp only [zH] at hb)) | ((with_reducible refine Za3 ?_); (first | refine Zaf htb hmz Zb9 fF rfl rfl ?_ | refine Zae hmo htb hmz Zb9 fF rfl rfl (by kernel_rfl) ?_); intro _ _ _ _ h; simp only [zE, evp, evx, ev1, evLoad, evStore, evBin, evIf, Zab, forall_const, z38, tb, reduceAdd, reduceSub, reduceMul, reduceEqDiff, reduceLeDiff, reduceLT, Nat.reduceBEq, Nat.reduceBNe, ↓reduceIte, reduceIte, spLe, nvS, joiS, onS] at h; obtain ⟨rfl, rfl, rfl, rfl⟩ := h; refine ⟨?_, ?_⟩) | ((with_reducible refine Ob.mk ?_); first | exact trivial | (intros; omega) | ((repeat' first | apply And.intro | (intro a; have b := a; try simp only [zH] at b)) <;> first | assumption | omega | (simp only [zH]; omega)))
  refine Za6 (τ := Nat) (fun i => i ≤ o.length ∧ ∀ v, v < i → ∀ u, u ∈ nxVn ⟨o, p, x⟩ w c (w.getD v 0) v → w.getD u 0 = w.getD v 0) (fun i => ⟨7, [(12, .int .i64 i), (11, .int .i64 w.length), (10, .roI w), (2, .cst .nilIface), (1, .rop (.agg (.cons (.roI o) (.cons (.roI p) (.cons (.roII x) (.cons (.roI w) (.cons (.roI c) .nil)))))))], [], []⟩) (fun i => o.length - i) 0 [] ?_ ⟨Nat.zero_le _, fun v h => absurd h (Nat.not_lt_zero v)⟩ ?_
  · (refine ⟨rfl, ?_, ?_⟩ <;> simp only [zE, evp, evx, ev1, evLoad, evStore, evBin, evIf, Zab, forall_const, z38, tb, reduceAdd, reduceSub, reduceMul, reduceEqDiff, reduceLeDiff, reduceLT, Nat.reduceBEq, Nat.reduceBNe, ↓reduceIte, reduceIte, spLe, nvS, joiS, onS, zI])
  rintro i ⟨hi, hI⟩
  repeat' first
    | with_reducible first | apply Zar | apply Zan | apply Zaa | apply Zad | apply Zah | apply Zao | apply Zag | apply Zaj | apply Zaq | apply Zas | apply Zap | apply Zal | apply Zac | apply Zak
    | ((with_reducible refine Zai ?_ ?_); exact rfl) | ((with_reducible refine Zat ?_); refine Zam rfl ?_ ?_ <;> intro hb <;> (try simp only [zH] at hb)) | ((with_reducible refine Zau 5 ?_ ?_); (· exact rfl); (with_reducible refine Zau 12 ?_ ?_); (· exact rfl); (first | refine Zaf htb hmz Zb9 fF rfl rfl ?_ | refine Zae hmo htb hmz Zb9 fF rfl rfl (by kernel_rfl) ?_); intro _ _ _ _ h; simp only [zE, evp, evx, ev1, evLoad, evStore, evBin, evIf, Zab, forall_const, z38, tb, reduceAdd, reduceSub, reduceMul, reduceEqDiff, reduceLeDiff, reduceLT, Nat.reduceBEq, Nat.reduceBNe, ↓reduceIte, reduceIte, spLe, nvS, joiS, onS] at h; obtain ⟨rfl, rfl, rfl, rfl⟩ := h; refine ⟨?_, ?_⟩) | ((with_reducible refine Ob.mk ?_); first | exact trivial | (intros; omega) | ((repeat' first | apply And.intro | (intro a; have b := a; try simp only [zH] at b)) <;> first | assumption | omega | (simp only [zH]; omega)))
  · have hil : i < o.length := by omega
    obtain ⟨q, hq⟩ : ∃ q, w.getD i 0 = q := ⟨_, rfl⟩
    rw [hq]
    have hrw := hnvq q i hil
    have hmem : ∀ u : Nat, u ∈ nxVn ⟨o, p, x⟩ w c q i ↔ ∃ j, j < (nvF o w c x q i).length ∧ ((nvF o w c x q i).getD j 0).toNat = u := fun u => by
      constructor
      · intro h
        obtain ⟨z, hz, rfl⟩ := List.mem_map.1 h
        have hz : z ∈ nvF o w c x q i := hz
        obtain ⟨j, hj, e⟩ := Zgm hz
        exact ⟨j, hj, by rw [e]⟩
      · rintro ⟨j, hj, rfl⟩
        refine List.mem_map.2 ⟨_, ?_, rfl⟩
        rw [List.getD_eq_getElem?_getD, List.getElem?_eq_getElem hj]
        exact List.getElem_mem _
    generalize nvF o w c x q i = rw at *
    refine Za6 (τ := Nat) (fun j => j ≤ rw.length ∧ ∀ j', j' < j → w.getD (rw.getD j' 0).toNat 0 = q) (fun j => ⟨19, [(22, .int .i64 j), (21, .int .i64 rw.length), (20, .roI rw), (4, .int .i64 q), (3, .int .i64 i), (12, .int .i64 i), (11, .int .i64 w.length), (10, .roI w), (2, .cst .nilIface), (1, .rop (.agg (.cons (.roI o) (.cons (.roI p) (.cons (.roII x) (.cons (.roI w) (.cons (.roI c) .nil)))))))], [], []⟩) (fun j => rw.length - j) 0 [] ?_ ⟨Nat.zero_le _, fun j' h => absurd h (Nat.not_lt_zero j')⟩ ?_
    · (refine ⟨rfl, ?_, ?_⟩ <;> simp only [zE, evp, evx, ev1, evLoad, evStore, evBin, evIf, Zab, forall_const, z38, tb, reduceAdd, reduceSub, reduceMul, reduceEqDiff, reduceLeDiff, reduceLT, Nat.reduceBEq, Nat.reduceBNe, ↓reduceIte, reduceIte, spLe, nvS, joiS, onS, zI])
    rintro j ⟨hj, hJ⟩
    repeat' first
      | with_reducible first | apply Zar | apply Zan | apply Zaa | apply Zad | apply Zah | apply Zao | apply Zag | apply Zaj | apply Zaq | apply Zas | apply Zap | apply Zal | apply Zac | apply Zak
      | ((with_reducible refine Zai ?_ ?_); exact rfl) | ((with_reducible refine Zat ?_); refine Zam rfl ?_ ?_ <;> intro hb <;> (try simp only [zH] at hb)) | ((with_reducible refine Zau 6 ?_ ?_); (· exact rfl); (with_reducible refine Zau 12 ?_ ?_); (· exact rfl); (first | refine Zaf htb hmz Zb9 fF rfl rfl ?_ | refine Zae hmo htb hmz Zb9 fF rfl rfl (by kernel_rfl) ?_); intro _ _ _ _ h; simp only [zE, evp, evx, ev1, evLoad, evStore, evBin, evIf, Zab, forall_const, z38, tb, reduceAdd, reduceSub, reduceMul, reduceEqDiff, reduceLeDiff, reduceLT, Nat.reduceBEq, Nat.reduceBNe, ↓reduceIte, reduceIte, spLe, nvS, joiS, onS] at h; obtain ⟨rfl, rfl, rfl, rfl⟩ := h; refine ⟨?_, ?_⟩) | ((with_reducible refine Ob.mk ?_); first | exact trivial | (intros; omega) | ((repeat' first | apply And.intro | (intro a; have b := a; try simp only [zH] at b)) <;> first | assumption | omega | (simp only [zH]; omega)))
    · have hjl : j < rw.length := by omega
      obtain ⟨b1, b2⟩ := hrw.2.2 j hjl
      obtain ⟨u, hu⟩ := Int.eq_ofNat_of_zero_le b1
      have hun : u < o.length := by omega
      have hum : u ∈ nxVn ⟨o, p, x⟩ w c q i := (hmem u).2 ⟨j, hjl, by rw [hu]; rfl⟩
      repeat' first
        | with_reducible first | apply Zar | apply Zan | apply Zaa | apply Zad | apply Zah | apply Zao | apply Zag | apply Zaj | apply Zaq | apply Zas | apply Zap | apply Zal | apply Zac | apply Zak
        | ((with_reducible refine Zai ?_ ?_); exact rfl) | ((with_reducible refine Zat ?_); refine Zam rfl ?_ ?_ <;> intro hb <;> (try simp only [zH] at hb)) | ((with_reducible refine Zau 7 ?_ ?_); (· exact rfl); (first | refine Zaf htb hmz Zb9 fF rfl rfl ?_ | refine Zae hmo htb hmz Zb9 fF rfl rfl (by kernel_rfl) ?_); intro _ _ _ _ h; simp only [zE, evp, evx, ev1, evLoad, evStore, evBin, evIf, Zab, forall_const, z38, tb, reduceAdd, reduceSub, reduceMul, reduceEqDiff, reduceLeDiff, reduceLT, Nat.reduceBEq, Nat.reduceBNe, ↓reduceIte, reduceIte, spLe, nvS, joiS, onS] at h; obtain ⟨rfl, rfl, rfl, rfl⟩ := h; refine ⟨?_, ?_⟩) | ((with_reducible refine Ob.mk ?_); first | exact trivial | (intros; omega) | ((repeat' first | apply And.intro | (intro a; have b := a; try simp only [zH] at b)) <;> first | assumption | omega | (simp only [zH]; omega)))
      rw [hu]
      repeat' first
        | with_reducible first | apply Zar | apply Zan | apply Zaa | apply Zad | apply Zah | apply Zao | apply Zag | apply Zaj | apply Zaq | apply Zas | apply Zap | apply Zal | apply Zac | apply Zak
        | ((with_reducible refine Zai ?_ ?_); exact rfl) | ((with_reducible refine Zat ?_); refine Zam rfl ?_ ?_ <;> intro hb <;> (try simp only [zH] at hb)) | ((with_reducible refine Zau 8 ?_ ?_); (· exact rfl); (with_reducible refine Zau 10 ?_ ?_); (· exact rfl); (first | refine Zaf htb hmz Zb9 fF rfl rfl ?_ | refine Zae hmo htb hmz Zb9 fF rfl rfl (by kernel_rfl) ?_); intro _ _ _ _ h; simp only [zE, evp, evx, ev1, evLoad, evStore, evBin, evIf, Zab, forall_const, z38, tb, reduceAdd, reduceSub, reduceMul, reduceEqDiff, reduceLeDiff, reduceLT, Nat.reduceBEq, Nat.reduceBNe, ↓reduceIte, reduceIte, spLe, nvS, joiS, onS] at h; obtain ⟨rfl, rfl, rfl, rfl⟩ := h; refine ⟨?_, ?_⟩) | ((with_reducible refine Ob.mk ?_); first | exact trivial | (intros; omega) | ((repeat' first | apply And.intro | (intro a; have b := a; try simp only [zH] at b)) <;> first | assumption | omega | (simp only [zH]; omega)))
      · have hcp := on_cp hv hc hil (by rw [hq]; exact hum) hun (by rw [hq]; omega)
        rw [hq] at hcp
        repeat' first
          | with_reducible first | apply Zar | apply Zan | apply Zaa | apply Zad | apply Zah | apply Zao | apply Zag | apply Zaj | apply Zaq | apply Zas | apply Zap | apply Zal | apply Zac | apply Zak
          | ((with_reducible refine Zai ?_ ?_); exact rfl) | ((with_reducible refine Zat ?_); refine Zam rfl ?_ ?_ <;> intro hb <;> (try simp only [zH] at hb)) | ((with_reducible refine Zau 9 ?_ ?_); (· exact rfl); (first | refine Zaf htb hmz Zb9 fF rfl rfl ?_ | refine Zae hmo htb hmz Zb9 fF rfl rfl (by kernel_rfl) ?_); intro _ _ _ _ h; simp only [zE, evp, evx, ev1, evLoad, evStore, evBin, evIf, Zab, forall_const, z38, tb, reduceAdd, reduceSub, reduceMul, reduceEqDiff, reduceLeDiff, reduceLT, Nat.reduceBEq, Nat.reduceBNe, ↓reduceIte, reduceIte, spLe, nvS, joiS, onS] at h; obtain ⟨rfl, rfl, rfl, rfl⟩ := h; refine ⟨?_, ?_⟩) | ((with_reducible refine Ob.mk ?_); first | exact trivial | (intros; omega) | ((repeat' first | apply And.intro | (intro a; have b := a; try simp only [zH] at b)) <;> first | assumption | omega | (simp only [zH]; omega)))
        · refine Ob.mk ?_
          exact ⟨⟨by omega, by omega⟩, hxl, hwl, hcl, hn, fun z hz => ⟨(hnvq q z hz).2.1, (hnvq q z hz).2.2 0 (hnvq q z hz).2.1⟩⟩
        have hcl2 : [[(i : Int)], onS1 (onN o w c x q) u].flatten.length ≤ 100000 := by
          have := hcp.len
          simp only [List.length_cons] at this
          simp only [List.flatten_cons, List.flatten_nil, List.append_nil, List.length_append, List.length_cons, List.length_nil]
          have hn2 : (Gm.mk o p x).own.length = o.length := rfl
          omega
        (refine Zae hmo htb hmz Zb9 fF rfl rfl (by kernel_rfl) ?_; intro _ _ _ _ h; simp only [zE, evp, evx, ev1, evLoad, evStore, evBin, evIf, Zab, forall_const, z38, tb, reduceAdd, reduceSub, reduceMul, reduceEqDiff, reduceLeDiff, reduceLT, Nat.reduceBEq, Nat.reduceBNe, ↓reduceIte, reduceIte, spLe, nvS, joiS, onS] at h; obtain ⟨rfl, rfl, rfl, rfl⟩ := h; refine ⟨?_, ?_⟩)
        · exact Ob.mk hcl2
        refine Zaa ?_
        have hfl : [[(i : Int)], onS1 (onN o w c x q) u].flatten = (i : Int) :: onS1 (onN o w c x q) u := by simp
        rw [hfl]
        repeat' first
          | with_reducible first | apply Zar | apply Zan | apply Zaa | apply Zad | apply Zah | apply Zao | apply Zag | apply Zaj | apply Zaq | apply Zas | apply Zap | apply Zal | apply Zac | apply Zak
          | ((with_reducible refine Zai ?_ ?_); exact rfl) | ((with_reducible refine Zat ?_); refine Zam rfl ?_ ?_ <;> intro hb <;> (try simp only [zH] at hb)) | ((with_reducible refine Za3 ?_); (first | refine Zaf htb hmz Zb9 fF rfl rfl ?_ | refine Zae hmo htb hmz Zb9 fF rfl rfl (by kernel_rfl) ?_); intro _ _ _ _ h; simp only [zE, evp, evx, ev1, evLoad, evStore, evBin, evIf, Zab, forall_const, z38, tb, reduceAdd, reduceSub, reduceMul, reduceEqDiff, reduceLeDiff, reduceLT, Nat.reduceBEq, Nat.reduceBNe, ↓reduceIte, reduceIte, spLe, nvS, joiS, onS] at h; obtain ⟨rfl, rfl, rfl, rfl⟩ := h; refine ⟨?_, ?_⟩) | ((with_reducible refine Ob.mk ?_); first | exact trivial | (intros; omega) | ((repeat' first | apply And.intro | (intro a; have b := a; try simp only [zH] at b)) <;> first | assumption | omega | (simp only [zH]; omega)))
        refine Zaz rfl rfl (Zdc ⟨1, .own 0, [(0, some (errA ((i : Int) :: onS1 (onN o w c x q) u) (onL1 (onN o w c x q) u)))]⟩ [(0, 47)] (.inr ⟨_, _, hcp, rfl⟩) rfl (Zbz rfl) ?_)
        simp only [grR, errA, zE, evp, evx, ev1, evLoad, evStore, evBin, evIf, Zab, forall_const, z38, tb, reduceAdd, reduceSub, reduceMul, reduceEqDiff, reduceLeDiff, reduceLT, Nat.reduceBEq, Nat.reduceBNe, ↓reduceIte, reduceIte, spLe, nvS, joiS, onS]
        intro k hk
        rw [List.mem_singleton.1 hk]; rfl
      · have hWq : w.getD (u : Int).toNat 0 = q := hb
        repeat' first
          | with_reducible first | apply Zar | apply Zan | apply Zaa | apply Zad | apply Zah | apply Zao | apply Zag | apply Zaj | apply Zaq | apply Zas | apply Zap | apply Zal | apply Zac | apply Zak
          | ((with_reducible refine Zai ?_ ?_); exact rfl) | ((with_reducible refine Zat ?_); refine Zam rfl ?_ ?_ <;> intro hb <;> (try simp only [zH] at hb)) | ((with_reducible refine Za3 ?_); (first | refine Zaf htb hmz Zb9 fF rfl rfl ?_ | refine Zae hmo htb hmz Zb9 fF rfl rfl (by kernel_rfl) ?_); intro _ _ _ _ h; simp only [zE, evp, evx, ev1, evLoad, evStore, evBin, evIf, Zab, forall_const, z38, tb, reduceAdd, reduceSub, reduceMul, reduceEqDiff, reduceLeDiff, reduceLT, Nat.reduceBEq, Nat.reduceBNe, ↓reduceIte, reduceIte, spLe, nvS, joiS, onS] at h; obtain ⟨rfl, rfl, rfl, rfl⟩ := h; refine ⟨?_, ?_⟩) | ((with_reducible refine Ob.mk ?_); first | exact trivial | (intros; omega) | ((repeat' first | apply And.intro | (intro a; have b := a; try simp only [zH] at b)) <;> first | assumption | omega | (simp only [zH]; omega)))
        refine back (j + 1) [] ?_ ⟨by omega, fun j' hj' => ?_⟩ (by omega)
        · (refine ⟨rfl, ?_, ?_⟩ <;> simp only [zE, evp, evx, ev1, evLoad, evStore, evBin, evIf, Zab, forall_const, z38, tb, reduceAdd, reduceSub, reduceMul, reduceEqDiff, reduceLeDiff, reduceLT, Nat.reduceBEq, Nat.reduceBNe, ↓reduceIte, reduceIte, spLe, nvS, joiS, onS, zI])
        · rcases Nat.lt_succ_iff_lt_or_eq.1 hj' with h | rfl
          · exact hJ j' h
          · rw [hu]
            exact hWq
    have hje : j = rw.length := by omega
    subst hje
    refine back (i + 1) [] ?_ ⟨by omega, fun v hv' u hu => ?_⟩ (by omega)
    · (refine ⟨rfl, ?_, ?_⟩ <;> simp only [zE, evp, evx, ev1, evLoad, evStore, evBin, evIf, Zab, forall_const, z38, tb, reduceAdd, reduceSub, reduceMul, reduceEqDiff, reduceLeDiff, reduceLT, Nat.reduceBEq, Nat.reduceBNe, ↓reduceIte, reduceIte, spLe, nvS, joiS, onS, zI])
    · rcases Nat.lt_succ_iff_lt_or_eq.1 hv' with h | rfl
      · exact hI v h u hu
      · rw [hq] at hu ⊢
        obtain ⟨j', hj', rfl⟩ := (hmem u).1 hu
        exact hJ j' hj'
  · have hie : i = o.length := by omega
    subst hie
    repeat' first
      | with_reducible first | apply Zar | apply Zan | apply Zaa | apply Zad | apply Zah | apply Zao | apply Zag | apply Zaj | apply Zaq | apply Zas | apply Zap | apply Zal | apply Zac | apply Zak
      | ((with_reducible refine Zai ?_ ?_); exact rfl) | ((with_reducible refine Zat ?_); refine Zam rfl ?_ ?_ <;> intro hb <;> (try simp only [zH] at hb)) | ((with_reducible refine Za3 ?_); (first | refine Zaf htb hmz Zb9 fF rfl rfl ?_ | refine Zae hmo htb hmz Zb9 fF rfl rfl (by kernel_rfl) ?_); intro _ _ _ _ h; simp only [zE, evp, evx, ev1, evLoad, evStore, evBin, evIf, Zab, forall_const, z38, tb, reduceAdd, reduceSub, reduceMul, reduceEqDiff, reduceLeDiff, reduceLT, Nat.reduceBEq, Nat.reduceBNe, ↓reduceIte, reduceIte, spLe, nvS, joiS, onS] at h; obtain ⟨rfl, rfl, rfl, rfl⟩ := h; refine ⟨?_, ?_⟩) | ((with_reducible refine Ob.mk ?_); first | exact trivial | (intros; omega) | ((repeat' first | apply And.intro | (intro a; have b := a; try simp only [zH] at b)) <;> first | assumption | omega | (simp only [zH]; omega)))
    refine Zaz rfl rfl (Zdc ⟨0, .cst .nilIface, []⟩ [] (.inl ⟨hI, rfl⟩) rfl (Zbz rfl) trivial)
def errB (l : List Int) : Blk := .sem [0] (ifA 65 (.agg (.cons (.cst (.slice none 0 0)) (.cons (.roI l) .nil))))
theorem und22 : Tryd.prog.underlying 22 = some (.slice 3) := by kernel_rfl
set_option maxRecDepth 4000 in
set_option maxHeartbeats 4000000 in
theorem lost_fg {o p w c : List Int} {x : List (List Int)} (hv : Zbh ⟨o, p, x⟩ = true) (hc : Zb0 ⟨o, p, x⟩ w c = true) :
    FG Tryd.prog 53 [.agg (.cons (.roI o) (.cons (.roI p) (.cons (.roII x) (.cons (.roI w) (.cons (.roI c) .nil)))))] [] 0 fun g => ((∀ v, v < o.length → p.getD v 0 % 2 ≠ w.getD v 0 → ¬ Cyc (fun a b => b ∈ nxVn ⟨o, p, x⟩ w c (w.getD v 0) a) (fun v => p.getD v 0) v) ∧ g = ⟨0, .cst .nilIface, []⟩) ∨ ∃ l, CpOK ⟨o, p, x⟩ w c [] l ∧ g = ⟨1, .own 0, [(0, some (errB l))]⟩ := by
  refine Zho htb (fn := Tryd.f53) (by kernel_rfl) (by kernel_rfl) rfl (Nat.le_of_ble_eq_true rfl) fun hl => ?_
  simp only [lenP, mkL, lim] at hl
  have hG := gok (validB_iff.1 hv)
  obtain ⟨hwl, hcl, hcc⟩ := of_decide_eq_true hc
  have hpl : p.length = o.length := hG.pl
  have hxl : x.length = o.length := hG.xl
  have hn : o.length ≤ 20000 := hG.n
  have hwl : w.length = o.length := hwl
  have hcl : c.length = o.length := hcl
  clear hcc
  have hpr : ∀ v, v < o.length → 0 ≤ p.getD v 0 := fun v h => (hG.pri v h).1
  repeat' first
    | with_reducible first | apply Zar | apply Zan | apply Zaa | apply Zad | apply Zah | apply Zao | apply Zag | apply Zaj | apply Zaq | apply Zas | apply Zap | apply Zal | apply Zac | apply Zak
    | ((with_reducible refine Zai ?_ ?_); exact rfl) | ((with_reducible refine Zat ?_); refine Zam rfl ?_ ?_ <;> intro hb <;> (try simp only [zH] at hb)) | ((with_reducible refine Za3 ?_); (first | refine Zaf htb hmz noSp fF rfl rfl ?_ | refine Zae hmo htb hmz noSp fF rfl rfl (by kernel_rfl) ?_); intro _ _ _ _ h; simp only [zE, evp, evx, ev1, evLoad, evStore, evBin, evIf, Zab, forall_const, z38, tb, reduceAdd, reduceSub, reduceMul, reduceEqDiff, reduceLeDiff, reduceLT, Nat.reduceBEq, Nat.reduceBNe, ↓reduceIte, reduceIte] at h; obtain ⟨rfl, rfl, rfl, rfl⟩ := h; refine ⟨?_, ?_⟩) | ((with_reducible refine Ob.mk ?_); first | exact trivial | (intros; omega) | ((repeat' first | apply And.intro | (intro a; have b := a; try simp only [zH] at b)) <;> first | assumption | omega | (simp only [zH]; omega)))
  refine Za6 (τ := Nat) (fun i => i ≤ o.length ∧ ∀ v, v < i → p.getD v 0 % 2 ≠ w.getD v 0 → ¬ Cyc (fun a b => b ∈ nxVn ⟨o, p, x⟩ w c (w.getD v 0) a) (fun v => p.getD v 0) v) (fun i => ⟨7, [(10, .int .i64 i), (9, .int .i64 w.length), (8, .roI w), (2, .cst .nilIface), (1, .rop (.agg (.cons (.roI o) (.cons (.roI p) (.cons (.roII x) (.cons (.roI w) (.cons (.roI c) .nil)))))))], [], []⟩) (fun i => o.length - i) 0 [] ?_ ⟨Nat.zero_le _, fun v h => absurd h (Nat.not_lt_zero v)⟩ ?_
  · (refine ⟨rfl, ?_, ?_⟩ <;> simp only [zE, evp, evx, ev1, evLoad, evStore, evBin, evIf, Zab, forall_const, z38, tb, reduceAdd, reduceSub, reduceMul, reduceEqDiff, reduceLeDiff, reduceLT, Nat.reduceBEq, Nat.reduceBNe, ↓reduceIte, reduceIte, zI])
  rintro i ⟨hi, hI⟩
  have hpi := hpr i
  repeat' first
    | with_reducible first | apply Zar | apply Zan | apply Zaa | apply Zad | apply Zah | apply Zao | apply Zag | apply Zaj | apply Zaq | apply Zas | apply Zap | apply Zal | apply Zac | apply Zak
    | ((with_reducible refine Zai ?_ ?_); exact rfl) | ((with_reducible refine Zat ?_); refine Zam rfl ?_ ?_ <;> intro hb <;> (try simp only [zH] at hb)) | ((with_reducible refine Zau 5 ?_ ?_); (· exact rfl); (with_reducible refine Zau 9 ?_ ?_); (· exact rfl); (first | refine Zaf htb hmz noSp fF rfl rfl ?_ | refine Zae hmo htb hmz noSp fF rfl rfl (by kernel_rfl) ?_); intro _ _ _ _ h; simp only [zE, evp, evx, ev1, evLoad, evStore, evBin, evIf, Zab, forall_const, z38, tb, reduceAdd, reduceSub, reduceMul, reduceEqDiff, reduceLeDiff, reduceLT, Nat.reduceBEq, Nat.reduceBNe, ↓reduceIte, reduceIte] at h; obtain ⟨rfl, rfl, rfl, rfl⟩ := h; refine ⟨?_, ?_⟩) | ((with_reducible refine Ob.mk ?_); first | exact trivial | (intros; omega) | ((repeat' first | apply And.intro | (intro a; have b := a; try simp only [zH] at b)) <;> first | assumption | omega | (simp only [zH]; omega)))
  · refine back (i + 1) [] ?_ ⟨by omega, fun v hv' => ?_⟩ (by omega)
    · (refine ⟨rfl, ?_, ?_⟩ <;> simp only [zE, evp, evx, ev1, evLoad, evStore, evBin, evIf, Zab, forall_const, z38, tb, reduceAdd, reduceSub, reduceMul, reduceEqDiff, reduceLeDiff, reduceLT, Nat.reduceBEq, Nat.reduceBNe, ↓reduceIte, reduceIte, zI])
    · rcases Nat.lt_succ_iff_lt_or_eq.1 hv' with h | rfl
      · exact hI v h
      · exact fun h => absurd hb h
  · have hil : i < o.length := by omega
    have hbi := hb
    have hnv := Zfq hv hc (w.getD i 0)
    refine Zeb ([_, _]) ([_]) rfl rfl ?_
    refine Zbb htb hmz noSp fF rfl rfl rfl ?_; intro _ _ _ _ h; simp only [zE, evp, evx, ev1, evLoad, evStore, evBin, evIf, Zab, forall_const, z38, tb, reduceAdd, reduceSub, reduceMul, reduceEqDiff, reduceLeDiff, reduceLT, Nat.reduceBEq, Nat.reduceBNe, ↓reduceIte, reduceIte] at h; obtain ⟨rfl, rfl, rfl, rfl⟩ := h; refine ⟨?_, Zaa ?_⟩
    · first | ((with_reducible refine Ob.mk ?_); first | exact trivial | (intros; omega) | ((repeat' first | apply And.intro | (intro a; have b := a; try simp only [zH] at b)) <;> first | assumption | omega | (simp only [zH]; omega))) | skip
    refine Zbp ([]) (loop_fg hn hpl hxl hwl hcl hil fun u hu => ⟨(hnv u hu).1, (hnv u hu).2.2⟩) rfl rfl rfl rfl rfl rfl rfl rfl rfl (by simp only [rinR, rhoC, zE, evp, evx, ev1, evLoad, evStore, evBin, evIf, Zab, forall_const, z38, tb, reduceAdd, reduceSub, reduceMul, reduceEqDiff, reduceLeDiff, reduceLT, Nat.reduceBEq, Nat.reduceBNe, ↓reduceIte, reduceIte]) ?_; intro gm gv gr hq m' e' l' h
    rcases hq with ⟨hno, hq⟩ | ⟨L, hL, hq⟩
    · simp only [GR.mk.injEq] at hq; obtain ⟨rfl, rfl, rfl⟩ := hq; simp only [rhoC, outR, renR, dels, zE, evp, evx, ev1, evLoad, evStore, evBin, evIf, Zab, forall_const, z38, tb, reduceAdd, reduceSub, reduceMul, reduceEqDiff, reduceLeDiff, reduceLT, Nat.reduceBEq, Nat.reduceBNe, ↓reduceIte, reduceIte] at h; obtain ⟨rfl, rfl, rfl⟩ := h; refine Zaa ?_
      refine Zbb htb hmz noSp fF rfl rfl rfl ?_; intro _ _ _ _ h; simp only [zE, evp, evx, ev1, evLoad, evStore, evBin, evIf, Zab, forall_const, z38, tb, reduceAdd, reduceSub, reduceMul, reduceEqDiff, reduceLeDiff, reduceLT, Nat.reduceBEq, Nat.reduceBNe, ↓reduceIte, reduceIte] at h; obtain ⟨rfl, rfl, rfl, rfl⟩ := h; refine ⟨?_, ?_⟩
      · first | ((with_reducible refine Ob.mk ?_); first | exact trivial | (intros; omega) | ((repeat' first | apply And.intro | (intro a; have b := a; try simp only [zH] at b)) <;> first | assumption | omega | (simp only [zH]; omega))) | skip
      refine Zaa ?_
      repeat' first
        | with_reducible first | apply Zar | apply Zan | apply Zaa | apply Zad | apply Zah | apply Zao | apply Zag | apply Zaj | apply Zaq | apply Zas | apply Zap | apply Zal | apply Zac | apply Zak
        | ((with_reducible refine Zai ?_ ?_); exact rfl) | ((with_reducible refine Zat ?_); refine Zam rfl ?_ ?_ <;> intro hb <;> (try simp only [zH] at hb)) | ((with_reducible refine Zau 6 ?_ ?_); (· exact rfl); (first | refine Zaf htb hmz noSp fF rfl rfl ?_ | refine Zae hmo htb hmz noSp fF rfl rfl (by kernel_rfl) ?_); intro _ _ _ _ h; simp only [zE, evp, evx, ev1, evLoad, evStore, evBin, evIf, Zab, forall_const, z38, tb, reduceAdd, reduceSub, reduceMul, reduceEqDiff, reduceLeDiff, reduceLT, Nat.reduceBEq, Nat.reduceBNe, ↓reduceIte, reduceIte] at h; obtain ⟨rfl, rfl, rfl, rfl⟩ := h; refine ⟨?_, ?_⟩) | ((with_reducible refine Ob.mk ?_); first | exact trivial | (intros; omega) | ((repeat' first | apply And.intro | (intro a; have b := a; try simp only [zH] at b)) <;> first | assumption | omega | (simp only [zH]; omega)))
      refine Zeb ([_]) ([]) rfl rfl ?_
      refine Zbb htb hmz noSp fF rfl rfl rfl ?_; intro _ _ _ _ h; simp only [zE, evp, evx, ev1, evLoad, evStore, evBin, evIf, Zab, forall_const, z38, tb, reduceAdd, reduceSub, reduceMul, reduceEqDiff, reduceLeDiff, reduceLT, Nat.reduceBEq, Nat.reduceBNe, ↓reduceIte, reduceIte] at h; obtain ⟨rfl, rfl, rfl, rfl⟩ := h; refine ⟨?_, Zaa ?_⟩
      · first | ((with_reducible refine Ob.mk ?_); first | exact trivial | (intros; omega) | ((repeat' first | apply And.intro | (intro a; have b := a; try simp only [zH] at b)) <;> first | assumption | omega | (simp only [zH]; omega))) | skip
      refine Zcg (opsem_neqnil0 rfl und22 rfl rfl) rfl rfl (fun c h => by cases h) Za5 (.inl rfl) rfl ?_
      refine Zcl ?_
      refine Zaa ?_
      refine Zcl ?_
      refine Zaa ?_
      dsimp only [putE, setW, reduceAdd]
      repeat' first
        | with_reducible first | apply Zar | apply Zan | apply Zaa | apply Zad | apply Zah | apply Zao | apply Zag | apply Zaj | apply Zaq | apply Zas | apply Zap | apply Zal | apply Zac | apply Zak
        | ((with_reducible refine Zai ?_ ?_); exact rfl) | ((with_reducible refine Zat ?_); refine Zam rfl ?_ ?_ <;> intro hb <;> (try simp only [zH] at hb)) | ((with_reducible refine Za3 ?_); (first | refine Zaf htb hmz noSp fF rfl rfl ?_ | refine Zae hmo htb hmz noSp fF rfl rfl (by kernel_rfl) ?_); intro _ _ _ _ h; simp only [zE, evp, evx, ev1, evLoad, evStore, evBin, evIf, Zab, forall_const, z38, tb, reduceAdd, reduceSub, reduceMul, reduceEqDiff, reduceLeDiff, reduceLT, Nat.reduceBEq, Nat.reduceBNe, ↓reduceIte, reduceIte] at h; obtain ⟨rfl, rfl, rfl, rfl⟩ := h; refine ⟨?_, ?_⟩) | ((with_reducible refine Ob.mk ?_); first | exact trivial | (intros; omega) | ((repeat' first | apply And.intro | (intro a; have b := a; try simp only [zH] at b)) <;> first | assumption | omega | (simp only [zH]; omega)))
      · cases hb
      · refine back (i + 1) [] ?_ ⟨by omega, fun v hv' => ?_⟩ (by omega)
        · (refine ⟨rfl, ?_, ?_⟩ <;> simp only [zE, evp, evx, ev1, evLoad, evStore, evBin, evIf, Zab, forall_const, z38, tb, reduceAdd, reduceSub, reduceMul, reduceEqDiff, reduceLeDiff, reduceLT, Nat.reduceBEq, Nat.reduceBNe, ↓reduceIte, reduceIte, zI])
        · rcases Nat.lt_succ_iff_lt_or_eq.1 hv' with h | rfl
          · exact hI v h
          · exact fun _ => hno
    · simp only [GR.mk.injEq] at hq; obtain ⟨rfl, rfl, rfl⟩ := hq; simp only [rhoC, outR, renR, dels, zE, evp, evx, ev1, evLoad, evStore, evBin, evIf, Zab, forall_const, z38, tb, reduceAdd, reduceSub, reduceMul, reduceEqDiff, reduceLeDiff, reduceLT, Nat.reduceBEq, Nat.reduceBNe, ↓reduceIte, reduceIte] at h; obtain ⟨rfl, rfl, rfl⟩ := h; refine Zaa ?_
      refine Zbb htb hmz noSp fF rfl rfl rfl ?_; intro _ _ _ _ h; simp only [zE, evp, evx, ev1, evLoad, evStore, evBin, evIf, Zab, forall_const, z38, tb, reduceAdd, reduceSub, reduceMul, reduceEqDiff, reduceLeDiff, reduceLT, Nat.reduceBEq, Nat.reduceBNe, ↓reduceIte, reduceIte] at h; obtain ⟨rfl, rfl, rfl, rfl⟩ := h; refine ⟨?_, ?_⟩
      · first | ((with_reducible refine Ob.mk ?_); first | exact trivial | (intros; omega) | ((repeat' first | apply And.intro | (intro a; have b := a; try simp only [zH] at b)) <;> first | assumption | omega | (simp only [zH]; omega))) | skip
      refine Zaa ?_
      repeat' first
        | with_reducible first | apply Zar | apply Zan | apply Zaa | apply Zad | apply Zah | apply Zao | apply Zag | apply Zaj | apply Zaq | apply Zas | apply Zap | apply Zal | apply Zac | apply Zak
        | ((with_reducible refine Zai ?_ ?_); exact rfl) | ((with_reducible refine Zat ?_); refine Zam rfl ?_ ?_ <;> intro hb <;> (try simp only [zH] at hb)) | ((with_reducible refine Zau 6 ?_ ?_); (· exact rfl); (first | refine Zaf htb hmz noSp fF rfl rfl ?_ | refine Zae hmo htb hmz noSp fF rfl rfl (by kernel_rfl) ?_); intro _ _ _ _ h; simp only [zE, evp, evx, ev1, evLoad, evStore, evBin, evIf, Zab, forall_const, z38, tb, reduceAdd, reduceSub, reduceMul, reduceEqDiff, reduceLeDiff, reduceLT, Nat.reduceBEq, Nat.reduceBNe, ↓reduceIte, reduceIte] at h; obtain ⟨rfl, rfl, rfl, rfl⟩ := h; refine ⟨?_, ?_⟩) | ((with_reducible refine Ob.mk ?_); first | exact trivial | (intros; omega) | ((repeat' first | apply And.intro | (intro a; have b := a; try simp only [zH] at b)) <;> first | assumption | omega | (simp only [zH]; omega)))
      refine Zeb ([_]) ([]) rfl rfl ?_
      refine Zbb htb hmz noSp fF rfl rfl rfl ?_; intro _ _ _ _ h; simp only [zE, evp, evx, ev1, evLoad, evStore, evBin, evIf, Zab, forall_const, z38, tb, reduceAdd, reduceSub, reduceMul, reduceEqDiff, reduceLeDiff, reduceLT, Nat.reduceBEq, Nat.reduceBNe, ↓reduceIte, reduceIte] at h; obtain ⟨rfl, rfl, rfl, rfl⟩ := h; refine ⟨?_, Zaa ?_⟩
      · first | ((with_reducible refine Ob.mk ?_); first | exact trivial | (intros; omega) | ((repeat' first | apply And.intro | (intro a; have b := a; try simp only [zH] at b)) <;> first | assumption | omega | (simp only [zH]; omega))) | skip
      have hll : 0 < (Zbg L).length := by
        obtain ⟨r, rfl⟩ := hL.1
        simp [Zbg]
      refine Zcg (opsem_neqnil rfl und22 rfl hll rfl) rfl rfl (fun c h => by cases h) Za5 (.inl rfl) rfl ?_
      refine Zcl ?_
      refine Zaa ?_
      refine Zcl ?_
      refine Zaa ?_
      dsimp only [putE, setW, reduceAdd]
      repeat' first
        | with_reducible first | apply Zar | apply Zan | apply Zaa | apply Zad | apply Zah | apply Zao | apply Zag | apply Zaj | apply Zaq | apply Zas | apply Zap | apply Zal | apply Zac | apply Zak
        | ((with_reducible refine Zai ?_ ?_); exact rfl) | ((with_reducible refine Zat ?_); refine Zam rfl ?_ ?_ <;> intro hb <;> (try simp only [zH] at hb)) | ((with_reducible refine Za3 ?_); (first | refine Zaf htb hmz noSp fF rfl rfl ?_ | refine Zae hmo htb hmz noSp fF rfl rfl (by kernel_rfl) ?_); intro _ _ _ _ h; simp only [zE, evp, evx, ev1, evLoad, evStore, evBin, evIf, Zab, forall_const, z38, tb, reduceAdd, reduceSub, reduceMul, reduceEqDiff, reduceLeDiff, reduceLT, Nat.reduceBEq, Nat.reduceBNe, ↓reduceIte, reduceIte] at h; obtain ⟨rfl, rfl, rfl, rfl⟩ := h; refine ⟨?_, ?_⟩) | ((with_reducible refine Ob.mk ?_); first | exact trivial | (intros; omega) | ((repeat' first | apply And.intro | (intro a; have b := a; try simp only [zH] at b)) <;> first | assumption | omega | (simp only [zH]; omega)))
      · have hcp := lost_cp hv hc hil hL.1 hL.2.1 hL.2.2.1 hL.2.2.2.1 hL.2.2.2.2 hbi
        refine Zaz rfl rfl (Zdc ⟨1, .own 0, [(0, some (errB (Zbg L)))]⟩ [(0, 30)] (.inr ⟨_, hcp, rfl⟩) rfl (Zbz rfl) ?_)
        simp only [grR, errB, zE, evp, evx, ev1, evLoad, evStore, evBin, evIf, Zab, forall_const, z38, tb, reduceAdd, reduceSub, reduceMul, reduceEqDiff, reduceLeDiff, reduceLT, Nat.reduceBEq, Nat.reduceBNe, ↓reduceIte, reduceIte]
        intro k hk
        rw [List.mem_singleton.1 hk]; rfl
      · cases hb
  · have hie : i = o.length := by omega
    subst hie
    repeat' first
      | with_reducible first | apply Zar | apply Zan | apply Zaa | apply Zad | apply Zah | apply Zao | apply Zag | apply Zaj | apply Zaq | apply Zas | apply Zap | apply Zal | apply Zac | apply Zak
      | ((with_reducible refine Zai ?_ ?_); exact rfl) | ((with_reducible refine Zat ?_); refine Zam rfl ?_ ?_ <;> intro hb <;> (try simp only [zH] at hb)) | ((with_reducible refine Za3 ?_); (first | refine Zaf htb hmz noSp fF rfl rfl ?_ | refine Zae hmo htb hmz noSp fF rfl rfl (by kernel_rfl) ?_); intro _ _ _ _ h; simp only [zE, evp, evx, ev1, evLoad, evStore, evBin, evIf, Zab, forall_const, z38, tb, reduceAdd, reduceSub, reduceMul, reduceEqDiff, reduceLeDiff, reduceLT, Nat.reduceBEq, Nat.reduceBNe, ↓reduceIte, reduceIte] at h; obtain ⟨rfl, rfl, rfl, rfl⟩ := h; refine ⟨?_, ?_⟩) | ((with_reducible refine Ob.mk ?_); first | exact trivial | (intros; omega) | ((repeat' first | apply And.intro | (intro a; have b := a; try simp only [zH] at b)) <;> first | assumption | omega | (simp only [zH]; omega)))
    refine Zaz rfl rfl (Zdc ⟨0, .cst .nilIface, []⟩ [] (.inl ⟨hI, rfl⟩) rfl (Zbz rfl) trivial)
end Go.Proofs.YtdhoadhkkecjjaaDoor.Cal
