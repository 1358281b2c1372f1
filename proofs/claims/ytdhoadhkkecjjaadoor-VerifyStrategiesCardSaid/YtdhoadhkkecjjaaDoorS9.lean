/- Own texts, merged. -/
import Derived.Test.YtdhoadhkkecjjaaDoorS8
set_option linter.unusedVariables false
set_option linter.unusedSimpArgs false
open Nat (reduceAdd reduceSub reduceMul reduceEqDiff reduceLeDiff reduceLT)
namespace Go.Proofs.YtdhoadhkkecjjaaDoor.Cal
open Go Pl
theorem Zft {o p w c : List Int} {x : List (List Int)} (hv : Zbb ⟨o, p, x⟩ = true) (hc : Zb9 ⟨o, p, x⟩ w c = true) (q : Int) : ∀ u, u < o.length → (nvF o w c x q u).length ≤ 64 ∧ 0 < (nvF o w c x q u).length ∧ ∀ j, j < (nvF o w c x q u).length → 0 ≤ (nvF o w c x q u).getD j 0 ∧ (nvF o w c x q u).getD j 0 < (o.length : Int) := by
  have hG := gok (validB_iff.1 hv)
  obtain ⟨hwl, hcl, hcc⟩ := of_decide_eq_true hc
  intro u hu
  have h1 : 1 ≤ (x.getD u []).length ∧ (x.getD u []).length ≤ 64 := hG.len u hu
  have hat : ∀ k, k < (x.getD u []).length → 0 ≤ (x.getD u []).getD k 0 ∧ (x.getD u []).getD k 0 < (o.length : Int) := hG.at' u hu
  unfold nvF
  split
  · rename_i h
    have hm : c.getD u 0 ∈ x.getD u [] := (hcc u hu).2.1 (h.1.trans h.2.symm)
    obtain ⟨k, hk, e⟩ := Ze5 hm
    refine ⟨by simp, by simp, fun j hj => ?_⟩
    have hj0 : j = 0 := by simpa using hj
    subst hj0
    show 0 ≤ c.getD u 0 ∧ c.getD u 0 < _
    rw [← e]
    exact hat k hk
  · exact ⟨h1.2, h1.1, hat⟩
def errA (s l : List Int) : Blk := .sem [0] (ifA 65 (.agg (.cons (.roI s) (.cons (.roI l) .nil))))
theorem onN_step {o p w c : List Int} {x : List (List Int)} {q : Int} (hnv : ∀ u, u < o.length → (nvF o w c x q u).length ≤ 64 ∧ 0 < (nvF o w c x q u).length ∧ ∀ j, j < (nvF o w c x q u).length → 0 ≤ (nvF o w c x q u).getD j 0 ∧ (nvF o w c x q u).getD j 0 < (o.length : Int)) {u : Nat} (hu : u < o.length) :
    (∀ i, orb (onN o w c x q) u i < o.length) ∧ ∀ i, orb (onN o w c x q) u (i + 1) ∈ nxVn ⟨o, p, x⟩ w c q (orb (onN o w c x q) u i) := by
  have h1 : ∀ i, orb (onN o w c x q) u i < o.length := fun i => by
    induction i with
    | zero => exact hu
    | succ i ih =>
      have := (hnv _ ih).2.2 0 (hnv _ ih).2.1
      show ((nvF o w c x q (orb (onN o w c x q) u i)).getD 0 0).toNat < _
      omega
  refine ⟨h1, fun i => ?_⟩
  have h2 := (hnv _ (h1 i)).2.1
  show ((nvF o w c x q (orb (onN o w c x q) u i)).getD 0 0).toNat ∈ (nvF o w c x q (orb (onN o w c x q) u i)).map Int.toNat
  refine List.mem_map.2 ⟨_, ?_, rfl⟩
  rw [List.getD_eq_getElem?_getD, List.getElem?_eq_getElem h2]
  exact List.getElem_mem _
theorem on_cp {o p w c : List Int} {x : List (List Int)} (hv : Zbb ⟨o, p, x⟩ = true) (hc : Zb9 ⟨o, p, x⟩ w c = true) {v u : Nat} (hvn : v < o.length) (hu : u ∈ nxVn ⟨o, p, x⟩ w c (w.getD v 0) v) (hun : u < o.length) (hW : w.getD u 0 ≠ w.getD v 0) :
    CpOK ⟨o, p, x⟩ w c ((v : Int) :: onS1 (onN o w c x (w.getD v 0)) u) (onL1 (onN o w c x (w.getD v 0)) u) := by
  obtain ⟨h1, h2⟩ := onN_step (p := p) (Zft hv hc (w.getD v 0)) hun
  obtain ⟨j, k, ha, hj⟩ := Zhj h1
  have := left_cp hv hc hvn hu hW h1 h2 ha.2.1 hj ha.2.2
  unfold onS1 onL1
  rw [agA_eq ha]
  have e : Zbf ((List.range j).map (orb (onN o w c x (w.getD v 0)) u)) = orL (onN o w c x (w.getD v 0)) u j := by unfold Zbf orL; rw [List.map_map]; rfl
  unfold Zbf at this e
  rw [List.map_take, List.map_drop, e] at this
  exact this
noncomputable def spLe : Nat → Option Spec
  | 42 => some nvS
  | 39 => some joiS
  | 62 => some onS
  | _ => none
theorem Zca : SpOK Tryd.prog spLe := by
  intro f S h
  unfold spLe at h
  split at h
  · cases h; exact Zi4
  · cases h; exact Zeb
  · cases h; exact on_ok
  · cases h
set_option maxRecDepth 4000 in
set_option maxHeartbeats 4000000 in
theorem left_fg {o p w c : List Int} {x : List (List Int)} (hv : Zbb ⟨o, p, x⟩ = true) (hc : Zb9 ⟨o, p, x⟩ w c = true) :
    FG Tryd.prog 52 [.agg (.cons (.roI o) (.cons (.roI p) (.cons (.roII x) (.cons (.roI w) (.cons (.roI c) .nil)))))] [] 0 fun g => ((∀ v, v < o.length → ∀ u, u ∈ nxVn ⟨o, p, x⟩ w c (w.getD v 0) v → w.getD u 0 = w.getD v 0) ∧ g = ⟨0, .cst .nilIface, []⟩) ∨ ∃ s l, CpOK ⟨o, p, x⟩ w c s l ∧ g = ⟨1, .own 0, [(0, some (errA s l))]⟩ := by
  refine Zhp htb (fn := Tryd.f52) (by kernel_rfl) (by kernel_rfl) rfl (Nat.le_of_ble_eq_true rfl) fun hl => ?_
  simp only [lenP, mkL, lim] at hl
  have hG := gok (validB_iff.1 hv)
  obtain ⟨hwl, hcl, hcc⟩ := of_decide_eq_true hc
  have hxl : x.length = o.length := hG.xl
  have hn : o.length ≤ 20000 := hG.n
  have hwl : w.length = o.length := hwl
  have hcl : c.length = o.length := hcl
  clear hcc
  have hnvq := fun q => Zft hv hc q
  repeat' first
    | with_reducible first | apply Zar | apply Zan | apply Zaa | apply Zad | apply Zah | apply Zap | apply Zag | apply Zaj | apply Zaq | apply Zas | apply Zao | apply Zal | apply Zac | apply Zak
    | ((with_reducible refine Zai ?_ ?_); exact rfl) | ((with_reducible refine Zat ?_); refine Zam rfl ?_ ?_ <;> intro hb <;> (try simp only [zH] at hb)) | ((with_reducible refine Za7 ?_); (first | refine Zae htb hmz Zca fF rfl rfl ?_ | refine Zaf hmo htb hmz Zca fF rfl rfl (by kernel_rfl) ?_); intro _ _ _ _ h; simp only [zE, evp, evx, ev1, evLoad, evStore, evBin, evIf, Zab, forall_const, z38, tb, reduceAdd, reduceSub, reduceMul, reduceEqDiff, reduceLeDiff, reduceLT, Nat.reduceBEq, Nat.reduceBNe, ↓reduceIte, reduceIte, spLe, nvS, joiS, onS] at h; obtain ⟨rfl, rfl, rfl, rfl⟩ := h; refine ⟨?_, ?_⟩) | ((with_reducible refine Ob.mk ?_); first | exact trivial | (intros; omega) | ((repeat' first | apply And.intro | (intro a; have b := a; try simp only [zH] at b)) <;> first | assumption | omega | (simp only [zH]; omega)))
  refine Zbc (τ := Nat) (fun i => i ≤ o.length ∧ ∀ v, v < i → ∀ u, u ∈ nxVn ⟨o, p, x⟩ w c (w.getD v 0) v → w.getD u 0 = w.getD v 0) (fun i => ⟨7, [(12, .int .i64 i), (11, .int .i64 w.length), (10, .roI w), (2, .cst .nilIface), (1, .rop (.agg (.cons (.roI o) (.cons (.roI p) (.cons (.roII x) (.cons (.roI w) (.cons (.roI c) .nil)))))))], [], []⟩) (fun i => o.length - i) 0 [] ?_ ⟨Nat.zero_le _, fun v h => absurd h (Nat.not_lt_zero v)⟩ ?_
  · (refine ⟨rfl, ?_, ?_⟩ <;> simp only [zE, evp, evx, ev1, evLoad, evStore, evBin, evIf, Zab, forall_const, z38, tb, reduceAdd, reduceSub, reduceMul, reduceEqDiff, reduceLeDiff, reduceLT, Nat.reduceBEq, Nat.reduceBNe, ↓reduceIte, reduceIte, spLe, nvS, joiS, onS, zI])
  rintro i ⟨hi, hI⟩
  repeat' first
    | with_reducible first | apply Zar | apply Zan | apply Zaa | apply Zad | apply Zah | apply Zap | apply Zag | apply Zaj | apply Zaq | apply Zas | apply Zao | apply Zal | apply Zac | apply Zak
    | ((with_reducible refine Zai ?_ ?_); exact rfl) | ((with_reducible refine Zat ?_); refine Zam rfl ?_ ?_ <;> intro hb <;> (try simp only [zH] at hb)) | ((with_reducible refine Zay 5 ?_ ?_); (· exact rfl); (with_reducible refine Zay 12 ?_ ?_); (· exact rfl); (first | refine Zae htb hmz Zca fF rfl rfl ?_ | refine Zaf hmo htb hmz Zca fF rfl rfl (by kernel_rfl) ?_); intro _ _ _ _ h; simp only [zE, evp, evx, ev1, evLoad, evStore, evBin, evIf, Zab, forall_const, z38, tb, reduceAdd, reduceSub, reduceMul, reduceEqDiff, reduceLeDiff, reduceLT, Nat.reduceBEq, Nat.reduceBNe, ↓reduceIte, reduceIte, spLe, nvS, joiS, onS] at h; obtain ⟨rfl, rfl, rfl, rfl⟩ := h; refine ⟨?_, ?_⟩) | ((with_reducible refine Ob.mk ?_); first | exact trivial | (intros; omega) | ((repeat' first | apply And.intro | (intro a; have b := a; try simp only [zH] at b)) <;> first | assumption | omega | (simp only [zH]; omega)))
  · have hil : i < o.length := by omega
    obtain ⟨q, hq⟩ : ∃ q, w.getD i 0 = q := ⟨_, rfl⟩
    rw [hq]
    have hrw := hnvq q i hil
    have hmem : ∀ u : Nat, u ∈ nxVn ⟨o, p, x⟩ w c q i ↔ ∃ j, j < (nvF o w c x q i).length ∧ ((nvF o w c x q i).getD j 0).toNat = u := fun u => by
      constructor
      · intro h
        obtain ⟨z, hz, rfl⟩ := List.mem_map.1 h
        have hz : z ∈ nvF o w c x q i := hz
        obtain ⟨j, hj, e⟩ := Ze5 hz
        exact ⟨j, hj, by rw [e]⟩
      · rintro ⟨j, hj, rfl⟩
        refine List.mem_map.2 ⟨_, ?_, rfl⟩
        rw [List.getD_eq_getElem?_getD, List.getElem?_eq_getElem hj]
        exact List.getElem_mem _
    generalize nvF o w c x q i = rw at *
    refine Zbc (τ := Nat) (fun j => j ≤ rw.length ∧ ∀ j', j' < j → w.getD (rw.getD j' 0).toNat 0 = q) (fun j => ⟨19, [(22, .int .i64 j), (21, .int .i64 rw.length), (20, .roI rw), (4, .int .i64 q), (3, .int .i64 i), (12, .int .i64 i), (11, .int .i64 w.length), (10, .roI w), (2, .cst .nilIface), (1, .rop (.agg (.cons (.roI o) (.cons (.roI p) (.cons (.roII x) (.cons (.roI w) (.cons (.roI c) .nil)))))))], [], []⟩) (fun j => rw.length - j) 0 [] ?_ ⟨Nat.zero_le _, fun j' h => absurd h (Nat.not_lt_zero j')⟩ ?_
    · (refine ⟨rfl, ?_, ?_⟩ <;> simp only [zE, evp, evx, ev1, evLoad, evStore, evBin, evIf, Zab, forall_const, z38, tb, reduceAdd, reduceSub, reduceMul, reduceEqDiff, reduceLeDiff, reduceLT, Nat.reduceBEq, Nat.reduceBNe, ↓reduceIte, reduceIte, spLe, nvS, joiS, onS, zI])
    rintro j ⟨hj, hJ⟩
    repeat' first
      | with_reducible first | apply Zar | apply Zan | apply Zaa | apply Zad | apply Zah | apply Zap | apply Zag | apply Zaj | apply Zaq | apply Zas | apply Zao | apply Zal | apply Zac | apply Zak
      | ((with_reducible refine Zai ?_ ?_); exact rfl) | ((with_reducible refine Zat ?_); refine Zam rfl ?_ ?_ <;> intro hb <;> (try simp only [zH] at hb)) | ((with_reducible refine Zay 6 ?_ ?_); (· exact rfl); (with_reducible refine Zay 12 ?_ ?_); (· exact rfl); (first | refine Zae htb hmz Zca fF rfl rfl ?_ | refine Zaf hmo htb hmz Zca fF rfl rfl (by kernel_rfl) ?_); intro _ _ _ _ h; simp only [zE, evp, evx, ev1, evLoad, evStore, evBin, evIf, Zab, forall_const, z38, tb, reduceAdd, reduceSub, reduceMul, reduceEqDiff, reduceLeDiff, reduceLT, Nat.reduceBEq, Nat.reduceBNe, ↓reduceIte, reduceIte, spLe, nvS, joiS, onS] at h; obtain ⟨rfl, rfl, rfl, rfl⟩ := h; refine ⟨?_, ?_⟩) | ((with_reducible refine Ob.mk ?_); first | exact trivial | (intros; omega) | ((repeat' first | apply And.intro | (intro a; have b := a; try simp only [zH] at b)) <;> first | assumption | omega | (simp only [zH]; omega)))
    · have hjl : j < rw.length := by omega
      obtain ⟨b1, b2⟩ := hrw.2.2 j hjl
      obtain ⟨u, hu⟩ := Int.eq_ofNat_of_zero_le b1
      have hun : u < o.length := by omega
      have hum : u ∈ nxVn ⟨o, p, x⟩ w c q i := (hmem u).2 ⟨j, hjl, by rw [hu]; rfl⟩
      repeat' first
        | with_reducible first | apply Zar | apply Zan | apply Zaa | apply Zad | apply Zah | apply Zap | apply Zag | apply Zaj | apply Zaq | apply Zas | apply Zao | apply Zal | apply Zac | apply Zak
        | ((with_reducible refine Zai ?_ ?_); exact rfl) | ((with_reducible refine Zat ?_); refine Zam rfl ?_ ?_ <;> intro hb <;> (try simp only [zH] at hb)) | ((with_reducible refine Zay 7 ?_ ?_); (· exact rfl); (first | refine Zae htb hmz Zca fF rfl rfl ?_ | refine Zaf hmo htb hmz Zca fF rfl rfl (by kernel_rfl) ?_); intro _ _ _ _ h; simp only [zE, evp, evx, ev1, evLoad, evStore, evBin, evIf, Zab, forall_const, z38, tb, reduceAdd, reduceSub, reduceMul, reduceEqDiff, reduceLeDiff, reduceLT, Nat.reduceBEq, Nat.reduceBNe, ↓reduceIte, reduceIte, spLe, nvS, joiS, onS] at h; obtain ⟨rfl, rfl, rfl, rfl⟩ := h; refine ⟨?_, ?_⟩) | ((with_reducible refine Ob.mk ?_); first | exact trivial | (intros; omega) | ((repeat' first | apply And.intro | (intro a; have b := a; try simp only [zH] at b)) <;> first | assumption | omega | (simp only [zH]; omega)))
      rw [hu]
      repeat' first
        | with_reducible first | apply Zar | apply Zan | apply Zaa | apply Zad | apply Zah | apply Zap | apply Zag | apply Zaj | apply Zaq | apply Zas | apply Zao | apply Zal | apply Zac | apply Zak
        | ((with_reducible refine Zai ?_ ?_); exact rfl) | ((with_reducible refine Zat ?_); refine Zam rfl ?_ ?_ <;> intro hb <;> (try simp only [zH] at hb)) | ((with_reducible refine Zay 8 ?_ ?_); (· exact rfl); (with_reducible refine Zay 10 ?_ ?_); (· exact rfl); (first | refine Zae htb hmz Zca fF rfl rfl ?_ | refine Zaf hmo htb hmz Zca fF rfl rfl (by kernel_rfl) ?_); intro _ _ _ _ h; simp only [zE, evp, evx, ev1, evLoad, evStore, evBin, evIf, Zab, forall_const, z38, tb, reduceAdd, reduceSub, reduceMul, reduceEqDiff, reduceLeDiff, reduceLT, Nat.reduceBEq, Nat.reduceBNe, ↓reduceIte, reduceIte, spLe, nvS, joiS, onS] at h; obtain ⟨rfl, rfl, rfl, rfl⟩ := h; refine ⟨?_, ?_⟩) | ((with_reducible refine Ob.mk ?_); first | exact trivial | (intros; omega) | ((repeat' first | apply And.intro | (intro a; have b := a; try simp only [zH] at b)) <;> first | assumption | omega | (simp only [zH]; omega)))
      · have hcp := on_cp hv hc hil (by rw [hq]; exact hum) hun (by rw [hq]; omega)
        rw [hq] at hcp
        repeat' first
          | with_reducible first | apply Zar | apply Zan | apply Zaa | apply Zad | apply Zah | apply Zap | apply Zag | apply Zaj | apply Zaq | apply Zas | apply Zao | apply Zal | apply Zac | apply Zak
          | ((with_reducible refine Zai ?_ ?_); exact rfl) | ((with_reducible refine Zat ?_); refine Zam rfl ?_ ?_ <;> intro hb <;> (try simp only [zH] at hb)) | ((with_reducible refine Zay 9 ?_ ?_); (· exact rfl); (first | refine Zae htb hmz Zca fF rfl rfl ?_ | refine Zaf hmo htb hmz Zca fF rfl rfl (by kernel_rfl) ?_); intro _ _ _ _ h; simp only [zE, evp, evx, ev1, evLoad, evStore, evBin, evIf, Zab, forall_const, z38, tb, reduceAdd, reduceSub, reduceMul, reduceEqDiff, reduceLeDiff, reduceLT, Nat.reduceBEq, Nat.reduceBNe, ↓reduceIte, reduceIte, spLe, nvS, joiS, onS] at h; obtain ⟨rfl, rfl, rfl, rfl⟩ := h; refine ⟨?_, ?_⟩) | ((with_reducible refine Ob.mk ?_); first | exact trivial | (intros; omega) | ((repeat' first | apply And.intro | (intro a; have b := a; try simp only [zH] at b)) <;> first | assumption | omega | (simp only [zH]; omega)))
        · refine Ob.mk ?_
          exact ⟨⟨by omega, by omega⟩, hxl, hwl, hcl, hn, fun z hz => ⟨(hnvq q z hz).2.1, (hnvq q z hz).2.2 0 (hnvq q z hz).2.1⟩⟩
        have hcl2 : [[(i : Int)], onS1 (onN o w c x q) u].flatten.length ≤ 100000 := by
          have := hcp.len
          simp only [List.length_cons] at this
          simp only [List.flatten_cons, List.flatten_nil, List.append_nil, List.length_append, List.length_cons, List.length_nil]
          have hn2 : (Gm.mk o p x).own.length = o.length := rfl
          omega
        (refine Zaf hmo htb hmz Zca fF rfl rfl (by kernel_rfl) ?_; intro _ _ _ _ h; simp only [zE, evp, evx, ev1, evLoad, evStore, evBin, evIf, Zab, forall_const, z38, tb, reduceAdd, reduceSub, reduceMul, reduceEqDiff, reduceLeDiff, reduceLT, Nat.reduceBEq, Nat.reduceBNe, ↓reduceIte, reduceIte, spLe, nvS, joiS, onS] at h; obtain ⟨rfl, rfl, rfl, rfl⟩ := h; refine ⟨?_, ?_⟩)
        · exact Ob.mk hcl2
        refine Zaa ?_
        have hfl : [[(i : Int)], onS1 (onN o w c x q) u].flatten = (i : Int) :: onS1 (onN o w c x q) u := by simp
        rw [hfl]
        repeat' first
          | with_reducible first | apply Zar | apply Zan | apply Zaa | apply Zad | apply Zah | apply Zap | apply Zag | apply Zaj | apply Zaq | apply Zas | apply Zao | apply Zal | apply Zac | apply Zak
          | ((with_reducible refine Zai ?_ ?_); exact rfl) | ((with_reducible refine Zat ?_); refine Zam rfl ?_ ?_ <;> intro hb <;> (try simp only [zH] at hb)) | ((with_reducible refine Za7 ?_); (first | refine Zae htb hmz Zca fF rfl rfl ?_ | refine Zaf hmo htb hmz Zca fF rfl rfl (by kernel_rfl) ?_); intro _ _ _ _ h; simp only [zE, evp, evx, ev1, evLoad, evStore, evBin, evIf, Zab, forall_const, z38, tb, reduceAdd, reduceSub, reduceMul, reduceEqDiff, reduceLeDiff, reduceLT, Nat.reduceBEq, Nat.reduceBNe, ↓reduceIte, reduceIte, spLe, nvS, joiS, onS] at h; obtain ⟨rfl, rfl, rfl, rfl⟩ := h; refine ⟨?_, ?_⟩) | ((with_reducible refine Ob.mk ?_); first | exact trivial | (intros; omega) | ((repeat' first | apply And.intro | (intro a; have b := a; try simp only [zH] at b)) <;> first | assumption | omega | (simp only [zH]; omega)))
        refine Zaz rfl rfl (Zc9 ⟨1, .own 0, [(0, some (errA ((i : Int) :: onS1 (onN o w c x q) u) (onL1 (onN o w c x q) u)))]⟩ [(0, 47)] (.inr ⟨_, _, hcp, rfl⟩) rfl (Zb0 rfl) ?_)
        simp only [grR, errA, zE, evp, evx, ev1, evLoad, evStore, evBin, evIf, Zab, forall_const, z38, tb, reduceAdd, reduceSub, reduceMul, reduceEqDiff, reduceLeDiff, reduceLT, Nat.reduceBEq, Nat.reduceBNe, ↓reduceIte, reduceIte, spLe, nvS, joiS, onS]
        intro k hk
        rw [List.mem_singleton.1 hk]; rfl
      · have hWq : w.getD (u : Int).toNat 0 = q := hb
        repeat' first
          | with_reducible first | apply Zar | apply Zan | apply Zaa | apply Zad | apply Zah | apply Zap | apply Zag | apply Zaj | apply Zaq | apply Zas | apply Zao | apply Zal | apply Zac | apply Zak
          | ((with_reducible refine Zai ?_ ?_); exact rfl) | ((with_reducible refine Zat ?_); refine Zam rfl ?_ ?_ <;> intro hb <;> (try simp only [zH] at hb)) | ((with_reducible refine Za7 ?_); (first | refine Zae htb hmz Zca fF rfl rfl ?_ | refine Zaf hmo htb hmz Zca fF rfl rfl (by kernel_rfl) ?_); intro _ _ _ _ h; simp only [zE, evp, evx, ev1, evLoad, evStore, evBin, evIf, Zab, forall_const, z38, tb, reduceAdd, reduceSub, reduceMul, reduceEqDiff, reduceLeDiff, reduceLT, Nat.reduceBEq, Nat.reduceBNe, ↓reduceIte, reduceIte, spLe, nvS, joiS, onS] at h; obtain ⟨rfl, rfl, rfl, rfl⟩ := h; refine ⟨?_, ?_⟩) | ((with_reducible refine Ob.mk ?_); first | exact trivial | (intros; omega) | ((repeat' first | apply And.intro | (intro a; have b := a; try simp only [zH] at b)) <;> first | assumption | omega | (simp only [zH]; omega)))
        refine back (j + 1) [] ?_ ⟨by omega, fun j' hj' => ?_⟩ (by omega)
        · (refine ⟨rfl, ?_, ?_⟩ <;> simp only [zE, evp, evx, ev1, evLoad, evStore, evBin, evIf, Zab, forall_const, z38, tb, reduceAdd, reduceSub, reduceMul, reduceEqDiff, reduceLeDiff, reduceLT, Nat.reduceBEq, Nat.reduceBNe, ↓reduceIte, reduceIte, spLe, nvS, joiS, onS, zI])
        · rcases Nat.lt_succ_iff_lt_or_eq.1 hj' with h | rfl
          · exact hJ j' h
          · rw [hu]
            exact hWq
    have hje : j = rw.length := by omega
    subst hje
    refine back (i + 1) [] ?_ ⟨by omega, fun v hv' u hu => ?_⟩ (by omega)
    · (refine ⟨rfl, ?_, ?_⟩ <;> simp only [zE, evp, evx, ev1, evLoad, evStore, evBin, evIf, Zab, forall_const, z38, tb, reduceAdd, reduceSub, reduceMul, reduceEqDiff, reduceLeDiff, reduceLT, Nat.reduceBEq, Nat.reduceBNe, ↓reduceIte, reduceIte, spLe, nvS, joiS, onS, zI])
    · rcases Nat.lt_succ_iff_lt_or_eq.1 hv' with h | rfl
      · exact hI v h u hu
      · rw [hq] at hu ⊢
        obtain ⟨j', hj', rfl⟩ := (hmem u).1 hu
        exact hJ j' hj'
  · have hie : i = o.length := by omega
    subst hie
    repeat' first
      | with_reducible first | apply Zar | apply Zan | apply Zaa | apply Zad | apply Zah | apply Zap | apply Zag | apply Zaj | apply Zaq | apply Zas | apply Zao | apply Zal | apply Zac | apply Zak
      | ((with_reducible refine Zai ?_ ?_); exact rfl) | ((with_reducible refine Zat ?_); refine Zam rfl ?_ ?_ <;> intro hb <;> (try simp only [zH] at hb)) | ((with_reducible refine Za7 ?_); (first | refine Zae htb hmz Zca fF rfl rfl ?_ | refine Zaf hmo htb hmz Zca fF rfl rfl (by kernel_rfl) ?_); intro _ _ _ _ h; simp only [zE, evp, evx, ev1, evLoad, evStore, evBin, evIf, Zab, forall_const, z38, tb, reduceAdd, reduceSub, reduceMul, reduceEqDiff, reduceLeDiff, reduceLT, Nat.reduceBEq, Nat.reduceBNe, ↓reduceIte, reduceIte, spLe, nvS, joiS, onS] at h; obtain ⟨rfl, rfl, rfl, rfl⟩ := h; refine ⟨?_, ?_⟩) | ((with_reducible refine Ob.mk ?_); first | exact trivial | (intros; omega) | ((repeat' first | apply And.intro | (intro a; have b := a; try simp only [zH] at b)) <;> first | assumption | omega | (simp only [zH]; omega)))
    refine Zaz rfl rfl (Zc9 ⟨0, .cst .nilIface, []⟩ [] (.inl ⟨hI, rfl⟩) rfl (Zb0 rfl) trivial)
def errB (l : List Int) : Blk := .sem [0] (ifA 65 (.agg (.cons (.cst (.slice none 0 0)) (.cons (.roI l) .nil))))
theorem und22 : Tryd.prog.underlying 22 = some (.slice 3) := by kernel_rfl
set_option maxRecDepth 4000 in
set_option maxHeartbeats 4000000 in
theorem lost_fg {o p w c : List Int} {x : List (List Int)} (hv : Zbb ⟨o, p, x⟩ = true) (hc : Zb9 ⟨o, p, x⟩ w c = true) :
    FG Tryd.prog 53 [.agg (.cons (.roI o) (.cons (.roI p) (.cons (.roII x) (.cons (.roI w) (.cons (.roI c) .nil)))))] [] 0 fun g => ((∀ v, v < o.length → p.getD v 0 % 2 ≠ w.getD v 0 → ¬ Cyc (fun a b => b ∈ nxVn ⟨o, p, x⟩ w c (w.getD v 0) a) (fun v => p.getD v 0) v) ∧ g = ⟨0, .cst .nilIface, []⟩) ∨ ∃ l, CpOK ⟨o, p, x⟩ w c [] l ∧ g = ⟨1, .own 0, [(0, some (errB l))]⟩ := by
  refine Zhp htb (fn := Tryd.f53) (by kernel_rfl) (by kernel_rfl) rfl (Nat.le_of_ble_eq_true rfl) fun hl => ?_
  simp only [lenP, mkL, lim] at hl
  have hG := gok (validB_iff.1 hv)
  obtain ⟨hwl, hcl, hcc⟩ := of_decide_eq_true hc
  have hpl : p.length = o.length := hG.pl
  have hxl : x.length = o.length := hG.xl
  have hn : o.length ≤ 20000 := hG.n
  have hwl : w.length = o.length := hwl
  have hcl : c.length = o.length := hcl
  clear hcc
  have hpr : ∀ v, v < o.length → 0 ≤ p.getD v 0 := fun v h => (hG.pri v h).1
  repeat' first
    | with_reducible first | apply Zar | apply Zan | apply Zaa | apply Zad | apply Zah | apply Zap | apply Zag | apply Zaj | apply Zaq | apply Zas | apply Zao | apply Zal | apply Zac | apply Zak
    | ((with_reducible refine Zai ?_ ?_); exact rfl) | ((with_reducible refine Zat ?_); refine Zam rfl ?_ ?_ <;> intro hb <;> (try simp only [zH] at hb)) | ((with_reducible refine Za7 ?_); (first | refine Zae htb hmz noSp fF rfl rfl ?_ | refine Zaf hmo htb hmz noSp fF rfl rfl (by kernel_rfl) ?_); intro _ _ _ _ h; simp only [zE, evp, evx, ev1, evLoad, evStore, evBin, evIf, Zab, forall_const, z38, tb, reduceAdd, reduceSub, reduceMul, reduceEqDiff, reduceLeDiff, reduceLT, Nat.reduceBEq, Nat.reduceBNe, ↓reduceIte, reduceIte] at h; obtain ⟨rfl, rfl, rfl, rfl⟩ := h; refine ⟨?_, ?_⟩) | ((with_reducible refine Ob.mk ?_); first | exact trivial | (intros; omega) | ((repeat' first | apply And.intro | (intro a; have b := a; try simp only [zH] at b)) <;> first | assumption | omega | (simp only [zH]; omega)))
  refine Zbc (τ := Nat) (fun i => i ≤ o.length ∧ ∀ v, v < i → p.getD v 0 % 2 ≠ w.getD v 0 → ¬ Cyc (fun a b => b ∈ nxVn ⟨o, p, x⟩ w c (w.getD v 0) a) (fun v => p.getD v 0) v) (fun i => ⟨7, [(10, .int .i64 i), (9, .int .i64 w.length), (8, .roI w), (2, .cst .nilIface), (1, .rop (.agg (.cons (.roI o) (.cons (.roI p) (.cons (.roII x) (.cons (.roI w) (.cons (.roI c) .nil)))))))], [], []⟩) (fun i => o.length - i) 0 [] ?_ ⟨Nat.zero_le _, fun v h => absurd h (Nat.not_lt_zero v)⟩ ?_
  · (refine ⟨rfl, ?_, ?_⟩ <;> simp only [zE, evp, evx, ev1, evLoad, evStore, evBin, evIf, Zab, forall_const, z38, tb, reduceAdd, reduceSub, reduceMul, reduceEqDiff, reduceLeDiff, reduceLT, Nat.reduceBEq, Nat.reduceBNe, ↓reduceIte, reduceIte, zI])
  rintro i ⟨hi, hI⟩
  have hpi := hpr i
  repeat' first
    | with_reducible first | apply Zar | apply Zan | apply Zaa | apply Zad | apply Zah | apply Zap | apply Zag | apply Zaj | apply Zaq | apply Zas | apply Zao | apply Zal | apply Zac | apply Zak
    | ((with_reducible refine Zai ?_ ?_); exact rfl) | ((with_reducible refine Zat ?_); refine Zam rfl ?_ ?_ <;> intro hb <;> (try simp only [zH] at hb)) | ((with_reducible refine Zay 5 ?_ ?_); (· exact rfl); (with_reducible refine Zay 9 ?_ ?_); (· exact rfl); (first | refine Zae htb hmz noSp fF rfl rfl ?_ | refine Zaf hmo htb hmz noSp fF rfl rfl (by kernel_rfl) ?_); intro _ _ _ _ h; simp only [zE, evp, evx, ev1, evLoad, evStore, evBin, evIf, Zab, forall_const, z38, tb, reduceAdd, reduceSub, reduceMul, reduceEqDiff, reduceLeDiff, reduceLT, Nat.reduceBEq, Nat.reduceBNe, ↓reduceIte, reduceIte] at h; obtain ⟨rfl, rfl, rfl, rfl⟩ := h; refine ⟨?_, ?_⟩) | ((with_reducible refine Ob.mk ?_); first | exact trivial | (intros; omega) | ((repeat' first | apply And.intro | (intro a; have b := a; try simp only [zH] at b)) <;> first | assumption | omega | (simp only [zH]; omega)))
  · refine back (i + 1) [] ?_ ⟨by omega, fun v hv' => ?_⟩ (by omega)
    · (refine ⟨rfl, ?_, ?_⟩ <;> simp only [zE, evp, evx, ev1, evLoad, evStore, evBin, evIf, Zab, forall_const, z38, tb, reduceAdd, reduceSub, reduceMul, reduceEqDiff, reduceLeDiff, reduceLT, Nat.reduceBEq, Nat.reduceBNe, ↓reduceIte, reduceIte, zI])
    · rcases Nat.lt_succ_iff_lt_or_eq.1 hv' with h | rfl
      · exact hI v h
      · exact fun h => absurd hb h
  · have hil : i < o.length := by omega
    have hbi := hb
    have hnv := Zft hv hc (w.getD i 0)
    refine Zed ([_, _]) ([_]) rfl rfl ?_
    refine Za6 htb hmz noSp fF rfl rfl rfl ?_; intro _ _ _ _ h; simp only [zE, evp, evx, ev1, evLoad, evStore, evBin, evIf, Zab, forall_const, z38, tb, reduceAdd, reduceSub, reduceMul, reduceEqDiff, reduceLeDiff, reduceLT, Nat.reduceBEq, Nat.reduceBNe, ↓reduceIte, reduceIte] at h; obtain ⟨rfl, rfl, rfl, rfl⟩ := h; refine ⟨?_, Zaa ?_⟩
    · first | ((with_reducible refine Ob.mk ?_); first | exact trivial | (intros; omega) | ((repeat' first | apply And.intro | (intro a; have b := a; try simp only [zH] at b)) <;> first | assumption | omega | (simp only [zH]; omega))) | skip
    refine Zbn ([]) (loop_fg hn hpl hxl hwl hcl hil fun u hu => ⟨(hnv u hu).1, (hnv u hu).2.2⟩) rfl rfl rfl rfl rfl rfl rfl rfl rfl (by simp only [rinR, rhoC, zE, evp, evx, ev1, evLoad, evStore, evBin, evIf, Zab, forall_const, z38, tb, reduceAdd, reduceSub, reduceMul, reduceEqDiff, reduceLeDiff, reduceLT, Nat.reduceBEq, Nat.reduceBNe, ↓reduceIte, reduceIte]) ?_; intro gm gv gr hq m' e' l' h
    rcases hq with ⟨hno, hq⟩ | ⟨L, hL, hq⟩
    · simp only [GR.mk.injEq] at hq; obtain ⟨rfl, rfl, rfl⟩ := hq; simp only [rhoC, outR, renR, dels, zE, evp, evx, ev1, evLoad, evStore, evBin, evIf, Zab, forall_const, z38, tb, reduceAdd, reduceSub, reduceMul, reduceEqDiff, reduceLeDiff, reduceLT, Nat.reduceBEq, Nat.reduceBNe, ↓reduceIte, reduceIte] at h; obtain ⟨rfl, rfl, rfl⟩ := h; refine Zaa ?_
      refine Za6 htb hmz noSp fF rfl rfl rfl ?_; intro _ _ _ _ h; simp only [zE, evp, evx, ev1, evLoad, evStore, evBin, evIf, Zab, forall_const, z38, tb, reduceAdd, reduceSub, reduceMul, reduceEqDiff, reduceLeDiff, reduceLT, Nat.reduceBEq, Nat.reduceBNe, ↓reduceIte, reduceIte] at h; obtain ⟨rfl, rfl, rfl, rfl⟩ := h; refine ⟨?_, ?_⟩
      · first | ((with_reducible refine Ob.mk ?_); first | exact trivial | (intros; omega) | ((repeat' first | apply And.intro | (intro a; have b := a; try simp only [zH] at b)) <;> first | assumption | omega | (simp only [zH]; omega))) | skip
      refine Zaa ?_
      repeat' first
        | with_reducible first | apply Zar | apply Zan | apply Zaa | apply Zad | apply Zah | apply Zap | apply Zag | apply Zaj | apply Zaq | apply Zas | apply Zao | apply Zal | apply Zac | apply Zak
        | ((with_reducible refine Zai ?_ ?_); exact rfl) | ((with_reducible refine Zat ?_); refine Zam rfl ?_ ?_ <;> intro hb <;> (try simp only [zH] at hb)) | ((with_reducible refine Zay 6 ?_ ?_); (· exact rfl); (first | refine Zae htb hmz noSp fF rfl rfl ?_ | refine Zaf hmo htb hmz noSp fF rfl rfl (by kernel_rfl) ?_); intro _ _ _ _ h; simp only [zE, evp, evx, ev1, evLoad, evStore, evBin, evIf, Zab, forall_const, z38, tb, reduceAdd, reduceSub, reduceMul, reduceEqDiff, reduceLeDiff, reduceLT, Nat.reduceBEq, Nat.reduceBNe, ↓reduceIte, reduceIte] at h; obtain ⟨rfl, rfl, rfl, rfl⟩ := h; refine ⟨?_, ?_⟩) | ((with_reducible refine Ob.mk ?_); first | exact trivial | (intros; omega) | ((repeat' first | apply And.intro | (intro a; have b := a; try simp only [zH] at b)) <;> first | assumption | omega | (simp only [zH]; omega)))
      refine Zed ([_]) ([]) rfl rfl ?_
      refine Za6 htb hmz noSp fF rfl rfl rfl ?_; intro _ _ _ _ h; simp only [zE, evp, evx, ev1, evLoad, evStore, evBin, evIf, Zab, forall_const, z38, tb, reduceAdd, reduceSub, reduceMul, reduceEqDiff, reduceLeDiff, reduceLT, Nat.reduceBEq, Nat.reduceBNe, ↓reduceIte, reduceIte] at h; obtain ⟨rfl, rfl, rfl, rfl⟩ := h; refine ⟨?_, Zaa ?_⟩
      · first | ((with_reducible refine Ob.mk ?_); first | exact trivial | (intros; omega) | ((repeat' first | apply And.intro | (intro a; have b := a; try simp only [zH] at b)) <;> first | assumption | omega | (simp only [zH]; omega))) | skip
      refine Zbx (opsem_neqnil0 rfl und22 rfl rfl) rfl rfl (fun c h => by cases h) Za2 (.inl rfl) rfl ?_
      refine Zce ?_
      refine Zaa ?_
      refine Zce ?_
      refine Zaa ?_
      dsimp only [putE, setW, reduceAdd]
      repeat' first
        | with_reducible first | apply Zar | apply Zan | apply Zaa | apply Zad | apply Zah | apply Zap | apply Zag | apply Zaj | apply Zaq | apply Zas | apply Zao | apply Zal | apply Zac | apply Zak
        | ((with_reducible refine Zai ?_ ?_); exact rfl) | ((with_reducible refine Zat ?_); refine Zam rfl ?_ ?_ <;> intro hb <;> (try simp only [zH] at hb)) | ((with_reducible refine Za7 ?_); (first | refine Zae htb hmz noSp fF rfl rfl ?_ | refine Zaf hmo htb hmz noSp fF rfl rfl (by kernel_rfl) ?_); intro _ _ _ _ h; simp only [zE, evp, evx, ev1, evLoad, evStore, evBin, evIf, Zab, forall_const, z38, tb, reduceAdd, reduceSub, reduceMul, reduceEqDiff, reduceLeDiff, reduceLT, Nat.reduceBEq, Nat.reduceBNe, ↓reduceIte, reduceIte] at h; obtain ⟨rfl, rfl, rfl, rfl⟩ := h; refine ⟨?_, ?_⟩) | ((with_reducible refine Ob.mk ?_); first | exact trivial | (intros; omega) | ((repeat' first | apply And.intro | (intro a; have b := a; try simp only [zH] at b)) <;> first | assumption | omega | (simp only [zH]; omega)))
      · cases hb
      · refine back (i + 1) [] ?_ ⟨by omega, fun v hv' => ?_⟩ (by omega)
        · (refine ⟨rfl, ?_, ?_⟩ <;> simp only [zE, evp, evx, ev1, evLoad, evStore, evBin, evIf, Zab, forall_const, z38, tb, reduceAdd, reduceSub, reduceMul, reduceEqDiff, reduceLeDiff, reduceLT, Nat.reduceBEq, Nat.reduceBNe, ↓reduceIte, reduceIte, zI])
        · rcases Nat.lt_succ_iff_lt_or_eq.1 hv' with h | rfl
          · exact hI v h
          · exact fun _ => hno
    · simp only [GR.mk.injEq] at hq; obtain ⟨rfl, rfl, rfl⟩ := hq; simp only [rhoC, outR, renR, dels, zE, evp, evx, ev1, evLoad, evStore, evBin, evIf, Zab, forall_const, z38, tb, reduceAdd, reduceSub, reduceMul, reduceEqDiff, reduceLeDiff, reduceLT, Nat.reduceBEq, Nat.reduceBNe, ↓reduceIte, reduceIte] at h; obtain ⟨rfl, rfl, rfl⟩ := h; refine Zaa ?_
      refine Za6 htb hmz noSp fF rfl rfl rfl ?_; intro _ _ _ _ h; simp only [zE, evp, evx, ev1, evLoad, evStore, evBin, evIf, Zab, forall_const, z38, tb, reduceAdd, reduceSub, reduceMul, reduceEqDiff, reduceLeDiff, reduceLT, Nat.reduceBEq, Nat.reduceBNe, ↓reduceIte, reduceIte] at h; obtain ⟨rfl, rfl, rfl, rfl⟩ := h; refine ⟨?_, ?_⟩
      · first | ((with_reducible refine Ob.mk ?_); first | exact trivial | (intros; omega) | ((repeat' first | apply And.intro | (intro a; have b := a; try simp only [zH] at b)) <;> first | assumption | omega | (simp only [zH]; omega))) | skip
      refine Zaa ?_
      repeat' first
        | with_reducible first | apply Zar | apply Zan | apply Zaa | apply Zad | apply Zah | apply Zap | apply Zag | apply Zaj | apply Zaq | apply Zas | apply Zao | apply Zal | apply Zac | apply Zak
        | ((with_reducible refine Zai ?_ ?_); exact rfl) | ((with_reducible refine Zat ?_); refine Zam rfl ?_ ?_ <;> intro hb <;> (try simp only [zH] at hb)) | ((with_reducible refine Zay 6 ?_ ?_); (· exact rfl); (first | refine Zae htb hmz noSp fF rfl rfl ?_ | refine Zaf hmo htb hmz noSp fF rfl rfl (by kernel_rfl) ?_); intro _ _ _ _ h; simp only [zE, evp, evx, ev1, evLoad, evStore, evBin, evIf, Zab, forall_const, z38, tb, reduceAdd, reduceSub, reduceMul, reduceEqDiff, reduceLeDiff, reduceLT, Nat.reduceBEq, Nat.reduceBNe, ↓reduceIte, reduceIte] at h; obtain ⟨rfl, rfl, rfl, rfl⟩ := h; refine ⟨?_, ?_⟩) | ((with_reducible refine Ob.mk ?_); first | exact trivial | (intros; omega) | ((repeat' first | apply And.intro | (intro a; have b := a; try simp only [zH] at b)) <;> first | assumption | omega | (simp only [zH]; omega)))
      refine Zed ([_]) ([]) rfl rfl ?_
      refine Za6 htb hmz noSp fF rfl rfl rfl ?_; intro _ _ _ _ h; simp only [zE, evp, evx, ev1, evLoad, evStore, evBin, evIf, Zab, forall_const, z38, tb, reduceAdd, reduceSub, reduceMul, reduceEqDiff, reduceLeDiff, reduceLT, Nat.reduceBEq, Nat.reduceBNe, ↓reduceIte, reduceIte] at h; obtain ⟨rfl, rfl, rfl, rfl⟩ := h; refine ⟨?_, Zaa ?_⟩
      · first | ((with_reducible refine Ob.mk ?_); first | exact trivial | (intros; omega) | ((repeat' first | apply And.intro | (intro a; have b := a; try simp only [zH] at b)) <;> first | assumption | omega | (simp only [zH]; omega))) | skip
      have hll : 0 < (Zbf L).length := by
        obtain ⟨r, rfl⟩ := hL.1
        simp [Zbf]
      refine Zbx (opsem_neqnil rfl und22 rfl hll rfl) rfl rfl (fun c h => by cases h) Za2 (.inl rfl) rfl ?_
      refine Zce ?_
      refine Zaa ?_
      refine Zce ?_
      refine Zaa ?_
      dsimp only [putE, setW, reduceAdd]
      repeat' first
        | with_reducible first | apply Zar | apply Zan | apply Zaa | apply Zad | apply Zah | apply Zap | apply Zag | apply Zaj | apply Zaq | apply Zas | apply Zao | apply Zal | apply Zac | apply Zak
        | ((with_reducible refine Zai ?_ ?_); exact rfl) | ((with_reducible refine Zat ?_); refine Zam rfl ?_ ?_ <;> intro hb <;> (try simp only [zH] at hb)) | ((with_reducible refine Za7 ?_); (first | refine Zae htb hmz noSp fF rfl rfl ?_ | refine Zaf hmo htb hmz noSp fF rfl rfl (by kernel_rfl) ?_); intro _ _ _ _ h; simp only [zE, evp, evx, ev1, evLoad, evStore, evBin, evIf, Zab, forall_const, z38, tb, reduceAdd, reduceSub, reduceMul, reduceEqDiff, reduceLeDiff, reduceLT, Nat.reduceBEq, Nat.reduceBNe, ↓reduceIte, reduceIte] at h; obtain ⟨rfl, rfl, rfl, rfl⟩ := h; refine ⟨?_, ?_⟩) | ((with_reducible refine Ob.mk ?_); first | exact trivial | (intros; omega) | ((repeat' first | apply And.intro | (intro a; have b := a; try simp only [zH] at b)) <;> first | assumption | omega | (simp only [zH]; omega)))
      · have hcp := lost_cp hv hc hil hL.1 hL.2.1 hL.2.2.1 hL.2.2.2.1 hL.2.2.2.2 hbi
        refine Zaz rfl rfl (Zc9 ⟨1, .own 0, [(0, some (errB (Zbf L)))]⟩ [(0, 30)] (.inr ⟨_, hcp, rfl⟩) rfl (Zb0 rfl) ?_)
        simp only [grR, errB, zE, evp, evx, ev1, evLoad, evStore, evBin, evIf, Zab, forall_const, z38, tb, reduceAdd, reduceSub, reduceMul, reduceEqDiff, reduceLeDiff, reduceLT, Nat.reduceBEq, Nat.reduceBNe, ↓reduceIte, reduceIte]
        intro k hk
        rw [List.mem_singleton.1 hk]; rfl
      · cases hb
  · have hie : i = o.length := by omega
    subst hie
    repeat' first
      | with_reducible first | apply Zar | apply Zan | apply Zaa | apply Zad | apply Zah | apply Zap | apply Zag | apply Zaj | apply Zaq | apply Zas | apply Zao | apply Zal | apply Zac | apply Zak
      | ((with_reducible refine Zai ?_ ?_); exact rfl) | ((with_reducible refine Zat ?_); refine Zam rfl ?_ ?_ <;> intro hb <;> (try simp only [zH] at hb)) | ((with_reducible refine Za7 ?_); (first | refine Zae htb hmz noSp fF rfl rfl ?_ | refine Zaf hmo htb hmz noSp fF rfl rfl (by kernel_rfl) ?_); intro _ _ _ _ h; simp only [zE, evp, evx, ev1, evLoad, evStore, evBin, evIf, Zab, forall_const, z38, tb, reduceAdd, reduceSub, reduceMul, reduceEqDiff, reduceLeDiff, reduceLT, Nat.reduceBEq, Nat.reduceBNe, ↓reduceIte, reduceIte] at h; obtain ⟨rfl, rfl, rfl, rfl⟩ := h; refine ⟨?_, ?_⟩) | ((with_reducible refine Ob.mk ?_); first | exact trivial | (intros; omega) | ((repeat' first | apply And.intro | (intro a; have b := a; try simp only [zH] at b)) <;> first | assumption | omega | (simp only [zH]; omega)))
    refine Zaz rfl rfl (Zc9 ⟨0, .cst .nilIface, []⟩ [] (.inl ⟨hI, rfl⟩) rfl (Zb0 rfl) trivial)
open Go Pl
noncomputable def winR (g : Gm) (s l : List Int) : Int × Int := if Zbb g = true then (if isP g s l = true then (wonP g l, 0) else (0, 4)) else (0, 1)
noncomputable def winS : Spec
  | [.agg (.cons (.roI o) (.cons (.roI p) (.cons (.roII x) .nil))), .agg (.cons (.roI s) (.cons (.roI lp) .nil))] => some ⟨s.length ≤ 40000 ∧ lp.length ≤ 40000, .tup (.cons (.int .i64 (winR ⟨o, p, x⟩ s lp).1) (.cons (.int .i64 (winR ⟨o, p, x⟩ s lp).2) .nil)), none⟩
  | _ => none
noncomputable def ctrR (g : Gm) (w c s l : List Int) : Bool × Int := if Zbb g = true then (if Zb9 g w c = true ∧ isP g s l = true then (Zc1 g w c s l, 0) else (false, 4)) else (false, 1)
noncomputable def ctrS : Spec
  | [.agg (.cons (.roI o) (.cons (.roI p) (.cons (.roII x) .nil))), .agg (.cons (.roI w) (.cons (.roI c) .nil)), .agg (.cons (.roI s) (.cons (.roI lp) .nil))] => some ⟨s.length ≤ 40000 ∧ lp.length ≤ 40000, .tup (.cons (.bool (ctrR ⟨o, p, x⟩ w c s lp).1) (.cons (.int .i64 (ctrR ⟨o, p, x⟩ w c s lp).2) .nil)), none⟩
  | _ => none
theorem isP_lp {o p s lp : List Int} {x : List (List Int)} (hv : Zbb ⟨o, p, x⟩ = true) (h : isP ⟨o, p, x⟩ s lp = true) : ∀ i, i < lp.length → 0 ≤ lp.getD i 0 ∧ lp.getD i 0 < (p.length : Int) := fun i hi => by
  have hpl : p.length = o.length := (gok (validB_iff.1 hv)).pl
  obtain ⟨_, hat, _⟩ := isP_iff.1 h
  have := hat (s.length + i) (by rw [List.length_append]; omega)
  have e : (s ++ lp).getD (s.length + i) 0 = lp.getD i 0 := by
    rw [List.getD_eq_getElem?_getD, List.getElem?_append_right (by omega), List.getD_eq_getElem?_getD]
    congr 2
    omega
  rw [e] at this
  have h2 : lp.getD i 0 < (o.length : Int) := this.2
  exact ⟨this.1, by omega⟩
noncomputable def spWv : Nat → Option Spec
  | 44 => some Za4
  | 28 => some clmS
  | 38 => some plyS
  | 40 => some wonS
  | 39 => some joiS
  | 42 => some nvS
  | 41 => some Zau
  | _ => none
theorem Za8 : SpOK Tryd.prog spWv := by
  intro f S h
  unfold spWv at h
  split at h
  · cases h; exact Zfo
  · cases h; exact claimOf_ok
  · cases h; exact ply_ok
  · cases h; exact vwon_ok
  · cases h; exact Zeb
  · cases h; exact Zi4
  · cases h; exact Zdf
  · cases h
set_option maxRecDepth 4000 in
set_option maxHeartbeats 4000000 in
theorem vwin_ok : Zda Tryd.prog 21 winS := by
  refine Zbs htb (fn := Tryd.f21) (by kernel_rfl) (by kernel_rfl) rfl (fun args r hS => ?_) (fun args r hS hob hl => ?_)
  · unfold winS at hS; split at hS <;> first | (cases hS; done) | (cases hS; exact Nat.le_of_ble_eq_true rfl)
  unfold winS at hS
  split at hS
  case h_2 => cases hS
  rename_i o p x s lp
  simp only [Option.some.injEq] at hS
  subst hS
  simp only [lenP, mkL, lim] at hl
  dsimp only at hob
  obtain ⟨h1, h2⟩ := hob
  repeat' first
    | with_reducible first | apply Zar | apply Zan | apply Zaa | apply Zad | apply Zah | apply Zap | apply Zag | apply Zaj | apply Zaq | apply Zas | apply Zao | apply Zal | apply Zac | apply Zak
    | ((with_reducible refine Zai ?_ ?_); exact rfl) | ((with_reducible refine Zat ?_); refine Zam rfl ?_ ?_ <;> intro hb <;> (try simp only [zH] at hb)) | ((with_reducible refine Zay 2 ?_ ?_); (· exact rfl); (with_reducible refine Zay 3 ?_ ?_); (· exact rfl); (first | refine Zae htb hmz Za8 fF rfl rfl ?_ | refine Zaf hmo htb hmz Za8 fF rfl rfl (by kernel_rfl) ?_); intro _ _ _ _ h; simp only [zE, evp, evx, ev1, evLoad, evStore, evBin, evIf, Zab, forall_const, z38, tb, reduceAdd, reduceSub, reduceMul, reduceEqDiff, reduceLeDiff, reduceLT, Nat.reduceBEq, Nat.reduceBNe, ↓reduceIte, reduceIte, spWv, Za4, clmS, plyS, wonS, joiS, nvS, Zau] at h; obtain ⟨rfl, rfl, rfl, rfl⟩ := h; refine ⟨?_, ?_⟩) | ((with_reducible refine Ob.mk ?_); first | exact trivial | (intros; omega) | ((repeat' first | apply And.intro | (intro a; have b := a; try simp only [zH] at b)) <;> first | assumption | omega | (simp only [zH]; omega)))
  · have e : winR ⟨o, p, x⟩ s lp = (0, 1) := by unfold winR; rw [if_neg (by rw [hb]; decide)]
    rw [e]
    repeat' first
      | with_reducible first | apply Zar | apply Zan | apply Zaa | apply Zad | apply Zah | apply Zap | apply Zag | apply Zaj | apply Zaq | apply Zas | apply Zao | apply Zal | apply Zac | apply Zak
      | ((with_reducible refine Zai ?_ ?_); exact rfl) | ((with_reducible refine Zat ?_); refine Zam rfl ?_ ?_ <;> intro hb <;> (try simp only [zH] at hb)) | ((with_reducible refine Za7 ?_); (first | refine Zae htb hmz Za8 fF rfl rfl ?_ | refine Zaf hmo htb hmz Za8 fF rfl rfl (by kernel_rfl) ?_); intro _ _ _ _ h; simp only [zE, evp, evx, ev1, evLoad, evStore, evBin, evIf, Zab, forall_const, z38, tb, reduceAdd, reduceSub, reduceMul, reduceEqDiff, reduceLeDiff, reduceLT, Nat.reduceBEq, Nat.reduceBNe, ↓reduceIte, reduceIte, spWv, Za4, clmS, plyS, wonS, joiS, nvS, Zau] at h; obtain ⟨rfl, rfl, rfl, rfl⟩ := h; refine ⟨?_, ?_⟩) | ((with_reducible refine Ob.mk ?_); first | exact trivial | (intros; omega) | ((repeat' first | apply And.intro | (intro a; have b := a; try simp only [zH] at b)) <;> first | assumption | omega | (simp only [zH]; omega)))
    refine Zaz rfl rfl (Za1 rfl ?_ rfl)
    rfl
  have hv := hb
  clear hb
  have hxl : x.length = o.length := (gok (validB_iff.1 hv)).xl
  have hil := @isP_lp o p s lp x hv
  repeat' first
    | with_reducible first | apply Zar | apply Zan | apply Zaa | apply Zad | apply Zah | apply Zap | apply Zag | apply Zaj | apply Zaq | apply Zas | apply Zao | apply Zal | apply Zac | apply Zak
    | ((with_reducible refine Zai ?_ ?_); exact rfl) | ((with_reducible refine Zat ?_); refine Zam rfl ?_ ?_ <;> intro hb <;> (try simp only [zH] at hb)) | ((with_reducible refine Zay 4 ?_ ?_); (· exact rfl); (with_reducible refine Zay 5 ?_ ?_); (· exact rfl); (first | refine Zae htb hmz Za8 fF rfl rfl ?_ | refine Zaf hmo htb hmz Za8 fF rfl rfl (by kernel_rfl) ?_); intro _ _ _ _ h; simp only [zE, evp, evx, ev1, evLoad, evStore, evBin, evIf, Zab, forall_const, z38, tb, reduceAdd, reduceSub, reduceMul, reduceEqDiff, reduceLeDiff, reduceLT, Nat.reduceBEq, Nat.reduceBNe, ↓reduceIte, reduceIte, spWv, Za4, clmS, plyS, wonS, joiS, nvS, Zau] at h; obtain ⟨rfl, rfl, rfl, rfl⟩ := h; refine ⟨?_, ?_⟩) | ((with_reducible refine Ob.mk ?_); first | exact trivial | (intros; omega) | ((repeat' first | apply And.intro | (intro a; have b := a; try simp only [zH] at b)) <;> first | assumption | omega | (simp only [zH]; omega)))
  · have e : winR ⟨o, p, x⟩ s lp = (0, 4) := by unfold winR; rw [if_pos hv, if_neg (by rw [hb]; decide)]
    rw [e]
    repeat' first
      | with_reducible first | apply Zar | apply Zan | apply Zaa | apply Zad | apply Zah | apply Zap | apply Zag | apply Zaj | apply Zaq | apply Zas | apply Zao | apply Zal | apply Zac | apply Zak
      | ((with_reducible refine Zai ?_ ?_); exact rfl) | ((with_reducible refine Zat ?_); refine Zam rfl ?_ ?_ <;> intro hb <;> (try simp only [zH] at hb)) | ((with_reducible refine Za7 ?_); (first | refine Zae htb hmz Za8 fF rfl rfl ?_ | refine Zaf hmo htb hmz Za8 fF rfl rfl (by kernel_rfl) ?_); intro _ _ _ _ h; simp only [zE, evp, evx, ev1, evLoad, evStore, evBin, evIf, Zab, forall_const, z38, tb, reduceAdd, reduceSub, reduceMul, reduceEqDiff, reduceLeDiff, reduceLT, Nat.reduceBEq, Nat.reduceBNe, ↓reduceIte, reduceIte, spWv, Za4, clmS, plyS, wonS, joiS, nvS, Zau] at h; obtain ⟨rfl, rfl, rfl, rfl⟩ := h; refine ⟨?_, ?_⟩) | ((with_reducible refine Ob.mk ?_); first | exact trivial | (intros; omega) | ((repeat' first | apply And.intro | (intro a; have b := a; try simp only [zH] at b)) <;> first | assumption | omega | (simp only [zH]; omega)))
    refine Zaz rfl rfl (Za1 rfl ?_ rfl)
    rfl
  have hi2 := hil hb
  have e : winR ⟨o, p, x⟩ s lp = (wonP ⟨o, p, x⟩ lp, 0) := by unfold winR; rw [if_pos hv, if_pos hb]
  rw [e]
  repeat' first
    | with_reducible first | apply Zar | apply Zan | apply Zaa | apply Zad | apply Zah | apply Zap | apply Zag | apply Zaj | apply Zaq | apply Zas | apply Zao | apply Zal | apply Zac | apply Zak
    | ((with_reducible refine Zai ?_ ?_); exact rfl) | ((with_reducible refine Zat ?_); refine Zam rfl ?_ ?_ <;> intro hb <;> (try simp only [zH] at hb)) | ((with_reducible refine Za7 ?_); (first | refine Zae htb hmz Za8 fF rfl rfl ?_ | refine Zaf hmo htb hmz Za8 fF rfl rfl (by kernel_rfl) ?_); intro _ _ _ _ h; simp only [zE, evp, evx, ev1, evLoad, evStore, evBin, evIf, Zab, forall_const, z38, tb, reduceAdd, reduceSub, reduceMul, reduceEqDiff, reduceLeDiff, reduceLT, Nat.reduceBEq, Nat.reduceBNe, ↓reduceIte, reduceIte, spWv, Za4, clmS, plyS, wonS, joiS, nvS, Zau] at h; obtain ⟨rfl, rfl, rfl, rfl⟩ := h; refine ⟨?_, ?_⟩) | ((with_reducible refine Ob.mk ?_); first | exact trivial | (intros; omega) | ((repeat' first | apply And.intro | (intro a; have b := a; try simp only [zH] at b)) <;> first | assumption | omega | (simp only [zH]; omega)))
  · exact Ob.mk hi2
  refine Zaz rfl rfl (Za1 rfl ?_ rfl)
  rfl
set_option maxRecDepth 4000 in
set_option maxHeartbeats 4000000 in
theorem vctr_ok : Zda Tryd.prog 17 ctrS := by
  refine Zbs htb (fn := Tryd.f17) (by kernel_rfl) (by kernel_rfl) rfl (fun args r hS => ?_) (fun args r hS hob hl => ?_)
  · unfold ctrS at hS; split at hS <;> first | (cases hS; done) | (cases hS; exact Nat.le_of_ble_eq_true rfl)
  unfold ctrS at hS
  split at hS
  case h_2 => cases hS
  rename_i o p x w c s lp
  simp only [Option.some.injEq] at hS
  subst hS
  simp only [lenP, mkL, lim] at hl
  dsimp only at hob
  obtain ⟨h1, h2⟩ := hob
  have hor := clm_or ⟨o, p, x⟩ w c
  repeat' first
    | with_reducible first | apply Zar | apply Zan | apply Zaa | apply Zad | apply Zah | apply Zap | apply Zag | apply Zaj | apply Zaq | apply Zas | apply Zao | apply Zal | apply Zac | apply Zak
    | ((with_reducible refine Zai ?_ ?_); exact rfl) | ((with_reducible refine Zat ?_); refine Zam rfl ?_ ?_ <;> intro hb <;> (try simp only [zH] at hb)) | ((with_reducible refine Zay 2 ?_ ?_); (· exact rfl); (first | refine Zae htb hmz Za8 fF rfl rfl ?_ | refine Zaf hmo htb hmz Za8 fF rfl rfl (by kernel_rfl) ?_); intro _ _ _ _ h; simp only [zE, evp, evx, ev1, evLoad, evStore, evBin, evIf, Zab, forall_const, z38, tb, reduceAdd, reduceSub, reduceMul, reduceEqDiff, reduceLeDiff, reduceLT, Nat.reduceBEq, Nat.reduceBNe, ↓reduceIte, reduceIte, spWv, Za4, clmS, plyS, wonS, joiS, nvS, Zau] at h; obtain ⟨rfl, rfl, rfl, rfl⟩ := h; refine ⟨?_, ?_⟩) | ((with_reducible refine Ob.mk ?_); first | exact trivial | (intros; omega) | ((repeat' first | apply And.intro | (intro a; have b := a; try simp only [zH] at b)) <;> first | assumption | omega | (simp only [zH]; omega)))
  rcases hor with ⟨hv, hc, he⟩ | ⟨he, hv⟩ | ⟨he, hv, hc⟩
  · rw [he]
    simp only [seI, seII, ↓reduceIte]
    have hG := gok (validB_iff.1 hv)
    have hxl : x.length = o.length := hG.xl
    have hal : (s ++ lp).length = s.length + lp.length := List.length_append ..
    have hfl : [s, lp].flatten = s ++ lp := by simp
    have hfl2 : [s, lp].flatten.length ≤ 100000 := by rw [hfl]; omega
    repeat' first
      | with_reducible first | apply Zar | apply Zan | apply Zaa | apply Zad | apply Zah | apply Zap | apply Zag | apply Zaj | apply Zaq | apply Zas | apply Zao | apply Zal | apply Zac | apply Zak
      | ((with_reducible refine Zai ?_ ?_); exact rfl) | ((with_reducible refine Zat ?_); refine Zam rfl ?_ ?_ <;> intro hb <;> (try simp only [zH] at hb)) | ((with_reducible refine Zay 3 ?_ ?_); (· exact rfl); (with_reducible refine Zay 4 ?_ ?_); (· exact rfl); (first | refine Zae htb hmz Za8 fF rfl rfl ?_ | refine Zaf hmo htb hmz Za8 fF rfl rfl (by kernel_rfl) ?_); intro _ _ _ _ h; simp only [zE, evp, evx, ev1, evLoad, evStore, evBin, evIf, Zab, forall_const, z38, tb, reduceAdd, reduceSub, reduceMul, reduceEqDiff, reduceLeDiff, reduceLT, Nat.reduceBEq, Nat.reduceBNe, ↓reduceIte, reduceIte, spWv, Za4, clmS, plyS, wonS, joiS, nvS, Zau] at h; obtain ⟨rfl, rfl, rfl, rfl⟩ := h; refine ⟨?_, ?_⟩) | ((with_reducible refine Ob.mk ?_); first | exact trivial | (intros; omega) | ((repeat' first | apply And.intro | (intro a; have b := a; try simp only [zH] at b)) <;> first | assumption | omega | (simp only [zH]; omega)))
    · cases hb
    clear hb
    repeat' first
      | with_reducible first | apply Zar | apply Zan | apply Zaa | apply Zad | apply Zah | apply Zap | apply Zag | apply Zaj | apply Zaq | apply Zas | apply Zao | apply Zal | apply Zac | apply Zak
      | ((with_reducible refine Zai ?_ ?_); exact rfl) | ((with_reducible refine Zat ?_); refine Zam rfl ?_ ?_ <;> intro hb <;> (try simp only [zH] at hb)) | ((with_reducible refine Zay 5 ?_ ?_); (· exact rfl); (with_reducible refine Zay 6 ?_ ?_); (· exact rfl); (first | refine Zae htb hmz Za8 fF rfl rfl ?_ | refine Zaf hmo htb hmz Za8 fF rfl rfl (by kernel_rfl) ?_); intro _ _ _ _ h; simp only [zE, evp, evx, ev1, evLoad, evStore, evBin, evIf, Zab, forall_const, z38, tb, reduceAdd, reduceSub, reduceMul, reduceEqDiff, reduceLeDiff, reduceLT, Nat.reduceBEq, Nat.reduceBNe, ↓reduceIte, reduceIte, spWv, Za4, clmS, plyS, wonS, joiS, nvS, Zau] at h; obtain ⟨rfl, rfl, rfl, rfl⟩ := h; refine ⟨?_, ?_⟩) | ((with_reducible refine Ob.mk ?_); first | exact trivial | (intros; omega) | ((repeat' first | apply And.intro | (intro a; have b := a; try simp only [zH] at b)) <;> first | assumption | omega | (simp only [zH]; omega)))
    · have e : ctrR ⟨o, p, x⟩ w c s lp = (false, 4) := by
        unfold ctrR
        rw [if_pos hv, if_neg]
        rintro ⟨h3, h4⟩
        rw [hb] at h4
        cases h4
      rw [e]
      repeat' first
        | with_reducible first | apply Zar | apply Zan | apply Zaa | apply Zad | apply Zah | apply Zap | apply Zag | apply Zaj | apply Zaq | apply Zas | apply Zao | apply Zal | apply Zac | apply Zak
        | ((with_reducible refine Zai ?_ ?_); exact rfl) | ((with_reducible refine Zat ?_); refine Zam rfl ?_ ?_ <;> intro hb <;> (try simp only [zH] at hb)) | ((with_reducible refine Za7 ?_); (first | refine Zae htb hmz Za8 fF rfl rfl ?_ | refine Zaf hmo htb hmz Za8 fF rfl rfl (by kernel_rfl) ?_); intro _ _ _ _ h; simp only [zE, evp, evx, ev1, evLoad, evStore, evBin, evIf, Zab, forall_const, z38, tb, reduceAdd, reduceSub, reduceMul, reduceEqDiff, reduceLeDiff, reduceLT, Nat.reduceBEq, Nat.reduceBNe, ↓reduceIte, reduceIte, spWv, Za4, clmS, plyS, wonS, joiS, nvS, Zau] at h; obtain ⟨rfl, rfl, rfl, rfl⟩ := h; refine ⟨?_, ?_⟩) | ((with_reducible refine Ob.mk ?_); first | exact trivial | (intros; omega) | ((repeat' first | apply And.intro | (intro a; have b := a; try simp only [zH] at b)) <;> first | assumption | omega | (simp only [zH]; omega)))
      refine Zaz rfl rfl (Za1 rfl ?_ rfl)
      rfl
    have e : ctrR ⟨o, p, x⟩ w c s lp = (Zc1 ⟨o, p, x⟩ w c s lp, 0) := by unfold ctrR; rw [if_pos hv, if_pos ⟨hc, hb⟩]
    rw [e]
    have hag := @agn_b ⟨o, p, x⟩ w c s lp
    simp only [psP] at hag
    obtain ⟨R, hR⟩ : ∃ R, Zc1 ⟨o, p, x⟩ w c s lp = R := ⟨_, rfl⟩
    rw [hR] at hag ⊢
    obtain ⟨hwl, hcl2, hcc⟩ := of_decide_eq_true hc
    have hwl : w.length = o.length := hwl
    have hcl2 : c.length = o.length := hcl2
    have hpl : p.length = o.length := hG.pl
    have hn : o.length ≤ 20000 := hG.n
    have hwl2 := isP_lp hv hb
    have hnv := fun q => Zft hv hc q
    obtain ⟨hne, hat, hmem⟩ := isP_iff.1 hb
    have hl0 : 0 < lp.length := List.length_pos_iff.2 hne
    have hat : ∀ i, i < (s ++ lp).length → 0 ≤ (s ++ lp).getD i 0 ∧ (s ++ lp).getD i 0 < (o.length : Int) := hat
    have hmem : ∀ i : Nat, i < (s ++ lp).length → aftP (s ++ lp) lp i ∈ x.getD ((s ++ lp).getD i 0).toNat [] := hmem
    clear e hb
    repeat' first
      | with_reducible first | apply Zar | apply Zan | apply Zaa | apply Zad | apply Zah | apply Zap | apply Zag | apply Zaj | apply Zaq | apply Zas | apply Zao | apply Zal | apply Zac | apply Zak
      | ((with_reducible refine Zai ?_ ?_); exact rfl) | ((with_reducible refine Zat ?_); refine Zam rfl ?_ ?_ <;> intro hb <;> (try simp only [zH] at hb)) | ((with_reducible refine Zay 7 ?_ ?_); (· exact rfl); (first | refine Zae htb hmz Za8 fF rfl rfl ?_ | refine Zaf hmo htb hmz Za8 fF rfl rfl (by kernel_rfl) ?_); intro _ _ _ _ h; simp only [zE, evp, evx, ev1, evLoad, evStore, evBin, evIf, Zab, forall_const, z38, tb, reduceAdd, reduceSub, reduceMul, reduceEqDiff, reduceLeDiff, reduceLT, Nat.reduceBEq, Nat.reduceBNe, ↓reduceIte, reduceIte, spWv, Za4, clmS, plyS, wonS, joiS, nvS, Zau] at h; obtain ⟨rfl, rfl, rfl, rfl⟩ := h; refine ⟨?_, ?_⟩) | ((with_reducible refine Ob.mk ?_); first | exact trivial | (intros; omega) | ((repeat' first | apply And.intro | (intro a; have b := a; try simp only [zH] at b)) <;> first | assumption | omega | (simp only [zH]; omega)))
    rw [hfl]
    generalize s ++ lp = L at *
    have hL : L.length ≤ 80000 := by omega
    have h00 := hat 0 (by omega)
    clear hfl hfl2
    repeat' first
      | with_reducible first | apply Zar | apply Zan | apply Zaa | apply Zad | apply Zah | apply Zap | apply Zag | apply Zaj | apply Zaq | apply Zas | apply Zao | apply Zal | apply Zac | apply Zak
      | ((with_reducible refine Zai ?_ ?_); exact rfl) | ((with_reducible refine Zat ?_); refine Zam rfl ?_ ?_ <;> intro hb <;> (try simp only [zH] at hb)) | ((with_reducible refine Zay 9 ?_ ?_); (· exact rfl); (first | refine Zae htb hmz Za8 fF rfl rfl ?_ | refine Zaf hmo htb hmz Za8 fF rfl rfl (by kernel_rfl) ?_); intro _ _ _ _ h; simp only [zE, evp, evx, ev1, evLoad, evStore, evBin, evIf, Zab, forall_const, z38, tb, reduceAdd, reduceSub, reduceMul, reduceEqDiff, reduceLeDiff, reduceLT, Nat.reduceBEq, Nat.reduceBNe, ↓reduceIte, reduceIte, spWv, Za4, clmS, plyS, wonS, joiS, nvS, Zau] at h; obtain ⟨rfl, rfl, rfl, rfl⟩ := h; refine ⟨?_, ?_⟩) | ((with_reducible refine Ob.mk ?_); first | exact trivial | (intros; omega) | ((repeat' first | apply And.intro | (intro a; have b := a; try simp only [zH] at b)) <;> first | assumption | omega | (simp only [zH]; omega)))
    · exact Ob.mk hwl2
    obtain ⟨q, hq⟩ : ∃ q, w.getD (L.getD 0 0).toNat 0 = q := ⟨_, rfl⟩
    rw [hq] at hag ⊢
    obtain ⟨wn, hwn⟩ : ∃ wn, wonP ⟨o, p, x⟩ lp = wn := ⟨_, rfl⟩
    rw [hwn] at hag ⊢
    have hlv : ∀ i, lvB w L q (i + 1) = (lvB w L q i || !decide (w.getD (L.getD i 0).toNat 0 = q)) := fun i => lvB_s
    repeat' first
      | with_reducible first | apply Zar | apply Zan | apply Zaa | apply Zad | apply Zah | apply Zap | apply Zag | apply Zaj | apply Zaq | apply Zas | apply Zao | apply Zal | apply Zac | apply Zak
      | ((with_reducible refine Zai ?_ ?_); exact rfl) | ((with_reducible refine Zat ?_); refine Zam rfl ?_ ?_ <;> intro hb <;> (try simp only [zH] at hb)) | ((with_reducible refine Za7 ?_); (first | refine Zae htb hmz Za8 fF rfl rfl ?_ | refine Zaf hmo htb hmz Za8 fF rfl rfl (by kernel_rfl) ?_); intro _ _ _ _ h; simp only [zE, evp, evx, ev1, evLoad, evStore, evBin, evIf, Zab, forall_const, z38, tb, reduceAdd, reduceSub, reduceMul, reduceEqDiff, reduceLeDiff, reduceLT, Nat.reduceBEq, Nat.reduceBNe, ↓reduceIte, reduceIte, spWv, Za4, clmS, plyS, wonS, joiS, nvS, Zau] at h; obtain ⟨rfl, rfl, rfl, rfl⟩ := h; refine ⟨?_, ?_⟩) | ((with_reducible refine Ob.mk ?_); first | exact trivial | (intros; omega) | ((repeat' first | apply And.intro | (intro a; have b := a; try simp only [zH] at b)) <;> first | assumption | omega | (simp only [zH]; omega)))
    refine Zbc (τ := Nat) (fun i => i ≤ L.length ∧ ∀ j : Nat, j < i → o.getD (L.getD j 0).toNat 0 = q ∧ w.getD (L.getD j 0).toNat 0 = q → aftP L lp j = c.getD (L.getD j 0).toNat 0) (fun i => ⟨60, [(49, .int .i64 i), (48, .int .i64 L.length), (47, .roI L), (12, .bool (!decide (wn = q) || lvB w L q i)), (11, .int .i64 q), (10, .roI L), (8, .own 11), (5, .rop (.agg (.cons (.roI s) (.cons (.roI lp) .nil)))), (4, .rop (.agg (.cons (.roI w) (.cons (.roI c) .nil)))), (3, .rop (.agg (.cons (.roI o) (.cons (.roI p) (.cons (.roII x) .nil)))))], [(11, some (.box (.agg (.cons (.roI o) (.cons (.roI p) (.cons (.roII x) (.cons (.roI w) (.cons (.roI c) .nil))))))))], []⟩) (fun i => L.length - i) 0 [] ?_ ⟨Nat.zero_le _, fun j hj => absurd hj (Nat.not_lt_zero j)⟩ ?_
    · (refine ⟨rfl, ?_, ?_⟩ <;> simp only [zE, evp, evx, ev1, evLoad, evStore, evBin, evIf, Zab, forall_const, z38, tb, reduceAdd, reduceSub, reduceMul, reduceEqDiff, reduceLeDiff, reduceLT, Nat.reduceBEq, Nat.reduceBNe, ↓reduceIte, reduceIte, spWv, Za4, clmS, plyS, wonS, joiS, nvS, Zau, zI])
      exact Bool.or_false _
    rintro i ⟨hi, hk⟩
    have hat1 := hat i
    have hlv1 := hlv i
    have hm1 := hmem i
    have hnv := hnv q
    clear hlv hmem
    repeat' first
      | with_reducible first | apply Zar | apply Zan | apply Zaa | apply Zad | apply Zah | apply Zap | apply Zag | apply Zaj | apply Zaq | apply Zas | apply Zao | apply Zal | apply Zac | apply Zak
      | ((with_reducible refine Zai ?_ ?_); exact rfl) | ((with_reducible refine Zat ?_); refine Zam rfl ?_ ?_ <;> intro hb <;> (try simp only [zH] at hb)) | ((with_reducible refine Zay 11 ?_ ?_); (· exact rfl); (with_reducible refine Zay 19 ?_ ?_); (· exact rfl); (first | refine Zae htb hmz Za8 fF rfl rfl ?_ | refine Zaf hmo htb hmz Za8 fF rfl rfl (by kernel_rfl) ?_); intro _ _ _ _ h; simp only [zE, evp, evx, ev1, evLoad, evStore, evBin, evIf, Zab, forall_const, z38, tb, reduceAdd, reduceSub, reduceMul, reduceEqDiff, reduceLeDiff, reduceLT, Nat.reduceBEq, Nat.reduceBNe, ↓reduceIte, reduceIte, spWv, Za4, clmS, plyS, wonS, joiS, nvS, Zau] at h; obtain ⟨rfl, rfl, rfl, rfl⟩ := h; refine ⟨?_, ?_⟩) | ((with_reducible refine Ob.mk ?_); first | exact trivial | (intros; omega) | ((repeat' first | apply And.intro | (intro a; have b := a; try simp only [zH] at b)) <;> first | assumption | omega | (simp only [zH]; omega)))
    · have hil : i < L.length := by omega
      have hat1 := hat1 hil
      have hm1 := hm1 hil
      have hA : aftP L lp i = if (i : Int) + 1 < L.length then L.getD ((i : Int) + 1).toNat 0 else lp.getD 0 0 := rfl
      have hfin : aftP L lp i ∉ nvF o w c x q (L.getD i 0).toNat → R = false := fun h => by
        rw [Bool.eq_false_iff]
        intro h2
        refine h ?_
        unfold nvF
        split
        · rename_i h3
          rw [(hag.1 h2).1 i hil h3]
          exact List.mem_singleton.2 rfl
        · exact hm1
      have hnew : aftP L lp i ∈ nvF o w c x q (L.getD i 0).toNat → ∀ j : Nat, j < i + 1 → o.getD (L.getD j 0).toNat 0 = q ∧ w.getD (L.getD j 0).toNat 0 = q → aftP L lp j = c.getD (L.getD j 0).toNat 0 := fun h j hj => by
        rcases Nat.lt_succ_iff_lt_or_eq.1 hj with h2 | rfl
        · exact hk j h2
        · intro h3
          unfold nvF at h
          rw [if_pos h3] at h
          exact List.mem_singleton.1 h
      obtain ⟨A, hAe⟩ : ∃ A, aftP L lp i = A := ⟨_, rfl⟩
      rw [hAe] at hA hfin hnew hm1
      have hnl := (hnv (L.getD i 0).toNat (by omega)).1
      repeat' first
        | with_reducible first | apply Zar | apply Zan | apply Zaa | apply Zad | apply Zah | apply Zap | apply Zag | apply Zaj | apply Zaq | apply Zas | apply Zao | apply Zal | apply Zac | apply Zak
        | ((with_reducible refine Zai ?_ ?_); exact rfl) | ((with_reducible refine Zat ?_); refine Zam rfl ?_ ?_ <;> intro hb <;> (try simp only [zH] at hb)) | ((with_reducible refine Zay 14 ?_ ?_); (· exact rfl); (with_reducible refine Zay 15 ?_ ?_); (· exact rfl); (first | refine Zae htb hmz Za8 fF rfl rfl ?_ | refine Zaf hmo htb hmz Za8 fF rfl rfl (by kernel_rfl) ?_); intro _ _ _ _ h; simp only [zE, evp, evx, ev1, evLoad, evStore, evBin, evIf, Zab, forall_const, z38, tb, reduceAdd, reduceSub, reduceMul, reduceEqDiff, reduceLeDiff, reduceLT, Nat.reduceBEq, Nat.reduceBNe, ↓reduceIte, reduceIte, spWv, Za4, clmS, plyS, wonS, joiS, nvS, Zau] at h; obtain ⟨rfl, rfl, rfl, rfl⟩ := h; refine ⟨?_, ?_⟩) | ((with_reducible refine Ob.mk ?_); first | exact trivial | (intros; omega) | ((repeat' first | apply And.intro | (intro a; have b := a; try simp only [zH] at b)) <;> first | assumption | omega | (simp only [zH]; omega)))
      · rw [if_pos hb] at hA
        have hb1 := hb
        clear hb
        repeat' first
          | with_reducible first | apply Zar | apply Zan | apply Zaa | apply Zad | apply Zah | apply Zap | apply Zag | apply Zaj | apply Zaq | apply Zas | apply Zao | apply Zal | apply Zac | apply Zak
          | ((with_reducible refine Zai ?_ ?_); exact rfl) | ((with_reducible refine Zat ?_); refine Zam rfl ?_ ?_ <;> intro hb <;> (try simp only [zH] at hb)) | ((with_reducible refine Zay 15 ?_ ?_); (· exact rfl); (first | refine Zae htb hmz Za8 fF rfl rfl ?_ | refine Zaf hmo htb hmz Za8 fF rfl rfl (by kernel_rfl) ?_); intro _ _ _ _ h; simp only [zE, evp, evx, ev1, evLoad, evStore, evBin, evIf, Zab, forall_const, z38, tb, reduceAdd, reduceSub, reduceMul, reduceEqDiff, reduceLeDiff, reduceLT, Nat.reduceBEq, Nat.reduceBNe, ↓reduceIte, reduceIte, spWv, Za4, clmS, plyS, wonS, joiS, nvS, Zau] at h; obtain ⟨rfl, rfl, rfl, rfl⟩ := h; refine ⟨?_, ?_⟩) | ((with_reducible refine Ob.mk ?_); first | exact trivial | (intros; omega) | ((repeat' first | apply And.intro | (intro a; have b := a; try simp only [zH] at b)) <;> first | assumption | omega | (simp only [zH]; omega)))
        rw [← hA]
        repeat' first
          | with_reducible first | apply Zar | apply Zan | apply Zaa | apply Zad | apply Zah | apply Zap | apply Zag | apply Zaj | apply Zaq | apply Zas | apply Zao | apply Zal | apply Zac | apply Zak
          | ((with_reducible refine Zai ?_ ?_); exact rfl) | ((with_reducible refine Zat ?_); refine Zam rfl ?_ ?_ <;> intro hb <;> (try simp only [zH] at hb)) | ((with_reducible refine Zay 16 ?_ ?_); (· exact rfl); (with_reducible refine Zay 17 ?_ ?_); (· exact rfl); (first | refine Zae htb hmz Za8 fF rfl rfl ?_ | refine Zaf hmo htb hmz Za8 fF rfl rfl (by kernel_rfl) ?_); intro _ _ _ _ h; simp only [zE, evp, evx, ev1, evLoad, evStore, evBin, evIf, Zab, forall_const, z38, tb, reduceAdd, reduceSub, reduceMul, reduceEqDiff, reduceLeDiff, reduceLT, Nat.reduceBEq, Nat.reduceBNe, ↓reduceIte, reduceIte, spWv, Za4, clmS, plyS, wonS, joiS, nvS, Zau] at h; obtain ⟨rfl, rfl, rfl, rfl⟩ := h; refine ⟨?_, ?_⟩) | ((with_reducible refine Ob.mk ?_); first | exact trivial | (intros; omega) | ((repeat' first | apply And.intro | (intro a; have b := a; try simp only [zH] at b)) <;> first | assumption | omega | (simp only [zH]; omega)))
        · rw [hfin hb]
          repeat' first
            | with_reducible first | apply Zar | apply Zan | apply Zaa | apply Zad | apply Zah | apply Zap | apply Zag | apply Zaj | apply Zaq | apply Zas | apply Zao | apply Zal | apply Zac | apply Zak
            | ((with_reducible refine Zai ?_ ?_); exact rfl) | ((with_reducible refine Zat ?_); refine Zam rfl ?_ ?_ <;> intro hb <;> (try simp only [zH] at hb)) | ((with_reducible refine Za7 ?_); (first | refine Zae htb hmz Za8 fF rfl rfl ?_ | refine Zaf hmo htb hmz Za8 fF rfl rfl (by kernel_rfl) ?_); intro _ _ _ _ h; simp only [zE, evp, evx, ev1, evLoad, evStore, evBin, evIf, Zab, forall_const, z38, tb, reduceAdd, reduceSub, reduceMul, reduceEqDiff, reduceLeDiff, reduceLT, Nat.reduceBEq, Nat.reduceBNe, ↓reduceIte, reduceIte, spWv, Za4, clmS, plyS, wonS, joiS, nvS, Zau] at h; obtain ⟨rfl, rfl, rfl, rfl⟩ := h; refine ⟨?_, ?_⟩) | ((with_reducible refine Ob.mk ?_); first | exact trivial | (intros; omega) | ((repeat' first | apply And.intro | (intro a; have b := a; try simp only [zH] at b)) <;> first | assumption | omega | (simp only [zH]; omega)))
          refine Zaz rfl rfl (Za1 rfl ?_ rfl)
          rfl
        · have hb2 := hnew hb
          clear hb
          repeat' first
            | with_reducible first | apply Zar | apply Zan | apply Zaa | apply Zad | apply Zah | apply Zap | apply Zag | apply Zaj | apply Zaq | apply Zas | apply Zao | apply Zal | apply Zac | apply Zak
            | ((with_reducible refine Zai ?_ ?_); exact rfl) | ((with_reducible refine Zat ?_); refine Zam rfl ?_ ?_ <;> intro hb <;> (try simp only [zH] at hb)) | ((with_reducible refine Za7 ?_); (first | refine Zae htb hmz Za8 fF rfl rfl ?_ | refine Zaf hmo htb hmz Za8 fF rfl rfl (by kernel_rfl) ?_); intro _ _ _ _ h; simp only [zE, evp, evx, ev1, evLoad, evStore, evBin, evIf, Zab, forall_const, z38, tb, reduceAdd, reduceSub, reduceMul, reduceEqDiff, reduceLeDiff, reduceLT, Nat.reduceBEq, Nat.reduceBNe, ↓reduceIte, reduceIte, spWv, Za4, clmS, plyS, wonS, joiS, nvS, Zau] at h; obtain ⟨rfl, rfl, rfl, rfl⟩ := h; refine ⟨?_, ?_⟩) | ((with_reducible refine Ob.mk ?_); first | exact trivial | (intros; omega) | ((repeat' first | apply And.intro | (intro a; have b := a; try simp only [zH] at b)) <;> first | assumption | omega | (simp only [zH]; omega)))
          refine back (i + 1) [] ?_ ⟨by omega, hb2⟩ (by omega)
          (refine ⟨rfl, ?_, ?_⟩ <;> simp only [zE, evp, evx, ev1, evLoad, evStore, evBin, evIf, Zab, forall_const, z38, tb, reduceAdd, reduceSub, reduceMul, reduceEqDiff, reduceLeDiff, reduceLT, Nat.reduceBEq, Nat.reduceBNe, ↓reduceIte, reduceIte, spWv, Za4, clmS, plyS, wonS, joiS, nvS, Zau, zI])
          rw [hlv1, Bool.or_assoc]
      · rw [if_neg (by omega)] at hA
        rw [← hA]
        clear hb
        repeat' first
          | with_reducible first | apply Zar | apply Zan | apply Zaa | apply Zad | apply Zah | apply Zap | apply Zag | apply Zaj | apply Zaq | apply Zas | apply Zao | apply Zal | apply Zac | apply Zak
          | ((with_reducible refine Zai ?_ ?_); exact rfl) | ((with_reducible refine Zat ?_); refine Zam rfl ?_ ?_ <;> intro hb <;> (try simp only [zH] at hb)) | ((with_reducible refine Zay 16 ?_ ?_); (· exact rfl); (with_reducible refine Zay 17 ?_ ?_); (· exact rfl); (first | refine Zae htb hmz Za8 fF rfl rfl ?_ | refine Zaf hmo htb hmz Za8 fF rfl rfl (by kernel_rfl) ?_); intro _ _ _ _ h; simp only [zE, evp, evx, ev1, evLoad, evStore, evBin, evIf, Zab, forall_const, z38, tb, reduceAdd, reduceSub, reduceMul, reduceEqDiff, reduceLeDiff, reduceLT, Nat.reduceBEq, Nat.reduceBNe, ↓reduceIte, reduceIte, spWv, Za4, clmS, plyS, wonS, joiS, nvS, Zau] at h; obtain ⟨rfl, rfl, rfl, rfl⟩ := h; refine ⟨?_, ?_⟩) | ((with_reducible refine Ob.mk ?_); first | exact trivial | (intros; omega) | ((repeat' first | apply And.intro | (intro a; have b := a; try simp only [zH] at b)) <;> first | assumption | omega | (simp only [zH]; omega)))
        · rw [hfin hb]
          repeat' first
            | with_reducible first | apply Zar | apply Zan | apply Zaa | apply Zad | apply Zah | apply Zap | apply Zag | apply Zaj | apply Zaq | apply Zas | apply Zao | apply Zal | apply Zac | apply Zak
            | ((with_reducible refine Zai ?_ ?_); exact rfl) | ((with_reducible refine Zat ?_); refine Zam rfl ?_ ?_ <;> intro hb <;> (try simp only [zH] at hb)) | ((with_reducible refine Za7 ?_); (first | refine Zae htb hmz Za8 fF rfl rfl ?_ | refine Zaf hmo htb hmz Za8 fF rfl rfl (by kernel_rfl) ?_); intro _ _ _ _ h; simp only [zE, evp, evx, ev1, evLoad, evStore, evBin, evIf, Zab, forall_const, z38, tb, reduceAdd, reduceSub, reduceMul, reduceEqDiff, reduceLeDiff, reduceLT, Nat.reduceBEq, Nat.reduceBNe, ↓reduceIte, reduceIte, spWv, Za4, clmS, plyS, wonS, joiS, nvS, Zau] at h; obtain ⟨rfl, rfl, rfl, rfl⟩ := h; refine ⟨?_, ?_⟩) | ((with_reducible refine Ob.mk ?_); first | exact trivial | (intros; omega) | ((repeat' first | apply And.intro | (intro a; have b := a; try simp only [zH] at b)) <;> first | assumption | omega | (simp only [zH]; omega)))
          refine Zaz rfl rfl (Za1 rfl ?_ rfl)
          rfl
        · have hb2 := hnew hb
          clear hb
          repeat' first
            | with_reducible first | apply Zar | apply Zan | apply Zaa | apply Zad | apply Zah | apply Zap | apply Zag | apply Zaj | apply Zaq | apply Zas | apply Zao | apply Zal | apply Zac | apply Zak
            | ((with_reducible refine Zai ?_ ?_); exact rfl) | ((with_reducible refine Zat ?_); refine Zam rfl ?_ ?_ <;> intro hb <;> (try simp only [zH] at hb)) | ((with_reducible refine Za7 ?_); (first | refine Zae htb hmz Za8 fF rfl rfl ?_ | refine Zaf hmo htb hmz Za8 fF rfl rfl (by kernel_rfl) ?_); intro _ _ _ _ h; simp only [zE, evp, evx, ev1, evLoad, evStore, evBin, evIf, Zab, forall_const, z38, tb, reduceAdd, reduceSub, reduceMul, reduceEqDiff, reduceLeDiff, reduceLT, Nat.reduceBEq, Nat.reduceBNe, ↓reduceIte, reduceIte, spWv, Za4, clmS, plyS, wonS, joiS, nvS, Zau] at h; obtain ⟨rfl, rfl, rfl, rfl⟩ := h; refine ⟨?_, ?_⟩) | ((with_reducible refine Ob.mk ?_); first | exact trivial | (intros; omega) | ((repeat' first | apply And.intro | (intro a; have b := a; try simp only [zH] at b)) <;> first | assumption | omega | (simp only [zH]; omega)))
          refine back (i + 1) [] ?_ ⟨by omega, hb2⟩ (by omega)
          (refine ⟨rfl, ?_, ?_⟩ <;> simp only [zE, evp, evx, ev1, evLoad, evStore, evBin, evIf, Zab, forall_const, z38, tb, reduceAdd, reduceSub, reduceMul, reduceEqDiff, reduceLeDiff, reduceLT, Nat.reduceBEq, Nat.reduceBNe, ↓reduceIte, reduceIte, spWv, Za4, clmS, plyS, wonS, joiS, nvS, Zau, zI])
          rw [hlv1, Bool.or_assoc]
    · have hie : i = L.length := by omega
      subst hie
      have e : R = (!decide (wn = q) || lvB w L q L.length) := by
        rw [Bool.eq_iff_iff, hag, Bool.or_eq_true, Bool.not_eq_true', decide_eq_false_iff_not]
        exact ⟨fun h => h.2.symm, fun h => ⟨hk, h.symm⟩⟩
      repeat' first
        | with_reducible first | apply Zar | apply Zan | apply Zaa | apply Zad | apply Zah | apply Zap | apply Zag | apply Zaj | apply Zaq | apply Zas | apply Zao | apply Zal | apply Zac | apply Zak
        | ((with_reducible refine Zai ?_ ?_); exact rfl) | ((with_reducible refine Zat ?_); refine Zam rfl ?_ ?_ <;> intro hb <;> (try simp only [zH] at hb)) | ((with_reducible refine Za7 ?_); (first | refine Zae htb hmz Za8 fF rfl rfl ?_ | refine Zaf hmo htb hmz Za8 fF rfl rfl (by kernel_rfl) ?_); intro _ _ _ _ h; simp only [zE, evp, evx, ev1, evLoad, evStore, evBin, evIf, Zab, forall_const, z38, tb, reduceAdd, reduceSub, reduceMul, reduceEqDiff, reduceLeDiff, reduceLT, Nat.reduceBEq, Nat.reduceBNe, ↓reduceIte, reduceIte, spWv, Za4, clmS, plyS, wonS, joiS, nvS, Zau] at h; obtain ⟨rfl, rfl, rfl, rfl⟩ := h; refine ⟨?_, ?_⟩) | ((with_reducible refine Ob.mk ?_); first | exact trivial | (intros; omega) | ((repeat' first | apply And.intro | (intro a; have b := a; try simp only [zH] at b)) <;> first | assumption | omega | (simp only [zH]; omega)))
      refine Zaz rfl rfl (Za1 rfl ?_ rfl)
      rw [e]
      rfl
  · have e : ctrR ⟨o, p, x⟩ w c s lp = (false, 1) := by unfold ctrR; rw [if_neg (by rw [hv]; decide)]
    rw [e, he]
    repeat' first
      | with_reducible first | apply Zar | apply Zan | apply Zaa | apply Zad | apply Zah | apply Zap | apply Zag | apply Zaj | apply Zaq | apply Zas | apply Zao | apply Zal | apply Zac | apply Zak
      | ((with_reducible refine Zai ?_ ?_); exact rfl) | ((with_reducible refine Zat ?_); refine Zam rfl ?_ ?_ <;> intro hb <;> (try simp only [zH] at hb)) | ((with_reducible refine Zay 3 ?_ ?_); (· exact rfl); (with_reducible refine Zay 4 ?_ ?_); (· exact rfl); (first | refine Zae htb hmz Za8 fF rfl rfl ?_ | refine Zaf hmo htb hmz Za8 fF rfl rfl (by kernel_rfl) ?_); intro _ _ _ _ h; simp only [zE, evp, evx, ev1, evLoad, evStore, evBin, evIf, Zab, forall_const, z38, tb, reduceAdd, reduceSub, reduceMul, reduceEqDiff, reduceLeDiff, reduceLT, Nat.reduceBEq, Nat.reduceBNe, ↓reduceIte, reduceIte, spWv, Za4, clmS, plyS, wonS, joiS, nvS, Zau] at h; obtain ⟨rfl, rfl, rfl, rfl⟩ := h; refine ⟨?_, ?_⟩) | ((with_reducible refine Ob.mk ?_); first | exact trivial | (intros; omega) | ((repeat' first | apply And.intro | (intro a; have b := a; try simp only [zH] at b)) <;> first | assumption | omega | (simp only [zH]; omega)))
    · repeat' first
        | with_reducible first | apply Zar | apply Zan | apply Zaa | apply Zad | apply Zah | apply Zap | apply Zag | apply Zaj | apply Zaq | apply Zas | apply Zao | apply Zal | apply Zac | apply Zak
        | ((with_reducible refine Zai ?_ ?_); exact rfl) | ((with_reducible refine Zat ?_); refine Zam rfl ?_ ?_ <;> intro hb <;> (try simp only [zH] at hb)) | ((with_reducible refine Za7 ?_); (first | refine Zae htb hmz Za8 fF rfl rfl ?_ | refine Zaf hmo htb hmz Za8 fF rfl rfl (by kernel_rfl) ?_); intro _ _ _ _ h; simp only [zE, evp, evx, ev1, evLoad, evStore, evBin, evIf, Zab, forall_const, z38, tb, reduceAdd, reduceSub, reduceMul, reduceEqDiff, reduceLeDiff, reduceLT, Nat.reduceBEq, Nat.reduceBNe, ↓reduceIte, reduceIte, spWv, Za4, clmS, plyS, wonS, joiS, nvS, Zau] at h; obtain ⟨rfl, rfl, rfl, rfl⟩ := h; refine ⟨?_, ?_⟩) | ((with_reducible refine Ob.mk ?_); first | exact trivial | (intros; omega) | ((repeat' first | apply And.intro | (intro a; have b := a; try simp only [zH] at b)) <;> first | assumption | omega | (simp only [zH]; omega)))
      refine Zaz rfl rfl (Za1 rfl ?_ rfl)
      rfl
    · exact absurd hb (by decide)
  · have e : ctrR ⟨o, p, x⟩ w c s lp = (false, 4) := by
      unfold ctrR
      rw [if_pos hv, if_neg]
      rintro ⟨h3, h4⟩
      rw [hc] at h3
      cases h3
    rw [e, he]
    repeat' first
      | with_reducible first | apply Zar | apply Zan | apply Zaa | apply Zad | apply Zah | apply Zap | apply Zag | apply Zaj | apply Zaq | apply Zas | apply Zao | apply Zal | apply Zac | apply Zak
      | ((with_reducible refine Zai ?_ ?_); exact rfl) | ((with_reducible refine Zat ?_); refine Zam rfl ?_ ?_ <;> intro hb <;> (try simp only [zH] at hb)) | ((with_reducible refine Zay 3 ?_ ?_); (· exact rfl); (with_reducible refine Zay 4 ?_ ?_); (· exact rfl); (first | refine Zae htb hmz Za8 fF rfl rfl ?_ | refine Zaf hmo htb hmz Za8 fF rfl rfl (by kernel_rfl) ?_); intro _ _ _ _ h; simp only [zE, evp, evx, ev1, evLoad, evStore, evBin, evIf, Zab, forall_const, z38, tb, reduceAdd, reduceSub, reduceMul, reduceEqDiff, reduceLeDiff, reduceLT, Nat.reduceBEq, Nat.reduceBNe, ↓reduceIte, reduceIte, spWv, Za4, clmS, plyS, wonS, joiS, nvS, Zau] at h; obtain ⟨rfl, rfl, rfl, rfl⟩ := h; refine ⟨?_, ?_⟩) | ((with_reducible refine Ob.mk ?_); first | exact trivial | (intros; omega) | ((repeat' first | apply And.intro | (intro a; have b := a; try simp only [zH] at b)) <;> first | assumption | omega | (simp only [zH]; omega)))
    · repeat' first
        | with_reducible first | apply Zar | apply Zan | apply Zaa | apply Zad | apply Zah | apply Zap | apply Zag | apply Zaj | apply Zaq | apply Zas | apply Zao | apply Zal | apply Zac | apply Zak
        | ((with_reducible refine Zai ?_ ?_); exact rfl) | ((with_reducible refine Zat ?_); refine Zam rfl ?_ ?_ <;> intro hb <;> (try simp only [zH] at hb)) | ((with_reducible refine Za7 ?_); (first | refine Zae htb hmz Za8 fF rfl rfl ?_ | refine Zaf hmo htb hmz Za8 fF rfl rfl (by kernel_rfl) ?_); intro _ _ _ _ h; simp only [zE, evp, evx, ev1, evLoad, evStore, evBin, evIf, Zab, forall_const, z38, tb, reduceAdd, reduceSub, reduceMul, reduceEqDiff, reduceLeDiff, reduceLT, Nat.reduceBEq, Nat.reduceBNe, ↓reduceIte, reduceIte, spWv, Za4, clmS, plyS, wonS, joiS, nvS, Zau] at h; obtain ⟨rfl, rfl, rfl, rfl⟩ := h; refine ⟨?_, ?_⟩) | ((with_reducible refine Ob.mk ?_); first | exact trivial | (intros; omega) | ((repeat' first | apply And.intro | (intro a; have b := a; try simp only [zH] at b)) <;> first | assumption | omega | (simp only [zH]; omega)))
      refine Zaz rfl rfl (Za1 rfl ?_ rfl)
      rfl
    · exact absurd hb (by decide)
open Go
section
variable {P : Program} {N κ : Nat} {get : Operand → AV}
def mfA (f : Nat) (u : AV) : List Value → (Nat → Prop) → World → (Nat → Prop) → Prop := fun ys Z w F => (∀ y, ¬ F y) ∧ ∃ v, ys = [.func (.func f) #[v] #[]] ∧ R Z w u nu0 true [v]
def slH (f1 f2 : Nat) (u : AV) (b : Nat) (Z : Nat → Prop) (w : World) : Prop := Z b ∧ ∃ T v1 v2, w.heap[b]? = some (.cells #[.func (.func f1) #[v1] #[], .func (.func f2) #[v2] #[]] T (0, 0)) ∧ R Z w u nu0 true [v1] ∧ R Z w u nu0 true [v2]
def slA (f1 f2 : Nat) (u : AV) : List Value → (Nat → Prop) → World → (Nat → Prop) → Prop := fun ys Z w F => (∀ y, ¬ F y) ∧ ∃ b, ys = [.slice (some ⟨b, 0, none⟩) 2 2] ∧ slH f1 f2 u b Z w
def paA (f1 f2 : Nat) (u : AV) (i : Nat) : List Value → (Nat → Prop) → World → (Nat → Prop) → Prop := fun ys Z w F => (∀ y, ¬ F y) ∧ ∃ b, ys = [.pointer (some ⟨b, i, none⟩)] ∧ slH f1 f2 u b Z w
theorem slH_mono {f1 f2 : Nat} {u : AV} {b : Nat} {Z Z' : Nat → Prop} {w w' : World} (h : slH f1 f2 u b Z w) (hZ : ∀ b, Z b → Z' b) (hw : ∀ b, Z b → w'.heap[b]? = w.heap[b]?) : slH f1 f2 u b Z' w' := by
  obtain ⟨h0, T, v1, v2, h1, h2, h3⟩ := h
  exact ⟨hZ _ h0, T, v1, v2, (hw b h0).trans h1, Zbm hZ hw h2, Zbm hZ hw h3⟩
theorem opsem_first {o : Oper} {f : Nat} {x : Operand} {u : AV} (ho : o.op = .makeFunc (.func f) #[x] #[]) (hu : get x = u) (hm : men noK u = true) (kn : Nat) : OpSem P o get (.own kn) [] [(kn, some (.sem [kn] (mfA f u)))] (some kn) := by
  subst hu
  exact Ze1 (ks := []) fun K Z ν w ev μ rs h1 hg hx hrd => by
    obtain ⟨rx, _⟩ := hx x (by rw [ho]; simp [Op.operands])
    refine ⟨.func (.func f) #[ev x] #[], ?_, rfl, fun k hk => (by cases hk), fun Z' w' hZ hw => ⟨fun y hy => hy, ev x, rfl, Zcs hm (Zbm hZ hw rx)⟩⟩
    simp [execOp, ho, Instr.makeFunc, Sem.run_bind, Result.andThen, Sem.run]
theorem Zgo {K Z : Nat → Prop} {w : World} {ν : Nat → Value} {μ : Nat → Bool} {rs : Rs} {k : Nat} {ks : List Nat} {A : List Value → (Nat → Prop) → World → (Nat → Prop) → Prop} (hg : GoodRs K Z w ν μ rs) (h : rs k = some (.sem ks A)) : ∃ F, A (ks.map ν) Z w F := by
  obtain ⟨Ft, hF⟩ := hg
  obtain ⟨_, _, hs, _⟩ := hF k _ h
  exact ⟨_, hs Z w (fun _ h => h) (fun _ _ => rfl)⟩
theorem opsem_len2 {o : Oper} {t k f1 f2 : Nat} {u : AV} {x : Operand} (ho : o.op = .call ⟨.builtin .len, #[x], #[t]⟩) (hx : get x = .own k)
    (hrun : ∀ (ev : Operand → Value) (w : World) (b : Nat), ev x = .slice (some ⟨b, 0, none⟩) 2 2 → (execOp ev o).run P w = .ok (.value (.int .i64 2)) w) : OpSem P o get (.int .i64 2) [(k, .sem [k] (slA f1 f2 u))] [] none :=
  Zb7 fun K Z ν w ev μ rs hone hg hv hrd => by
    obtain ⟨rx, _⟩ := hv x (by rw [ho]; simp [Op.operands, Call.operands])
    rw [hx] at rx
    have hx := one1 rx
    obtain ⟨F, _, b, hy, _⟩ := Zgo hg (hrd (k, .sem [k] (slA f1 f2 u)) (by simp))
    have hk : ν k = .slice (some ⟨b, 0, none⟩) 2 2 := by simpa using hy
    exact ⟨_, hrun ev w b (hx.trans hk), rfl, rfl⟩
theorem opsem_at2 {o : Oper} {t k f1 f2 : Nat} {u : AV} {x y : Operand} {i : Nat} (ho : o.op = .indexAddr t x y) (hx : get x = .own k) (hy : get y = .int .i64 i)
    (hrun : ∀ (ev : Operand → Value) (w : World) (b : Nat), ev x = .slice (some ⟨b, 0, none⟩) 2 2 → ev y = .int .i64 i → (execOp ev o).run P w = .ok (.value (.pointer (some ⟨b, i, none⟩))) w) (kn : Nat) : OpSem P o get (.own kn) [(k, .sem [k] (slA f1 f2 u))] [(kn, some (.sem [kn] (paA f1 f2 u i)))] (some kn) :=
  Ze1 (ks := []) fun K Z ν w ev μ rs hone hg hv hrd => by
    obtain ⟨rx, _⟩ := hv x (by rw [ho]; simp [Op.operands])
    obtain ⟨ry, _⟩ := hv y (by rw [ho]; simp [Op.operands])
    rw [hx] at rx
    rw [hy] at ry
    have hx := one1 rx
    have hy := one1 ry
    obtain ⟨F, _, b, hs, hH⟩ := Zgo hg (hrd (k, .sem [k] (slA f1 f2 u)) (by simp))
    have hk : ν k = .slice (some ⟨b, 0, none⟩) 2 2 := by simpa using hs
    exact ⟨_, hrun ev w b (hx.trans hk) hy, rfl, fun k hk => (by cases hk), fun Z' w' hZ hw => ⟨fun y hy => hy, b, rfl, slH_mono hH hZ hw⟩⟩
theorem opsem_ld2 {o : Oper} {t k f1 f2 f : Nat} {u : AV} {x : Operand} {i : Nat} (ho : o.op = .load t x) (hx : get x = .own k) (hf : (i = 0 ∧ f = f1) ∨ (i = 1 ∧ f = f2))
    (hrun : ∀ (ev : Operand → Value) (w : World) (b : Nat) (v : Value), ev x = .pointer (some ⟨b, i, none⟩) → w.cell? ⟨b, i, none⟩ = some v → (execOp ev o).run P w = .ok (.value v) w) (kn : Nat) : OpSem P o get (.own kn) [(k, .sem [k] (paA f1 f2 u i))] [(kn, some (.sem [kn] (mfA f u)))] (some kn) :=
  Ze1 (ks := []) fun K Z ν w ev μ rs hone hg hv hrd => by
    obtain ⟨rx, _⟩ := hv x (by rw [ho]; simp [Op.operands])
    rw [hx] at rx
    have hx := one1 rx
    obtain ⟨F, _, b, hs, hZb, T, v1, v2, hh, r1, r2⟩ := Zgo hg (hrd (k, .sem [k] (paA f1 f2 u i)) (by simp))
    have hk : ν k = .pointer (some ⟨b, i, none⟩) := by simpa using hs
    rcases hf with ⟨rfl, rfl⟩ | ⟨rfl, rfl⟩
    · refine ⟨_, hrun ev w b (.func (.func f) #[v1] #[]) (hx.trans hk) (by simp [World.cell?, hh]), rfl, fun k hk => (by cases hk), fun Z' w' hZ hw => ⟨fun y hy => hy, v1, rfl, Zbm hZ hw r1⟩⟩
    · refine ⟨_, hrun ev w b (.func (.func f) #[v2] #[]) (hx.trans hk) (by simp [World.cell?, hh]), rfl, fun k hk => (by cases hk), fun Z' w' hZ hw => ⟨fun y hy => hy, v2, rfl, Zbm hZ hw r2⟩⟩
theorem opsem_sl2 {o : Oper} {t e k1 k2 f1 f2 : Nat} {u : AV} {x y : Operand} (ho : o.op = .buildSlice t 2 #[(0, x), (1, y)]) (hx : get x = .own k1) (hy : get y = .own k2)
    (hrun : ∀ (ev : Operand → Value) (w : World) (v1 v2 : Value), ev x = .func (.func f1) #[v1] #[] → ev y = .func (.func f2) #[v2] #[] → (execOp ev o).run P w = .ok (.value (.slice (some ⟨w.heap.size, 0, none⟩) 2 2)) (w.alloc (.cells #[.func (.func f1) #[v1] #[], .func (.func f2) #[v2] #[]] e))) (kn : Nat) :
    OpSem P o get (.own kn) [(k1, .sem [k1] (mfA f1 u)), (k2, .sem [k2] (mfA f2 u))] [(kn, some (.sem [kn] (slA f1 f2 u)))] (some kn) :=
  ⟨fun K Z ν w ev μ rs h1 hg hzk hkl hv hrd hkn => by
    have hk2 := hkn kn rfl
    obtain ⟨rx, _⟩ := hv x (by rw [ho]; simp [Op.operands])
    obtain ⟨ry, _⟩ := hv y (by rw [ho]; simp [Op.operands])
    rw [hx] at rx
    rw [hy] at ry
    have hx := one1 rx
    have hy := one1 ry
    obtain ⟨F1, _, v1, hs1, r1⟩ := Zgo hg (hrd (k1, .sem [k1] (mfA f1 u)) (by simp))
    obtain ⟨F2, _, v2, hs2, r2⟩ := Zgo hg (hrd (k2, .sem [k2] (mfA f2 u)) (by simp))
    have e1 : ν k1 = .func (.func f1) #[v1] #[] := by simpa using hs1
    have e2 : ν k2 = .func (.func f2) #[v2] #[] := by simpa using hs2
    have hr := hrun ev w v1 v2 (hx.trans e1) (hy.trans e2)
    have hs := Zcr (Z := Z) hkl (.cells #[.func (.func f1) #[v1] #[], .func (.func f2) #[v2] #[]] e)
    have hzb : ∀ b, Z b → (w.alloc (.cells #[.func (.func f1) #[v1] #[], .func (.func f2) #[v2] #[]] e)).heap[b]? = w.heap[b]? := fun b hb => Zbj _ (hkl b (hzk b hb))
    have hg1 : GoodRs (un K (fun b => Z b ∨ b = w.heap.size)) (fun b => Z b ∨ b = w.heap.size) (w.alloc (.cells #[.func (.func f1) #[v1] #[], .func (.func f2) #[v2] #[]] e)) ν μ rs := hg.mono (fun _ h => .inl h) hzb (by simp) (fun b hb => by
      rcases hb with h | h | h
      · exact .inl h
      · exact .inl (hzk b h)
      · exact .inr (by omega)) (fun b _ hb => Zbj _ hb)
    have hlt : ∀ b, un K (fun b => Z b ∨ b = w.heap.size) b → b < (w.alloc (.cells #[.func (.func f1) #[v1] #[], .func (.func f2) #[v2] #[]] e)).heap.size := fun b hb => by
      have : b < w.heap.size + 1 := by
        rcases hb with h | h | h
        · have := hkl b h; omega
        · have := hkl b (hzk b h); omega
        · omega
      simpa using this
    have hH : slH f1 f2 u w.heap.size (fun b => Z b ∨ b = w.heap.size) (w.alloc (.cells #[.func (.func f1) #[v1] #[], .func (.func f2) #[v2] #[]] e)) := ⟨.inr rfl, e, v1, v2, Zcn _, Zbm (fun _ h => .inl h) hzb r1, Zbm (fun _ h => .inl h) hzb r2⟩
    refine ⟨_, _, upN ν kn (.slice (some ⟨w.heap.size, 0, none⟩) 2 2), fun b => Z b ∨ b = w.heap.size, .inl hr, ⟨hs.ext, fun _ h => .inl h, fun b hb => hb.imp id (fun e hK => by have := hkl b hK; omega)⟩, Zby hk2, Zco h1 rfl, ?_, ?_, Zbr, fun b hb => hlt b (.inr hb)⟩
    · refine Zde (F := fun _ => False) hg1 (fun b hb => .inr hb) hlt hk2 (Nat.le_refl _) (fun _ _ => rfl) ?_ (fun k hk => ?_) (fun y hy => hy.elim)
      · intro Z' w' hZ hw
        refine ⟨fun y hy => hy, w.heap.size, ?_, slH_mono hH hZ (fun b hb => hw b (.inl hb))⟩
        show [upN ν kn _ kn] = _
        rw [upN_same]
      · rw [List.mem_singleton.1 hk]; exact Zbr
    · show [_] = [_]; rw [upN_same]⟩
theorem awpL_callB {ro : Option Nat} {o : Oper} {x : Operand} {ts : Array TypeId} {f k m : Nat} {u : AV} {env : List (Nat × AV)} {l : List (Nat × Option Blk)} {ms : List Nat} {Q0 : GR → Prop} {Q : Exit → St → Prop}
    (hS : FG P f [u] [] 0 Q0) (ho : o.op = .call ⟨.value x, #[], ts⟩) (hgd : o.guard.isNone = true) (hd : Zc5 N [o] = true) (hx : opv (lke env) x = .own k) (hk : lkr l k = some (.sem [k] (mfA f u))) (hmu : men noK u = true) (hκ : Nat.ble κ m = true)
    (next : ∀ gm gv gr, Q0 ⟨gm, gv, gr⟩ → ∀ m' e' l', (m + (gm - 0) = m' ∧ putE o.dst (ren (rhoC [] m) gv) env = e' ∧ outR [] m gr l = l') → Q .normal (CS.st ⟨m', e', l', ms⟩)) : awpL P ro N κ [o] (CS.st ⟨m, env, l, ms⟩) Q := by
  obtain ⟨⟨fn, hfn, hname, hbody⟩, _⟩ := id hS
  refine awpL_callX (s := ⟨m, env, l, ms⟩) [] (hS.fp (E := fun _ => False)) hgd hd (fun K Z w ν a hg => ?_) (Zb1 (show men noK (mkL [u]) = true by simp [mkL, men, hmu])) rfl hκ (fun j B hj => by cases hj) (fun g hg hle => next g.m g.val g.rs hg _ _ _ ⟨rfl, rfl, rfl⟩) (fun c h => h.elim)
  have rx := Zh0 hg x
  rw [show opv (CS.st ⟨m, env, l, ms⟩).env x = opv (lke env) x from rfl, hx] at rx
  have ex := one1 rx
  obtain ⟨F, _, v, hs, r⟩ := Zgo hg.rs hk
  have ek : ν k = .func (.func f) #[v] #[] := by simpa using hs
  refine ⟨[v], ?_, R_ren.2 ⟨v, [], rfl, Zcs hmu r, rfl⟩⟩
  rw [Zc0 (by rw [ho]; intro c hc; cases hc)]
  simp [execOp, ho, resolve, ex, ek, Deferred.ofValue, invoke, callFunc, hfn, Sem.run_bind, Result.andThen, Sem.run, program]
  have hname' : ¬ fn.name = "runtime.NumGoroutine" := by simpa using hname
  cases hb : fn.body with
  | none => rw [hb] at hbody; cases hbody
  | some c => simp [hname', hb, Sem.run]
end
end Go.Proofs.YtdhoadhkkecjjaaDoor.Cal
