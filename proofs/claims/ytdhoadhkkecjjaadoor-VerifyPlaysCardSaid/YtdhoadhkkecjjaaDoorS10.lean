/- Own texts, merged. -/
import Derived.Test.YtdhoadhkkecjjaaDoorS9
set_option linter.unusedVariables false
set_option linter.unusedSimpArgs false
open Nat (reduceAdd reduceSub reduceMul reduceEqDiff reduceLeDiff reduceLT)
namespace Go.Proofs.YtdhoadhkkecjjaaDoor.Cal
open Go Pl
theorem Zfz {o p w c : List Int} {x : List (List Int)} (hv : Zba ⟨o, p, x⟩ = true) (hc : Zbn ⟨o, p, x⟩ w c = true) (q : Int) : ∀ u, u < o.length → (nvF o w c x q u).length ≤ 64 ∧ 0 < (nvF o w c x q u).length ∧ ∀ j, j < (nvF o w c x q u).length → 0 ≤ (nvF o w c x q u).getD j 0 ∧ (nvF o w c x q u).getD j 0 < (o.length : Int) := by
  have hG := gok (validB_iff.1 hv)
  obtain ⟨hwl, hcl, hcc⟩ := of_decide_eq_true hc
  intro u hu
  have h1 : 1 ≤ (x.getD u []).length ∧ (x.getD u []).length ≤ 64 := hG.len u hu
  have hat : ∀ k, k < (x.getD u []).length → 0 ≤ (x.getD u []).getD k 0 ∧ (x.getD u []).getD k 0 < (o.length : Int) := hG.at' u hu
  unfold nvF
  split
  · rename_i h
    have hm : c.getD u 0 ∈ x.getD u [] := (hcc u hu).2.1 (h.1.trans h.2.symm)
    obtain ⟨k, hk, e⟩ := Zfu hm
    refine ⟨by simp, by simp, fun j hj => ?_⟩
    have hj0 : j = 0 := by simpa using hj
    subst hj0
    show 0 ≤ c.getD u 0 ∧ c.getD u 0 < _
    rw [← e]
    exact hat k hk
  · exact ⟨h1.2, h1.1, hat⟩
def errA (s l : List Int) : Blk := .sem [0] (ifA 65 (.agg (.cons (.roI s) (.cons (.roI l) .nil))))
theorem onN_step {o p w c : List Int} {x : List (List Int)} {q : Int} (hnv : ∀ u, u < o.length → (nvF o w c x q u).length ≤ 64 ∧ 0 < (nvF o w c x q u).length ∧ ∀ j, j < (nvF o w c x q u).length → 0 ≤ (nvF o w c x q u).getD j 0 ∧ (nvF o w c x q u).getD j 0 < (o.length : Int)) {u : Nat} (hu : u < o.length) :
    (∀ i, orb (onN o w c x q) u i < o.length) ∧ ∀ i, orb (onN o w c x q) u (i + 1) ∈ nxVn ⟨o, p, x⟩ w c q (orb (onN o w c x q) u i) := by
  have h1 : ∀ i, orb (onN o w c x q) u i < o.length := fun i => by
    induction i with
    | zero => exact hu
    | succ i ih =>
      have := (hnv _ ih).2.2 0 (hnv _ ih).2.1
      show ((nvF o w c x q (orb (onN o w c x q) u i)).getD 0 0).toNat < _
      omega
  refine ⟨h1, fun i => ?_⟩
  have h2 := (hnv _ (h1 i)).2.1
  show ((nvF o w c x q (orb (onN o w c x q) u i)).getD 0 0).toNat ∈ (nvF o w c x q (orb (onN o w c x q) u i)).map Int.toNat
  refine List.mem_map.2 ⟨_, ?_, rfl⟩
  rw [List.getD_eq_getElem?_getD, List.getElem?_eq_getElem h2]
  exact List.getElem_mem _
theorem on_cp {o p w c : List Int} {x : List (List Int)} (hv : Zba ⟨o, p, x⟩ = true) (hc : Zbn ⟨o, p, x⟩ w c = true) {v u : Nat} (hvn : v < o.length) (hu : u ∈ nxVn ⟨o, p, x⟩ w c (w.getD v 0) v) (hun : u < o.length) (hW : w.getD u 0 ≠ w.getD v 0) :
    CpOK ⟨o, p, x⟩ w c ((v : Int) :: onS1 (onN o w c x (w.getD v 0)) u) (onL1 (onN o w c x (w.getD v 0)) u) := by
  obtain ⟨h1, h2⟩ := onN_step (p := p) (Zfz hv hc (w.getD v 0)) hun
  obtain ⟨j, k, ha, hj⟩ := again_ex h1
  have := left_cp hv hc hvn hu hW h1 h2 ha.2.1 hj ha.2.2
  unfold onS1 onL1
  rw [agA_eq ha]
  have e : Zbe ((List.range j).map (orb (onN o w c x (w.getD v 0)) u)) = orL (onN o w c x (w.getD v 0)) u j := by unfold Zbe orL; rw [List.map_map]; rfl
  unfold Zbe at this e
  rw [List.map_take, List.map_drop, e] at this
  exact this
noncomputable def spLe : Nat → Option Spec
  | 42 => some nvS
  | 39 => some joiS
  | 62 => some onS
  | _ => none
theorem Zcc : SpOK Tryd.prog spLe := by
  intro f S h
  unfold spLe at h
  split at h
  · cases h; exact Zi8
  · cases h; exact Zee
  · cases h; exact on_ok
  · cases h
set_option maxRecDepth 4000 in
set_option maxHeartbeats 4000000 in
theorem left_fg {o p w c : List Int} {x : List (List Int)} (hv : Zba ⟨o, p, x⟩ = true) (hc : Zbn ⟨o, p, x⟩ w c = true) :
    FG Tryd.prog 52 [.agg (.cons (.roI o) (.cons (.roI p) (.cons (.roII x) (.cons (.roI w) (.cons (.roI c) .nil)))))] [] 0 fun g => ((∀ v, v < o.length → ∀ u, u ∈ nxVn ⟨o, p, x⟩ w c (w.getD v 0) v → w.getD u 0 = w.getD v 0) ∧ g = ⟨0, .cst .nilIface, []⟩) ∨ ∃ s l, CpOK ⟨o, p, x⟩ w c s l ∧ g = ⟨1, .own 0, [(0, some (errA s l))]⟩ := by
  refine Zhv htb (fn := Tryd.f52) (by kernel_rfl) (by kernel_rfl) rfl (Nat.le_of_ble_eq_true rfl) fun hl => ?_
  simp only [lenP, mkL, lim] at hl
  have hG := gok (validB_iff.1 hv)
  obtain ⟨hwl, hcl, hcc⟩ := of_decide_eq_true hc
  have hxl : x.length = o.length := hG.xl
  have hn : o.length ≤ 20000 := hG.n
  have hwl : w.length = o.length := hwl
  have hcl : c.length = o.length := hcl
  clear hcc
  have hnvq := fun q => Zfz hv hc q
  repeat' first
    | with_reducible first | apply Zar | apply Zan | apply Zaa | apply Zac | apply Zah | apply Zap | apply Zag | apply Zaj | apply Zaq | apply Zas | apply Zao | apply Zal | apply Zab | apply Zak
    | ((with_reducible refine Zai ?_ ?_); exact rfl) | ((with_reducible refine Zat ?_); refine Zam rfl ?_ ?_ <;> intro hb <;> (try simp only [zH] at hb)) | ((with_reducible refine Zaz ?_); (first | refine Zaf htb hmz Zcc fF rfl rfl ?_ | refine Zae hmo htb hmz Zcc fF rfl rfl (by kernel_rfl) ?_); intro _ _ _ _ h; simp only [zE, evp, evx, ev1, evLoad, evStore, evBin, evIf, Zad, forall_const, z38, tb, reduceAdd, reduceSub, reduceMul, reduceEqDiff, reduceLeDiff, reduceLT, Nat.reduceBEq, Nat.reduceBNe, ↓reduceIte, reduceIte, spLe, nvS, joiS, onS] at h; obtain ⟨rfl, rfl, rfl, rfl⟩ := h; refine ⟨?_, ?_⟩) | ((with_reducible refine Ob.mk ?_); first | exact trivial | (intros; omega) | ((repeat' first | apply And.intro | (intro a; have b := a; try simp only [zH] at b)) <;> first | assumption | omega | (simp only [zH]; omega)))
  refine Za5 (τ := Nat) (fun i => i ≤ o.length ∧ ∀ v, v < i → ∀ u, u ∈ nxVn ⟨o, p, x⟩ w c (w.getD v 0) v → w.getD u 0 = w.getD v 0) (fun i => ⟨7, [(12, .int .i64 i), (11, .int .i64 w.length), (10, .roI w), (2, .cst .nilIface), (1, .rop (.agg (.cons (.roI o) (.cons (.roI p) (.cons (.roII x) (.cons (.roI w) (.cons (.roI c) .nil)))))))], [], []⟩) (fun i => o.length - i) 0 [] ?_ ⟨Nat.zero_le _, fun v h => absurd h (Nat.not_lt_zero v)⟩ ?_
  · (refine ⟨rfl, ?_, ?_⟩ <;> simp only [zE, evp, evx, ev1, evLoad, evStore, evBin, evIf, Zad, forall_const, z38, tb, reduceAdd, reduceSub, reduceMul, reduceEqDiff, reduceLeDiff, reduceLT, Nat.reduceBEq, Nat.reduceBNe, ↓reduceIte, reduceIte, spLe, nvS, joiS, onS, zI])
  rintro i ⟨hi, hI⟩
  repeat' first
    | with_reducible first | apply Zar | apply Zan | apply Zaa | apply Zac | apply Zah | apply Zap | apply Zag | apply Zaj | apply Zaq | apply Zas | apply Zao | apply Zal | apply Zab | apply Zak
    | ((with_reducible refine Zai ?_ ?_); exact rfl) | ((with_reducible refine Zat ?_); refine Zam rfl ?_ ?_ <;> intro hb <;> (try simp only [zH] at hb)) | ((with_reducible refine Zau 5 ?_ ?_); (· exact rfl); (with_reducible refine Zau 12 ?_ ?_); (· exact rfl); (first | refine Zaf htb hmz Zcc fF rfl rfl ?_ | refine Zae hmo htb hmz Zcc fF rfl rfl (by kernel_rfl) ?_); intro _ _ _ _ h; simp only [zE, evp, evx, ev1, evLoad, evStore, evBin, evIf, Zad, forall_const, z38, tb, reduceAdd, reduceSub, reduceMul, reduceEqDiff, reduceLeDiff, reduceLT, Nat.reduceBEq, Nat.reduceBNe, ↓reduceIte, reduceIte, spLe, nvS, joiS, onS] at h; obtain ⟨rfl, rfl, rfl, rfl⟩ := h; refine ⟨?_, ?_⟩) | ((with_reducible refine Ob.mk ?_); first | exact trivial | (intros; omega) | ((repeat' first | apply And.intro | (intro a; have b := a; try simp only [zH] at b)) <;> first | assumption | omega | (simp only [zH]; omega)))
  · have hil : i < o.length := by omega
    obtain ⟨q, hq⟩ : ∃ q, w.getD i 0 = q := ⟨_, rfl⟩
    rw [hq]
    have hrw := hnvq q i hil
    have hmem : ∀ u : Nat, u ∈ nxVn ⟨o, p, x⟩ w c q i ↔ ∃ j, j < (nvF o w c x q i).length ∧ ((nvF o w c x q i).getD j 0).toNat = u := fun u => by
      constructor
      · intro h
        obtain ⟨z, hz, rfl⟩ := List.mem_map.1 h
        have hz : z ∈ nvF o w c x q i := hz
        obtain ⟨j, hj, e⟩ := Zfu hz
        exact ⟨j, hj, by rw [e]⟩
      · rintro ⟨j, hj, rfl⟩
        refine List.mem_map.2 ⟨_, ?_, rfl⟩
        rw [List.getD_eq_getElem?_getD, List.getElem?_eq_getElem hj]
        exact List.getElem_mem _
    generalize nvF o w c x q i = rw at *
    refine Za5 (τ := Nat) (fun j => j ≤ rw.length ∧ ∀ j', j' < j → w.getD (rw.getD j' 0).toNat 0 = q) (fun j => ⟨19, [(22, .int .i64 j), (21, .int .i64 rw.length), (20, .roI rw), (4, .int .i64 q), (3, .int .i64 i), (12, .int .i64 i), (11, .int .i64 w.length), (10, .roI w), (2, .cst .nilIface), (1, .rop (.agg (.cons (.roI o) (.cons (.roI p) (.cons (.roII x) (.cons (.roI w) (.cons (.roI c) .nil)))))))], [], []⟩) (fun j => rw.length - j) 0 [] ?_ ⟨Nat.zero_le _, fun j' h => absurd h (Nat.not_lt_zero j')⟩ ?_
    · (refine ⟨rfl, ?_, ?_⟩ <;> simp only [zE, evp, evx, ev1, evLoad, evStore, evBin, evIf, Zad, forall_const, z38, tb, reduceAdd, reduceSub, reduceMul, reduceEqDiff, reduceLeDiff, reduceLT, Nat.reduceBEq, Nat.reduceBNe, ↓reduceIte, reduceIte, spLe, nvS, joiS, onS, zI])
    rintro j ⟨hj, hJ⟩
    repeat' first
      | with_reducible first | apply Zar | apply Zan | apply Zaa | apply Zac | apply Zah | apply Zap | apply Zag | apply Zaj | apply Zaq | apply Zas | apply Zao | apply Zal | apply Zab | apply Zak
      | ((with_reducible refine Zai ?_ ?_); exact rfl) | ((with_reducible refine Zat ?_); refine Zam rfl ?_ ?_ <;> intro hb <;> (try simp only [zH] at hb)) | ((with_reducible refine Zau 6 ?_ ?_); (· exact rfl); (with_reducible refine Zau 12 ?_ ?_); (· exact rfl); (first | refine Zaf htb hmz Zcc fF rfl rfl ?_ | refine Zae hmo htb hmz Zcc fF rfl rfl (by kernel_rfl) ?_); intro _ _ _ _ h; simp only [zE, evp, evx, ev1, evLoad, evStore, evBin, evIf, Zad, forall_const, z38, tb, reduceAdd, reduceSub, reduceMul, reduceEqDiff, reduceLeDiff, reduceLT, Nat.reduceBEq, Nat.reduceBNe, ↓reduceIte, reduceIte, spLe, nvS, joiS, onS] at h; obtain ⟨rfl, rfl, rfl, rfl⟩ := h; refine ⟨?_, ?_⟩) | ((with_reducible refine Ob.mk ?_); first | exact trivial | (intros; omega) | ((repeat' first | apply And.intro | (intro a; have b := a; try simp only [zH] at b)) <;> first | assumption | omega | (simp only [zH]; omega)))
    · have hjl : j < rw.length := by omega
      obtain ⟨b1, b2⟩ := hrw.2.2 j hjl
      obtain ⟨u, hu⟩ := Int.eq_ofNat_of_zero_le b1
      have hun : u < o.length := by omega
      have hum : u ∈ nxVn ⟨o, p, x⟩ w c q i := (hmem u).2 ⟨j, hjl, by rw [hu]; rfl⟩
      repeat' first
        | with_reducible first | apply Zar | apply Zan | apply Zaa | apply Zac | apply Zah | apply Zap | apply Zag | apply Zaj | apply Zaq | apply Zas | apply Zao | apply Zal | apply Zab | apply Zak
        | ((with_reducible refine Zai ?_ ?_); exact rfl) | ((with_reducible refine Zat ?_); refine Zam rfl ?_ ?_ <;> intro hb <;> (try simp only [zH] at hb)) | ((with_reducible refine Zau 7 ?_ ?_); (· exact rfl); (first | refine Zaf htb hmz Zcc fF rfl rfl ?_ | refine Zae hmo htb hmz Zcc fF rfl rfl (by kernel_rfl) ?_); intro _ _ _ _ h; simp only [zE, evp, evx, ev1, evLoad, evStore, evBin, evIf, Zad, forall_const, z38, tb, reduceAdd, reduceSub, reduceMul, reduceEqDiff, reduceLeDiff, reduceLT, Nat.reduceBEq, Nat.reduceBNe, ↓reduceIte, reduceIte, spLe, nvS, joiS, onS] at h; obtain ⟨rfl, rfl, rfl, rfl⟩ := h; refine ⟨?_, ?_⟩) | ((with_reducible refine Ob.mk ?_); first | exact trivial | (intros; omega) | ((repeat' first | apply And.intro | (intro a; have b := a; try simp only [zH] at b)) <;> first | assumption | omega | (simp only [zH]; omega)))
      rw [hu]
      repeat' first
        | with_reducible first | apply Zar | apply Zan | apply Zaa | apply Zac | apply Zah | apply Zap | apply Zag | apply Zaj | apply Zaq | apply Zas | apply Zao | apply Zal | apply Zab | apply Zak
        | ((with_reducible refine Zai ?_ ?_); exact rfl) | ((with_reducible refine Zat ?_); refine Zam rfl ?_ ?_ <;> intro hb <;> (try simp only [zH] at hb)) | ((with_reducible refine Zau 8 ?_ ?_); (· exact rfl); (with_reducible refine Zau 10 ?_ ?_); (· exact rfl); (first | refine Zaf htb hmz Zcc fF rfl rfl ?_ | refine Zae hmo htb hmz Zcc fF rfl rfl (by kernel_rfl) ?_); intro _ _ _ _ h; simp only [zE, evp, evx, ev1, evLoad, evStore, evBin, evIf, Zad, forall_const, z38, tb, reduceAdd, reduceSub, reduceMul, reduceEqDiff, reduceLeDiff, reduceLT, Nat.reduceBEq, Nat.reduceBNe, ↓reduceIte, reduceIte, spLe, nvS, joiS, onS] at h; obtain ⟨rfl, rfl, rfl, rfl⟩ := h; refine ⟨?_, ?_⟩) | ((with_reducible refine Ob.mk ?_); first | exact trivial | (intros; omega) | ((repeat' first | apply And.intro | (intro a; have b := a; try simp only [zH] at b)) <;> first | assumption | omega | (simp only [zH]; omega)))
      · have hcp := on_cp hv hc hil (by rw [hq]; exact hum) hun (by rw [hq]; omega)
        rw [hq] at hcp
        repeat' first
          | with_reducible first | apply Zar | apply Zan | apply Zaa | apply Zac | apply Zah | apply Zap | apply Zag | apply Zaj | apply Zaq | apply Zas | apply Zao | apply Zal | apply Zab | apply Zak
          | ((with_reducible refine Zai ?_ ?_); exact rfl) | ((with_reducible refine Zat ?_); refine Zam rfl ?_ ?_ <;> intro hb <;> (try simp only [zH] at hb)) | ((with_reducible refine Zau 9 ?_ ?_); (· exact rfl); (first | refine Zaf htb hmz Zcc fF rfl rfl ?_ | refine Zae hmo htb hmz Zcc fF rfl rfl (by kernel_rfl) ?_); intro _ _ _ _ h; simp only [zE, evp, evx, ev1, evLoad, evStore, evBin, evIf, Zad, forall_const, z38, tb, reduceAdd, reduceSub, reduceMul, reduceEqDiff, reduceLeDiff, reduceLT, Nat.reduceBEq, Nat.reduceBNe, ↓reduceIte, reduceIte, spLe, nvS, joiS, onS] at h; obtain ⟨rfl, rfl, rfl, rfl⟩ := h; refine ⟨?_, ?_⟩) | ((with_reducible refine Ob.mk ?_); first | exact trivial | (intros; omega) | ((repeat' first | apply And.intro | (intro a; have b := a; try simp only [zH] at b)) <;> first | assumption | omega | (simp only [zH]; omega)))
        · refine Ob.mk ?_
          exact ⟨⟨by omega, by omega⟩, hxl, hwl, hcl, hn, fun z hz => ⟨(hnvq q z hz).2.1, (hnvq q z hz).2.2 0 (hnvq q z hz).2.1⟩⟩
        have hcl2 : [[(i : Int)], onS1 (onN o w c x q) u].flatten.length ≤ 100000 := by
          have := hcp.len
          simp only [List.length_cons] at this
          simp only [List.flatten_cons, List.flatten_nil, List.append_nil, List.length_append, List.length_cons, List.length_nil]
          have hn2 : (Gm.mk o p x).own.length = o.length := rfl
          omega
        (refine Zae hmo htb hmz Zcc fF rfl rfl (by kernel_rfl) ?_; intro _ _ _ _ h; simp only [zE, evp, evx, ev1, evLoad, evStore, evBin, evIf, Zad, forall_const, z38, tb, reduceAdd, reduceSub, reduceMul, reduceEqDiff, reduceLeDiff, reduceLT, Nat.reduceBEq, Nat.reduceBNe, ↓reduceIte, reduceIte, spLe, nvS, joiS, onS] at h; obtain ⟨rfl, rfl, rfl, rfl⟩ := h; refine ⟨?_, ?_⟩)
        · exact Ob.mk hcl2
        refine Zaa ?_
        have hfl : [[(i : Int)], onS1 (onN o w c x q) u].flatten = (i : Int) :: onS1 (onN o w c x q) u := by simp
        rw [hfl]
        repeat' first
          | with_reducible first | apply Zar | apply Zan | apply Zaa | apply Zac | apply Zah | apply Zap | apply Zag | apply Zaj | apply Zaq | apply Zas | apply Zao | apply Zal | apply Zab | apply Zak
          | ((with_reducible refine Zai ?_ ?_); exact rfl) | ((with_reducible refine Zat ?_); refine Zam rfl ?_ ?_ <;> intro hb <;> (try simp only [zH] at hb)) | ((with_reducible refine Zaz ?_); (first | refine Zaf htb hmz Zcc fF rfl rfl ?_ | refine Zae hmo htb hmz Zcc fF rfl rfl (by kernel_rfl) ?_); intro _ _ _ _ h; simp only [zE, evp, evx, ev1, evLoad, evStore, evBin, evIf, Zad, forall_const, z38, tb, reduceAdd, reduceSub, reduceMul, reduceEqDiff, reduceLeDiff, reduceLT, Nat.reduceBEq, Nat.reduceBNe, ↓reduceIte, reduceIte, spLe, nvS, joiS, onS] at h; obtain ⟨rfl, rfl, rfl, rfl⟩ := h; refine ⟨?_, ?_⟩) | ((with_reducible refine Ob.mk ?_); first | exact trivial | (intros; omega) | ((repeat' first | apply And.intro | (intro a; have b := a; try simp only [zH] at b)) <;> first | assumption | omega | (simp only [zH]; omega)))
        refine Zax rfl rfl (Zdv ⟨1, .own 0, [(0, some (errA ((i : Int) :: onS1 (onN o w c x q) u) (onL1 (onN o w c x q) u)))]⟩ [(0, 47)] (.inr ⟨_, _, hcp, rfl⟩) rfl (Zca rfl) ?_)
        simp only [grR, errA, zE, evp, evx, ev1, evLoad, evStore, evBin, evIf, Zad, forall_const, z38, tb, reduceAdd, reduceSub, reduceMul, reduceEqDiff, reduceLeDiff, reduceLT, Nat.reduceBEq, Nat.reduceBNe, ↓reduceIte, reduceIte, spLe, nvS, joiS, onS]
        intro k hk
        rw [List.mem_singleton.1 hk]; rfl
      · have hWq : w.getD (u : Int).toNat 0 = q := hb
        repeat' first
          | with_reducible first | apply Zar | apply Zan | apply Zaa | apply Zac | apply Zah | apply Zap | apply Zag | apply Zaj | apply Zaq | apply Zas | apply Zao | apply Zal | apply Zab | apply Zak
          | ((with_reducible refine Zai ?_ ?_); exact rfl) | ((with_reducible refine Zat ?_); refine Zam rfl ?_ ?_ <;> intro hb <;> (try simp only [zH] at hb)) | ((with_reducible refine Zaz ?_); (first | refine Zaf htb hmz Zcc fF rfl rfl ?_ | refine Zae hmo htb hmz Zcc fF rfl rfl (by kernel_rfl) ?_); intro _ _ _ _ h; simp only [zE, evp, evx, ev1, evLoad, evStore, evBin, evIf, Zad, forall_const, z38, tb, reduceAdd, reduceSub, reduceMul, reduceEqDiff, reduceLeDiff, reduceLT, Nat.reduceBEq, Nat.reduceBNe, ↓reduceIte, reduceIte, spLe, nvS, joiS, onS] at h; obtain ⟨rfl, rfl, rfl, rfl⟩ := h; refine ⟨?_, ?_⟩) | ((with_reducible refine Ob.mk ?_); first | exact trivial | (intros; omega) | ((repeat' first | apply And.intro | (intro a; have b := a; try simp only [zH] at b)) <;> first | assumption | omega | (simp only [zH]; omega)))
        refine back (j + 1) [] ?_ ⟨by omega, fun j' hj' => ?_⟩ (by omega)
        · (refine ⟨rfl, ?_, ?_⟩ <;> simp only [zE, evp, evx, ev1, evLoad, evStore, evBin, evIf, Zad, forall_const, z38, tb, reduceAdd, reduceSub, reduceMul, reduceEqDiff, reduceLeDiff, reduceLT, Nat.reduceBEq, Nat.reduceBNe, ↓reduceIte, reduceIte, spLe, nvS, joiS, onS, zI])
        · rcases Nat.lt_succ_iff_lt_or_eq.1 hj' with h | rfl
          · exact hJ j' h
          · rw [hu]
            exact hWq
    have hje : j = rw.length := by omega
    subst hje
    refine back (i + 1) [] ?_ ⟨by omega, fun v hv' u hu => ?_⟩ (by omega)
    · (refine ⟨rfl, ?_, ?_⟩ <;> simp only [zE, evp, evx, ev1, evLoad, evStore, evBin, evIf, Zad, forall_const, z38, tb, reduceAdd, reduceSub, reduceMul, reduceEqDiff, reduceLeDiff, reduceLT, Nat.reduceBEq, Nat.reduceBNe, ↓reduceIte, reduceIte, spLe, nvS, joiS, onS, zI])
    · rcases Nat.lt_succ_iff_lt_or_eq.1 hv' with h | rfl
      · exact hI v h u hu
      · rw [hq] at hu ⊢
        obtain ⟨j', hj', rfl⟩ := (hmem u).1 hu
        exact hJ j' hj'
  · have hie : i = o.length := by omega
    subst hie
    repeat' first
      | with_reducible first | apply Zar | apply Zan | apply Zaa | apply Zac | apply Zah | apply Zap | apply Zag | apply Zaj | apply Zaq | apply Zas | apply Zao | apply Zal | apply Zab | apply Zak
      | ((with_reducible refine Zai ?_ ?_); exact rfl) | ((with_reducible refine Zat ?_); refine Zam rfl ?_ ?_ <;> intro hb <;> (try simp only [zH] at hb)) | ((with_reducible refine Zaz ?_); (first | refine Zaf htb hmz Zcc fF rfl rfl ?_ | refine Zae hmo htb hmz Zcc fF rfl rfl (by kernel_rfl) ?_); intro _ _ _ _ h; simp only [zE, evp, evx, ev1, evLoad, evStore, evBin, evIf, Zad, forall_const, z38, tb, reduceAdd, reduceSub, reduceMul, reduceEqDiff, reduceLeDiff, reduceLT, Nat.reduceBEq, Nat.reduceBNe, ↓reduceIte, reduceIte, spLe, nvS, joiS, onS] at h; obtain ⟨rfl, rfl, rfl, rfl⟩ := h; refine ⟨?_, ?_⟩) | ((with_reducible refine Ob.mk ?_); first | exact trivial | (intros; omega) | ((repeat' first | apply And.intro | (intro a; have b := a; try simp only [zH] at b)) <;> first | assumption | omega | (simp only [zH]; omega)))
    refine Zax rfl rfl (Zdv ⟨0, .cst .nilIface, []⟩ [] (.inl ⟨hI, rfl⟩) rfl (Zca rfl) trivial)
def errB (l : List Int) : Blk := .sem [0] (ifA 65 (.agg (.cons (.cst (.slice none 0 0)) (.cons (.roI l) .nil))))
theorem und22 : Tryd.prog.underlying 22 = some (.slice 3) := by kernel_rfl
set_option maxRecDepth 4000 in
set_option maxHeartbeats 4000000 in
theorem lost_fg {o p w c : List Int} {x : List (List Int)} (hv : Zba ⟨o, p, x⟩ = true) (hc : Zbn ⟨o, p, x⟩ w c = true) :
    FG Tryd.prog 53 [.agg (.cons (.roI o) (.cons (.roI p) (.cons (.roII x) (.cons (.roI w) (.cons (.roI c) .nil)))))] [] 0 fun g => ((∀ v, v < o.length → p.getD v 0 % 2 ≠ w.getD v 0 → ¬ Cyc (fun a b => b ∈ nxVn ⟨o, p, x⟩ w c (w.getD v 0) a) (fun v => p.getD v 0) v) ∧ g = ⟨0, .cst .nilIface, []⟩) ∨ ∃ l, CpOK ⟨o, p, x⟩ w c [] l ∧ g = ⟨1, .own 0, [(0, some (errB l))]⟩ := by
  refine Zhv htb (fn := Tryd.f53) (by kernel_rfl) (by kernel_rfl) rfl (Nat.le_of_ble_eq_true rfl) fun hl => ?_
  simp only [lenP, mkL, lim] at hl
  have hG := gok (validB_iff.1 hv)
  obtain ⟨hwl, hcl, hcc⟩ := of_decide_eq_true hc
  have hpl : p.length = o.length := hG.pl
  have hxl : x.length = o.length := hG.xl
  have hn : o.length ≤ 20000 := hG.n
  have hwl : w.length = o.length := hwl
  have hcl : c.length = o.length := hcl
  clear hcc
  have hpr : ∀ v, v < o.length → 0 ≤ p.getD v 0 := fun v h => (hG.pri v h).1
  repeat' first
    | with_reducible first | apply Zar | apply Zan | apply Zaa | apply Zac | apply Zah | apply Zap | apply Zag | apply Zaj | apply Zaq | apply Zas | apply Zao | apply Zal | apply Zab | apply Zak
    | ((with_reducible refine Zai ?_ ?_); exact rfl) | ((with_reducible refine Zat ?_); refine Zam rfl ?_ ?_ <;> intro hb <;> (try simp only [zH] at hb)) | ((with_reducible refine Zaz ?_); (first | refine Zaf htb hmz noSp fF rfl rfl ?_ | refine Zae hmo htb hmz noSp fF rfl rfl (by kernel_rfl) ?_); intro _ _ _ _ h; simp only [zE, evp, evx, ev1, evLoad, evStore, evBin, evIf, Zad, forall_const, z38, tb, reduceAdd, reduceSub, reduceMul, reduceEqDiff, reduceLeDiff, reduceLT, Nat.reduceBEq, Nat.reduceBNe, ↓reduceIte, reduceIte] at h; obtain ⟨rfl, rfl, rfl, rfl⟩ := h; refine ⟨?_, ?_⟩) | ((with_reducible refine Ob.mk ?_); first | exact trivial | (intros; omega) | ((repeat' first | apply And.intro | (intro a; have b := a; try simp only [zH] at b)) <;> first | assumption | omega | (simp only [zH]; omega)))
  refine Za5 (τ := Nat) (fun i => i ≤ o.length ∧ ∀ v, v < i → p.getD v 0 % 2 ≠ w.getD v 0 → ¬ Cyc (fun a b => b ∈ nxVn ⟨o, p, x⟩ w c (w.getD v 0) a) (fun v => p.getD v 0) v) (fun i => ⟨7, [(10, .int .i64 i), (9, .int .i64 w.length), (8, .roI w), (2, .cst .nilIface), (1, .rop (.agg (.cons (.roI o) (.cons (.roI p) (.cons (.roII x) (.cons (.roI w) (.cons (.roI c) .nil)))))))], [], []⟩) (fun i => o.length - i) 0 [] ?_ ⟨Nat.zero_le _, fun v h => absurd h (Nat.not_lt_zero v)⟩ ?_
  · (refine ⟨rfl, ?_, ?_⟩ <;> simp only [zE, evp, evx, ev1, evLoad, evStore, evBin, evIf, Zad, forall_const, z38, tb, reduceAdd, reduceSub, reduceMul, reduceEqDiff, reduceLeDiff, reduceLT, Nat.reduceBEq, Nat.reduceBNe, ↓reduceIte, reduceIte, zI])
  rintro i ⟨hi, hI⟩
  have hpi := hpr i
  repeat' first
    | with_reducible first | apply Zar | apply Zan | apply Zaa | apply Zac | apply Zah | apply Zap | apply Zag | apply Zaj | apply Zaq | apply Zas | apply Zao | apply Zal | apply Zab | apply Zak
    | ((with_reducible refine Zai ?_ ?_); exact rfl) | ((with_reducible refine Zat ?_); refine Zam rfl ?_ ?_ <;> intro hb <;> (try simp only [zH] at hb)) | ((with_reducible refine Zau 5 ?_ ?_); (· exact rfl); (with_reducible refine Zau 9 ?_ ?_); (· exact rfl); (first | refine Zaf htb hmz noSp fF rfl rfl ?_ | refine Zae hmo htb hmz noSp fF rfl rfl (by kernel_rfl) ?_); intro _ _ _ _ h; simp only [zE, evp, evx, ev1, evLoad, evStore, evBin, evIf, Zad, forall_const, z38, tb, reduceAdd, reduceSub, reduceMul, reduceEqDiff, reduceLeDiff, reduceLT, Nat.reduceBEq, Nat.reduceBNe, ↓reduceIte, reduceIte] at h; obtain ⟨rfl, rfl, rfl, rfl⟩ := h; refine ⟨?_, ?_⟩) | ((with_reducible refine Ob.mk ?_); first | exact trivial | (intros; omega) | ((repeat' first | apply And.intro | (intro a; have b := a; try simp only [zH] at b)) <;> first | assumption | omega | (simp only [zH]; omega)))
  · refine back (i + 1) [] ?_ ⟨by omega, fun v hv' => ?_⟩ (by omega)
    · (refine ⟨rfl, ?_, ?_⟩ <;> simp only [zE, evp, evx, ev1, evLoad, evStore, evBin, evIf, Zad, forall_const, z38, tb, reduceAdd, reduceSub, reduceMul, reduceEqDiff, reduceLeDiff, reduceLT, Nat.reduceBEq, Nat.reduceBNe, ↓reduceIte, reduceIte, zI])
    · rcases Nat.lt_succ_iff_lt_or_eq.1 hv' with h | rfl
      · exact hI v h
      · exact fun h => absurd hb h
  · have hil : i < o.length := by omega
    have hbi := hb
    have hnv := Zfz hv hc (w.getD i 0)
    refine Zej ([_, _]) ([_]) rfl rfl ?_
    refine Zbd htb hmz noSp fF rfl rfl rfl ?_; intro _ _ _ _ h; simp only [zE, evp, evx, ev1, evLoad, evStore, evBin, evIf, Zad, forall_const, z38, tb, reduceAdd, reduceSub, reduceMul, reduceEqDiff, reduceLeDiff, reduceLT, Nat.reduceBEq, Nat.reduceBNe, ↓reduceIte, reduceIte] at h; obtain ⟨rfl, rfl, rfl, rfl⟩ := h; refine ⟨?_, Zaa ?_⟩
    · first | ((with_reducible refine Ob.mk ?_); first | exact trivial | (intros; omega) | ((repeat' first | apply And.intro | (intro a; have b := a; try simp only [zH] at b)) <;> first | assumption | omega | (simp only [zH]; omega))) | skip
    refine Zb8 ([]) (loop_fg hn hpl hxl hwl hcl hil fun u hu => ⟨(hnv u hu).1, (hnv u hu).2.2⟩) rfl rfl rfl rfl rfl rfl rfl rfl rfl (by simp only [rinR, rhoC, zE, evp, evx, ev1, evLoad, evStore, evBin, evIf, Zad, forall_const, z38, tb, reduceAdd, reduceSub, reduceMul, reduceEqDiff, reduceLeDiff, reduceLT, Nat.reduceBEq, Nat.reduceBNe, ↓reduceIte, reduceIte]) ?_; intro gm gv gr hq m' e' l' h
    rcases hq with ⟨hno, hq⟩ | ⟨L, hL, hq⟩
    · simp only [GR.mk.injEq] at hq; obtain ⟨rfl, rfl, rfl⟩ := hq; simp only [rhoC, outR, renR, dels, zE, evp, evx, ev1, evLoad, evStore, evBin, evIf, Zad, forall_const, z38, tb, reduceAdd, reduceSub, reduceMul, reduceEqDiff, reduceLeDiff, reduceLT, Nat.reduceBEq, Nat.reduceBNe, ↓reduceIte, reduceIte] at h; obtain ⟨rfl, rfl, rfl⟩ := h; refine Zaa ?_
      refine Zbd htb hmz noSp fF rfl rfl rfl ?_; intro _ _ _ _ h; simp only [zE, evp, evx, ev1, evLoad, evStore, evBin, evIf, Zad, forall_const, z38, tb, reduceAdd, reduceSub, reduceMul, reduceEqDiff, reduceLeDiff, reduceLT, Nat.reduceBEq, Nat.reduceBNe, ↓reduceIte, reduceIte] at h; obtain ⟨rfl, rfl, rfl, rfl⟩ := h; refine ⟨?_, ?_⟩
      · first | ((with_reducible refine Ob.mk ?_); first | exact trivial | (intros; omega) | ((repeat' first | apply And.intro | (intro a; have b := a; try simp only [zH] at b)) <;> first | assumption | omega | (simp only [zH]; omega))) | skip
      refine Zaa ?_
      repeat' first
        | with_reducible first | apply Zar | apply Zan | apply Zaa | apply Zac | apply Zah | apply Zap | apply Zag | apply Zaj | apply Zaq | apply Zas | apply Zao | apply Zal | apply Zab | apply Zak
        | ((with_reducible refine Zai ?_ ?_); exact rfl) | ((with_reducible refine Zat ?_); refine Zam rfl ?_ ?_ <;> intro hb <;> (try simp only [zH] at hb)) | ((with_reducible refine Zau 6 ?_ ?_); (· exact rfl); (first | refine Zaf htb hmz noSp fF rfl rfl ?_ | refine Zae hmo htb hmz noSp fF rfl rfl (by kernel_rfl) ?_); intro _ _ _ _ h; simp only [zE, evp, evx, ev1, evLoad, evStore, evBin, evIf, Zad, forall_const, z38, tb, reduceAdd, reduceSub, reduceMul, reduceEqDiff, reduceLeDiff, reduceLT, Nat.reduceBEq, Nat.reduceBNe, ↓reduceIte, reduceIte] at h; obtain ⟨rfl, rfl, rfl, rfl⟩ := h; refine ⟨?_, ?_⟩) | ((with_reducible refine Ob.mk ?_); first | exact trivial | (intros; omega) | ((repeat' first | apply And.intro | (intro a; have b := a; try simp only [zH] at b)) <;> first | assumption | omega | (simp only [zH]; omega)))
      refine Zej ([_]) ([]) rfl rfl ?_
      refine Zbd htb hmz noSp fF rfl rfl rfl ?_; intro _ _ _ _ h; simp only [zE, evp, evx, ev1, evLoad, evStore, evBin, evIf, Zad, forall_const, z38, tb, reduceAdd, reduceSub, reduceMul, reduceEqDiff, reduceLeDiff, reduceLT, Nat.reduceBEq, Nat.reduceBNe, ↓reduceIte, reduceIte] at h; obtain ⟨rfl, rfl, rfl, rfl⟩ := h; refine ⟨?_, Zaa ?_⟩
      · first | ((with_reducible refine Ob.mk ?_); first | exact trivial | (intros; omega) | ((repeat' first | apply And.intro | (intro a; have b := a; try simp only [zH] at b)) <;> first | assumption | omega | (simp only [zH]; omega))) | skip
      refine Zck (opsem_neqnil0 rfl und22 rfl rfl) rfl rfl (fun c h => by cases h) Za4 (.inl rfl) rfl ?_
      refine Zcq ?_
      refine Zaa ?_
      refine Zcq ?_
      refine Zaa ?_
      dsimp only [putE, setW, reduceAdd]
      repeat' first
        | with_reducible first | apply Zar | apply Zan | apply Zaa | apply Zac | apply Zah | apply Zap | apply Zag | apply Zaj | apply Zaq | apply Zas | apply Zao | apply Zal | apply Zab | apply Zak
        | ((with_reducible refine Zai ?_ ?_); exact rfl) | ((with_reducible refine Zat ?_); refine Zam rfl ?_ ?_ <;> intro hb <;> (try simp only [zH] at hb)) | ((with_reducible refine Zaz ?_); (first | refine Zaf htb hmz noSp fF rfl rfl ?_ | refine Zae hmo htb hmz noSp fF rfl rfl (by kernel_rfl) ?_); intro _ _ _ _ h; simp only [zE, evp, evx, ev1, evLoad, evStore, evBin, evIf, Zad, forall_const, z38, tb, reduceAdd, reduceSub, reduceMul, reduceEqDiff, reduceLeDiff, reduceLT, Nat.reduceBEq, Nat.reduceBNe, ↓reduceIte, reduceIte] at h; obtain ⟨rfl, rfl, rfl, rfl⟩ := h; refine ⟨?_, ?_⟩) | ((with_reducible refine Ob.mk ?_); first | exact trivial | (intros; omega) | ((repeat' first | apply And.intro | (intro a; have b := a; try simp only [zH] at b)) <;> first | assumption | omega | (simp only [zH]; omega)))
      · cases hb
      · refine back (i + 1) [] ?_ ⟨by omega, fun v hv' => ?_⟩ (by omega)
        · (refine ⟨rfl, ?_, ?_⟩ <;> simp only [zE, evp, evx, ev1, evLoad, evStore, evBin, evIf, Zad, forall_const, z38, tb, reduceAdd, reduceSub, reduceMul, reduceEqDiff, reduceLeDiff, reduceLT, Nat.reduceBEq, Nat.reduceBNe, ↓reduceIte, reduceIte, zI])
        · rcases Nat.lt_succ_iff_lt_or_eq.1 hv' with h | rfl
          · exact hI v h
          · exact fun _ => hno
    · simp only [GR.mk.injEq] at hq; obtain ⟨rfl, rfl, rfl⟩ := hq; simp only [rhoC, outR, renR, dels, zE, evp, evx, ev1, evLoad, evStore, evBin, evIf, Zad, forall_const, z38, tb, reduceAdd, reduceSub, reduceMul, reduceEqDiff, reduceLeDiff, reduceLT, Nat.reduceBEq, Nat.reduceBNe, ↓reduceIte, reduceIte] at h; obtain ⟨rfl, rfl, rfl⟩ := h; refine Zaa ?_
      refine Zbd htb hmz noSp fF rfl rfl rfl ?_; intro _ _ _ _ h; simp only [zE, evp, evx, ev1, evLoad, evStore, evBin, evIf, Zad, forall_const, z38, tb, reduceAdd, reduceSub, reduceMul, reduceEqDiff, reduceLeDiff, reduceLT, Nat.reduceBEq, Nat.reduceBNe, ↓reduceIte, reduceIte] at h; obtain ⟨rfl, rfl, rfl, rfl⟩ := h; refine ⟨?_, ?_⟩
      · first | ((with_reducible refine Ob.mk ?_); first | exact trivial | (intros; omega) | ((repeat' first | apply And.intro | (intro a; have b := a; try simp only [zH] at b)) <;> first | assumption | omega | (simp only [zH]; omega))) | skip
      refine Zaa ?_
      repeat' first
        | with_reducible first | apply Zar | apply Zan | apply Zaa | apply Zac | apply Zah | apply Zap | apply Zag | apply Zaj | apply Zaq | apply Zas | apply Zao | apply Zal | apply Zab | apply Zak
        | ((with_reducible refine Zai ?_ ?_); exact rfl) | ((with_reducible refine Zat ?_); refine Zam rfl ?_ ?_ <;> intro hb <;> (try simp only [zH] at hb)) | ((with_reducible refine Zau 6 ?_ ?_); (· exact rfl); (first | refine Zaf htb hmz noSp fF rfl rfl ?_ | refine Zae hmo htb hmz noSp fF rfl rfl (by kernel_rfl) ?_); intro _ _ _ _ h; simp only [zE, evp, evx, ev1, evLoad, evStore, evBin, evIf, Zad, forall_const, z38, tb, reduceAdd, reduceSub, reduceMul, reduceEqDiff, reduceLeDiff, reduceLT, Nat.reduceBEq, Nat.reduceBNe, ↓reduceIte, reduceIte] at h; obtain ⟨rfl, rfl, rfl, rfl⟩ := h; refine ⟨?_, ?_⟩) | ((with_reducible refine Ob.mk ?_); first | exact trivial | (intros; omega) | ((repeat' first | apply And.intro | (intro a; have b := a; try simp only [zH] at b)) <;> first | assumption | omega | (simp only [zH]; omega)))
      refine Zej ([_]) ([]) rfl rfl ?_
      refine Zbd htb hmz noSp fF rfl rfl rfl ?_; intro _ _ _ _ h; simp only [zE, evp, evx, ev1, evLoad, evStore, evBin, evIf, Zad, forall_const, z38, tb, reduceAdd, reduceSub, reduceMul, reduceEqDiff, reduceLeDiff, reduceLT, Nat.reduceBEq, Nat.reduceBNe, ↓reduceIte, reduceIte] at h; obtain ⟨rfl, rfl, rfl, rfl⟩ := h; refine ⟨?_, Zaa ?_⟩
      · first | ((with_reducible refine Ob.mk ?_); first | exact trivial | (intros; omega) | ((repeat' first | apply And.intro | (intro a; have b := a; try simp only [zH] at b)) <;> first | assumption | omega | (simp only [zH]; omega))) | skip
      have hll : 0 < (Zbe L).length := by
        obtain ⟨r, rfl⟩ := hL.1
        simp [Zbe]
      refine Zck (opsem_neqnil rfl und22 rfl hll rfl) rfl rfl (fun c h => by cases h) Za4 (.inl rfl) rfl ?_
      refine Zcq ?_
      refine Zaa ?_
      refine Zcq ?_
      refine Zaa ?_
      dsimp only [putE, setW, reduceAdd]
      repeat' first
        | with_reducible first | apply Zar | apply Zan | apply Zaa | apply Zac | apply Zah | apply Zap | apply Zag | apply Zaj | apply Zaq | apply Zas | apply Zao | apply Zal | apply Zab | apply Zak
        | ((with_reducible refine Zai ?_ ?_); exact rfl) | ((with_reducible refine Zat ?_); refine Zam rfl ?_ ?_ <;> intro hb <;> (try simp only [zH] at hb)) | ((with_reducible refine Zaz ?_); (first | refine Zaf htb hmz noSp fF rfl rfl ?_ | refine Zae hmo htb hmz noSp fF rfl rfl (by kernel_rfl) ?_); intro _ _ _ _ h; simp only [zE, evp, evx, ev1, evLoad, evStore, evBin, evIf, Zad, forall_const, z38, tb, reduceAdd, reduceSub, reduceMul, reduceEqDiff, reduceLeDiff, reduceLT, Nat.reduceBEq, Nat.reduceBNe, ↓reduceIte, reduceIte] at h; obtain ⟨rfl, rfl, rfl, rfl⟩ := h; refine ⟨?_, ?_⟩) | ((with_reducible refine Ob.mk ?_); first | exact trivial | (intros; omega) | ((repeat' first | apply And.intro | (intro a; have b := a; try simp only [zH] at b)) <;> first | assumption | omega | (simp only [zH]; omega)))
      · have hcp := lost_cp hv hc hil hL.1 hL.2.1 hL.2.2.1 hL.2.2.2.1 hL.2.2.2.2 hbi
        refine Zax rfl rfl (Zdv ⟨1, .own 0, [(0, some (errB (Zbe L)))]⟩ [(0, 30)] (.inr ⟨_, hcp, rfl⟩) rfl (Zca rfl) ?_)
        simp only [grR, errB, zE, evp, evx, ev1, evLoad, evStore, evBin, evIf, Zad, forall_const, z38, tb, reduceAdd, reduceSub, reduceMul, reduceEqDiff, reduceLeDiff, reduceLT, Nat.reduceBEq, Nat.reduceBNe, ↓reduceIte, reduceIte]
        intro k hk
        rw [List.mem_singleton.1 hk]; rfl
      · cases hb
  · have hie : i = o.length := by omega
    subst hie
    repeat' first
      | with_reducible first | apply Zar | apply Zan | apply Zaa | apply Zac | apply Zah | apply Zap | apply Zag | apply Zaj | apply Zaq | apply Zas | apply Zao | apply Zal | apply Zab | apply Zak
      | ((with_reducible refine Zai ?_ ?_); exact rfl) | ((with_reducible refine Zat ?_); refine Zam rfl ?_ ?_ <;> intro hb <;> (try simp only [zH] at hb)) | ((with_reducible refine Zaz ?_); (first | refine Zaf htb hmz noSp fF rfl rfl ?_ | refine Zae hmo htb hmz noSp fF rfl rfl (by kernel_rfl) ?_); intro _ _ _ _ h; simp only [zE, evp, evx, ev1, evLoad, evStore, evBin, evIf, Zad, forall_const, z38, tb, reduceAdd, reduceSub, reduceMul, reduceEqDiff, reduceLeDiff, reduceLT, Nat.reduceBEq, Nat.reduceBNe, ↓reduceIte, reduceIte] at h; obtain ⟨rfl, rfl, rfl, rfl⟩ := h; refine ⟨?_, ?_⟩) | ((with_reducible refine Ob.mk ?_); first | exact trivial | (intros; omega) | ((repeat' first | apply And.intro | (intro a; have b := a; try simp only [zH] at b)) <;> first | assumption | omega | (simp only [zH]; omega)))
    refine Zax rfl rfl (Zdv ⟨0, .cst .nilIface, []⟩ [] (.inl ⟨hI, rfl⟩) rfl (Zca rfl) trivial)
open Go Pl
noncomputable def winR (g : Gm) (s l : List Int) : Int × Int := if Zba g = true then (if isP g s l = true then (wonP g l, 0) else (0, 4)) else (0, 1)
noncomputable def winS : Spec
  | [.agg (.cons (.roI o) (.cons (.roI p) (.cons (.roII x) .nil))), .agg (.cons (.roI s) (.cons (.roI lp) .nil))] => some ⟨s.length ≤ 40000 ∧ lp.length ≤ 40000, .tup (.cons (.int .i64 (winR ⟨o, p, x⟩ s lp).1) (.cons (.int .i64 (winR ⟨o, p, x⟩ s lp).2) .nil)), none⟩
  | _ => none
noncomputable def ctrR (g : Gm) (w c s l : List Int) : Bool × Int := if Zba g = true then (if Zbn g w c = true ∧ isP g s l = true then (Zcr g w c s l, 0) else (false, 4)) else (false, 1)
noncomputable def ctrS : Spec
  | [.agg (.cons (.roI o) (.cons (.roI p) (.cons (.roII x) .nil))), .agg (.cons (.roI w) (.cons (.roI c) .nil)), .agg (.cons (.roI s) (.cons (.roI lp) .nil))] => some ⟨s.length ≤ 40000 ∧ lp.length ≤ 40000, .tup (.cons (.bool (ctrR ⟨o, p, x⟩ w c s lp).1) (.cons (.int .i64 (ctrR ⟨o, p, x⟩ w c s lp).2) .nil)), none⟩
  | _ => none
noncomputable def spWr : Nat → Option Spec
  | 10 => some Zay
  | 11 => some Zb7
  | 15 => some isS
  | 37 => some wonS
  | 16 => some agnS
  | _ => none
theorem Zb4 : SpOK Tryd.prog spWr := by
  intro f S h
  unfold spWr at h
  split at h
  · cases h; exact Zfk
  · cases h; exact claim_ok
  · cases h; exact is_ok
  · cases h; exact won_ok
  · cases h; exact agn_ok
  · cases h
theorem Zi1 {o p s lp : List Int} {x : List (List Int)} (hv : Zba ⟨o, p, x⟩ = true) (h : isP ⟨o, p, x⟩ s lp = true) : ∀ i, i < lp.length → 0 ≤ lp.getD i 0 ∧ lp.getD i 0 < (p.length : Int) := fun i hi => by
  have hpl : p.length = o.length := (gok (validB_iff.1 hv)).pl
  obtain ⟨_, hat, _⟩ := isP_iff.1 h
  have := hat (s.length + i) (by rw [List.length_append]; omega)
  have e : (s ++ lp).getD (s.length + i) 0 = lp.getD i 0 := by
    rw [List.getD_eq_getElem?_getD, List.getElem?_append_right (by omega), List.getD_eq_getElem?_getD]
    congr 2
    omega
  rw [e] at this
  have h2 : lp.getD i 0 < (o.length : Int) := this.2
  exact ⟨this.1, by omega⟩
set_option maxRecDepth 4000 in
set_option maxHeartbeats 4000000 in
theorem rwin_ok : Zb2 Tryd.prog 22 winS := by
  refine Za8 htb (fn := Tryd.f22) (by kernel_rfl) (by kernel_rfl) rfl (fun args r hS => ?_) (fun args r hS hob hl => ?_)
  · unfold winS at hS; split at hS <;> first | (cases hS; done) | (cases hS; exact Nat.le_of_ble_eq_true rfl)
  unfold winS at hS
  split at hS
  case h_2 => cases hS
  rename_i o p x s lp
  simp only [Option.some.injEq] at hS
  subst hS
  simp only [lenP, mkL, lim] at hl
  dsimp only at hob
  obtain ⟨h1, h2⟩ := hob
  repeat' first
    | with_reducible first | apply Zar | apply Zan | apply Zaa | apply Zac | apply Zah | apply Zap | apply Zag | apply Zaj | apply Zaq | apply Zas | apply Zao | apply Zal | apply Zab | apply Zak
    | ((with_reducible refine Zai ?_ ?_); exact rfl) | ((with_reducible refine Zat ?_); refine Zam rfl ?_ ?_ <;> intro hb <;> (try simp only [zH] at hb)) | ((with_reducible refine Zau 2 ?_ ?_); (· exact rfl); (with_reducible refine Zau 3 ?_ ?_); (· exact rfl); (first | refine Zaf htb hmz Zb4 fF rfl rfl ?_ | refine Zae hmo htb hmz Zb4 fF rfl rfl (by kernel_rfl) ?_); intro _ _ _ _ h; simp only [zE, evp, evx, ev1, evLoad, evStore, evBin, evIf, Zad, forall_const, z38, tb, reduceAdd, reduceSub, reduceMul, reduceEqDiff, reduceLeDiff, reduceLT, Nat.reduceBEq, Nat.reduceBNe, ↓reduceIte, reduceIte, spWr, Zay, Zb7, isS, wonS, agnS] at h; obtain ⟨rfl, rfl, rfl, rfl⟩ := h; refine ⟨?_, ?_⟩) | ((with_reducible refine Ob.mk ?_); first | exact trivial | (intros; omega) | ((repeat' first | apply And.intro | (intro a; have b := a; try simp only [zH] at b)) <;> first | assumption | omega | (simp only [zH]; omega)))
  · have e : winR ⟨o, p, x⟩ s lp = (0, 1) := by unfold winR; rw [if_neg (by rw [hb]; decide)]
    rw [e]
    repeat' first
      | with_reducible first | apply Zar | apply Zan | apply Zaa | apply Zac | apply Zah | apply Zap | apply Zag | apply Zaj | apply Zaq | apply Zas | apply Zao | apply Zal | apply Zab | apply Zak
      | ((with_reducible refine Zai ?_ ?_); exact rfl) | ((with_reducible refine Zat ?_); refine Zam rfl ?_ ?_ <;> intro hb <;> (try simp only [zH] at hb)) | ((with_reducible refine Zaz ?_); (first | refine Zaf htb hmz Zb4 fF rfl rfl ?_ | refine Zae hmo htb hmz Zb4 fF rfl rfl (by kernel_rfl) ?_); intro _ _ _ _ h; simp only [zE, evp, evx, ev1, evLoad, evStore, evBin, evIf, Zad, forall_const, z38, tb, reduceAdd, reduceSub, reduceMul, reduceEqDiff, reduceLeDiff, reduceLT, Nat.reduceBEq, Nat.reduceBNe, ↓reduceIte, reduceIte, spWr, Zay, Zb7, isS, wonS, agnS] at h; obtain ⟨rfl, rfl, rfl, rfl⟩ := h; refine ⟨?_, ?_⟩) | ((with_reducible refine Ob.mk ?_); first | exact trivial | (intros; omega) | ((repeat' first | apply And.intro | (intro a; have b := a; try simp only [zH] at b)) <;> first | assumption | omega | (simp only [zH]; omega)))
    refine Zax rfl rfl (Zaw rfl ?_ rfl)
    rfl
  have hv := hb
  clear hb
  have hxl : x.length = o.length := (gok (validB_iff.1 hv)).xl
  have hil := @Zi1 o p s lp x hv
  repeat' first
    | with_reducible first | apply Zar | apply Zan | apply Zaa | apply Zac | apply Zah | apply Zap | apply Zag | apply Zaj | apply Zaq | apply Zas | apply Zao | apply Zal | apply Zab | apply Zak
    | ((with_reducible refine Zai ?_ ?_); exact rfl) | ((with_reducible refine Zat ?_); refine Zam rfl ?_ ?_ <;> intro hb <;> (try simp only [zH] at hb)) | ((with_reducible refine Zau 4 ?_ ?_); (· exact rfl); (with_reducible refine Zau 5 ?_ ?_); (· exact rfl); (first | refine Zaf htb hmz Zb4 fF rfl rfl ?_ | refine Zae hmo htb hmz Zb4 fF rfl rfl (by kernel_rfl) ?_); intro _ _ _ _ h; simp only [zE, evp, evx, ev1, evLoad, evStore, evBin, evIf, Zad, forall_const, z38, tb, reduceAdd, reduceSub, reduceMul, reduceEqDiff, reduceLeDiff, reduceLT, Nat.reduceBEq, Nat.reduceBNe, ↓reduceIte, reduceIte, spWr, Zay, Zb7, isS, wonS, agnS] at h; obtain ⟨rfl, rfl, rfl, rfl⟩ := h; refine ⟨?_, ?_⟩) | ((with_reducible refine Ob.mk ?_); first | exact trivial | (intros; omega) | ((repeat' first | apply And.intro | (intro a; have b := a; try simp only [zH] at b)) <;> first | assumption | omega | (simp only [zH]; omega)))
  · have e : winR ⟨o, p, x⟩ s lp = (0, 4) := by unfold winR; rw [if_pos hv, if_neg (by rw [hb]; decide)]
    rw [e]
    repeat' first
      | with_reducible first | apply Zar | apply Zan | apply Zaa | apply Zac | apply Zah | apply Zap | apply Zag | apply Zaj | apply Zaq | apply Zas | apply Zao | apply Zal | apply Zab | apply Zak
      | ((with_reducible refine Zai ?_ ?_); exact rfl) | ((with_reducible refine Zat ?_); refine Zam rfl ?_ ?_ <;> intro hb <;> (try simp only [zH] at hb)) | ((with_reducible refine Zaz ?_); (first | refine Zaf htb hmz Zb4 fF rfl rfl ?_ | refine Zae hmo htb hmz Zb4 fF rfl rfl (by kernel_rfl) ?_); intro _ _ _ _ h; simp only [zE, evp, evx, ev1, evLoad, evStore, evBin, evIf, Zad, forall_const, z38, tb, reduceAdd, reduceSub, reduceMul, reduceEqDiff, reduceLeDiff, reduceLT, Nat.reduceBEq, Nat.reduceBNe, ↓reduceIte, reduceIte, spWr, Zay, Zb7, isS, wonS, agnS] at h; obtain ⟨rfl, rfl, rfl, rfl⟩ := h; refine ⟨?_, ?_⟩) | ((with_reducible refine Ob.mk ?_); first | exact trivial | (intros; omega) | ((repeat' first | apply And.intro | (intro a; have b := a; try simp only [zH] at b)) <;> first | assumption | omega | (simp only [zH]; omega)))
    refine Zax rfl rfl (Zaw rfl ?_ rfl)
    rfl
  have hi2 := hil hb
  have e : winR ⟨o, p, x⟩ s lp = (wonP ⟨o, p, x⟩ lp, 0) := by unfold winR; rw [if_pos hv, if_pos hb]
  rw [e]
  repeat' first
    | with_reducible first | apply Zar | apply Zan | apply Zaa | apply Zac | apply Zah | apply Zap | apply Zag | apply Zaj | apply Zaq | apply Zas | apply Zao | apply Zal | apply Zab | apply Zak
    | ((with_reducible refine Zai ?_ ?_); exact rfl) | ((with_reducible refine Zat ?_); refine Zam rfl ?_ ?_ <;> intro hb <;> (try simp only [zH] at hb)) | ((with_reducible refine Zaz ?_); (first | refine Zaf htb hmz Zb4 fF rfl rfl ?_ | refine Zae hmo htb hmz Zb4 fF rfl rfl (by kernel_rfl) ?_); intro _ _ _ _ h; simp only [zE, evp, evx, ev1, evLoad, evStore, evBin, evIf, Zad, forall_const, z38, tb, reduceAdd, reduceSub, reduceMul, reduceEqDiff, reduceLeDiff, reduceLT, Nat.reduceBEq, Nat.reduceBNe, ↓reduceIte, reduceIte, spWr, Zay, Zb7, isS, wonS, agnS] at h; obtain ⟨rfl, rfl, rfl, rfl⟩ := h; refine ⟨?_, ?_⟩) | ((with_reducible refine Ob.mk ?_); first | exact trivial | (intros; omega) | ((repeat' first | apply And.intro | (intro a; have b := a; try simp only [zH] at b)) <;> first | assumption | omega | (simp only [zH]; omega)))
  · exact Ob.mk hi2
  refine Zax rfl rfl (Zaw rfl ?_ rfl)
  rfl
set_option maxRecDepth 4000 in
set_option maxHeartbeats 4000000 in
theorem rctr_ok : Zb2 Tryd.prog 23 ctrS := by
  refine Za8 htb (fn := Tryd.f23) (by kernel_rfl) (by kernel_rfl) rfl (fun args r hS => ?_) (fun args r hS hob hl => ?_)
  · unfold ctrS at hS; split at hS <;> first | (cases hS; done) | (cases hS; exact Nat.le_of_ble_eq_true rfl)
  unfold ctrS at hS
  split at hS
  case h_2 => cases hS
  rename_i o p x w c s lp
  simp only [Option.some.injEq] at hS
  subst hS
  simp only [lenP, mkL, lim] at hl
  dsimp only at hob
  obtain ⟨h1, h2⟩ := hob
  repeat' first
    | with_reducible first | apply Zar | apply Zan | apply Zaa | apply Zac | apply Zah | apply Zap | apply Zag | apply Zaj | apply Zaq | apply Zas | apply Zao | apply Zal | apply Zab | apply Zak
    | ((with_reducible refine Zai ?_ ?_); exact rfl) | ((with_reducible refine Zat ?_); refine Zam rfl ?_ ?_ <;> intro hb <;> (try simp only [zH] at hb)) | ((with_reducible refine Zau 2 ?_ ?_); (· exact rfl); (with_reducible refine Zau 3 ?_ ?_); (· exact rfl); (first | refine Zaf htb hmz Zb4 fF rfl rfl ?_ | refine Zae hmo htb hmz Zb4 fF rfl rfl (by kernel_rfl) ?_); intro _ _ _ _ h; simp only [zE, evp, evx, ev1, evLoad, evStore, evBin, evIf, Zad, forall_const, z38, tb, reduceAdd, reduceSub, reduceMul, reduceEqDiff, reduceLeDiff, reduceLT, Nat.reduceBEq, Nat.reduceBNe, ↓reduceIte, reduceIte, spWr, Zay, Zb7, isS, wonS, agnS] at h; obtain ⟨rfl, rfl, rfl, rfl⟩ := h; refine ⟨?_, ?_⟩) | ((with_reducible refine Ob.mk ?_); first | exact trivial | (intros; omega) | ((repeat' first | apply And.intro | (intro a; have b := a; try simp only [zH] at b)) <;> first | assumption | omega | (simp only [zH]; omega)))
  · have e : ctrR ⟨o, p, x⟩ w c s lp = (false, 1) := by unfold ctrR; rw [if_neg (by rw [hb]; decide)]
    rw [e]
    repeat' first
      | with_reducible first | apply Zar | apply Zan | apply Zaa | apply Zac | apply Zah | apply Zap | apply Zag | apply Zaj | apply Zaq | apply Zas | apply Zao | apply Zal | apply Zab | apply Zak
      | ((with_reducible refine Zai ?_ ?_); exact rfl) | ((with_reducible refine Zat ?_); refine Zam rfl ?_ ?_ <;> intro hb <;> (try simp only [zH] at hb)) | ((with_reducible refine Zaz ?_); (first | refine Zaf htb hmz Zb4 fF rfl rfl ?_ | refine Zae hmo htb hmz Zb4 fF rfl rfl (by kernel_rfl) ?_); intro _ _ _ _ h; simp only [zE, evp, evx, ev1, evLoad, evStore, evBin, evIf, Zad, forall_const, z38, tb, reduceAdd, reduceSub, reduceMul, reduceEqDiff, reduceLeDiff, reduceLT, Nat.reduceBEq, Nat.reduceBNe, ↓reduceIte, reduceIte, spWr, Zay, Zb7, isS, wonS, agnS] at h; obtain ⟨rfl, rfl, rfl, rfl⟩ := h; refine ⟨?_, ?_⟩) | ((with_reducible refine Ob.mk ?_); first | exact trivial | (intros; omega) | ((repeat' first | apply And.intro | (intro a; have b := a; try simp only [zH] at b)) <;> first | assumption | omega | (simp only [zH]; omega)))
    refine Zax rfl rfl (Zaw rfl ?_ rfl)
    rfl
  have hv := hb
  clear hb
  have hxl : x.length = o.length := (gok (validB_iff.1 hv)).xl
  repeat' first
    | with_reducible first | apply Zar | apply Zan | apply Zaa | apply Zac | apply Zah | apply Zap | apply Zag | apply Zaj | apply Zaq | apply Zas | apply Zao | apply Zal | apply Zab | apply Zak
    | ((with_reducible refine Zai ?_ ?_); exact rfl) | ((with_reducible refine Zat ?_); refine Zam rfl ?_ ?_ <;> intro hb <;> (try simp only [zH] at hb)) | ((with_reducible refine Zau 4 ?_ ?_); (· exact rfl); (with_reducible refine Zau 5 ?_ ?_); (· exact rfl); (first | refine Zaf htb hmz Zb4 fF rfl rfl ?_ | refine Zae hmo htb hmz Zb4 fF rfl rfl (by kernel_rfl) ?_); intro _ _ _ _ h; simp only [zE, evp, evx, ev1, evLoad, evStore, evBin, evIf, Zad, forall_const, z38, tb, reduceAdd, reduceSub, reduceMul, reduceEqDiff, reduceLeDiff, reduceLT, Nat.reduceBEq, Nat.reduceBNe, ↓reduceIte, reduceIte, spWr, Zay, Zb7, isS, wonS, agnS] at h; obtain ⟨rfl, rfl, rfl, rfl⟩ := h; refine ⟨?_, ?_⟩) | ((with_reducible refine Ob.mk ?_); first | exact trivial | (intros; omega) | ((repeat' first | apply And.intro | (intro a; have b := a; try simp only [zH] at b)) <;> first | assumption | omega | (simp only [zH]; omega)))
  · have e : ctrR ⟨o, p, x⟩ w c s lp = (false, 4) := by
      unfold ctrR
      rw [if_pos hv, if_neg]
      rintro ⟨h3, h4⟩
      rw [h3, h4] at hb
      simp at hb
    rw [e]
    repeat' first
      | with_reducible first | apply Zar | apply Zan | apply Zaa | apply Zac | apply Zah | apply Zap | apply Zag | apply Zaj | apply Zaq | apply Zas | apply Zao | apply Zal | apply Zab | apply Zak
      | ((with_reducible refine Zai ?_ ?_); exact rfl) | ((with_reducible refine Zat ?_); refine Zam rfl ?_ ?_ <;> intro hb <;> (try simp only [zH] at hb)) | ((with_reducible refine Zaz ?_); (first | refine Zaf htb hmz Zb4 fF rfl rfl ?_ | refine Zae hmo htb hmz Zb4 fF rfl rfl (by kernel_rfl) ?_); intro _ _ _ _ h; simp only [zE, evp, evx, ev1, evLoad, evStore, evBin, evIf, Zad, forall_const, z38, tb, reduceAdd, reduceSub, reduceMul, reduceEqDiff, reduceLeDiff, reduceLT, Nat.reduceBEq, Nat.reduceBNe, ↓reduceIte, reduceIte, spWr, Zay, Zb7, isS, wonS, agnS] at h; obtain ⟨rfl, rfl, rfl, rfl⟩ := h; refine ⟨?_, ?_⟩) | ((with_reducible refine Ob.mk ?_); first | exact trivial | (intros; omega) | ((repeat' first | apply And.intro | (intro a; have b := a; try simp only [zH] at b)) <;> first | assumption | omega | (simp only [zH]; omega)))
    refine Zax rfl rfl (Zaw rfl ?_ rfl)
    rfl
  have e : ctrR ⟨o, p, x⟩ w c s lp = (Zcr ⟨o, p, x⟩ w c s lp, 0) := by unfold ctrR; rw [if_pos hv, if_pos hb]
  obtain ⟨hb1, hb2⟩ := hb
  rw [e]
  repeat' first
    | with_reducible first | apply Zar | apply Zan | apply Zaa | apply Zac | apply Zah | apply Zap | apply Zag | apply Zaj | apply Zaq | apply Zas | apply Zao | apply Zal | apply Zab | apply Zak
    | ((with_reducible refine Zai ?_ ?_); exact rfl) | ((with_reducible refine Zat ?_); refine Zam rfl ?_ ?_ <;> intro hb <;> (try simp only [zH] at hb)) | ((with_reducible refine Zaz ?_); (first | refine Zaf htb hmz Zb4 fF rfl rfl ?_ | refine Zae hmo htb hmz Zb4 fF rfl rfl (by kernel_rfl) ?_); intro _ _ _ _ h; simp only [zE, evp, evx, ev1, evLoad, evStore, evBin, evIf, Zad, forall_const, z38, tb, reduceAdd, reduceSub, reduceMul, reduceEqDiff, reduceLeDiff, reduceLT, Nat.reduceBEq, Nat.reduceBNe, ↓reduceIte, reduceIte, spWr, Zay, Zb7, isS, wonS, agnS] at h; obtain ⟨rfl, rfl, rfl, rfl⟩ := h; refine ⟨?_, ?_⟩) | ((with_reducible refine Ob.mk ?_); first | exact trivial | (intros; omega) | ((repeat' first | apply And.intro | (intro a; have b := a; try simp only [zH] at b)) <;> first | assumption | omega | (simp only [zH]; omega)))
  refine Zax rfl rfl (Zaw rfl ?_ rfl)
  rfl
noncomputable def spWv : Nat → Option Spec
  | 44 => some Zay
  | 28 => some clmS
  | 38 => some plyS
  | 40 => some wonS
  | 39 => some joiS
  | 42 => some nvS
  | 41 => some Zav
  | _ => none
theorem Za6 : SpOK Tryd.prog spWv := by
  intro f S h
  unfold spWv at h
  split at h
  · cases h; exact Zfw
  · cases h; exact Zfr
  · cases h; exact ply_ok
  · cases h; exact vwon_ok
  · cases h; exact Zee
  · cases h; exact Zi8
  · cases h; exact Zdk
  · cases h
set_option maxRecDepth 4000 in
set_option maxHeartbeats 4000000 in
theorem vwin_ok : Zb2 Tryd.prog 21 winS := by
  refine Za8 htb (fn := Tryd.f21) (by kernel_rfl) (by kernel_rfl) rfl (fun args r hS => ?_) (fun args r hS hob hl => ?_)
  · unfold winS at hS; split at hS <;> first | (cases hS; done) | (cases hS; exact Nat.le_of_ble_eq_true rfl)
  unfold winS at hS
  split at hS
  case h_2 => cases hS
  rename_i o p x s lp
  simp only [Option.some.injEq] at hS
  subst hS
  simp only [lenP, mkL, lim] at hl
  dsimp only at hob
  obtain ⟨h1, h2⟩ := hob
  repeat' first
    | with_reducible first | apply Zar | apply Zan | apply Zaa | apply Zac | apply Zah | apply Zap | apply Zag | apply Zaj | apply Zaq | apply Zas | apply Zao | apply Zal | apply Zab | apply Zak
    | ((with_reducible refine Zai ?_ ?_); exact rfl) | ((with_reducible refine Zat ?_); refine Zam rfl ?_ ?_ <;> intro hb <;> (try simp only [zH] at hb)) | ((with_reducible refine Zau 2 ?_ ?_); (· exact rfl); (with_reducible refine Zau 3 ?_ ?_); (· exact rfl); (first | refine Zaf htb hmz Za6 fF rfl rfl ?_ | refine Zae hmo htb hmz Za6 fF rfl rfl (by kernel_rfl) ?_); intro _ _ _ _ h; simp only [zE, evp, evx, ev1, evLoad, evStore, evBin, evIf, Zad, forall_const, z38, tb, reduceAdd, reduceSub, reduceMul, reduceEqDiff, reduceLeDiff, reduceLT, Nat.reduceBEq, Nat.reduceBNe, ↓reduceIte, reduceIte, spWv, Zay, clmS, plyS, wonS, joiS, nvS, Zav] at h; obtain ⟨rfl, rfl, rfl, rfl⟩ := h; refine ⟨?_, ?_⟩) | ((with_reducible refine Ob.mk ?_); first | exact trivial | (intros; omega) | ((repeat' first | apply And.intro | (intro a; have b := a; try simp only [zH] at b)) <;> first | assumption | omega | (simp only [zH]; omega)))
  · have e : winR ⟨o, p, x⟩ s lp = (0, 1) := by unfold winR; rw [if_neg (by rw [hb]; decide)]
    rw [e]
    repeat' first
      | with_reducible first | apply Zar | apply Zan | apply Zaa | apply Zac | apply Zah | apply Zap | apply Zag | apply Zaj | apply Zaq | apply Zas | apply Zao | apply Zal | apply Zab | apply Zak
      | ((with_reducible refine Zai ?_ ?_); exact rfl) | ((with_reducible refine Zat ?_); refine Zam rfl ?_ ?_ <;> intro hb <;> (try simp only [zH] at hb)) | ((with_reducible refine Zaz ?_); (first | refine Zaf htb hmz Za6 fF rfl rfl ?_ | refine Zae hmo htb hmz Za6 fF rfl rfl (by kernel_rfl) ?_); intro _ _ _ _ h; simp only [zE, evp, evx, ev1, evLoad, evStore, evBin, evIf, Zad, forall_const, z38, tb, reduceAdd, reduceSub, reduceMul, reduceEqDiff, reduceLeDiff, reduceLT, Nat.reduceBEq, Nat.reduceBNe, ↓reduceIte, reduceIte, spWv, Zay, clmS, plyS, wonS, joiS, nvS, Zav] at h; obtain ⟨rfl, rfl, rfl, rfl⟩ := h; refine ⟨?_, ?_⟩) | ((with_reducible refine Ob.mk ?_); first | exact trivial | (intros; omega) | ((repeat' first | apply And.intro | (intro a; have b := a; try simp only [zH] at b)) <;> first | assumption | omega | (simp only [zH]; omega)))
    refine Zax rfl rfl (Zaw rfl ?_ rfl)
    rfl
  have hv := hb
  clear hb
  have hxl : x.length = o.length := (gok (validB_iff.1 hv)).xl
  have hil := @Zi1 o p s lp x hv
  repeat' first
    | with_reducible first | apply Zar | apply Zan | apply Zaa | apply Zac | apply Zah | apply Zap | apply Zag | apply Zaj | apply Zaq | apply Zas | apply Zao | apply Zal | apply Zab | apply Zak
    | ((with_reducible refine Zai ?_ ?_); exact rfl) | ((with_reducible refine Zat ?_); refine Zam rfl ?_ ?_ <;> intro hb <;> (try simp only [zH] at hb)) | ((with_reducible refine Zau 4 ?_ ?_); (· exact rfl); (with_reducible refine Zau 5 ?_ ?_); (· exact rfl); (first | refine Zaf htb hmz Za6 fF rfl rfl ?_ | refine Zae hmo htb hmz Za6 fF rfl rfl (by kernel_rfl) ?_); intro _ _ _ _ h; simp only [zE, evp, evx, ev1, evLoad, evStore, evBin, evIf, Zad, forall_const, z38, tb, reduceAdd, reduceSub, reduceMul, reduceEqDiff, reduceLeDiff, reduceLT, Nat.reduceBEq, Nat.reduceBNe, ↓reduceIte, reduceIte, spWv, Zay, clmS, plyS, wonS, joiS, nvS, Zav] at h; obtain ⟨rfl, rfl, rfl, rfl⟩ := h; refine ⟨?_, ?_⟩) | ((with_reducible refine Ob.mk ?_); first | exact trivial | (intros; omega) | ((repeat' first | apply And.intro | (intro a; have b := a; try simp only [zH] at b)) <;> first | assumption | omega | (simp only [zH]; omega)))
  · have e : winR ⟨o, p, x⟩ s lp = (0, 4) := by unfold winR; rw [if_pos hv, if_neg (by rw [hb]; decide)]
    rw [e]
    repeat' first
      | with_reducible first | apply Zar | apply Zan | apply Zaa | apply Zac | apply Zah | apply Zap | apply Zag | apply Zaj | apply Zaq | apply Zas | apply Zao | apply Zal | apply Zab | apply Zak
      | ((with_reducible refine Zai ?_ ?_); exact rfl) | ((with_reducible refine Zat ?_); refine Zam rfl ?_ ?_ <;> intro hb <;> (try simp only [zH] at hb)) | ((with_reducible refine Zaz ?_); (first | refine Zaf htb hmz Za6 fF rfl rfl ?_ | refine Zae hmo htb hmz Za6 fF rfl rfl (by kernel_rfl) ?_); intro _ _ _ _ h; simp only [zE, evp, evx, ev1, evLoad, evStore, evBin, evIf, Zad, forall_const, z38, tb, reduceAdd, reduceSub, reduceMul, reduceEqDiff, reduceLeDiff, reduceLT, Nat.reduceBEq, Nat.reduceBNe, ↓reduceIte, reduceIte, spWv, Zay, clmS, plyS, wonS, joiS, nvS, Zav] at h; obtain ⟨rfl, rfl, rfl, rfl⟩ := h; refine ⟨?_, ?_⟩) | ((with_reducible refine Ob.mk ?_); first | exact trivial | (intros; omega) | ((repeat' first | apply And.intro | (intro a; have b := a; try simp only [zH] at b)) <;> first | assumption | omega | (simp only [zH]; omega)))
    refine Zax rfl rfl (Zaw rfl ?_ rfl)
    rfl
  have hi2 := hil hb
  have e : winR ⟨o, p, x⟩ s lp = (wonP ⟨o, p, x⟩ lp, 0) := by unfold winR; rw [if_pos hv, if_pos hb]
  rw [e]
  repeat' first
    | with_reducible first | apply Zar | apply Zan | apply Zaa | apply Zac | apply Zah | apply Zap | apply Zag | apply Zaj | apply Zaq | apply Zas | apply Zao | apply Zal | apply Zab | apply Zak
    | ((with_reducible refine Zai ?_ ?_); exact rfl) | ((with_reducible refine Zat ?_); refine Zam rfl ?_ ?_ <;> intro hb <;> (try simp only [zH] at hb)) | ((with_reducible refine Zaz ?_); (first | refine Zaf htb hmz Za6 fF rfl rfl ?_ | refine Zae hmo htb hmz Za6 fF rfl rfl (by kernel_rfl) ?_); intro _ _ _ _ h; simp only [zE, evp, evx, ev1, evLoad, evStore, evBin, evIf, Zad, forall_const, z38, tb, reduceAdd, reduceSub, reduceMul, reduceEqDiff, reduceLeDiff, reduceLT, Nat.reduceBEq, Nat.reduceBNe, ↓reduceIte, reduceIte, spWv, Zay, clmS, plyS, wonS, joiS, nvS, Zav] at h; obtain ⟨rfl, rfl, rfl, rfl⟩ := h; refine ⟨?_, ?_⟩) | ((with_reducible refine Ob.mk ?_); first | exact trivial | (intros; omega) | ((repeat' first | apply And.intro | (intro a; have b := a; try simp only [zH] at b)) <;> first | assumption | omega | (simp only [zH]; omega)))
  · exact Ob.mk hi2
  refine Zax rfl rfl (Zaw rfl ?_ rfl)
  rfl
set_option maxRecDepth 4000 in
set_option maxHeartbeats 4000000 in
theorem vctr_ok : Zb2 Tryd.prog 17 ctrS := by
  refine Za8 htb (fn := Tryd.f17) (by kernel_rfl) (by kernel_rfl) rfl (fun args r hS => ?_) (fun args r hS hob hl => ?_)
  · unfold ctrS at hS; split at hS <;> first | (cases hS; done) | (cases hS; exact Nat.le_of_ble_eq_true rfl)
  unfold ctrS at hS
  split at hS
  case h_2 => cases hS
  rename_i o p x w c s lp
  simp only [Option.some.injEq] at hS
  subst hS
  simp only [lenP, mkL, lim] at hl
  dsimp only at hob
  obtain ⟨h1, h2⟩ := hob
  have hor := Zii ⟨o, p, x⟩ w c
  repeat' first
    | with_reducible first | apply Zar | apply Zan | apply Zaa | apply Zac | apply Zah | apply Zap | apply Zag | apply Zaj | apply Zaq | apply Zas | apply Zao | apply Zal | apply Zab | apply Zak
    | ((with_reducible refine Zai ?_ ?_); exact rfl) | ((with_reducible refine Zat ?_); refine Zam rfl ?_ ?_ <;> intro hb <;> (try simp only [zH] at hb)) | ((with_reducible refine Zau 2 ?_ ?_); (· exact rfl); (first | refine Zaf htb hmz Za6 fF rfl rfl ?_ | refine Zae hmo htb hmz Za6 fF rfl rfl (by kernel_rfl) ?_); intro _ _ _ _ h; simp only [zE, evp, evx, ev1, evLoad, evStore, evBin, evIf, Zad, forall_const, z38, tb, reduceAdd, reduceSub, reduceMul, reduceEqDiff, reduceLeDiff, reduceLT, Nat.reduceBEq, Nat.reduceBNe, ↓reduceIte, reduceIte, spWv, Zay, clmS, plyS, wonS, joiS, nvS, Zav] at h; obtain ⟨rfl, rfl, rfl, rfl⟩ := h; refine ⟨?_, ?_⟩) | ((with_reducible refine Ob.mk ?_); first | exact trivial | (intros; omega) | ((repeat' first | apply And.intro | (intro a; have b := a; try simp only [zH] at b)) <;> first | assumption | omega | (simp only [zH]; omega)))
  rcases hor with ⟨hv, hc, he⟩ | ⟨he, hv⟩ | ⟨he, hv, hc⟩
  · rw [he]
    simp only [seI, seII, ↓reduceIte]
    have hG := gok (validB_iff.1 hv)
    have hxl : x.length = o.length := hG.xl
    have hal : (s ++ lp).length = s.length + lp.length := List.length_append ..
    have hfl : [s, lp].flatten = s ++ lp := by simp
    have hfl2 : [s, lp].flatten.length ≤ 100000 := by rw [hfl]; omega
    repeat' first
      | with_reducible first | apply Zar | apply Zan | apply Zaa | apply Zac | apply Zah | apply Zap | apply Zag | apply Zaj | apply Zaq | apply Zas | apply Zao | apply Zal | apply Zab | apply Zak
      | ((with_reducible refine Zai ?_ ?_); exact rfl) | ((with_reducible refine Zat ?_); refine Zam rfl ?_ ?_ <;> intro hb <;> (try simp only [zH] at hb)) | ((with_reducible refine Zau 3 ?_ ?_); (· exact rfl); (with_reducible refine Zau 4 ?_ ?_); (· exact rfl); (first | refine Zaf htb hmz Za6 fF rfl rfl ?_ | refine Zae hmo htb hmz Za6 fF rfl rfl (by kernel_rfl) ?_); intro _ _ _ _ h; simp only [zE, evp, evx, ev1, evLoad, evStore, evBin, evIf, Zad, forall_const, z38, tb, reduceAdd, reduceSub, reduceMul, reduceEqDiff, reduceLeDiff, reduceLT, Nat.reduceBEq, Nat.reduceBNe, ↓reduceIte, reduceIte, spWv, Zay, clmS, plyS, wonS, joiS, nvS, Zav] at h; obtain ⟨rfl, rfl, rfl, rfl⟩ := h; refine ⟨?_, ?_⟩) | ((with_reducible refine Ob.mk ?_); first | exact trivial | (intros; omega) | ((repeat' first | apply And.intro | (intro a; have b := a; try simp only [zH] at b)) <;> first | assumption | omega | (simp only [zH]; omega)))
    · cases hb
    clear hb
    repeat' first
      | with_reducible first | apply Zar | apply Zan | apply Zaa | apply Zac | apply Zah | apply Zap | apply Zag | apply Zaj | apply Zaq | apply Zas | apply Zao | apply Zal | apply Zab | apply Zak
      | ((with_reducible refine Zai ?_ ?_); exact rfl) | ((with_reducible refine Zat ?_); refine Zam rfl ?_ ?_ <;> intro hb <;> (try simp only [zH] at hb)) | ((with_reducible refine Zau 5 ?_ ?_); (· exact rfl); (with_reducible refine Zau 6 ?_ ?_); (· exact rfl); (first | refine Zaf htb hmz Za6 fF rfl rfl ?_ | refine Zae hmo htb hmz Za6 fF rfl rfl (by kernel_rfl) ?_); intro _ _ _ _ h; simp only [zE, evp, evx, ev1, evLoad, evStore, evBin, evIf, Zad, forall_const, z38, tb, reduceAdd, reduceSub, reduceMul, reduceEqDiff, reduceLeDiff, reduceLT, Nat.reduceBEq, Nat.reduceBNe, ↓reduceIte, reduceIte, spWv, Zay, clmS, plyS, wonS, joiS, nvS, Zav] at h; obtain ⟨rfl, rfl, rfl, rfl⟩ := h; refine ⟨?_, ?_⟩) | ((with_reducible refine Ob.mk ?_); first | exact trivial | (intros; omega) | ((repeat' first | apply And.intro | (intro a; have b := a; try simp only [zH] at b)) <;> first | assumption | omega | (simp only [zH]; omega)))
    · have e : ctrR ⟨o, p, x⟩ w c s lp = (false, 4) := by
        unfold ctrR
        rw [if_pos hv, if_neg]
        rintro ⟨h3, h4⟩
        rw [hb] at h4
        cases h4
      rw [e]
      repeat' first
        | with_reducible first | apply Zar | apply Zan | apply Zaa | apply Zac | apply Zah | apply Zap | apply Zag | apply Zaj | apply Zaq | apply Zas | apply Zao | apply Zal | apply Zab | apply Zak
        | ((with_reducible refine Zai ?_ ?_); exact rfl) | ((with_reducible refine Zat ?_); refine Zam rfl ?_ ?_ <;> intro hb <;> (try simp only [zH] at hb)) | ((with_reducible refine Zaz ?_); (first | refine Zaf htb hmz Za6 fF rfl rfl ?_ | refine Zae hmo htb hmz Za6 fF rfl rfl (by kernel_rfl) ?_); intro _ _ _ _ h; simp only [zE, evp, evx, ev1, evLoad, evStore, evBin, evIf, Zad, forall_const, z38, tb, reduceAdd, reduceSub, reduceMul, reduceEqDiff, reduceLeDiff, reduceLT, Nat.reduceBEq, Nat.reduceBNe, ↓reduceIte, reduceIte, spWv, Zay, clmS, plyS, wonS, joiS, nvS, Zav] at h; obtain ⟨rfl, rfl, rfl, rfl⟩ := h; refine ⟨?_, ?_⟩) | ((with_reducible refine Ob.mk ?_); first | exact trivial | (intros; omega) | ((repeat' first | apply And.intro | (intro a; have b := a; try simp only [zH] at b)) <;> first | assumption | omega | (simp only [zH]; omega)))
      refine Zax rfl rfl (Zaw rfl ?_ rfl)
      rfl
    have e : ctrR ⟨o, p, x⟩ w c s lp = (Zcr ⟨o, p, x⟩ w c s lp, 0) := by unfold ctrR; rw [if_pos hv, if_pos ⟨hc, hb⟩]
    rw [e]
    have hag := @agn_b ⟨o, p, x⟩ w c s lp
    simp only [psP] at hag
    obtain ⟨R, hR⟩ : ∃ R, Zcr ⟨o, p, x⟩ w c s lp = R := ⟨_, rfl⟩
    rw [hR] at hag ⊢
    obtain ⟨hwl, hcl2, hcc⟩ := of_decide_eq_true hc
    have hwl : w.length = o.length := hwl
    have hcl2 : c.length = o.length := hcl2
    have hpl : p.length = o.length := hG.pl
    have hn : o.length ≤ 20000 := hG.n
    have hwl2 := Zi1 hv hb
    have hnv := fun q => Zfz hv hc q
    obtain ⟨hne, hat, hmem⟩ := isP_iff.1 hb
    have hl0 : 0 < lp.length := List.length_pos_iff.2 hne
    have hat : ∀ i, i < (s ++ lp).length → 0 ≤ (s ++ lp).getD i 0 ∧ (s ++ lp).getD i 0 < (o.length : Int) := hat
    have hmem : ∀ i : Nat, i < (s ++ lp).length → aftP (s ++ lp) lp i ∈ x.getD ((s ++ lp).getD i 0).toNat [] := hmem
    clear e hb
    repeat' first
      | with_reducible first | apply Zar | apply Zan | apply Zaa | apply Zac | apply Zah | apply Zap | apply Zag | apply Zaj | apply Zaq | apply Zas | apply Zao | apply Zal | apply Zab | apply Zak
      | ((with_reducible refine Zai ?_ ?_); exact rfl) | ((with_reducible refine Zat ?_); refine Zam rfl ?_ ?_ <;> intro hb <;> (try simp only [zH] at hb)) | ((with_reducible refine Zau 7 ?_ ?_); (· exact rfl); (first | refine Zaf htb hmz Za6 fF rfl rfl ?_ | refine Zae hmo htb hmz Za6 fF rfl rfl (by kernel_rfl) ?_); intro _ _ _ _ h; simp only [zE, evp, evx, ev1, evLoad, evStore, evBin, evIf, Zad, forall_const, z38, tb, reduceAdd, reduceSub, reduceMul, reduceEqDiff, reduceLeDiff, reduceLT, Nat.reduceBEq, Nat.reduceBNe, ↓reduceIte, reduceIte, spWv, Zay, clmS, plyS, wonS, joiS, nvS, Zav] at h; obtain ⟨rfl, rfl, rfl, rfl⟩ := h; refine ⟨?_, ?_⟩) | ((with_reducible refine Ob.mk ?_); first | exact trivial | (intros; omega) | ((repeat' first | apply And.intro | (intro a; have b := a; try simp only [zH] at b)) <;> first | assumption | omega | (simp only [zH]; omega)))
    rw [hfl]
    generalize s ++ lp = L at *
    have hL : L.length ≤ 80000 := by omega
    have h00 := hat 0 (by omega)
    clear hfl hfl2
    repeat' first
      | with_reducible first | apply Zar | apply Zan | apply Zaa | apply Zac | apply Zah | apply Zap | apply Zag | apply Zaj | apply Zaq | apply Zas | apply Zao | apply Zal | apply Zab | apply Zak
      | ((with_reducible refine Zai ?_ ?_); exact rfl) | ((with_reducible refine Zat ?_); refine Zam rfl ?_ ?_ <;> intro hb <;> (try simp only [zH] at hb)) | ((with_reducible refine Zau 9 ?_ ?_); (· exact rfl); (first | refine Zaf htb hmz Za6 fF rfl rfl ?_ | refine Zae hmo htb hmz Za6 fF rfl rfl (by kernel_rfl) ?_); intro _ _ _ _ h; simp only [zE, evp, evx, ev1, evLoad, evStore, evBin, evIf, Zad, forall_const, z38, tb, reduceAdd, reduceSub, reduceMul, reduceEqDiff, reduceLeDiff, reduceLT, Nat.reduceBEq, Nat.reduceBNe, ↓reduceIte, reduceIte, spWv, Zay, clmS, plyS, wonS, joiS, nvS, Zav] at h; obtain ⟨rfl, rfl, rfl, rfl⟩ := h; refine ⟨?_, ?_⟩) | ((with_reducible refine Ob.mk ?_); first | exact trivial | (intros; omega) | ((repeat' first | apply And.intro | (intro a; have b := a; try simp only [zH] at b)) <;> first | assumption | omega | (simp only [zH]; omega)))
    · exact Ob.mk hwl2
    obtain ⟨q, hq⟩ : ∃ q, w.getD (L.getD 0 0).toNat 0 = q := ⟨_, rfl⟩
    rw [hq] at hag ⊢
    obtain ⟨wn, hwn⟩ : ∃ wn, wonP ⟨o, p, x⟩ lp = wn := ⟨_, rfl⟩
    rw [hwn] at hag ⊢
    have hlv : ∀ i, lvB w L q (i + 1) = (lvB w L q i || !decide (w.getD (L.getD i 0).toNat 0 = q)) := fun i => lvB_s
    repeat' first
      | with_reducible first | apply Zar | apply Zan | apply Zaa | apply Zac | apply Zah | apply Zap | apply Zag | apply Zaj | apply Zaq | apply Zas | apply Zao | apply Zal | apply Zab | apply Zak
      | ((with_reducible refine Zai ?_ ?_); exact rfl) | ((with_reducible refine Zat ?_); refine Zam rfl ?_ ?_ <;> intro hb <;> (try simp only [zH] at hb)) | ((with_reducible refine Zaz ?_); (first | refine Zaf htb hmz Za6 fF rfl rfl ?_ | refine Zae hmo htb hmz Za6 fF rfl rfl (by kernel_rfl) ?_); intro _ _ _ _ h; simp only [zE, evp, evx, ev1, evLoad, evStore, evBin, evIf, Zad, forall_const, z38, tb, reduceAdd, reduceSub, reduceMul, reduceEqDiff, reduceLeDiff, reduceLT, Nat.reduceBEq, Nat.reduceBNe, ↓reduceIte, reduceIte, spWv, Zay, clmS, plyS, wonS, joiS, nvS, Zav] at h; obtain ⟨rfl, rfl, rfl, rfl⟩ := h; refine ⟨?_, ?_⟩) | ((with_reducible refine Ob.mk ?_); first | exact trivial | (intros; omega) | ((repeat' first | apply And.intro | (intro a; have b := a; try simp only [zH] at b)) <;> first | assumption | omega | (simp only [zH]; omega)))
    refine Za5 (τ := Nat) (fun i => i ≤ L.length ∧ ∀ j : Nat, j < i → o.getD (L.getD j 0).toNat 0 = q ∧ w.getD (L.getD j 0).toNat 0 = q → aftP L lp j = c.getD (L.getD j 0).toNat 0) (fun i => ⟨60, [(49, .int .i64 i), (48, .int .i64 L.length), (47, .roI L), (12, .bool (!decide (wn = q) || lvB w L q i)), (11, .int .i64 q), (10, .roI L), (8, .own 11), (5, .rop (.agg (.cons (.roI s) (.cons (.roI lp) .nil)))), (4, .rop (.agg (.cons (.roI w) (.cons (.roI c) .nil)))), (3, .rop (.agg (.cons (.roI o) (.cons (.roI p) (.cons (.roII x) .nil)))))], [(11, some (.box (.agg (.cons (.roI o) (.cons (.roI p) (.cons (.roII x) (.cons (.roI w) (.cons (.roI c) .nil))))))))], []⟩) (fun i => L.length - i) 0 [] ?_ ⟨Nat.zero_le _, fun j hj => absurd hj (Nat.not_lt_zero j)⟩ ?_
    · (refine ⟨rfl, ?_, ?_⟩ <;> simp only [zE, evp, evx, ev1, evLoad, evStore, evBin, evIf, Zad, forall_const, z38, tb, reduceAdd, reduceSub, reduceMul, reduceEqDiff, reduceLeDiff, reduceLT, Nat.reduceBEq, Nat.reduceBNe, ↓reduceIte, reduceIte, spWv, Zay, clmS, plyS, wonS, joiS, nvS, Zav, zI])
      exact Bool.or_false _
    rintro i ⟨hi, hk⟩
    have hat1 := hat i
    have hlv1 := hlv i
    have hm1 := hmem i
    have hnv := hnv q
    clear hlv hmem
    repeat' first
      | with_reducible first | apply Zar | apply Zan | apply Zaa | apply Zac | apply Zah | apply Zap | apply Zag | apply Zaj | apply Zaq | apply Zas | apply Zao | apply Zal | apply Zab | apply Zak
      | ((with_reducible refine Zai ?_ ?_); exact rfl) | ((with_reducible refine Zat ?_); refine Zam rfl ?_ ?_ <;> intro hb <;> (try simp only [zH] at hb)) | ((with_reducible refine Zau 11 ?_ ?_); (· exact rfl); (with_reducible refine Zau 19 ?_ ?_); (· exact rfl); (first | refine Zaf htb hmz Za6 fF rfl rfl ?_ | refine Zae hmo htb hmz Za6 fF rfl rfl (by kernel_rfl) ?_); intro _ _ _ _ h; simp only [zE, evp, evx, ev1, evLoad, evStore, evBin, evIf, Zad, forall_const, z38, tb, reduceAdd, reduceSub, reduceMul, reduceEqDiff, reduceLeDiff, reduceLT, Nat.reduceBEq, Nat.reduceBNe, ↓reduceIte, reduceIte, spWv, Zay, clmS, plyS, wonS, joiS, nvS, Zav] at h; obtain ⟨rfl, rfl, rfl, rfl⟩ := h; refine ⟨?_, ?_⟩) | ((with_reducible refine Ob.mk ?_); first | exact trivial | (intros; omega) | ((repeat' first | apply And.intro | (intro a; have b := a; try simp only [zH] at b)) <;> first | assumption | omega | (simp only [zH]; omega)))
    · have hil : i < L.length := by omega
      have hat1 := hat1 hil
      have hm1 := hm1 hil
      have hA : aftP L lp i = if (i : Int) + 1 < L.length then L.getD ((i : Int) + 1).toNat 0 else lp.getD 0 0 := rfl
      have hfin : aftP L lp i ∉ nvF o w c x q (L.getD i 0).toNat → R = false := fun h => by
        rw [Bool.eq_false_iff]
        intro h2
        refine h ?_
        unfold nvF
        split
        · rename_i h3
          rw [(hag.1 h2).1 i hil h3]
          exact List.mem_singleton.2 rfl
        · exact hm1
      have hnew : aftP L lp i ∈ nvF o w c x q (L.getD i 0).toNat → ∀ j : Nat, j < i + 1 → o.getD (L.getD j 0).toNat 0 = q ∧ w.getD (L.getD j 0).toNat 0 = q → aftP L lp j = c.getD (L.getD j 0).toNat 0 := fun h j hj => by
        rcases Nat.lt_succ_iff_lt_or_eq.1 hj with h2 | rfl
        · exact hk j h2
        · intro h3
          unfold nvF at h
          rw [if_pos h3] at h
          exact List.mem_singleton.1 h
      obtain ⟨A, hAe⟩ : ∃ A, aftP L lp i = A := ⟨_, rfl⟩
      rw [hAe] at hA hfin hnew hm1
      have hnl := (hnv (L.getD i 0).toNat (by omega)).1
      repeat' first
        | with_reducible first | apply Zar | apply Zan | apply Zaa | apply Zac | apply Zah | apply Zap | apply Zag | apply Zaj | apply Zaq | apply Zas | apply Zao | apply Zal | apply Zab | apply Zak
        | ((with_reducible refine Zai ?_ ?_); exact rfl) | ((with_reducible refine Zat ?_); refine Zam rfl ?_ ?_ <;> intro hb <;> (try simp only [zH] at hb)) | ((with_reducible refine Zau 14 ?_ ?_); (· exact rfl); (with_reducible refine Zau 15 ?_ ?_); (· exact rfl); (first | refine Zaf htb hmz Za6 fF rfl rfl ?_ | refine Zae hmo htb hmz Za6 fF rfl rfl (by kernel_rfl) ?_); intro _ _ _ _ h; simp only [zE, evp, evx, ev1, evLoad, evStore, evBin, evIf, Zad, forall_const, z38, tb, reduceAdd, reduceSub, reduceMul, reduceEqDiff, reduceLeDiff, reduceLT, Nat.reduceBEq, Nat.reduceBNe, ↓reduceIte, reduceIte, spWv, Zay, clmS, plyS, wonS, joiS, nvS, Zav] at h; obtain ⟨rfl, rfl, rfl, rfl⟩ := h; refine ⟨?_, ?_⟩) | ((with_reducible refine Ob.mk ?_); first | exact trivial | (intros; omega) | ((repeat' first | apply And.intro | (intro a; have b := a; try simp only [zH] at b)) <;> first | assumption | omega | (simp only [zH]; omega)))
      · rw [if_pos hb] at hA
        have hb1 := hb
        clear hb
        repeat' first
          | with_reducible first | apply Zar | apply Zan | apply Zaa | apply Zac | apply Zah | apply Zap | apply Zag | apply Zaj | apply Zaq | apply Zas | apply Zao | apply Zal | apply Zab | apply Zak
          | ((with_reducible refine Zai ?_ ?_); exact rfl) | ((with_reducible refine Zat ?_); refine Zam rfl ?_ ?_ <;> intro hb <;> (try simp only [zH] at hb)) | ((with_reducible refine Zau 15 ?_ ?_); (· exact rfl); (first | refine Zaf htb hmz Za6 fF rfl rfl ?_ | refine Zae hmo htb hmz Za6 fF rfl rfl (by kernel_rfl) ?_); intro _ _ _ _ h; simp only [zE, evp, evx, ev1, evLoad, evStore, evBin, evIf, Zad, forall_const, z38, tb, reduceAdd, reduceSub, reduceMul, reduceEqDiff, reduceLeDiff, reduceLT, Nat.reduceBEq, Nat.reduceBNe, ↓reduceIte, reduceIte, spWv, Zay, clmS, plyS, wonS, joiS, nvS, Zav] at h; obtain ⟨rfl, rfl, rfl, rfl⟩ := h; refine ⟨?_, ?_⟩) | ((with_reducible refine Ob.mk ?_); first | exact trivial | (intros; omega) | ((repeat' first | apply And.intro | (intro a; have b := a; try simp only [zH] at b)) <;> first | assumption | omega | (simp only [zH]; omega)))
        rw [← hA]
        repeat' first
          | with_reducible first | apply Zar | apply Zan | apply Zaa | apply Zac | apply Zah | apply Zap | apply Zag | apply Zaj | apply Zaq | apply Zas | apply Zao | apply Zal | apply Zab | apply Zak
          | ((with_reducible refine Zai ?_ ?_); exact rfl) | ((with_reducible refine Zat ?_); refine Zam rfl ?_ ?_ <;> intro hb <;> (try simp only [zH] at hb)) | ((with_reducible refine Zau 16 ?_ ?_); (· exact rfl); (with_reducible refine Zau 17 ?_ ?_); (· exact rfl); (first | refine Zaf htb hmz Za6 fF rfl rfl ?_ | refine Zae hmo htb hmz Za6 fF rfl rfl (by kernel_rfl) ?_); intro _ _ _ _ h; simp only [zE, evp, evx, ev1, evLoad, evStore, evBin, evIf, Zad, forall_const, z38, tb, reduceAdd, reduceSub, reduceMul, reduceEqDiff, reduceLeDiff, reduceLT, Nat.reduceBEq, Nat.reduceBNe, ↓reduceIte, reduceIte, spWv, Zay, clmS, plyS, wonS, joiS, nvS, Zav] at h; obtain ⟨rfl, rfl, rfl, rfl⟩ := h; refine ⟨?_, ?_⟩) | ((with_reducible refine Ob.mk ?_); first | exact trivial | (intros; omega) | ((repeat' first | apply And.intro | (intro a; have b := a; try simp only [zH] at b)) <;> first | assumption | omega | (simp only [zH]; omega)))
        · rw [hfin hb]
          repeat' first
            | with_reducible first | apply Zar | apply Zan | apply Zaa | apply Zac | apply Zah | apply Zap | apply Zag | apply Zaj | apply Zaq | apply Zas | apply Zao | apply Zal | apply Zab | apply Zak
            | ((with_reducible refine Zai ?_ ?_); exact rfl) | ((with_reducible refine Zat ?_); refine Zam rfl ?_ ?_ <;> intro hb <;> (try simp only [zH] at hb)) | ((with_reducible refine Zaz ?_); (first | refine Zaf htb hmz Za6 fF rfl rfl ?_ | refine Zae hmo htb hmz Za6 fF rfl rfl (by kernel_rfl) ?_); intro _ _ _ _ h; simp only [zE, evp, evx, ev1, evLoad, evStore, evBin, evIf, Zad, forall_const, z38, tb, reduceAdd, reduceSub, reduceMul, reduceEqDiff, reduceLeDiff, reduceLT, Nat.reduceBEq, Nat.reduceBNe, ↓reduceIte, reduceIte, spWv, Zay, clmS, plyS, wonS, joiS, nvS, Zav] at h; obtain ⟨rfl, rfl, rfl, rfl⟩ := h; refine ⟨?_, ?_⟩) | ((with_reducible refine Ob.mk ?_); first | exact trivial | (intros; omega) | ((repeat' first | apply And.intro | (intro a; have b := a; try simp only [zH] at b)) <;> first | assumption | omega | (simp only [zH]; omega)))
          refine Zax rfl rfl (Zaw rfl ?_ rfl)
          rfl
        · have hb2 := hnew hb
          clear hb
          repeat' first
            | with_reducible first | apply Zar | apply Zan | apply Zaa | apply Zac | apply Zah | apply Zap | apply Zag | apply Zaj | apply Zaq | apply Zas | apply Zao | apply Zal | apply Zab | apply Zak
            | ((with_reducible refine Zai ?_ ?_); exact rfl) | ((with_reducible refine Zat ?_); refine Zam rfl ?_ ?_ <;> intro hb <;> (try simp only [zH] at hb)) | ((with_reducible refine Zaz ?_); (first | refine Zaf htb hmz Za6 fF rfl rfl ?_ | refine Zae hmo htb hmz Za6 fF rfl rfl (by kernel_rfl) ?_); intro _ _ _ _ h; simp only [zE, evp, evx, ev1, evLoad, evStore, evBin, evIf, Zad, forall_const, z38, tb, reduceAdd, reduceSub, reduceMul, reduceEqDiff, reduceLeDiff, reduceLT, Nat.reduceBEq, Nat.reduceBNe, ↓reduceIte, reduceIte, spWv, Zay, clmS, plyS, wonS, joiS, nvS, Zav] at h; obtain ⟨rfl, rfl, rfl, rfl⟩ := h; refine ⟨?_, ?_⟩) | ((with_reducible refine Ob.mk ?_); first | exact trivial | (intros; omega) | ((repeat' first | apply And.intro | (intro a; have b := a; try simp only [zH] at b)) <;> first | assumption | omega | (simp only [zH]; omega)))
          refine back (i + 1) [] ?_ ⟨by omega, hb2⟩ (by omega)
          (refine ⟨rfl, ?_, ?_⟩ <;> simp only [zE, evp, evx, ev1, evLoad, evStore, evBin, evIf, Zad, forall_const, z38, tb, reduceAdd, reduceSub, reduceMul, reduceEqDiff, reduceLeDiff, reduceLT, Nat.reduceBEq, Nat.reduceBNe, ↓reduceIte, reduceIte, spWv, Zay, clmS, plyS, wonS, joiS, nvS, Zav, zI])
          rw [hlv1, Bool.or_assoc]
      · rw [if_neg (by omega)] at hA
        rw [← hA]
        clear hb
        repeat' first
          | with_reducible first | apply Zar | apply Zan | apply Zaa | apply Zac | apply Zah | apply Zap | apply Zag | apply Zaj | apply Zaq | apply Zas | apply Zao | apply Zal | apply Zab | apply Zak
          | ((with_reducible refine Zai ?_ ?_); exact rfl) | ((with_reducible refine Zat ?_); refine Zam rfl ?_ ?_ <;> intro hb <;> (try simp only [zH] at hb)) | ((with_reducible refine Zau 16 ?_ ?_); (· exact rfl); (with_reducible refine Zau 17 ?_ ?_); (· exact rfl); (first | refine Zaf htb hmz Za6 fF rfl rfl ?_ | refine Zae hmo htb hmz Za6 fF rfl rfl (by kernel_rfl) ?_); intro _ _ _ _ h; simp only [zE, evp, evx, ev1, evLoad, evStore, evBin, evIf, Zad, forall_const, z38, tb, reduceAdd, reduceSub, reduceMul, reduceEqDiff, reduceLeDiff, reduceLT, Nat.reduceBEq, Nat.reduceBNe, ↓reduceIte, reduceIte, spWv, Zay, clmS, plyS, wonS, joiS, nvS, Zav] at h; obtain ⟨rfl, rfl, rfl, rfl⟩ := h; refine ⟨?_, ?_⟩) | ((with_reducible refine Ob.mk ?_); first | exact trivial | (intros; omega) | ((repeat' first | apply And.intro | (intro a; have b := a; try simp only [zH] at b)) <;> first | assumption | omega | (simp only [zH]; omega)))
        · rw [hfin hb]
          repeat' first
            | with_reducible first | apply Zar | apply Zan | apply Zaa | apply Zac | apply Zah | apply Zap | apply Zag | apply Zaj | apply Zaq | apply Zas | apply Zao | apply Zal | apply Zab | apply Zak
            | ((with_reducible refine Zai ?_ ?_); exact rfl) | ((with_reducible refine Zat ?_); refine Zam rfl ?_ ?_ <;> intro hb <;> (try simp only [zH] at hb)) | ((with_reducible refine Zaz ?_); (first | refine Zaf htb hmz Za6 fF rfl rfl ?_ | refine Zae hmo htb hmz Za6 fF rfl rfl (by kernel_rfl) ?_); intro _ _ _ _ h; simp only [zE, evp, evx, ev1, evLoad, evStore, evBin, evIf, Zad, forall_const, z38, tb, reduceAdd, reduceSub, reduceMul, reduceEqDiff, reduceLeDiff, reduceLT, Nat.reduceBEq, Nat.reduceBNe, ↓reduceIte, reduceIte, spWv, Zay, clmS, plyS, wonS, joiS, nvS, Zav] at h; obtain ⟨rfl, rfl, rfl, rfl⟩ := h; refine ⟨?_, ?_⟩) | ((with_reducible refine Ob.mk ?_); first | exact trivial | (intros; omega) | ((repeat' first | apply And.intro | (intro a; have b := a; try simp only [zH] at b)) <;> first | assumption | omega | (simp only [zH]; omega)))
          refine Zax rfl rfl (Zaw rfl ?_ rfl)
          rfl
        · have hb2 := hnew hb
          clear hb
          repeat' first
            | with_reducible first | apply Zar | apply Zan | apply Zaa | apply Zac | apply Zah | apply Zap | apply Zag | apply Zaj | apply Zaq | apply Zas | apply Zao | apply Zal | apply Zab | apply Zak
            | ((with_reducible refine Zai ?_ ?_); exact rfl) | ((with_reducible refine Zat ?_); refine Zam rfl ?_ ?_ <;> intro hb <;> (try simp only [zH] at hb)) | ((with_reducible refine Zaz ?_); (first | refine Zaf htb hmz Za6 fF rfl rfl ?_ | refine Zae hmo htb hmz Za6 fF rfl rfl (by kernel_rfl) ?_); intro _ _ _ _ h; simp only [zE, evp, evx, ev1, evLoad, evStore, evBin, evIf, Zad, forall_const, z38, tb, reduceAdd, reduceSub, reduceMul, reduceEqDiff, reduceLeDiff, reduceLT, Nat.reduceBEq, Nat.reduceBNe, ↓reduceIte, reduceIte, spWv, Zay, clmS, plyS, wonS, joiS, nvS, Zav] at h; obtain ⟨rfl, rfl, rfl, rfl⟩ := h; refine ⟨?_, ?_⟩) | ((with_reducible refine Ob.mk ?_); first | exact trivial | (intros; omega) | ((repeat' first | apply And.intro | (intro a; have b := a; try simp only [zH] at b)) <;> first | assumption | omega | (simp only [zH]; omega)))
          refine back (i + 1) [] ?_ ⟨by omega, hb2⟩ (by omega)
          (refine ⟨rfl, ?_, ?_⟩ <;> simp only [zE, evp, evx, ev1, evLoad, evStore, evBin, evIf, Zad, forall_const, z38, tb, reduceAdd, reduceSub, reduceMul, reduceEqDiff, reduceLeDiff, reduceLT, Nat.reduceBEq, Nat.reduceBNe, ↓reduceIte, reduceIte, spWv, Zay, clmS, plyS, wonS, joiS, nvS, Zav, zI])
          rw [hlv1, Bool.or_assoc]
    · have hie : i = L.length := by omega
      subst hie
      have e : R = (!decide (wn = q) || lvB w L q L.length) := by
        rw [Bool.eq_iff_iff, hag, Bool.or_eq_true, Bool.not_eq_true', decide_eq_false_iff_not]
        exact ⟨fun h => h.2.symm, fun h => ⟨hk, h.symm⟩⟩
      repeat' first
        | with_reducible first | apply Zar | apply Zan | apply Zaa | apply Zac | apply Zah | apply Zap | apply Zag | apply Zaj | apply Zaq | apply Zas | apply Zao | apply Zal | apply Zab | apply Zak
        | ((with_reducible refine Zai ?_ ?_); exact rfl) | ((with_reducible refine Zat ?_); refine Zam rfl ?_ ?_ <;> intro hb <;> (try simp only [zH] at hb)) | ((with_reducible refine Zaz ?_); (first | refine Zaf htb hmz Za6 fF rfl rfl ?_ | refine Zae hmo htb hmz Za6 fF rfl rfl (by kernel_rfl) ?_); intro _ _ _ _ h; simp only [zE, evp, evx, ev1, evLoad, evStore, evBin, evIf, Zad, forall_const, z38, tb, reduceAdd, reduceSub, reduceMul, reduceEqDiff, reduceLeDiff, reduceLT, Nat.reduceBEq, Nat.reduceBNe, ↓reduceIte, reduceIte, spWv, Zay, clmS, plyS, wonS, joiS, nvS, Zav] at h; obtain ⟨rfl, rfl, rfl, rfl⟩ := h; refine ⟨?_, ?_⟩) | ((with_reducible refine Ob.mk ?_); first | exact trivial | (intros; omega) | ((repeat' first | apply And.intro | (intro a; have b := a; try simp only [zH] at b)) <;> first | assumption | omega | (simp only [zH]; omega)))
      refine Zax rfl rfl (Zaw rfl ?_ rfl)
      rw [e]
      rfl
  · have e : ctrR ⟨o, p, x⟩ w c s lp = (false, 1) := by unfold ctrR; rw [if_neg (by rw [hv]; decide)]
    rw [e, he]
    repeat' first
      | with_reducible first | apply Zar | apply Zan | apply Zaa | apply Zac | apply Zah | apply Zap | apply Zag | apply Zaj | apply Zaq | apply Zas | apply Zao | apply Zal | apply Zab | apply Zak
      | ((with_reducible refine Zai ?_ ?_); exact rfl) | ((with_reducible refine Zat ?_); refine Zam rfl ?_ ?_ <;> intro hb <;> (try simp only [zH] at hb)) | ((with_reducible refine Zau 3 ?_ ?_); (· exact rfl); (with_reducible refine Zau 4 ?_ ?_); (· exact rfl); (first | refine Zaf htb hmz Za6 fF rfl rfl ?_ | refine Zae hmo htb hmz Za6 fF rfl rfl (by kernel_rfl) ?_); intro _ _ _ _ h; simp only [zE, evp, evx, ev1, evLoad, evStore, evBin, evIf, Zad, forall_const, z38, tb, reduceAdd, reduceSub, reduceMul, reduceEqDiff, reduceLeDiff, reduceLT, Nat.reduceBEq, Nat.reduceBNe, ↓reduceIte, reduceIte, spWv, Zay, clmS, plyS, wonS, joiS, nvS, Zav] at h; obtain ⟨rfl, rfl, rfl, rfl⟩ := h; refine ⟨?_, ?_⟩) | ((with_reducible refine Ob.mk ?_); first | exact trivial | (intros; omega) | ((repeat' first | apply And.intro | (intro a; have b := a; try simp only [zH] at b)) <;> first | assumption | omega | (simp only [zH]; omega)))
    · repeat' first
        | with_reducible first | apply Zar | apply Zan | apply Zaa | apply Zac | apply Zah | apply Zap | apply Zag | apply Zaj | apply Zaq | apply Zas | apply Zao | apply Zal | apply Zab | apply Zak
        | ((with_reducible refine Zai ?_ ?_); exact rfl) | ((with_reducible refine Zat ?_); refine Zam rfl ?_ ?_ <;> intro hb <;> (try simp only [zH] at hb)) | ((with_reducible refine Zaz ?_); (first | refine Zaf htb hmz Za6 fF rfl rfl ?_ | refine Zae hmo htb hmz Za6 fF rfl rfl (by kernel_rfl) ?_); intro _ _ _ _ h; simp only [zE, evp, evx, ev1, evLoad, evStore, evBin, evIf, Zad, forall_const, z38, tb, reduceAdd, reduceSub, reduceMul, reduceEqDiff, reduceLeDiff, reduceLT, Nat.reduceBEq, Nat.reduceBNe, ↓reduceIte, reduceIte, spWv, Zay, clmS, plyS, wonS, joiS, nvS, Zav] at h; obtain ⟨rfl, rfl, rfl, rfl⟩ := h; refine ⟨?_, ?_⟩) | ((with_reducible refine Ob.mk ?_); first | exact trivial | (intros; omega) | ((repeat' first | apply And.intro | (intro a; have b := a; try simp only [zH] at b)) <;> first | assumption | omega | (simp only [zH]; omega)))
      refine Zax rfl rfl (Zaw rfl ?_ rfl)
      rfl
    · exact absurd hb (by decide)
  · have e : ctrR ⟨o, p, x⟩ w c s lp = (false, 4) := by
      unfold ctrR
      rw [if_pos hv, if_neg]
      rintro ⟨h3, h4⟩
      rw [hc] at h3
      cases h3
    rw [e, he]
    repeat' first
      | with_reducible first | apply Zar | apply Zan | apply Zaa | apply Zac | apply Zah | apply Zap | apply Zag | apply Zaj | apply Zaq | apply Zas | apply Zao | apply Zal | apply Zab | apply Zak
      | ((with_reducible refine Zai ?_ ?_); exact rfl) | ((with_reducible refine Zat ?_); refine Zam rfl ?_ ?_ <;> intro hb <;> (try simp only [zH] at hb)) | ((with_reducible refine Zau 3 ?_ ?_); (· exact rfl); (with_reducible refine Zau 4 ?_ ?_); (· exact rfl); (first | refine Zaf htb hmz Za6 fF rfl rfl ?_ | refine Zae hmo htb hmz Za6 fF rfl rfl (by kernel_rfl) ?_); intro _ _ _ _ h; simp only [zE, evp, evx, ev1, evLoad, evStore, evBin, evIf, Zad, forall_const, z38, tb, reduceAdd, reduceSub, reduceMul, reduceEqDiff, reduceLeDiff, reduceLT, Nat.reduceBEq, Nat.reduceBNe, ↓reduceIte, reduceIte, spWv, Zay, clmS, plyS, wonS, joiS, nvS, Zav] at h; obtain ⟨rfl, rfl, rfl, rfl⟩ := h; refine ⟨?_, ?_⟩) | ((with_reducible refine Ob.mk ?_); first | exact trivial | (intros; omega) | ((repeat' first | apply And.intro | (intro a; have b := a; try simp only [zH] at b)) <;> first | assumption | omega | (simp only [zH]; omega)))
    · repeat' first
        | with_reducible first | apply Zar | apply Zan | apply Zaa | apply Zac | apply Zah | apply Zap | apply Zag | apply Zaj | apply Zaq | apply Zas | apply Zao | apply Zal | apply Zab | apply Zak
        | ((with_reducible refine Zai ?_ ?_); exact rfl) | ((with_reducible refine Zat ?_); refine Zam rfl ?_ ?_ <;> intro hb <;> (try simp only [zH] at hb)) | ((with_reducible refine Zaz ?_); (first | refine Zaf htb hmz Za6 fF rfl rfl ?_ | refine Zae hmo htb hmz Za6 fF rfl rfl (by kernel_rfl) ?_); intro _ _ _ _ h; simp only [zE, evp, evx, ev1, evLoad, evStore, evBin, evIf, Zad, forall_const, z38, tb, reduceAdd, reduceSub, reduceMul, reduceEqDiff, reduceLeDiff, reduceLT, Nat.reduceBEq, Nat.reduceBNe, ↓reduceIte, reduceIte, spWv, Zay, clmS, plyS, wonS, joiS, nvS, Zav] at h; obtain ⟨rfl, rfl, rfl, rfl⟩ := h; refine ⟨?_, ?_⟩) | ((with_reducible refine Ob.mk ?_); first | exact trivial | (intros; omega) | ((repeat' first | apply And.intro | (intro a; have b := a; try simp only [zH] at b)) <;> first | assumption | omega | (simp only [zH]; omega)))
      refine Zax rfl rfl (Zaw rfl ?_ rfl)
      rfl
    · exact absurd hb (by decide)
end Go.Proofs.YtdhoadhkkecjjaaDoor.Cal
