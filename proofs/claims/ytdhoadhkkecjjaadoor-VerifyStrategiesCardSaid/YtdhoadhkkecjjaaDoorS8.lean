/- Own texts, merged. -/
import Derived.WideLaws
import Derived.WalkSpells
import Derived.Test.YtdhoadhkkecjjaaDoorS7
set_option linter.unusedVariables false
set_option linter.unusedSimpArgs false
open Nat (reduceAdd reduceSub reduceMul reduceEqDiff reduceLeDiff reduceLT)
namespace Go.Proofs.YtdhoadhkkecjjaaDoor.Cal
section
open Go Pl
variable {g : Gm} {W C : List Int}
def nxV (g : Gm) (W C : List Int) (q : Int) (v : Nat) : List Int := if g.own.getD v 0 = q ∧ W.getD v 0 = q then [C.getD v 0] else g.nxt.getD v []
def nxVn (g : Gm) (W C : List Int) (q : Int) (v : Nat) : List Nat := (nxV g W C q v).map Int.toNat
theorem Zek {l : List Nat} {i : Nat} : (Zbf l).getD i 0 = ((l.getD i 0 : Nat) : Int) := by
  unfold Zbf
  simp only [List.getD_eq_getElem?_getD, List.getElem?_map]
  cases l[i]? <;> rfl
theorem cp_of (hv : Zbb g = true) (hc : Zb9 g W C = true) {q : Int} {S L : List Nat} (hne : L ≠ []) (hlt : ∀ z, z ∈ S ++ L → z < g.own.length) (hch : Chn (nxVn g W C q) (S ++ L ++ [L.headD 0])) : isP g (Zbf S) (Zbf L) = true ∧ folP g W C (Zbf S) (Zbf L) q := by
  have hG := gok (validB_iff.1 hv)
  obtain ⟨_, _, hc⟩ := of_decide_eq_true hc
  have hal : Zbf S ++ Zbf L = Zbf (S ++ L) := (List.map_append ..).symm
  have hll : (Zbf (S ++ L)).length = (S ++ L).length := List.length_map ..
  have hb : ∀ i, i < (S ++ L).length → (S ++ L).getD i 0 < g.own.length := fun i hi => hlt _ (by
    rw [List.getD_eq_getElem?_getD, List.getElem?_eq_getElem hi]; exact List.getElem_mem ..)
  have haf : ∀ i : Nat, i < (S ++ L).length → ∃ b : Nat, aftP (Zbf (S ++ L)) (Zbf L) i = b ∧ b ∈ nxVn g W C q ((S ++ L).getD i 0) := by
    intro i hi
    have e1 : (S ++ L ++ [L.headD 0])[i]? = some ((S ++ L).getD i 0) := by
      rw [List.getElem?_append_left hi, List.getD_eq_getElem?_getD, List.getElem?_eq_getElem hi]; rfl
    unfold aftP
    rw [hll]
    by_cases h1 : i + 1 < (S ++ L).length
    · rw [if_pos (by omega), show ((i : Int) + 1).toNat = i + 1 by omega, Zek]
      refine ⟨_, rfl, Zi2 hch i _ _ e1 ?_⟩
      rw [List.getElem?_append_left h1, List.getD_eq_getElem?_getD, List.getElem?_eq_getElem h1]; rfl
    · rw [if_neg (by omega), Zek]
      refine ⟨_, rfl, Zi2 hch i _ _ e1 ?_⟩
      have e2 : i + 1 = (S ++ L).length := by omega
      rw [List.getElem?_append_right (by omega), e2, Nat.sub_self]
      cases L with
      | nil => exact absurd rfl hne
      | cons a L => rfl
  have hps : ∀ i, psP (Zbf (S ++ L)) i = (S ++ L).getD i 0 := fun i => by
    unfold psP
    rw [Zek, Int.toNat_natCast]
  have hin : ∀ v, v < g.own.length → ∀ b : Nat, b ∈ nxVn g W C q v → (b : Int) ∈ g.nxt.getD v [] ∧ (g.own.getD v 0 = q ∧ W.getD v 0 = q → (b : Int) = C.getD v 0) := fun v hvn b hb => by
    obtain ⟨z, hz, rfl⟩ := List.mem_map.1 hb
    have hnn : ∀ z, z ∈ g.nxt.getD v [] → 0 ≤ z := fun z hz => by
      obtain ⟨k, hk, rfl⟩ := Ze5 hz
      exact (hG.at' v hvn k hk).1
    unfold nxV at hz
    split at hz
    · rename_i h
      have hm : C.getD v 0 ∈ g.nxt.getD v [] := (hc v hvn).2.1 (h.1.trans h.2.symm)
      rw [List.mem_singleton.1 hz, Int.toNat_of_nonneg (hnn _ hm)]
      exact ⟨hm, fun _ => rfl⟩
    · rename_i h
      rw [Int.toNat_of_nonneg (hnn z hz)]
      exact ⟨hz, fun h2 => absurd h2 h⟩
  refine ⟨isP_iff.2 ⟨fun e => hne (List.map_eq_nil_iff.1 e), fun i hi => ?_, fun i hi => ?_⟩, fun i hi h => ?_⟩
  · rw [hal] at hi ⊢
    rw [hll] at hi
    rw [Zek]
    have := hb i hi
    omega
  · rw [hal] at hi ⊢
    rw [hll] at hi
    obtain ⟨b, e, hbn⟩ := haf i hi
    rw [e, hps]
    exact (hin _ (hb i hi) b hbn).1
  · rw [hal] at hi h ⊢
    rw [hll] at hi
    obtain ⟨b, e, hbn⟩ := haf i hi
    rw [hps] at h ⊢
    rw [e]
    exact (hin _ (hb i hi) b hbn).2 h
structure CpOK (g : Gm) (W C s l : List Int) : Prop where
  is : isP g s l = true
  ag : Zc1 g W C s l = true
  len : s.length + l.length ≤ 2 * g.own.length
theorem chn_orb {nx : Nat → List Nat} {F : Nat → Nat} {u : Nat} (hF : ∀ j, orb F u (j + 1) ∈ nx (orb F u j)) : ∀ (m a : Nat), Chn nx ((List.range' a m).map (orb F u))
  | 0, a => trivial
  | 1, a => trivial
  | m + 2, a => ⟨hF a, chn_orb hF (m + 1) (a + 1)⟩
theorem left_cp (hv : Zbb g = true) (hc : Zb9 g W C = true) {v u j k : Nat} {F : Nat → Nat} (hvn : v < g.own.length) (hu : u ∈ nxVn g W C (W.getD v 0) v) (hW : W.getD u 0 ≠ W.getD v 0) (hun : ∀ i, orb F u i < g.own.length) (hF : ∀ i, orb F u (i + 1) ∈ nxVn g W C (W.getD v 0) (orb F u i)) (hkj : k < j) (hj : j ≤ g.own.length) (he : orb F u j = orb F u k) :
    CpOK g W C ((v : Int) :: Zbf (((List.range j).map (orb F u)).take k)) (Zbf (((List.range j).map (orb F u)).drop k)) := by
  have e0 : (v : Int) :: Zbf (((List.range j).map (orb F u)).take k) = Zbf (v :: ((List.range j).map (orb F u)).take k) := rfl
  rw [e0]
  have hlen : ((List.range j).map (orb F u)).length = j := by simp
  have hdne : ((List.range j).map (orb F u)).drop k ≠ [] := fun h => by
    have := congrArg List.length h
    rw [List.length_drop, hlen] at this
    simp at this
    omega
  have hall : (v :: ((List.range j).map (orb F u)).take k) ++ ((List.range j).map (orb F u)).drop k = v :: (List.range j).map (orb F u) := by
    rw [List.cons_append, List.take_append_drop]
  have hhd : (((List.range j).map (orb F u)).drop k).headD 0 = orb F u j := by
    rw [he, List.headD_eq_head?_getD, List.head?_drop]
    simp [hkj]
  have hr : (List.range j).map (orb F u) ++ [orb F u j] = (List.range' 0 (j + 1)).map (orb F u) := by
    rw [← List.range_eq_range', List.range_succ, List.map_append]; rfl
  obtain ⟨h1, h2⟩ := cp_of hv hc (q := W.getD v 0) (S := v :: ((List.range j).map (orb F u)).take k) (L := ((List.range j).map (orb F u)).drop k) hdne (fun z hz => by
    rw [hall] at hz
    rcases List.mem_cons.1 hz with rfl | hz
    · exact hvn
    · obtain ⟨i, _, rfl⟩ := List.mem_map.1 hz
      exact hun i) (by
    rw [hall, hhd, List.cons_append, hr]
    have h3 := chn_orb (nx := nxVn g W C (W.getD v 0)) hF (j + 1) 0
    have e : (List.range' 0 (j + 1)).map (orb F u) = u :: (List.range' 1 j).map (orb F u) := by
      rw [List.range'_succ]; rfl
    rw [e] at h3 ⊢
    exact ⟨hu, h3⟩)
  have hfirst : psP (Zbf (v :: ((List.range j).map (orb F u)).take k) ++ Zbf (((List.range j).map (orb F u)).drop k)) 0 = v := by
    show (((v : Nat) : Int)).toNat = v
    exact Int.toNat_natCast _
  have hsec : Zbf (v :: ((List.range j).map (orb F u)).take k) ++ Zbf (((List.range j).map (orb F u)).drop k) = Zbf (v :: (List.range j).map (orb F u)) := by
    rw [← hall]
    exact (List.map_append ..).symm
  refine ⟨h1, against_iff.2 ⟨by rw [hfirst]; exact h2, .inl ⟨1, ?_, ?_⟩⟩, ?_⟩
  · rw [hsec]
    show 1 < (List.map _ _).length
    rw [List.length_map, List.length_cons, hlen]; omega
  · rw [hfirst, hsec]
    unfold psP
    rw [Zek, Int.toNat_natCast]
    have : (v :: (List.range j).map (orb F u)).getD 1 0 = u := by
      cases j with
      | zero => omega
      | succ j => simp [List.getD_eq_getElem?_getD, orb]
    rw [this]
    exact hW
  · show (List.map _ _).length + (List.map _ _).length ≤ _
    rw [List.length_map, List.length_map, List.length_cons, List.length_take, List.length_drop, hlen]
    omega
theorem lost_cp (hv : Zbb g = true) (hc : Zb9 g W C = true) {v : Nat} {L : List Nat} (hvn : v < g.own.length) (hL : ∃ r, L = v :: r) (hlt : ∀ z, z ∈ L → z < g.own.length) (hnd : L.Nodup) (hch : Chn (nxVn g W C (W.getD v 0)) (L ++ [v])) (hle : ∀ z, z ∈ L → g.pri.getD z 0 ≤ g.pri.getD v 0) (hp : g.pri.getD v 0 % 2 ≠ W.getD v 0) : CpOK g W C [] (Zbf L) := by
  have hG := gok (validB_iff.1 hv)
  obtain ⟨r, rfl⟩ := hL
  obtain ⟨h1, h2⟩ := cp_of hv hc (q := W.getD v 0) (S := []) (L := v :: r) (by simp) hlt hch
  have h1 : isP g [] (Zbf (v :: r)) = true := h1
  have h2 : folP g W C [] (Zbf (v :: r)) (W.getD v 0) := h2
  have hfirst : psP ([] ++ Zbf (v :: r)) 0 = v := by
    show (((v : Nat) : Int)).toNat = v
    exact Int.toNat_natCast _
  refine ⟨h1, against_iff.2 ⟨by rw [hfirst]; exact h2, .inr ?_⟩, ?_⟩
  · rw [hfirst]
    have e : (Zbf (v :: r)).foldl (fun a v => max a (g.pri.getD v.toNat 0)) 0 = g.pri.getD v 0 := by
      obtain ⟨m1, m2, m3⟩ := Zgj (f := fun v => g.pri.getD v.toNat 0) (l := Zbf (v :: r)) (a := 0)
      have a1 : g.pri.getD v 0 ≤ (Zbf (v :: r)).foldl (fun a v => max a (g.pri.getD v.toNat 0)) 0 := by
        have := m1 (v : Int) List.mem_cons_self
        rw [Int.toNat_natCast] at this
        exact this
      refine Int.le_antisymm ?_ a1
      rcases m3 with m3 | ⟨z, hz, m3⟩
      · rw [m3]; exact (hG.pri v hvn).1
      · rw [← m3]
        obtain ⟨y, hy, rfl⟩ := List.mem_map.1 hz
        rw [Int.toNat_natCast]
        exact hle y hy
    show (Zbf (v :: r)).foldl (fun a v => max a (g.pri.getD v.toNat 0)) 0 % 2 ≠ _
    rw [e]; exact hp
  · show 0 + (List.map _ _).length ≤ _
    rw [List.length_map]
    have := Ze4 g.own.length _ hnd hlt
    omega
theorem right_sol (hv : Zbb g = true) (hc : Zb9 g W C = true) (h1 : ∀ v, v < g.own.length → ∀ u, u ∈ nxVn g W C (W.getD v 0) v → W.getD u 0 = W.getD v 0) (h2 : ∀ v, v < g.own.length → g.pri.getD v 0 % 2 ≠ W.getD v 0 → ¬ Cyc (fun a b => b ∈ nxVn g W C (W.getD v 0) a) (fun v => g.pri.getD v 0) v) : solB g W C = true := by
  have hV := validB_iff.1 hv
  have hG := gok hV
  obtain ⟨_, _, hcl⟩ := of_decide_eq_true hc
  refine (Zgv hV).2 ⟨hc, fun q hq => ⟨fun v hvn hw ho => ?_, fun v hvn hw ho t ht htn => ?_, fun w hwn hw hp hcy => ?_⟩⟩
  · have hm : C.getD v 0 ∈ g.nxt.getD v [] := (hcl v hvn).2.1 (ho.trans hw.symm)
    have hmn : (C.getD v 0).toNat ∈ rws g.nxt v := List.mem_map.2 ⟨_, hm, rfl⟩
    refine ⟨hmn, hG.row v hvn _ hmn, ?_⟩
    have hw : W.getD v 0 = q := hw
    rw [← hw]
    refine h1 v hvn _ ?_
    unfold nxVn nxV
    rw [if_pos ⟨ho.trans hw.symm, rfl⟩]
    exact List.mem_singleton.2 rfl
  · have hw : W.getD v 0 = q := hw
    show W.getD t 0 = q
    rw [← hw]
    refine h1 v hvn t ?_
    unfold nxVn nxV
    rw [if_neg (fun h => ho (h.1.trans hw))]
    exact ht
  · have hw : W.getD w 0 = q := hw
    refine h2 w hwn (by rw [hw]; exact hp) ?_
    obtain ⟨t, t1, t2⟩ := hcy
    refine cyc_to t1 t2 fun a b ha hb he => ?_
    show b ∈ nxVn g W C (W.getD w 0) a
    rw [hw]
    unfold nxVn nxV
    by_cases ho : g.own.getD a 0 = q
    · rw [if_pos ⟨ho, he.1.2⟩]
      exact List.mem_singleton.2 (he.2.2.1 ho)
    · rw [if_neg (fun h => ho h.1)]
      exact he.2.2.2 ho
end
open Go Pl
set_option maxRecDepth 4000 in
set_option maxHeartbeats 4000000 in
theorem vwon_ok : Zda Tryd.prog 40 wonS := by
  refine Zbs htb (fn := Tryd.f40) (by kernel_rfl) (by kernel_rfl) rfl (fun args r hS => ?_) (fun args r hS hob hl => ?_)
  · unfold wonS at hS; split at hS <;> first | (cases hS; done) | (cases hS; exact Nat.le_of_ble_eq_true rfl)
  unfold wonS at hS
  split at hS
  case h_2 => cases hS
  rename_i o p x s lp
  simp only [Option.some.injEq] at hS
  subst hS
  simp only [lenP, mkL, lim] at hl
  dsimp only at hob
  repeat' first
    | with_reducible first | apply Zar | apply Zan | apply Zaa | apply Zad | apply Zah | apply Zap | apply Zag | apply Zaj | apply Zaq | apply Zas | apply Zao | apply Zal | apply Zac | apply Zak
    | ((with_reducible refine Zai ?_ ?_); exact rfl) | ((with_reducible refine Zat ?_); refine Zam rfl ?_ ?_ <;> intro hb <;> (try simp only [zH] at hb)) | ((with_reducible refine Za7 ?_); (first | refine Zae htb hmz noSp fF rfl rfl ?_ | refine Zaf hmo htb hmz noSp fF rfl rfl (by kernel_rfl) ?_); intro _ _ _ _ h; simp only [zE, evp, evx, ev1, evLoad, evStore, evBin, evIf, Zab, forall_const, z38, tb, reduceAdd, reduceSub, reduceMul, reduceEqDiff, reduceLeDiff, reduceLT, Nat.reduceBEq, Nat.reduceBNe, ↓reduceIte, reduceIte] at h; obtain ⟨rfl, rfl, rfl, rfl⟩ := h; refine ⟨?_, ?_⟩) | ((with_reducible refine Ob.mk ?_); first | exact trivial | (intros; omega) | ((repeat' first | apply And.intro | (intro a; have b := a; try simp only [zH] at b)) <;> first | assumption | omega | (simp only [zH]; omega)))
  have hf0 : ((lp.take 0).foldl (fun a v => max a (p.getD v.toNat 0)) 0) = 0 := rfl
  have hfn := fun i (hi : i < lp.length) => (show (lp.take (i + 1)).foldl (fun a v => max a (p.getD v.toNat 0)) 0 = max ((lp.take i).foldl (fun a v => max a (p.getD v.toNat 0)) 0) (p.getD (lp.getD i 0).toNat 0) by rw [take1 (d := 0) hi, List.foldl_append]; rfl)
  have hfb := foldl_max0 (f := fun v => p.getD v.toNat 0) (l := lp) (Int.le_refl 0)
  refine Zbc (τ := Nat) (fun i => i ≤ lp.length) (fun i => ⟨8, [(11, .int .i64 i), (10, .int .i64 lp.length), (9, .roI lp), (5, .int .i64 ((lp.take i).foldl (fun a v => max a (p.getD v.toNat 0)) 0)), (3, .rop (.agg (.cons (.roI s) (.cons (.roI lp) .nil)))), (2, .rop (.agg (.cons (.roI o) (.cons (.roI p) (.cons (.roII x) .nil)))))], [], []⟩) (fun i => lp.length - i) 0 [] ?_ (Nat.zero_le _) ?_
  · (refine ⟨rfl, ?_, ?_⟩ <;> simp only [zE, evp, evx, ev1, evLoad, evStore, evBin, evIf, Zab, forall_const, z38, tb, reduceAdd, reduceSub, reduceMul, reduceEqDiff, reduceLeDiff, reduceLT, Nat.reduceBEq, Nat.reduceBNe, ↓reduceIte, reduceIte, zI])
    rfl
  intro i hi
  have hob1 := hob i
  have hfn1 := hfn i
  repeat' first
    | with_reducible first | apply Zar | apply Zan | apply Zaa | apply Zad | apply Zah | apply Zap | apply Zag | apply Zaj | apply Zaq | apply Zas | apply Zao | apply Zal | apply Zac | apply Zak
    | ((with_reducible refine Zai ?_ ?_); exact rfl) | ((with_reducible refine Zat ?_); refine Zam rfl ?_ ?_ <;> intro hb <;> (try simp only [zH] at hb)) | ((with_reducible refine Zay 4 ?_ ?_); (· exact rfl); (with_reducible refine Zay 7 ?_ ?_); (· exact rfl); (first | refine Zae htb hmz noSp fF rfl rfl ?_ | refine Zaf hmo htb hmz noSp fF rfl rfl (by kernel_rfl) ?_); intro _ _ _ _ h; simp only [zE, evp, evx, ev1, evLoad, evStore, evBin, evIf, Zab, forall_const, z38, tb, reduceAdd, reduceSub, reduceMul, reduceEqDiff, reduceLeDiff, reduceLT, Nat.reduceBEq, Nat.reduceBNe, ↓reduceIte, reduceIte] at h; obtain ⟨rfl, rfl, rfl, rfl⟩ := h; refine ⟨?_, ?_⟩) | ((with_reducible refine Ob.mk ?_); first | exact trivial | (intros; omega) | ((repeat' first | apply And.intro | (intro a; have b := a; try simp only [zH] at b)) <;> first | assumption | omega | (simp only [zH]; omega)))
  · have hil : i < lp.length := by omega
    have hob1 := hob1 hil
    have hfn1 := hfn1 hil
    repeat' first
      | with_reducible first | apply Zar | apply Zan | apply Zaa | apply Zad | apply Zah | apply Zap | apply Zag | apply Zaj | apply Zaq | apply Zas | apply Zao | apply Zal | apply Zac | apply Zak
      | ((with_reducible refine Zai ?_ ?_); exact rfl) | ((with_reducible refine Zat ?_); refine Zam rfl ?_ ?_ <;> intro hb <;> (try simp only [zH] at hb)) | ((with_reducible refine Za7 ?_); (first | refine Zae htb hmz noSp fF rfl rfl ?_ | refine Zaf hmo htb hmz noSp fF rfl rfl (by kernel_rfl) ?_); intro _ _ _ _ h; simp only [zE, evp, evx, ev1, evLoad, evStore, evBin, evIf, Zab, forall_const, z38, tb, reduceAdd, reduceSub, reduceMul, reduceEqDiff, reduceLeDiff, reduceLT, Nat.reduceBEq, Nat.reduceBNe, ↓reduceIte, reduceIte] at h; obtain ⟨rfl, rfl, rfl, rfl⟩ := h; refine ⟨?_, ?_⟩) | ((with_reducible refine Ob.mk ?_); first | exact trivial | (intros; omega) | ((repeat' first | apply And.intro | (intro a; have b := a; try simp only [zH] at b)) <;> first | assumption | omega | (simp only [zH]; omega)))
    refine back (i + 1) [] ?_ (by omega) (by omega)
    (refine ⟨rfl, ?_, ?_⟩ <;> simp only [zE, evp, evx, ev1, evLoad, evStore, evBin, evIf, Zab, forall_const, z38, tb, reduceAdd, reduceSub, reduceMul, reduceEqDiff, reduceLeDiff, reduceLT, Nat.reduceBEq, Nat.reduceBNe, ↓reduceIte, reduceIte, zI])
    exact hfn1
  have hie : i = lp.length := by omega
  subst hie
  rw [List.take_length]
  repeat' first
    | with_reducible first | apply Zar | apply Zan | apply Zaa | apply Zad | apply Zah | apply Zap | apply Zag | apply Zaj | apply Zaq | apply Zas | apply Zao | apply Zal | apply Zac | apply Zak
    | ((with_reducible refine Zai ?_ ?_); exact rfl) | ((with_reducible refine Zat ?_); refine Zam rfl ?_ ?_ <;> intro hb <;> (try simp only [zH] at hb)) | ((with_reducible refine Za7 ?_); (first | refine Zae htb hmz noSp fF rfl rfl ?_ | refine Zaf hmo htb hmz noSp fF rfl rfl (by kernel_rfl) ?_); intro _ _ _ _ h; simp only [zE, evp, evx, ev1, evLoad, evStore, evBin, evIf, Zab, forall_const, z38, tb, reduceAdd, reduceSub, reduceMul, reduceEqDiff, reduceLeDiff, reduceLT, Nat.reduceBEq, Nat.reduceBNe, ↓reduceIte, reduceIte] at h; obtain ⟨rfl, rfl, rfl, rfl⟩ := h; refine ⟨?_, ?_⟩) | ((with_reducible refine Ob.mk ?_); first | exact trivial | (intros; omega) | ((repeat' first | apply And.intro | (intro a; have b := a; try simp only [zH] at b)) <;> first | assumption | omega | (simp only [zH]; omega)))
  refine Zaz rfl rfl (Za1 rfl ?_ rfl)
  rfl
def lvB (W L : List Int) (q : Int) (i : Nat) : Bool := (List.range i).any fun j => !decide (W.getD (psP L j) 0 = q)
theorem lvB_s {W L : List Int} {q : Int} {i : Nat} : lvB W L q (i + 1) = (lvB W L q i || !decide (W.getD (psP L i) 0 = q)) := by
  unfold lvB
  rw [List.range_succ, List.any_append]
  simp
theorem lvB_iff {W L : List Int} {q : Int} {i : Nat} : lvB W L q i = true ↔ ∃ j, j < i ∧ W.getD (psP L j) 0 ≠ q := by
  unfold lvB
  simp only [List.any_eq_true, List.mem_range, Bool.not_eq_true', decide_eq_false_iff_not]
theorem agn_b {g : Gm} {W C s l : List Int} : Zc1 g W C s l = true ↔ (∀ i : Nat, i < (s ++ l).length → g.own.getD (psP (s ++ l) i) 0 = W.getD (psP (s ++ l) 0) 0 ∧ W.getD (psP (s ++ l) i) 0 = W.getD (psP (s ++ l) 0) 0 → aftP (s ++ l) l i = C.getD (psP (s ++ l) i) 0) ∧ (lvB W (s ++ l) (W.getD (psP (s ++ l) 0) 0) (s ++ l).length = true ∨ wonP g l ≠ W.getD (psP (s ++ l) 0) 0) := by
  rw [lvB_iff]
  exact against_iff
open Go Pl
def rvI (l : List Int) (i : Nat) : List Int := (List.range l.length).map fun k => if k < i ∨ l.length - 1 - k < i then l.getD (l.length - 1 - k) 0 else l.getD k 0
theorem Zdm {l : List Int} {i : Nat} : (rvI l i).length = l.length := by simp [rvI]
theorem Zfg {l : List Int} {i k : Nat} (h : k < l.length) : (rvI l i).getD k 0 = if k < i ∨ l.length - 1 - k < i then l.getD (l.length - 1 - k) 0 else l.getD k 0 := by
  simp [rvI, List.getD_eq_getElem?_getD, h]
theorem rvI_zero {l : List Int} : rvI l 0 = l := by
  refine ext0 Zdm fun j hj => ?_
  rw [Zdm] at hj
  rw [Zfg hj, if_neg (by omega)]
theorem rvI_next {l : List Int} {i : Nat} (h : i < l.length - 1 - i) : ((rvI l i).set i ((rvI l i).getD (l.length - 1 - i) 0)).set (l.length - 1 - i) ((rvI l i).getD i 0) = rvI l (i + 1) := by
  refine ext0 (by rw [List.length_set, List.length_set, Zdm, Zdm]) fun j hj => ?_
  rw [List.length_set, List.length_set, Zdm] at hj
  rw [Zfg (i := i + 1) hj, Zfg (i := i) (k := i) (by omega), Zfg (i := i) (k := l.length - 1 - i) (by omega), if_neg (by omega), if_neg (by omega)]
  have hs : ∀ {m : List Int} {a : Nat} {y : Int}, a < m.length → (m.set a y).getD j 0 = if j = a then y else m.getD j 0 := fun {m a y} ha => by
    simp only [List.getD_eq_getElem?_getD, List.getElem?_set]
    by_cases e : a = j
    · subst e; simp [ha]
    · rw [if_neg e, if_neg (fun h => e h.symm)]
  rw [hs (by rw [List.length_set, Zdm]; omega), hs (by rw [Zdm]; omega), Zfg hj]
  by_cases e1 : j = l.length - 1 - i
  · subst e1
    rw [if_pos rfl, if_pos (by omega), show l.length - 1 - (l.length - 1 - i) = i by omega]
  · rw [if_neg e1]
    by_cases e2 : j = i
    · subst e2
      rw [if_pos rfl, if_pos (by omega)]
    · rw [if_neg e2]
      by_cases e3 : j < i ∨ l.length - 1 - j < i
      · rw [if_pos e3, if_pos (by omega)]
      · rw [if_neg e3, if_neg (by omega)]
theorem rvI_end {l : List Int} {i : Nat} (h : l.length - 1 - i ≤ i) : rvI l i = l.reverse := by
  refine ext0 (by rw [Zdm, List.length_reverse]) fun j hj => ?_
  rw [Zdm] at hj
  rw [Zfg hj]
  have e : l.reverse.getD j 0 = l.getD (l.length - 1 - j) 0 := by
    rw [List.getD_eq_getElem?_getD, List.getD_eq_getElem?_getD, List.getElem?_reverse hj]
  rw [e]
  split
  · rfl
  · have : j = l.length - 1 - j := by omega
    rw [← this]
set_option maxRecDepth 4000 in
set_option maxHeartbeats 4000000 in
theorem reverse_fg {l : List Int} (hl9 : l.length ≤ 1000000000) : FG Tryd.prog 65 [.own 0] [(0, some (.ints l))] 1 fun g => g = ⟨1, resV [], [(0, some (.ints l.reverse))]⟩ := by
  refine Zhp htb (fn := Tryd.f65) (by kernel_rfl) (by kernel_rfl) rfl (Nat.le_of_ble_eq_true rfl) fun hl => ?_
  simp only [lenP, mkL, lim] at hl
  repeat' first
    | with_reducible first | apply Zar | apply Zan | apply Zaa | apply Zad | apply Zah | apply Zap | apply Zag | apply Zaj | apply Zaq | apply Zas | apply Zao | apply Zal | apply Zac | apply Zak
    | ((with_reducible refine Zai ?_ ?_); exact rfl) | ((with_reducible refine Zat ?_); refine Zam rfl ?_ ?_ <;> intro hb <;> (try simp only [zH] at hb)) | ((with_reducible refine Za7 ?_); (first | refine Zae htb hmz noSp fF rfl rfl ?_ | refine Zaf hmo htb hmz noSp fF rfl rfl (by kernel_rfl) ?_); intro _ _ _ _ h; simp only [zE, evp, evx, ev1, evLoad, evStore, evBin, evIf, Zab, forall_const, z38, tb, reduceAdd, reduceSub, reduceMul, reduceEqDiff, reduceLeDiff, reduceLT, Nat.reduceBEq, Nat.reduceBNe, ↓reduceIte, reduceIte] at h; obtain ⟨rfl, rfl, rfl, rfl⟩ := h; refine ⟨?_, ?_⟩) | ((with_reducible refine Ob.mk ?_); first | exact trivial | (intros; omega) | ((repeat' first | apply And.intro | (intro a; have b := a; try simp only [zH] at b)) <;> first | assumption | omega | (simp only [zH]; omega)))
  refine Zbc (τ := Nat) (fun i => i ≤ l.length) (fun i => ⟨6, [(3, .int .i64 ((l.length : Int) - 1 - i)), (2, .int .i64 i), (0, .own 0)], [(0, some (.ints (rvI l i)))], []⟩) (fun i => l.length - i) 0 [] ?_ (Nat.zero_le _) ?_
  · (refine ⟨rfl, ?_, ?_⟩ <;> simp only [zE, evp, evx, ev1, evLoad, evStore, evBin, evIf, Zab, forall_const, z38, tb, reduceAdd, reduceSub, reduceMul, reduceEqDiff, reduceLeDiff, reduceLT, Nat.reduceBEq, Nat.reduceBNe, ↓reduceIte, reduceIte, zI])
    · omega
    · exact rvI_zero.symm
  intro i hi
  have hrl := Zdm (l := l) (i := i)
  have hnx := @rvI_next l i
  have hen := @rvI_end l i
  repeat' first
    | with_reducible first | apply Zar | apply Zan | apply Zaa | apply Zad | apply Zah | apply Zap | apply Zag | apply Zaj | apply Zaq | apply Zas | apply Zao | apply Zal | apply Zac | apply Zak
    | ((with_reducible refine Zai ?_ ?_); exact rfl) | ((with_reducible refine Zat ?_); refine Zam rfl ?_ ?_ <;> intro hb <;> (try simp only [zH] at hb)) | ((with_reducible refine Zay 3 ?_ ?_); (· exact rfl); (with_reducible refine Zay 4 ?_ ?_); (· exact rfl); (first | refine Zae htb hmz noSp fF rfl rfl ?_ | refine Zaf hmo htb hmz noSp fF rfl rfl (by kernel_rfl) ?_); intro _ _ _ _ h; simp only [zE, evp, evx, ev1, evLoad, evStore, evBin, evIf, Zab, forall_const, z38, tb, reduceAdd, reduceSub, reduceMul, reduceEqDiff, reduceLeDiff, reduceLT, Nat.reduceBEq, Nat.reduceBNe, ↓reduceIte, reduceIte] at h; obtain ⟨rfl, rfl, rfl, rfl⟩ := h; refine ⟨?_, ?_⟩) | ((with_reducible refine Ob.mk ?_); first | exact trivial | (intros; omega) | ((repeat' first | apply And.intro | (intro a; have b := a; try simp only [zH] at b)) <;> first | assumption | omega | (simp only [zH]; omega)))
  · have h2 : i < l.length - 1 - i := by omega
    have hnx := hnx h2
    have ej : (l.length : Int) - 1 - i = ((l.length - 1 - i : Nat) : Int) := by omega
    rw [ej]
    clear hen
    repeat' first
      | with_reducible first | apply Zar | apply Zan | apply Zaa | apply Zad | apply Zah | apply Zap | apply Zag | apply Zaj | apply Zaq | apply Zas | apply Zao | apply Zal | apply Zac | apply Zak
      | ((with_reducible refine Zai ?_ ?_); exact rfl) | ((with_reducible refine Zat ?_); refine Zam rfl ?_ ?_ <;> intro hb <;> (try simp only [zH] at hb)) | ((with_reducible refine Za7 ?_); (first | refine Zae htb hmz noSp fF rfl rfl ?_ | refine Zaf hmo htb hmz noSp fF rfl rfl (by kernel_rfl) ?_); intro _ _ _ _ h; simp only [zE, evp, evx, ev1, evLoad, evStore, evBin, evIf, Zab, forall_const, z38, tb, reduceAdd, reduceSub, reduceMul, reduceEqDiff, reduceLeDiff, reduceLT, Nat.reduceBEq, Nat.reduceBNe, ↓reduceIte, reduceIte] at h; obtain ⟨rfl, rfl, rfl, rfl⟩ := h; refine ⟨?_, ?_⟩) | ((with_reducible refine Ob.mk ?_); first | exact trivial | (intros; omega) | ((repeat' first | apply And.intro | (intro a; have b := a; try simp only [zH] at b)) <;> first | assumption | omega | (simp only [zH]; omega)))
    refine back (i + 1) [] ?_ (by omega) (by omega)
    (refine ⟨rfl, ?_, ?_⟩ <;> simp only [zE, evp, evx, ev1, evLoad, evStore, evBin, evIf, Zab, forall_const, z38, tb, reduceAdd, reduceSub, reduceMul, reduceEqDiff, reduceLeDiff, reduceLT, Nat.reduceBEq, Nat.reduceBNe, ↓reduceIte, reduceIte, zI])
    · omega
    · exact hnx
  · rw [hen (by omega)]
    refine fin_normal rfl rfl (Zc9 (⟨1, resV [], [(0, some (.ints l.reverse))]⟩) ([]) rfl rfl (Zb0 rfl) ?_)
    simp only [grR, zE, evp, evx, ev1, evLoad, evStore, evBin, evIf, Zab, forall_const, z38, tb, reduceAdd, reduceSub, reduceMul, reduceEqDiff, reduceLeDiff, reduceLT, Nat.reduceBEq, Nat.reduceBNe, ↓reduceIte, reduceIte]
section
open Go Pl
variable {nx : Nat → List Nat} {thr : Nat → Prop} {n fr : Nat} {L : List (Nat × Nat)} {S : List Nat} {ex : List Nat} {u w j : Nat}
structure SQ (nx : Nat → List Nat) (thr : Nat → Prop) (n fr : Nat) (L : List (Nat × Nat)) (S ex : List Nat) (d : Nat) : Prop where
  nd : (L.map Prod.fst).Nodup
  lt : ∀ v, v ∈ qF fr L → v < n
  fv : fr ∉ L.map Prod.fst
  ed : ∀ (k w u : Nat), L[k]? = some (w, u) → w ∈ nx u ∧ thr w ∧ u ∈ (qF fr L).take (k + 1)
  ss : ∀ u, u ∈ S → u ∈ qF fr L
  cl : ∀ u, u ∈ qF fr L → u ∉ S → u ∉ ex → ∀ w, w ∈ nx u → thr w → w ∈ L.map Prod.fst
  ls : S.length + d ≤ L.length + 1
structure SF (nx : Nat → List Nat) (thr : Nat → Prop) (n fr : Nat) (L : List (Nat × Nat)) : Prop where
  nd : (L.map Prod.fst).Nodup
  lt : ∀ v, v ∈ qF fr L → v < n
  ed : ∀ (k w u : Nat), L[k]? = some (w, u) → w ∈ nx u ∧ thr w ∧ u ∈ (qF fr L).take (k + 1)
  fv : fr ∈ L.map Prod.fst
theorem Zi1 {d : Nat} (h : SQ nx thr n fr L S ex d) : L.length ≤ n := by
  have := Ze4 n _ h.nd fun x hx => h.lt x (List.mem_cons_of_mem _ hx)
  rwa [List.length_map] at this
theorem SQ_first (hf : fr < n) : SQ nx thr n fr [] [fr] [] 0 :=
  ⟨by simp, (fun v hv => by rw [show qF fr [] = [fr] from rfl, List.mem_singleton] at hv; omega), by simp, (fun k w u h => by simp at h), (fun u h => h), (fun u h h2 => absurd h h2), Nat.le_refl _⟩
theorem SQ_pop (h : SQ nx thr n fr L (S ++ [u]) [] 0) : SQ nx thr n fr L S [u] 1 :=
  ⟨h.nd, h.lt, h.fv, h.ed, fun v hv => h.ss v (List.mem_append_left _ hv), fun v hv hs he => h.cl v hv (fun hm => by
    rcases List.mem_append.1 hm with hm | hm
    · exact hs hm
    · exact he hm) (by simp), by have := h.ls; simp only [List.length_append, List.length_singleton] at this; omega⟩
theorem SQ_add (h : SQ nx thr n fr L S [u] 1) (hu : u ∈ qF fr L) (hw : w ∈ nx u) (hwn : w < n) (hnew : w ∉ L.map Prod.fst) (ht : thr w) (hne : w ≠ fr) : SQ nx thr n fr (L ++ [(w, u)]) (S ++ [w]) [u] 1 := by
  have hm : ∀ {x}, x ∈ L.map Prod.fst → x ∈ (L ++ [(w, u)]).map Prod.fst := fun {x} hx => by rw [List.map_append]; exact List.mem_append_left _ hx
  refine ⟨?_, fun v hv => ?_, fun hv => ?_, fun k w' u' hk => ?_, fun v hv => ?_, fun u' hu' hs he w' hw' ht' => ?_, ?_⟩
  · rw [List.map_append, List.nodup_append]
    refine ⟨h.nd, by simp, fun a ha b hb => ?_⟩
    rw [List.map_cons, List.map_nil, List.mem_singleton] at hb
    intro e
    have hb : b = w := hb
    exact hnew (by rw [← hb, ← e]; exact ha)
  · rw [Zer, List.mem_append, List.mem_singleton] at hv
    rcases hv with hv | rfl
    · exact h.lt v hv
    · exact hwn
  · rw [List.map_append, List.mem_append] at hv
    rcases hv with hv | hv
    · exact h.fv hv
    · exact hne (List.mem_singleton.1 hv).symm
  · rw [Zer]
    rcases Nat.lt_or_ge k L.length with hkl | hkl
    · rw [List.getElem?_append_left hkl] at hk
      obtain ⟨e1, e2, e3⟩ := h.ed k w' u' hk
      rw [Zfp (by rw [Zgp]; omega)]
      exact ⟨e1, e2, e3⟩
    · rw [List.getElem?_append_right hkl] at hk
      have hk0 : k - L.length = 0 := by
        have := (List.getElem?_eq_some_iff.1 hk).1
        simp at this; omega
      rw [hk0] at hk
      simp only [List.getElem?_cons_zero, Option.some.injEq, Prod.mk.injEq] at hk
      obtain ⟨rfl, rfl⟩ := hk
      refine ⟨hw, ht, ?_⟩
      have hkk : k = L.length := by omega
      subst hkk
      rw [Zfp (by rw [Zgp]; exact Nat.le_refl _), List.take_of_length_le (by rw [Zgp]; exact Nat.le_refl _)]
      exact hu
  · rw [Zer]
    rcases List.mem_append.1 hv with hv | hv
    · exact List.mem_append_left _ (h.ss v hv)
    · exact List.mem_append_right _ hv
  · rw [Zer, List.mem_append] at hu'
    rcases hu' with hu' | hu'
    · exact hm (h.cl u' hu' (fun h2 => hs (List.mem_append_left _ h2)) he w' hw' ht')
    · exact absurd (List.mem_append_right _ hu') hs
  · have := h.ls
    simp only [List.length_append, List.length_singleton]
    omega
theorem SQ_hit (h : SQ nx thr n fr L S [u] 1) (hu : u ∈ qF fr L) (hw : fr ∈ nx u) (hwn : fr < n) (ht : thr fr) : SF nx thr n fr (L ++ [(fr, u)]) := by
  refine ⟨?_, fun v hv => ?_, fun k w' u' hk => ?_, ?_⟩
  · rw [List.map_append, List.nodup_append]
    refine ⟨h.nd, by simp, fun a ha b hb => ?_⟩
    rw [List.map_cons, List.map_nil, List.mem_singleton] at hb
    intro e
    have hb : b = fr := hb
    exact h.fv (by rw [← hb, ← e]; exact ha)
  · rw [Zer, List.mem_append, List.mem_singleton] at hv
    rcases hv with hv | rfl
    · exact h.lt v hv
    · exact hwn
  · rw [Zer]
    rcases Nat.lt_or_ge k L.length with hkl | hkl
    · rw [List.getElem?_append_left hkl] at hk
      obtain ⟨e1, e2, e3⟩ := h.ed k w' u' hk
      rw [Zfp (by rw [Zgp]; omega)]
      exact ⟨e1, e2, e3⟩
    · rw [List.getElem?_append_right hkl] at hk
      have hk0 : k - L.length = 0 := by
        have := (List.getElem?_eq_some_iff.1 hk).1
        simp at this; omega
      rw [hk0] at hk
      simp only [List.getElem?_cons_zero, Option.some.injEq, Prod.mk.injEq] at hk
      obtain ⟨rfl, rfl⟩ := hk
      refine ⟨hw, ht, ?_⟩
      have hkk : k = L.length := by omega
      subst hkk
      rw [Zfp (by rw [Zgp]; exact Nat.le_refl _), List.take_of_length_le (by rw [Zgp]; exact Nat.le_refl _)]
      exact hu
  · rw [List.map_append]; simp
theorem SQ_done (h : SQ nx thr n fr L S [u] 1) (hc : ∀ w, w ∈ nx u → thr w → w ∈ L.map Prod.fst) : SQ nx thr n fr L S [] 0 :=
  ⟨h.nd, h.lt, h.fv, h.ed, h.ss, fun v hv hs _ => by
    by_cases e : v = u
    · subst e; exact hc
    · exact h.cl v hv hs (by simpa using e), by have := h.ls; omega⟩
theorem SQ_no {pri : Nat → Int} (h : SQ nx (fun z => pri z ≤ pri fr) n fr L [] [] 0) : ¬ Cyc (fun a b => b ∈ nx a) pri fr := by
  rintro ⟨t, t1, t2⟩
  have hcl : ∀ u, u ∈ qF fr L → ∀ w, w ∈ nx u → pri w ≤ pri fr → w ∈ L.map Prod.fst := fun u hu => h.cl u hu (by simp) (by simp)
  have : fr ∈ L.map Prod.fst := by
    have key : ∀ z, Rch (Low (fun a b => b ∈ nx a) pri fr) t z → z ∈ L.map Prod.fst := by
      intro z hz
      induction hz with
      | refl => exact hcl fr List.mem_cons_self t t1.1 t1.2
      | step _ e ih => exact hcl _ (List.mem_cons_of_mem _ ih) _ e.1 e.2
    exact key fr t2
  exact h.fv this
structure SB (nx : Nat → List Nat) (fr : Nat) (L : List (Nat × Nat)) (u k : Nat) (t : List Nat) : Prop where
  kl : k ≤ L.length
  um : u ∈ (qF fr L).take (k + 1)
  ch : Chn nx (u :: (t.reverse ++ [fr]))
  nd : t.Nodup
  nt : ∀ z, z ∈ t → z ∈ L.map Prod.fst ∧ z ≠ fr ∧ z ∉ (L.take k).map Prod.fst
theorem take_qF {k : Nat} : (qF fr L).take (k + 1) = fr :: (L.take k).map Prod.fst := by
  show (fr :: L.map Prod.fst).take (k + 1) = _
  rw [List.take_succ_cons, List.map_take]
theorem SB_at (h : SF nx thr n fr L) {w : Nat} (hw : w ∈ L.map Prod.fst) : ∃ k u : Nat, L[k]? = some (w, u) ∧ (w, u) ∈ L := by
  obtain ⟨⟨a, u⟩, hm, rfl⟩ := List.mem_map.1 hw
  obtain ⟨k, hk⟩ := List.mem_iff_getElem?.1 hm
  exact ⟨k, u, hk, hm⟩
theorem SB_first (h : SF nx thr n fr L) : ∃ k u, (fr, u) ∈ L ∧ SB nx fr L u k [] := by
  obtain ⟨k, u, hk, hm⟩ := SB_at h h.fv
  have hkl := (List.getElem?_eq_some_iff.1 hk).1
  obtain ⟨e1, e2, e3⟩ := h.ed k fr u hk
  exact ⟨k, u, hm, by omega, e3, ⟨e1, trivial⟩, List.nodup_nil, fun z hz => by cases hz⟩
theorem SB_next (h : SF nx thr n fr L) {k : Nat} {t : List Nat} (hb : SB nx fr L u k t) (hu : u ≠ fr) : ∃ k' u', k' < k ∧ (u, u') ∈ L ∧ SB nx fr L u' k' (t ++ [u]) := by
  have hum := hb.um
  rw [take_qF] at hum
  have hum : u ∈ (L.take k).map Prod.fst := (List.mem_cons.1 hum).resolve_left hu
  obtain ⟨⟨a, u'⟩, hm, rfl⟩ := List.mem_map.1 hum
  obtain ⟨k', hk⟩ := List.mem_iff_getElem?.1 hm
  have hkl := (List.getElem?_eq_some_iff.1 hk).1
  rw [List.length_take] at hkl
  rw [List.getElem?_take, if_pos (by omega)] at hk
  obtain ⟨e1, e2, e3⟩ := h.ed k' a u' hk
  refine ⟨k', u', by omega, List.mem_of_getElem? hk, by omega, e3, ?_, ?_, fun z hz => ?_⟩
  · rw [List.reverse_append]
    exact ⟨e1, hb.ch⟩
  · rw [List.nodup_append]
    refine ⟨hb.nd, by simp, fun x hx y hy => ?_⟩
    rw [List.mem_singleton] at hy
    subst hy
    intro e
    subst e
    exact (hb.nt x hx).2.2 hum
  · rcases List.mem_append.1 hz with hz | hz
    · obtain ⟨n1, n2, n3⟩ := hb.nt z hz
      refine ⟨n1, n2, fun h2 => n3 ?_⟩
      have : (L.take k').map Prod.fst = ((L.take k).map Prod.fst).take k' := by
        rw [← List.map_take, List.take_take, Nat.min_eq_left (by omega)]
      rw [this] at h2
      exact List.mem_of_mem_take h2
    · rw [List.mem_singleton] at hz
      subst hz
      refine ⟨List.mem_map.2 ⟨_, List.mem_of_getElem? hk, rfl⟩, hu, fun h2 => ?_⟩
      obtain ⟨i, hi, e⟩ := List.getElem_of_mem h2
      have hi2 : i < k' := by simpa using Nat.lt_of_lt_of_le hi (by simp; omega)
      have hnd := h.nd
      have hL1 : (L.map Prod.fst)[i]? = some z := by
        rw [List.getElem?_map]
        rw [List.getElem_map, List.getElem_take] at e
        rw [List.getElem?_eq_getElem (by omega)]
        exact congrArg some e
      have hL2 : (L.map Prod.fst)[k']? = some z := by rw [List.getElem?_map, hk]; rfl
      have h1 := List.getElem?_eq_some_iff.1 hL1
      have h2 := List.getElem?_eq_some_iff.1 hL2
      obtain ⟨h11, h12⟩ := h1
      obtain ⟨h21, h22⟩ := h2
      rw [List.nodup_iff_pairwise_ne, List.pairwise_iff_getElem] at hnd
      exact hnd i k' h11 h21 hi2 (h12.trans h22.symm)
theorem SB_end (h : SF nx thr n fr L) {k : Nat} {t : List Nat} (hb : SB nx fr L fr k t) (hfr : fr < n) : (fr :: t.reverse).Nodup ∧ Chn nx (fr :: t.reverse ++ [fr]) ∧ (∀ z, z ∈ fr :: t.reverse → z < n ∧ thr z) := by
  refine ⟨?_, hb.ch, fun z hz => ?_⟩
  · rw [List.nodup_cons]
    refine ⟨fun hm => ?_, List.nodup_iff_pairwise_ne.2 (List.pairwise_reverse.2 ((List.nodup_iff_pairwise_ne.1 hb.nd).imp fun h e => h e.symm))⟩
    exact (hb.nt fr (List.mem_reverse.1 hm)).2.1 rfl
  · have hin : z ∈ L.map Prod.fst := by
      rcases List.mem_cons.1 hz with rfl | hz
      · exact h.fv
      · exact (hb.nt z (List.mem_reverse.1 hz)).1
    obtain ⟨k, u, hk, _⟩ := SB_at h hin
    exact ⟨h.lt z (List.mem_cons_of_mem _ hin), (h.ed k z u hk).2.1⟩
end
open Go Pl
structure LpS where
  L : List (Nat × Nat)
  S : List Nat
  es : List (Int × Int × Nat)
  clk : Nat
structure LbS where
  u : Nat
  k : Nat
  t : List Nat
structure LqS where
  L : List (Nat × Nat)
  S : List Nat
  j : Nat
  es : List (Int × Int × Nat)
  clk : Nat
noncomputable def spLp : Nat → Option Spec
  | 42 => some nvS
  | _ => none
theorem Zba : SpOK Tryd.prog spLp := by
  intro f S h
  unfold spLp at h
  split at h
  · cases h; exact Zi4
  · cases h
def LpOK (g : Gm) (W C : List Int) (v : Nat) (l : List Nat) : Prop := (∃ r, l = v :: r) ∧ (∀ z, z ∈ l → z < g.own.length) ∧ l.Nodup ∧ Chn (nxVn g W C (W.getD v 0)) (l ++ [v]) ∧ ∀ z, z ∈ l → g.pri.getD z 0 ≤ g.pri.getD v 0
set_option maxRecDepth 4000 in
set_option maxHeartbeats 4000000 in
theorem loop_fg {o p w c : List Int} {x : List (List Int)} {v : Nat} (hn : o.length ≤ 20000) (hpl : p.length = o.length) (hxl : x.length = o.length) (hwl : w.length = o.length) (hcl : c.length = o.length) (hv : v < o.length)
    (hrow : ∀ u, u < o.length → (nvF o w c x (w.getD v 0) u).length ≤ 64 ∧ ∀ j, j < (nvF o w c x (w.getD v 0) u).length → 0 ≤ (nvF o w c x (w.getD v 0) u).getD j 0 ∧ (nvF o w c x (w.getD v 0) u).getD j 0 < (o.length : Int)) :
    FG Tryd.prog 63 [.agg (.cons (.roI o) (.cons (.roI p) (.cons (.roII x) (.cons (.roI w) (.cons (.roI c) .nil))))), .int .i64 v] [] 0 fun g => (¬ Cyc (fun a b => b ∈ nxVn ⟨o, p, x⟩ w c (w.getD v 0) a) (fun v => p.getD v 0) v ∧ g = ⟨0, .cst (.slice none 0 0), []⟩) ∨ ∃ l, LpOK ⟨o, p, x⟩ w c v l ∧ g = ⟨0, .roI (Zbf l), []⟩ := by
  refine Zhp htb (fn := Tryd.f63) (by kernel_rfl) (by kernel_rfl) rfl (Nat.le_of_ble_eq_true rfl) fun hl => ?_
  simp only [lenP, mkL, lim] at hl
  repeat' first
    | with_reducible first | apply Zar | apply Zan | apply Zaa | apply Zad | apply Zah | apply Zap | apply Zag | apply Zaj | apply Zaq | apply Zas | apply Zao | apply Zal | apply Zac | apply Zak
    | ((with_reducible refine Zai ?_ ?_); exact rfl) | ((with_reducible refine Zat ?_); refine Zam rfl ?_ ?_ <;> intro hb <;> (try simp only [zH] at hb)) | ((with_reducible refine Zay 1 ?_ ?_); (· exact rfl); (first | refine Zae htb hmz Zba fF rfl rfl ?_ | refine Zaf hmo htb hmz Zba fF rfl rfl (by kernel_rfl) ?_); intro _ _ _ _ h; simp only [zE, evp, evx, ev1, evLoad, evStore, evBin, evIf, Zab, forall_const, z38, tb, reduceAdd, reduceSub, reduceMul, reduceEqDiff, reduceLeDiff, reduceLT, Nat.reduceBEq, Nat.reduceBNe, ↓reduceIte, reduceIte, spLp, nvS] at h; obtain ⟨rfl, rfl, rfl, rfl⟩ := h; refine ⟨?_, ?_⟩) | ((with_reducible refine Ob.mk ?_); first | exact trivial | (intros; omega) | ((repeat' first | apply And.intro | (intro a; have b := a; try simp only [zH] at b)) <;> first | assumption | omega | (simp only [zH]; omega)))
  (refine Zaf hmo htb hmz Zba fF rfl rfl (by kernel_rfl) ?_; intro _ _ _ _ h; simp only [zE, evp, evx, ev1, evLoad, evStore, evBin, evIf, Zab, forall_const, z38, tb, reduceAdd, reduceSub, reduceMul, reduceEqDiff, reduceLeDiff, reduceLT, Nat.reduceBEq, Nat.reduceBNe, ↓reduceIte, reduceIte, spLp, nvS] at h; obtain ⟨rfl, rfl, rfl, rfl⟩ := h; refine ⟨?_, ?_⟩)
  repeat' first
    | with_reducible first | apply Zar | apply Zan | apply Zaa | apply Zad | apply Zah | apply Zap | apply Zag | apply Zaj | apply Zaq | apply Zas | apply Zao | apply Zal | apply Zac | apply Zak
    | ((with_reducible refine Zai ?_ ?_); exact rfl) | ((with_reducible refine Zat ?_); refine Zam rfl ?_ ?_ <;> intro hb <;> (try simp only [zH] at hb)) | ((with_reducible refine Zay 3 ?_ ?_); (· exact rfl); (first | refine Zae htb hmz Zba fF rfl rfl ?_ | refine Zaf hmo htb hmz Zba fF rfl rfl (by kernel_rfl) ?_); intro _ _ _ _ h; simp only [zE, evp, evx, ev1, evLoad, evStore, evBin, evIf, Zab, forall_const, z38, tb, reduceAdd, reduceSub, reduceMul, reduceEqDiff, reduceLeDiff, reduceLT, Nat.reduceBEq, Nat.reduceBNe, ↓reduceIte, reduceIte, spLp, nvS] at h; obtain ⟨rfl, rfl, rfl, rfl⟩ := h; refine ⟨?_, ?_⟩) | ((with_reducible refine Ob.mk ?_); first | exact trivial | (intros; omega) | ((repeat' first | apply And.intro | (intro a; have b := a; try simp only [zH] at b)) <;> first | assumption | omega | (simp only [zH]; omega)))
  (refine Zae htb hmz Zba (fun i => Nat.beq i 1) rfl rfl ?_; intro _ _ _ _ h; simp only [zE, evp, evx, ev1, evLoad, evStore, evBin, evIf, Zab, forall_const, z38, tb, reduceAdd, reduceSub, reduceMul, reduceEqDiff, reduceLeDiff, reduceLT, Nat.reduceBEq, Nat.reduceBNe, ↓reduceIte, reduceIte, spLp, nvS] at h; obtain ⟨rfl, rfl, rfl, rfl⟩ := h; refine ⟨?_, ?_⟩)
  · first | ((with_reducible refine Ob.mk ?_); first | exact trivial | (intros; omega) | ((repeat' first | apply And.intro | (intro a; have b := a; try simp only [zH] at b)) <;> first | assumption | omega | (simp only [zH]; omega))) | skip
  refine Zaa ?_
  have hF : ∀ u, nxVn ⟨o, p, x⟩ w c (w.getD v 0) u = (nvF o w c x (w.getD v 0) u).map Int.toNat := fun u => rfl
  obtain ⟨q, hq⟩ : ∃ q, w.getD v 0 = q := ⟨_, rfl⟩
  obtain ⟨b, hb0⟩ : ∃ b, p.getD v 0 = b := ⟨_, rfl⟩
  rw [hq] at hrow hF
  rw [hq, hb0]
  repeat' first
    | with_reducible first | apply Zar | apply Zan | apply Zaa | apply Zad | apply Zah | apply Zap | apply Zag | apply Zaj | apply Zaq | apply Zas | apply Zao | apply Zal | apply Zac | apply Zak
    | ((with_reducible refine Zai ?_ ?_); exact rfl) | ((with_reducible refine Zat ?_); refine Zam rfl ?_ ?_ <;> intro hb <;> (try simp only [zH] at hb)) | ((with_reducible refine Zay 4 ?_ ?_); (· exact rfl); (first | refine Zae htb hmz Zba fF rfl rfl ?_ | refine Zaf hmo htb hmz Zba fF rfl rfl (by kernel_rfl) ?_); intro _ _ _ _ h; simp only [zE, evp, evx, ev1, evLoad, evStore, evBin, evIf, Zab, forall_const, z38, tb, reduceAdd, reduceSub, reduceMul, reduceEqDiff, reduceLeDiff, reduceLT, Nat.reduceBEq, Nat.reduceBNe, ↓reduceIte, reduceIte, spLp, nvS] at h; obtain ⟨rfl, rfl, rfl, rfl⟩ := h; refine ⟨?_, ?_⟩) | ((with_reducible refine Ob.mk ?_); first | exact trivial | (intros; omega) | ((repeat' first | apply And.intro | (intro a; have b := a; try simp only [zH] at b)) <;> first | assumption | omega | (simp only [zH]; omega)))
  refine Zbc (τ := LpS) (fun s => SQ (nxVn ⟨o, p, x⟩ w c q) (fun z => p.getD z 0 ≤ b) o.length v s.L s.S [] 0 ∧ MQ s.es s.L) (fun s => ⟨21, [(8, .own 19), (7, .own 16), (6, .int .i64 b), (5, .int .i64 q), (4, .cst (.slice none 0 0)), (2, .rop (.agg (.cons (.roI o) (.cons (.roI p) (.cons (.roII x) (.cons (.roI w) (.cons (.roI c) .nil))))))), (1, .int .i64 v)], [(19, some (.ints (Zbf s.S))), (16, some (.mp s.es s.clk))], []⟩) (fun s => 2 * (o.length - s.L.length) + s.S.length) ⟨[], [v], [], 0⟩ [] ?_ ⟨SQ_first hv, MQ_nil⟩ ?_
  · (refine ⟨rfl, ?_, ?_⟩ <;> simp only [zE, evp, evx, ev1, evLoad, evStore, evBin, evIf, Zab, forall_const, z38, tb, reduceAdd, reduceSub, reduceMul, reduceEqDiff, reduceLeDiff, reduceLT, Nat.reduceBEq, Nat.reduceBNe, ↓reduceIte, reduceIte, spLp, nvS, zI])
    all_goals rfl
  rintro ⟨L, S, es, clk⟩ ⟨hS, hM⟩
  dsimp only at hS hM ⊢
  have hLn := Zi1 hS
  have hSl := hS.ls
  have hcs : (Zbf S).length = S.length := List.length_map ..
  repeat' first
    | with_reducible first | apply Zar | apply Zan | apply Zaa | apply Zad | apply Zah | apply Zap | apply Zag | apply Zaj | apply Zaq | apply Zas | apply Zao | apply Zal | apply Zac | apply Zak
    | ((with_reducible refine Zai ?_ ?_); exact rfl) | ((with_reducible refine Zat ?_); refine Zam rfl ?_ ?_ <;> intro hb <;> (try simp only [zH] at hb)) | ((with_reducible refine Zay 5 ?_ ?_); (· exact rfl); (with_reducible refine Zay 16 ?_ ?_); (· exact rfl); (first | refine Zae htb hmz Zba fF rfl rfl ?_ | refine Zaf hmo htb hmz Zba fF rfl rfl (by kernel_rfl) ?_); intro _ _ _ _ h; simp only [zE, evp, evx, ev1, evLoad, evStore, evBin, evIf, Zab, forall_const, z38, tb, reduceAdd, reduceSub, reduceMul, reduceEqDiff, reduceLeDiff, reduceLT, Nat.reduceBEq, Nat.reduceBNe, ↓reduceIte, reduceIte, spLp, nvS] at h; obtain ⟨rfl, rfl, rfl, rfl⟩ := h; refine ⟨?_, ?_⟩) | ((with_reducible refine Ob.mk ?_); first | exact trivial | (intros; omega) | ((repeat' first | apply And.intro | (intro a; have b := a; try simp only [zH] at b)) <;> first | assumption | omega | (simp only [zH]; omega)))
  · have hS0 : 0 < S.length := by omega
    obtain ⟨S', u, rfl⟩ : ∃ S' u, S = S' ++ [u] := ⟨S.dropLast, S.getLast (by intro h; subst h; simp at hS0), (List.dropLast_concat_getLast _).symm⟩
    have hu := hS.ss u (by simp)
    have hun := hS.lt u hu
    have hP := SQ_pop hS
    rw [List.length_append, List.length_singleton] at hSl hcs
    have hg : (Zbf (S' ++ [u])).getD S'.length 0 = (u : Int) := by
      rw [Zek]
      simp [List.getD_eq_getElem?_getD]
    have htk : (Zbf (S' ++ [u])).take S'.length = Zbf S' := by
      unfold Zbf
      rw [List.map_append, List.take_append_of_le_length (by simp), List.take_of_length_le (by simp)]
    have hci : (((Zbf (S' ++ [u])).length : Int) - 1).toNat = S'.length := by omega
    have hrw := hrow u hun
    repeat' first
      | with_reducible first | apply Zar | apply Zan | apply Zaa | apply Zad | apply Zah | apply Zap | apply Zag | apply Zaj | apply Zaq | apply Zas | apply Zao | apply Zal | apply Zac | apply Zak
      | ((with_reducible refine Zai ?_ ?_); exact rfl) | ((with_reducible refine Zat ?_); refine Zam rfl ?_ ?_ <;> intro hb <;> (try simp only [zH] at hb)) | ((with_reducible refine Zay 6 ?_ ?_); (· exact rfl); (first | refine Zae htb hmz Zba fF rfl rfl ?_ | refine Zaf hmo htb hmz Zba fF rfl rfl (by kernel_rfl) ?_); intro _ _ _ _ h; simp only [zE, evp, evx, ev1, evLoad, evStore, evBin, evIf, Zab, forall_const, z38, tb, reduceAdd, reduceSub, reduceMul, reduceEqDiff, reduceLeDiff, reduceLT, Nat.reduceBEq, Nat.reduceBNe, ↓reduceIte, reduceIte, spLp, nvS] at h; obtain ⟨rfl, rfl, rfl, rfl⟩ := h; refine ⟨?_, ?_⟩) | ((with_reducible refine Ob.mk ?_); first | exact trivial | (intros; omega) | ((repeat' first | apply And.intro | (intro a; have b := a; try simp only [zH] at b)) <;> first | assumption | omega | (simp only [zH]; omega)))
    rw [hci, hg]
    repeat' first
      | with_reducible first | apply Zar | apply Zan | apply Zaa | apply Zad | apply Zah | apply Zap | apply Zag | apply Zaj | apply Zaq | apply Zas | apply Zao | apply Zal | apply Zac | apply Zak
      | ((with_reducible refine Zai ?_ ?_); exact rfl) | ((with_reducible refine Zat ?_); refine Zam rfl ?_ ?_ <;> intro hb <;> (try simp only [zH] at hb)) | ((with_reducible refine Zay 7 ?_ ?_); (· exact rfl); (first | refine Zae htb hmz Zba fF rfl rfl ?_ | refine Zaf hmo htb hmz Zba fF rfl rfl (by kernel_rfl) ?_); intro _ _ _ _ h; simp only [zE, evp, evx, ev1, evLoad, evStore, evBin, evIf, Zab, forall_const, z38, tb, reduceAdd, reduceSub, reduceMul, reduceEqDiff, reduceLeDiff, reduceLT, Nat.reduceBEq, Nat.reduceBNe, ↓reduceIte, reduceIte, spLp, nvS] at h; obtain ⟨rfl, rfl, rfl, rfl⟩ := h; refine ⟨?_, ?_⟩) | ((with_reducible refine Ob.mk ?_); first | exact trivial | (intros; omega) | ((repeat' first | apply And.intro | (intro a; have b := a; try simp only [zH] at b)) <;> first | assumption | omega | (simp only [zH]; omega)))
    rw [hci, htk]
    have hat : ∀ j, j < (nvF o w c x q u).length → (nxVn ⟨o, p, x⟩ w c q u)[j]? = some ((nvF o w c x q u).getD j 0).toNat := fun j hj => by
      rw [hF, List.getElem?_map, List.getD_eq_getElem?_getD, List.getElem?_eq_getElem hj]; rfl
    have hxl2 : (nxVn ⟨o, p, x⟩ w c q u).length = (nvF o w c x q u).length := by rw [hF, List.length_map]
    repeat' first
      | with_reducible first | apply Zar | apply Zan | apply Zaa | apply Zad | apply Zah | apply Zap | apply Zag | apply Zaj | apply Zaq | apply Zas | apply Zao | apply Zal | apply Zac | apply Zak
      | ((with_reducible refine Zai ?_ ?_); exact rfl) | ((with_reducible refine Zat ?_); refine Zam rfl ?_ ?_ <;> intro hb <;> (try simp only [zH] at hb)) | ((with_reducible refine Zay 8 ?_ ?_); (· exact rfl); (first | refine Zae htb hmz Zba fF rfl rfl ?_ | refine Zaf hmo htb hmz Zba fF rfl rfl (by kernel_rfl) ?_); intro _ _ _ _ h; simp only [zE, evp, evx, ev1, evLoad, evStore, evBin, evIf, Zab, forall_const, z38, tb, reduceAdd, reduceSub, reduceMul, reduceEqDiff, reduceLeDiff, reduceLT, Nat.reduceBEq, Nat.reduceBNe, ↓reduceIte, reduceIte, spLp, nvS] at h; obtain ⟨rfl, rfl, rfl, rfl⟩ := h; refine ⟨?_, ?_⟩) | ((with_reducible refine Ob.mk ?_); first | exact trivial | (intros; omega) | ((repeat' first | apply And.intro | (intro a; have b := a; try simp only [zH] at b)) <;> first | assumption | omega | (simp only [zH]; omega)))
    obtain ⟨hr64, hrb⟩ := hrw
    generalize nvF o w c x q u = rw at *
    refine Zbc (τ := LqS) (fun s => SQ (nxVn ⟨o, p, x⟩ w c q) (fun z => p.getD z 0 ≤ b) o.length v s.L s.S [u] 1 ∧ MQ s.es s.L ∧ u ∈ qF v s.L ∧ s.j ≤ rw.length ∧ (∀ z, z ∈ (nxVn ⟨o, p, x⟩ w c q u).take s.j → p.getD z 0 ≤ b → z ∈ s.L.map Prod.fst) ∧ 2 * (o.length - s.L.length) + s.S.length ≤ 2 * (o.length - L.length) + S'.length) (fun s => ⟨43, [(52, .int .i64 s.j), (51, .int .i64 rw.length), (50, .roI rw), (9, .int .i64 u), (8, .own 35), (7, .own 16), (6, .int .i64 b), (5, .int .i64 q), (4, .cst (.slice none 0 0)), (2, .rop (.agg (.cons (.roI o) (.cons (.roI p) (.cons (.roII x) (.cons (.roI w) (.cons (.roI c) .nil))))))), (1, .int .i64 v)], [(35, some (.ints (Zbf s.S))), (16, some (.mp s.es s.clk))], []⟩) (fun s => rw.length - s.j) ⟨L, S', 0, es, clk⟩ [] ?_ ⟨hP, hM, hu, Nat.zero_le _, (fun z hz => by rw [List.take_zero] at hz; cases hz), Nat.le_refl _⟩ ?_
    · (refine ⟨rfl, ?_, ?_⟩ <;> simp only [zE, evp, evx, ev1, evLoad, evStore, evBin, evIf, Zab, forall_const, z38, tb, reduceAdd, reduceSub, reduceMul, reduceEqDiff, reduceLeDiff, reduceLT, Nat.reduceBEq, Nat.reduceBNe, ↓reduceIte, reduceIte, spLp, nvS, zI])
    rintro ⟨L2, S2, j, es2, clk2⟩ ⟨hS2, hM2, hu2, hj, hcj, hmu⟩
    dsimp only at hS2 hM2 hu2 hj hcj hmu ⊢
    have hLn2 := Zi1 hS2
    have hSl2 := hS2.ls
    have hcs2 : (Zbf S2).length = S2.length := List.length_map ..
    repeat' first
      | with_reducible first | apply Zar | apply Zan | apply Zaa | apply Zad | apply Zah | apply Zap | apply Zag | apply Zaj | apply Zaq | apply Zas | apply Zao | apply Zal | apply Zac | apply Zak
      | ((with_reducible refine Zai ?_ ?_); exact rfl) | ((with_reducible refine Zat ?_); refine Zam rfl ?_ ?_ <;> intro hb <;> (try simp only [zH] at hb)) | ((with_reducible refine Zay 9 ?_ ?_); (· exact rfl); (with_reducible refine Zay 16 ?_ ?_); (· exact rfl); (first | refine Zae htb hmz Zba fF rfl rfl ?_ | refine Zaf hmo htb hmz Zba fF rfl rfl (by kernel_rfl) ?_); intro _ _ _ _ h; simp only [zE, evp, evx, ev1, evLoad, evStore, evBin, evIf, Zab, forall_const, z38, tb, reduceAdd, reduceSub, reduceMul, reduceEqDiff, reduceLeDiff, reduceLT, Nat.reduceBEq, Nat.reduceBNe, ↓reduceIte, reduceIte, spLp, nvS] at h; obtain ⟨rfl, rfl, rfl, rfl⟩ := h; refine ⟨?_, ?_⟩) | ((with_reducible refine Ob.mk ?_); first | exact trivial | (intros; omega) | ((repeat' first | apply And.intro | (intro a; have b := a; try simp only [zH] at b)) <;> first | assumption | omega | (simp only [zH]; omega)))
    · have hjl : j < rw.length := by omega
      obtain ⟨b1, b2⟩ := hrb j hjl
      obtain ⟨z, hz⟩ := Int.eq_ofNat_of_zero_le b1
      have hjz := hat j hjl
      rw [hz] at hjz b2
      rw [Int.toNat_natCast] at hjz
      have hzn : z < o.length := by omega
      have hhas := hM2.has z
      have hzm : z ∈ nxVn ⟨o, p, x⟩ w c q u := List.mem_of_getElem? hjz
      have htj : (nxVn ⟨o, p, x⟩ w c q u).take (j + 1) = (nxVn ⟨o, p, x⟩ w c q u).take j ++ [z] := by rw [List.take_add_one, hjz]; rfl
      repeat' first
        | with_reducible first | apply Zar | apply Zan | apply Zaa | apply Zad | apply Zah | apply Zap | apply Zag | apply Zaj | apply Zaq | apply Zas | apply Zao | apply Zal | apply Zac | apply Zak
        | ((with_reducible refine Zai ?_ ?_); exact rfl) | ((with_reducible refine Zat ?_); refine Zam rfl ?_ ?_ <;> intro hb <;> (try simp only [zH] at hb)) | ((with_reducible refine Zay 10 ?_ ?_); (· exact rfl); (first | refine Zae htb hmz Zba fF rfl rfl ?_ | refine Zaf hmo htb hmz Zba fF rfl rfl (by kernel_rfl) ?_); intro _ _ _ _ h; simp only [zE, evp, evx, ev1, evLoad, evStore, evBin, evIf, Zab, forall_const, z38, tb, reduceAdd, reduceSub, reduceMul, reduceEqDiff, reduceLeDiff, reduceLT, Nat.reduceBEq, Nat.reduceBNe, ↓reduceIte, reduceIte, spLp, nvS] at h; obtain ⟨rfl, rfl, rfl, rfl⟩ := h; refine ⟨?_, ?_⟩) | ((with_reducible refine Ob.mk ?_); first | exact trivial | (intros; omega) | ((repeat' first | apply And.intro | (intro a; have b := a; try simp only [zH] at b)) <;> first | assumption | omega | (simp only [zH]; omega)))
      rw [hz]
      repeat' first
        | with_reducible first | apply Zar | apply Zan | apply Zaa | apply Zad | apply Zah | apply Zap | apply Zag | apply Zaj | apply Zaq | apply Zas | apply Zao | apply Zal | apply Zac | apply Zak
        | ((with_reducible refine Zai ?_ ?_); exact rfl) | ((with_reducible refine Zat ?_); refine Zam rfl ?_ ?_ <;> intro hb <;> (try simp only [zH] at hb)) | ((with_reducible refine Zay 12 ?_ ?_); (· exact rfl); (with_reducible refine Zay 15 ?_ ?_); (· exact rfl); (first | refine Zae htb hmz Zba fF rfl rfl ?_ | refine Zaf hmo htb hmz Zba fF rfl rfl (by kernel_rfl) ?_); intro _ _ _ _ h; simp only [zE, evp, evx, ev1, evLoad, evStore, evBin, evIf, Zab, forall_const, z38, tb, reduceAdd, reduceSub, reduceMul, reduceEqDiff, reduceLeDiff, reduceLT, Nat.reduceBEq, Nat.reduceBNe, ↓reduceIte, reduceIte, spLp, nvS] at h; obtain ⟨rfl, rfl, rfl, rfl⟩ := h; refine ⟨?_, ?_⟩) | ((with_reducible refine Ob.mk ?_); first | exact trivial | (intros; omega) | ((repeat' first | apply And.intro | (intro a; have b := a; try simp only [zH] at b)) <;> first | assumption | omega | (simp only [zH]; omega)))
      · have hskip : p.getD z 0 ≤ b → z ∈ L2.map Prod.fst := fun hle => by
          rcases hb with hb | hb
          · rw [hhas] at hb; exact of_decide_eq_true hb
          · omega
        repeat' first
          | with_reducible first | apply Zar | apply Zan | apply Zaa | apply Zad | apply Zah | apply Zap | apply Zag | apply Zaj | apply Zaq | apply Zas | apply Zao | apply Zal | apply Zac | apply Zak
          | ((with_reducible refine Zai ?_ ?_); exact rfl) | ((with_reducible refine Zat ?_); refine Zam rfl ?_ ?_ <;> intro hb <;> (try simp only [zH] at hb)) | ((with_reducible refine Za7 ?_); (first | refine Zae htb hmz Zba fF rfl rfl ?_ | refine Zaf hmo htb hmz Zba fF rfl rfl (by kernel_rfl) ?_); intro _ _ _ _ h; simp only [zE, evp, evx, ev1, evLoad, evStore, evBin, evIf, Zab, forall_const, z38, tb, reduceAdd, reduceSub, reduceMul, reduceEqDiff, reduceLeDiff, reduceLT, Nat.reduceBEq, Nat.reduceBNe, ↓reduceIte, reduceIte, spLp, nvS] at h; obtain ⟨rfl, rfl, rfl, rfl⟩ := h; refine ⟨?_, ?_⟩) | ((with_reducible refine Ob.mk ?_); first | exact trivial | (intros; omega) | ((repeat' first | apply And.intro | (intro a; have b := a; try simp only [zH] at b)) <;> first | assumption | omega | (simp only [zH]; omega)))
        refine back ⟨L2, S2, j + 1, es2, clk2⟩ [] ?_ ⟨hS2, hM2, hu2, by dsimp only; omega, fun z' hz' hle => ?_, hmu⟩ (by dsimp only; omega)
        · (refine ⟨rfl, ?_, ?_⟩ <;> simp only [zE, evp, evx, ev1, evLoad, evStore, evBin, evIf, Zab, forall_const, z38, tb, reduceAdd, reduceSub, reduceMul, reduceEqDiff, reduceLeDiff, reduceLT, Nat.reduceBEq, Nat.reduceBNe, ↓reduceIte, reduceIte, spLp, nvS, zI])
        · rw [show (LqS.mk L2 S2 (j + 1) es2 clk2).j = j + 1 from rfl, htj] at hz'
          rcases List.mem_append.1 hz' with h | h
          · exact hcj z' h hle
          · obtain rfl := List.mem_singleton.1 h
            exact hskip hle
      · have hnew : z ∉ L2.map Prod.fst := fun hm => by
          rw [hhas, decide_eq_true hm] at hb
          exact absurd hb.1 (by decide)
        have hb1 := hb
        have hM3 := MQ_put (u := u) (c := clk2) hM2 hnew
        repeat' first
          | with_reducible first | apply Zar | apply Zan | apply Zaa | apply Zad | apply Zah | apply Zap | apply Zag | apply Zaj | apply Zaq | apply Zas | apply Zao | apply Zal | apply Zac | apply Zak
          | ((with_reducible refine Zai ?_ ?_); exact rfl) | ((with_reducible refine Zat ?_); refine Zam rfl ?_ ?_ <;> intro hb <;> (try simp only [zH] at hb)) | ((with_reducible refine Zay 14 ?_ ?_); (· exact rfl); (with_reducible refine Zay 16 ?_ ?_); (· exact rfl); (first | refine Zae htb hmz Zba fF rfl rfl ?_ | refine Zaf hmo htb hmz Zba fF rfl rfl (by kernel_rfl) ?_); intro _ _ _ _ h; simp only [zE, evp, evx, ev1, evLoad, evStore, evBin, evIf, Zab, forall_const, z38, tb, reduceAdd, reduceSub, reduceMul, reduceEqDiff, reduceLeDiff, reduceLT, Nat.reduceBEq, Nat.reduceBNe, ↓reduceIte, reduceIte, spLp, nvS] at h; obtain ⟨rfl, rfl, rfl, rfl⟩ := h; refine ⟨?_, ?_⟩) | ((with_reducible refine Ob.mk ?_); first | exact trivial | (intros; omega) | ((repeat' first | apply And.intro | (intro a; have b := a; try simp only [zH] at b)) <;> first | assumption | omega | (simp only [zH]; omega)))
        · obtain rfl : z = v := by omega
          have hSF := SQ_hit hS2 hu2 hzm hv (by rw [hb0]; exact Int.le_refl _)
          generalize mput (z : Int) u clk2 es2 = es3 at *
          generalize mclk (z : Int) clk2 es2 = clk3 at *
          generalize L2 ++ [(z, u)] = L3 at *
          have hhz : mhas (z : Int) es3 = true := by rw [hM3.has]; exact decide_eq_true hSF.fv
          obtain ⟨k0, u0, hm0, hB0⟩ := SB_first hSF
          have hg0 : mget (z : Int) es3 = u0 := hM3.get z u0 hm0
          repeat' first
            | with_reducible first | apply Zar | apply Zan | apply Zaa | apply Zad | apply Zah | apply Zap | apply Zag | apply Zaj | apply Zaq | apply Zas | apply Zao | apply Zal | apply Zac | apply Zak
            | ((with_reducible refine Zai ?_ ?_); exact rfl) | ((with_reducible refine Zat ?_); refine Zam rfl ?_ ?_ <;> intro hb <;> (try simp only [zH] at hb)) | ((with_reducible refine Zay 19 ?_ ?_); (· exact rfl); (first | refine Zae htb hmz Zba fF rfl rfl ?_ | refine Zaf hmo htb hmz Zba fF rfl rfl (by kernel_rfl) ?_); intro _ _ _ _ h; simp only [zE, evp, evx, ev1, evLoad, evStore, evBin, evIf, Zab, forall_const, z38, tb, reduceAdd, reduceSub, reduceMul, reduceEqDiff, reduceLeDiff, reduceLT, Nat.reduceBEq, Nat.reduceBNe, ↓reduceIte, reduceIte, spLp, nvS] at h; obtain ⟨rfl, rfl, rfl, rfl⟩ := h; refine ⟨?_, ?_⟩) | ((with_reducible refine Ob.mk ?_); first | exact trivial | (intros; omega) | ((repeat' first | apply And.intro | (intro a; have b := a; try simp only [zH] at b)) <;> first | assumption | omega | (simp only [zH]; omega)))
          · rw [hhz] at hb; cases hb
          (refine Zae htb hmz Zba (fun i => Nat.beq i 1) rfl rfl ?_; intro _ _ _ _ h; simp only [zE, evp, evx, ev1, evLoad, evStore, evBin, evIf, Zab, forall_const, z38, tb, reduceAdd, reduceSub, reduceMul, reduceEqDiff, reduceLeDiff, reduceLT, Nat.reduceBEq, Nat.reduceBNe, ↓reduceIte, reduceIte, spLp, nvS] at h; obtain ⟨rfl, rfl, rfl, rfl⟩ := h; refine ⟨?_, ?_⟩)
          · first | ((with_reducible refine Ob.mk ?_); first | exact trivial | (intros; omega) | ((repeat' first | apply And.intro | (intro a; have b := a; try simp only [zH] at b)) <;> first | assumption | omega | (simp only [zH]; omega))) | skip
          refine Zaa ?_
          repeat' first
            | with_reducible first | apply Zar | apply Zan | apply Zaa | apply Zad | apply Zah | apply Zap | apply Zag | apply Zaj | apply Zaq | apply Zas | apply Zao | apply Zal | apply Zac | apply Zak
            | ((with_reducible refine Zai ?_ ?_); exact rfl) | ((with_reducible refine Zat ?_); refine Zam rfl ?_ ?_ <;> intro hb <;> (try simp only [zH] at hb)) | ((with_reducible refine Zay 21 ?_ ?_); (· exact rfl); (first | refine Zae htb hmz Zba fF rfl rfl ?_ | refine Zaf hmo htb hmz Zba fF rfl rfl (by kernel_rfl) ?_); intro _ _ _ _ h; simp only [zE, evp, evx, ev1, evLoad, evStore, evBin, evIf, Zab, forall_const, z38, tb, reduceAdd, reduceSub, reduceMul, reduceEqDiff, reduceLeDiff, reduceLT, Nat.reduceBEq, Nat.reduceBNe, ↓reduceIte, reduceIte, spLp, nvS] at h; obtain ⟨rfl, rfl, rfl, rfl⟩ := h; refine ⟨?_, ?_⟩) | ((with_reducible refine Ob.mk ?_); first | exact trivial | (intros; omega) | ((repeat' first | apply And.intro | (intro a; have b := a; try simp only [zH] at b)) <;> first | assumption | omega | (simp only [zH]; omega)))
          rw [hg0]
          refine Zbc (τ := LbS) (fun s => SB (nxVn ⟨o, p, x⟩ w c q) z L3 s.u s.k s.t) (fun s => ⟨85, [(17, .int .i64 s.u), (16, .own 84), (7, .own 16), (4, .cst (.slice none 0 0)), (1, .int .i64 z)], [(84, some (.ints (Zbf (z :: s.t)))), (16, some (.mp es3 clk3))], []⟩) (fun s => s.k) ⟨u0, k0, []⟩ [] ?_ hB0 ?_
          · (refine ⟨rfl, ?_, ?_⟩ <;> simp only [zE, evp, evx, ev1, evLoad, evStore, evBin, evIf, Zab, forall_const, z38, tb, reduceAdd, reduceSub, reduceMul, reduceEqDiff, reduceLeDiff, reduceLT, Nat.reduceBEq, Nat.reduceBNe, ↓reduceIte, reduceIte, spLp, nvS, zI])
            rfl
          rintro ⟨y, k, t⟩ hB
          dsimp only at hB ⊢
          have hct : (Zbf (z :: t)).length = t.length + 1 := List.length_map ..
          have htn : t.length ≤ o.length := Ze4 _ _ hB.nd fun z' hz' => hSF.lt z' (List.mem_cons_of_mem _ (hB.nt z' hz').1)
          repeat' first
            | with_reducible first | apply Zar | apply Zan | apply Zaa | apply Zad | apply Zah | apply Zap | apply Zag | apply Zaj | apply Zaq | apply Zas | apply Zao | apply Zal | apply Zac | apply Zak
            | ((with_reducible refine Zai ?_ ?_); exact rfl) | ((with_reducible refine Zat ?_); refine Zam rfl ?_ ?_ <;> intro hb <;> (try simp only [zH] at hb)) | ((with_reducible refine Zay 23 ?_ ?_); (· exact rfl); (with_reducible refine Zay 24 ?_ ?_); (· exact rfl); (first | refine Zae htb hmz Zba fF rfl rfl ?_ | refine Zaf hmo htb hmz Zba fF rfl rfl (by kernel_rfl) ?_); intro _ _ _ _ h; simp only [zE, evp, evx, ev1, evLoad, evStore, evBin, evIf, Zab, forall_const, z38, tb, reduceAdd, reduceSub, reduceMul, reduceEqDiff, reduceLeDiff, reduceLT, Nat.reduceBEq, Nat.reduceBNe, ↓reduceIte, reduceIte, spLp, nvS] at h; obtain ⟨rfl, rfl, rfl, rfl⟩ := h; refine ⟨?_, ?_⟩) | ((with_reducible refine Ob.mk ?_); first | exact trivial | (intros; omega) | ((repeat' first | apply And.intro | (intro a; have b := a; try simp only [zH] at b)) <;> first | assumption | omega | (simp only [zH]; omega)))
          · obtain ⟨k', y', hk', hm', hB'⟩ := SB_next hSF hB (by omega)
            have hg' : mget (y : Int) es3 = y' := hM3.get y y' hm'
            have hca : Zbf (z :: t) ++ [(y : Int)] = Zbf (z :: (t ++ [y])) := by unfold Zbf; rw [← List.cons_append, List.map_append]; rfl
            repeat' first
              | with_reducible first | apply Zar | apply Zan | apply Zaa | apply Zad | apply Zah | apply Zap | apply Zag | apply Zaj | apply Zaq | apply Zas | apply Zao | apply Zal | apply Zac | apply Zak
              | ((with_reducible refine Zai ?_ ?_); exact rfl) | ((with_reducible refine Zat ?_); refine Zam rfl ?_ ?_ <;> intro hb <;> (try simp only [zH] at hb)) | ((with_reducible refine Za7 ?_); (first | refine Zae htb hmz Zba fF rfl rfl ?_ | refine Zaf hmo htb hmz Zba fF rfl rfl (by kernel_rfl) ?_); intro _ _ _ _ h; simp only [zE, evp, evx, ev1, evLoad, evStore, evBin, evIf, Zab, forall_const, z38, tb, reduceAdd, reduceSub, reduceMul, reduceEqDiff, reduceLeDiff, reduceLT, Nat.reduceBEq, Nat.reduceBNe, ↓reduceIte, reduceIte, spLp, nvS] at h; obtain ⟨rfl, rfl, rfl, rfl⟩ := h; refine ⟨?_, ?_⟩) | ((with_reducible refine Ob.mk ?_); first | exact trivial | (intros; omega) | ((repeat' first | apply And.intro | (intro a; have b := a; try simp only [zH] at b)) <;> first | assumption | omega | (simp only [zH]; omega)))
            refine back ⟨y', k', t ++ [y]⟩ [(84, 91)] ?_ hB' hk'
            (refine ⟨rfl, ?_, ?_⟩ <;> simp only [zE, evp, evx, ev1, evLoad, evStore, evBin, evIf, Zab, forall_const, z38, tb, reduceAdd, reduceSub, reduceMul, reduceEqDiff, reduceLeDiff, reduceLT, Nat.reduceBEq, Nat.reduceBNe, ↓reduceIte, reduceIte, spLp, nvS, zI])
            · exact hg'.symm
            · exact hca
          · obtain rfl : y = z := by omega
            have hE := SB_end hSF hB hv
            refine Zed ([_]) ([]) rfl rfl ?_
            refine Za6 htb hmz Zba fF rfl rfl rfl ?_; intro _ _ _ _ h; simp only [zE, evp, evx, ev1, evLoad, evStore, evBin, evIf, Zab, forall_const, z38, tb, reduceAdd, reduceSub, reduceMul, reduceEqDiff, reduceLeDiff, reduceLT, Nat.reduceBEq, Nat.reduceBNe, ↓reduceIte, reduceIte, spLp, nvS] at h; obtain ⟨rfl, rfl, rfl, rfl⟩ := h; refine ⟨?_, Zaa ?_⟩
            · first | ((with_reducible refine Ob.mk ?_); first | exact trivial | (intros; omega) | ((repeat' first | apply And.intro | (intro a; have b := a; try simp only [zH] at b)) <;> first | assumption | omega | (simp only [zH]; omega))) | skip
            refine Zbn ([84]) (reverse_fg (l := Zbf (y :: t)) (by omega)) rfl rfl rfl rfl rfl rfl rfl rfl rfl (by simp only [rinR, rhoC, zE, evp, evx, ev1, evLoad, evStore, evBin, evIf, Zab, forall_const, z38, tb, reduceAdd, reduceSub, reduceMul, reduceEqDiff, reduceLeDiff, reduceLT, Nat.reduceBEq, Nat.reduceBNe, ↓reduceIte, reduceIte, spLp, nvS]) ?_; intro gm gv gr hq m' e' l' h; simp only [GR.mk.injEq] at hq; obtain ⟨rfl, rfl, rfl⟩ := hq; simp only [rhoC, outR, renR, dels, zE, evp, evx, ev1, evLoad, evStore, evBin, evIf, Zab, forall_const, z38, tb, reduceAdd, reduceSub, reduceMul, reduceEqDiff, reduceLeDiff, reduceLT, Nat.reduceBEq, Nat.reduceBNe, ↓reduceIte, reduceIte, spLp, nvS] at h; obtain ⟨rfl, rfl, rfl⟩ := h; refine Zaa ?_
            refine Zce ?_
            refine Zaa ?_
            have hrv : (Zbf (y :: t)).reverse = Zbf t.reverse ++ [(y : Int)] := by unfold Zbf; rw [← List.map_reverse, List.reverse_cons, List.map_append]; rfl
            rw [hrv]
            have hrl : (Zbf t.reverse ++ [(y : Int)]).length = t.length + 1 := by simp [Zbf]
            have hrt : (Zbf t.reverse ++ [(y : Int)]).take t.length = Zbf t.reverse := by
              rw [List.take_append_of_le_length (by simp [Zbf]), List.take_of_length_le (by simp [Zbf])]
            have hrt2 : (Zbf t.reverse).length = t.length := by simp [Zbf]
            repeat' first
              | with_reducible first | apply Zar | apply Zan | apply Zaa | apply Zad | apply Zah | apply Zap | apply Zag | apply Zaj | apply Zaq | apply Zas | apply Zao | apply Zal | apply Zac | apply Zak
              | ((with_reducible refine Zai ?_ ?_); exact rfl) | ((with_reducible refine Zat ?_); refine Zam rfl ?_ ?_ <;> intro hb <;> (try simp only [zH] at hb)) | ((with_reducible refine Zay 25 ?_ ?_); (· exact rfl); (first | refine Zae htb hmz Zba fF rfl rfl ?_ | refine Zaf hmo htb hmz Zba fF rfl rfl (by kernel_rfl) ?_); intro _ _ _ _ h; simp only [zE, evp, evx, ev1, evLoad, evStore, evBin, evIf, Zab, forall_const, z38, tb, reduceAdd, reduceSub, reduceMul, reduceEqDiff, reduceLeDiff, reduceLT, Nat.reduceBEq, Nat.reduceBNe, ↓reduceIte, reduceIte, spLp, nvS] at h; obtain ⟨rfl, rfl, rfl, rfl⟩ := h; refine ⟨?_, ?_⟩) | ((with_reducible refine Ob.mk ?_); first | exact trivial | (intros; omega) | ((repeat' first | apply And.intro | (intro a; have b := a; try simp only [zH] at b)) <;> first | assumption | omega | (simp only [zH]; omega)))
            have hrn : (((Zbf t.reverse ++ [(y : Int)]).length : Int) - 1).toNat = t.length := by omega
            (refine Zae htb hmz Zba (fun i => Nat.beq i 1) rfl rfl ?_; intro _ _ _ _ h; simp only [zE, evp, evx, ev1, evLoad, evStore, evBin, evIf, Zab, forall_const, z38, tb, reduceAdd, reduceSub, reduceMul, reduceEqDiff, reduceLeDiff, reduceLT, Nat.reduceBEq, Nat.reduceBNe, ↓reduceIte, reduceIte, spLp, nvS] at h; obtain ⟨rfl, rfl, rfl, rfl⟩ := h; refine ⟨?_, ?_⟩)
            · refine Ob.mk ?_
              rw [hrn, hrt, hrl]
              omega
            refine Zaa ?_
            have hrc : (y : Int) :: Zbf t.reverse = Zbf (y :: t.reverse) := rfl
            rw [hrn, hrt, hrc]
            refine Zdo 96 (.roI (Zbf (y :: t.reverse))) (by simp only [Za9, Zbh, fzE, fzA, fzR, fzB, set1, nbeq, reduceEqDiff, decide_true, decide_false, ↓reduceIte, reduceIte, cond_true, cond_false, List.take_length, Option.some.injEq]; rfl) (by first | exact rfl | (refine ⟨?_, rfl⟩; first | rfl | (intros; rfl))) (by simp only [Za9, Zbh, fzE, fzA, fzR, fzB, set1, nbeq, reduceEqDiff, decide_true, decide_false, ↓reduceIte, reduceIte, cond_true, cond_false, List.take_length, Option.some.injEq]; rfl) (by simp only [Za9, Zbh, fzE, fzA, fzR, fzB, set1, nbeq, reduceEqDiff, decide_true, decide_false, ↓reduceIte, reduceIte, cond_true, cond_false, List.take_length, Option.some.injEq]; rfl) ?_
            repeat' first
              | with_reducible first | apply Zar | apply Zan | apply Zaa | apply Zad | apply Zah | apply Zap | apply Zag | apply Zaj | apply Zaq | apply Zas | apply Zao | apply Zal | apply Zac | apply Zak
              | ((with_reducible refine Zai ?_ ?_); exact rfl) | ((with_reducible refine Zat ?_); refine Zam rfl ?_ ?_ <;> intro hb <;> (try simp only [zH] at hb)) | ((with_reducible refine Za7 ?_); (first | refine Zae htb hmz Zba fF rfl rfl ?_ | refine Zaf hmo htb hmz Zba fF rfl rfl (by kernel_rfl) ?_); intro _ _ _ _ h; simp only [zE, evp, evx, ev1, evLoad, evStore, evBin, evIf, Zab, forall_const, z38, tb, reduceAdd, reduceSub, reduceMul, reduceEqDiff, reduceLeDiff, reduceLT, Nat.reduceBEq, Nat.reduceBNe, ↓reduceIte, reduceIte, spLp, nvS] at h; obtain ⟨rfl, rfl, rfl, rfl⟩ := h; refine ⟨?_, ?_⟩) | ((with_reducible refine Ob.mk ?_); first | exact trivial | (intros; omega) | ((repeat' first | apply And.intro | (intro a; have b := a; try simp only [zH] at b)) <;> first | assumption | omega | (simp only [zH]; omega)))
            refine Zaz rfl rfl (Zc9 ⟨0, .roI (Zbf (y :: t.reverse)), []⟩ [] (.inr ⟨y :: t.reverse, ⟨⟨_, rfl⟩, fun z' hz' => (hE.2.2 z' hz').1, hE.1, ?_, fun z' hz' => ?_⟩, rfl⟩) rfl (Zb0 rfl) trivial)
            · rw [hq]
              exact hE.2.1
            · show p.getD z' 0 ≤ p.getD y 0
              rw [hb0]
              exact (hE.2.2 z' hz').2
        · have hne : z ≠ v := by omega
          have hS3 := SQ_add hS2 hu2 hzm hzn hnew hb1.2 hne
          have hL3 := Zi1 hS3
          have hcs3 : Zbf S2 ++ [(z : Int)] = Zbf (S2 ++ [z]) := by unfold Zbf; rw [List.map_append]; rfl
          repeat' first
            | with_reducible first | apply Zar | apply Zan | apply Zaa | apply Zad | apply Zah | apply Zap | apply Zag | apply Zaj | apply Zaq | apply Zas | apply Zao | apply Zal | apply Zac | apply Zak
            | ((with_reducible refine Zai ?_ ?_); exact rfl) | ((with_reducible refine Zat ?_); refine Zam rfl ?_ ?_ <;> intro hb <;> (try simp only [zH] at hb)) | ((with_reducible refine Za7 ?_); (first | refine Zae htb hmz Zba fF rfl rfl ?_ | refine Zaf hmo htb hmz Zba fF rfl rfl (by kernel_rfl) ?_); intro _ _ _ _ h; simp only [zE, evp, evx, ev1, evLoad, evStore, evBin, evIf, Zab, forall_const, z38, tb, reduceAdd, reduceSub, reduceMul, reduceEqDiff, reduceLeDiff, reduceLT, Nat.reduceBEq, Nat.reduceBNe, ↓reduceIte, reduceIte, spLp, nvS] at h; obtain ⟨rfl, rfl, rfl, rfl⟩ := h; refine ⟨?_, ?_⟩) | ((with_reducible refine Ob.mk ?_); first | exact trivial | (intros; omega) | ((repeat' first | apply And.intro | (intro a; have b := a; try simp only [zH] at b)) <;> first | assumption | omega | (simp only [zH]; omega)))
          refine back ⟨L2 ++ [(z, u)], S2 ++ [z], j + 1, mput z u clk2 es2, mclk z clk2 es2⟩ [(35, 76)] ?_ ⟨hS3, hM3, (by rw [Zer]; exact List.mem_append_left _ hu2), by dsimp only; omega, fun z' hz' hle => ?_, ?_⟩ (by dsimp only; omega)
          · (refine ⟨rfl, ?_, ?_⟩ <;> simp only [zE, evp, evx, ev1, evLoad, evStore, evBin, evIf, Zab, forall_const, z38, tb, reduceAdd, reduceSub, reduceMul, reduceEqDiff, reduceLeDiff, reduceLT, Nat.reduceBEq, Nat.reduceBNe, ↓reduceIte, reduceIte, spLp, nvS, zI])
            exact hcs3
          · rw [show (LqS.mk (L2 ++ [(z, u)]) (S2 ++ [z]) (j + 1) (mput z u clk2 es2) (mclk z clk2 es2)).j = j + 1 from rfl, htj] at hz'
            show z' ∈ (L2 ++ [(z, u)]).map Prod.fst
            rw [List.map_append]
            rcases List.mem_append.1 hz' with h | h
            · exact List.mem_append_left _ (hcj z' h hle)
            · obtain rfl := List.mem_singleton.1 h
              exact List.mem_append_right _ (by simp)
          · dsimp only
            rw [List.length_append, List.length_singleton] at hL3
            simp only [List.length_append, List.length_singleton]
            omega
    have hje : j = rw.length := by omega
    subst hje
    have hS4 := SQ_done hS2 (fun z hz hle => hcj z (by rw [List.take_of_length_le (by rw [hxl2]; exact Nat.le_refl _)]; exact hz) hle)
    refine back ⟨L2, S2, es2, clk2⟩ [(19, 35)] ?_ ⟨hS4, hM2⟩ (by dsimp only; rw [List.length_append, List.length_singleton]; omega)
    (refine ⟨rfl, ?_, ?_⟩ <;> simp only [zE, evp, evx, ev1, evLoad, evStore, evBin, evIf, Zab, forall_const, z38, tb, reduceAdd, reduceSub, reduceMul, reduceEqDiff, reduceLeDiff, reduceLT, Nat.reduceBEq, Nat.reduceBNe, ↓reduceIte, reduceIte, spLp, nvS, zI])
  have hS0 : S = [] := List.eq_nil_of_length_eq_zero (by omega)
  subst hS0
  have hhv : mhas (v : Int) es = false := by rw [hM.has]; exact decide_eq_false hS.fv
  repeat' first
    | with_reducible first | apply Zar | apply Zan | apply Zaa | apply Zad | apply Zah | apply Zap | apply Zag | apply Zaj | apply Zaq | apply Zas | apply Zao | apply Zal | apply Zac | apply Zak
    | ((with_reducible refine Zai ?_ ?_); exact rfl) | ((with_reducible refine Zat ?_); refine Zam rfl ?_ ?_ <;> intro hb <;> (try simp only [zH] at hb)) | ((with_reducible refine Zay 18 ?_ ?_); (· exact rfl); (first | refine Zae htb hmz Zba fF rfl rfl ?_ | refine Zaf hmo htb hmz Zba fF rfl rfl (by kernel_rfl) ?_); intro _ _ _ _ h; simp only [zE, evp, evx, ev1, evLoad, evStore, evBin, evIf, Zab, forall_const, z38, tb, reduceAdd, reduceSub, reduceMul, reduceEqDiff, reduceLeDiff, reduceLT, Nat.reduceBEq, Nat.reduceBNe, ↓reduceIte, reduceIte, spLp, nvS] at h; obtain ⟨rfl, rfl, rfl, rfl⟩ := h; refine ⟨?_, ?_⟩) | ((with_reducible refine Ob.mk ?_); first | exact trivial | (intros; omega) | ((repeat' first | apply And.intro | (intro a; have b := a; try simp only [zH] at b)) <;> first | assumption | omega | (simp only [zH]; omega)))
  · subst hb0
    repeat' first
      | with_reducible first | apply Zar | apply Zan | apply Zaa | apply Zad | apply Zah | apply Zap | apply Zag | apply Zaj | apply Zaq | apply Zas | apply Zao | apply Zal | apply Zac | apply Zak
      | ((with_reducible refine Zai ?_ ?_); exact rfl) | ((with_reducible refine Zat ?_); refine Zam rfl ?_ ?_ <;> intro hb <;> (try simp only [zH] at hb)) | ((with_reducible refine Za7 ?_); (first | refine Zae htb hmz Zba fF rfl rfl ?_ | refine Zaf hmo htb hmz Zba fF rfl rfl (by kernel_rfl) ?_); intro _ _ _ _ h; simp only [zE, evp, evx, ev1, evLoad, evStore, evBin, evIf, Zab, forall_const, z38, tb, reduceAdd, reduceSub, reduceMul, reduceEqDiff, reduceLeDiff, reduceLT, Nat.reduceBEq, Nat.reduceBNe, ↓reduceIte, reduceIte, spLp, nvS] at h; obtain ⟨rfl, rfl, rfl, rfl⟩ := h; refine ⟨?_, ?_⟩) | ((with_reducible refine Ob.mk ?_); first | exact trivial | (intros; omega) | ((repeat' first | apply And.intro | (intro a; have b := a; try simp only [zH] at b)) <;> first | assumption | omega | (simp only [zH]; omega)))
    refine Zaz rfl rfl (Zc9 ⟨0, .cst (.slice none 0 0), []⟩ [] (.inl ⟨?_, rfl⟩) rfl (Zb0 rfl) trivial)
    exact SQ_no (pri := fun z => p.getD z 0) hS
  · rw [hhv] at hb
    cases hb
open Go
section
variable {P : Program} {N κ : Nat}
theorem Zbx {o : Oper} {t : List Oper} {m : Nat} {env : List (Nat × AV)} {l : List (Nat × Option Blk)} {ms : List Nat} {val : AV} {rd : List (Nat × Blk)} {wr : List (Nat × Option Blk)} {kn : Option Nat} {Q : Exit → St → Prop}
    (hop : OpSem P o (opv (lke env)) val rd wr kn) (hd : Zc5 N [o] = true) (hgd : o.guard = none) (hnd : ∀ c, o.op ≠ .defer c) (hrd : RdIn l rd) (hkn : kn = none ∨ kn = some m) (hκ : Nat.ble κ m = true)
    (h : awpL P none N κ t (CS.st ⟨m + 1, putE o.dst val env, setW wr l, ms⟩) Q) : awpL P none N κ (o :: t) (CS.st ⟨m, env, l, ms⟩) Q := by
  intro n K Z ν w a hg
  have hw : Region.wanted o (yielded #[] a.tmps) = true := Zcf (by rw [hgd]; rfl) _
  simp only [wpListIn, hw, if_true]
  refine ⟨fun f hf => trivial, ?_⟩
  have hf : Fits N ⟨o.dst, [], val, rd, wr, kn⟩ (CS.st ⟨m, env, l, ms⟩) := by
    refine ⟨fun p hp => (by cases hp), fun p hp => hrd p hp, fun k hk => ?_, fun d hd2 => ?_⟩
    · have hk : kn = some k := hk
      rcases hkn with h1 | h1
      · rw [h1] at hk; cases hk
      · rw [h1] at hk; cases hk
        show Nat.blt m m = false
        cases hb : Nat.blt m m with
        | false => rfl
        | true => rw [Nat.blt_eq] at hb; omega
    · have hd2 : o.dst = some d := hd2
      simp [Zc5, hd2] at hd; exact hd
  refine (Zcd (ro := none) hnd hop) n K Z ν w a (ltK m) (lkr l) hg.one hg.rs hg.zk hg.kl (fun x _ => ⟨Zh0 hg x, Zgc hg x⟩) hf.rd hf.kn _ _ ?_
  intro y Z' ν' w' hst hν h1 hrs hr hm hz
  have hg2 := hg.next hf hst hν h1 hrs hr hm hz
  have e : (Item.app ⟨o.dst, [], val, rd, wr, kn⟩ (CS.st ⟨m, env, l, ms⟩)) = ⟨addK (ltK m) kn, lke (putE o.dst val env), lkr (setW wr l), ms⟩ := by
    show St.mk _ _ _ _ = St.mk _ _ _ _
    rw [Zfr, Zfw]; rfl
  rw [e] at hg2
  have hg3 := hg2.widen (μ' := ltK (m + 1)) (fun k hk => by
    rcases hkn with h1 | h1
    · rw [h1] at hk
      have hk : Nat.blt k m = true := hk
      show Nat.blt k (m + 1) = true
      rw [Nat.blt_eq] at hk ⊢; omega
    · rw [h1] at hk
      have hk : (Nat.blt k m || Nat.beq k m) = true := hk
      show Nat.blt k (m + 1) = true
      rw [Nat.blt_eq]
      rcases Bool.or_eq_true_iff.1 hk with h2 | h2
      · rw [Nat.blt_eq] at h2; omega
      · have := Nat.eq_of_beq_eq_true h2; omega)
  have hh := h n (un K Z') Z' ν' w' _ hg3
  refine Zb4 (fun e a2 w2 hp => ?_) hh
  refine hp.trans hst (fun k hk => hν k ?_)
  have := Nat.le_of_ble_eq_true hκ
  show Nat.blt k m = true
  rw [Nat.blt_eq]; omega
theorem Ze1 {o : Oper} {get : Operand → AV} {rd : List (Nat × Blk)} {kn : Nat} {ks : List Nat} {A : List Value → (Nat → Prop) → World → (Nat → Prop) → Prop}
    (h : ∀ (K Z : Nat → Prop) (ν : Nat → Value) (w : World) (ev : Operand → Value) (μ : Nat → Bool) (rs : Rs), (∀ k, (ν k).oneCell' = true) → GoodRs K Z w ν μ rs → (∀ x, x ∈ o.op.operands → R Z w (get x) ν true [ev x] ∧ men μ (get x) = true) → (∀ p, p ∈ rd → rs p.1 = some p.2) →
      ∃ y, (execOp ev o).run P w = .ok (.value y) w ∧ y.oneCell' = true ∧ (∀ k, k ∈ ks → μ k = true) ∧ ∀ (Z' : Nat → Prop) (w' : World), (∀ b, Z b → Z' b) → (∀ b, Z b → w'.heap[b]? = w.heap[b]?) → A (y :: ks.map ν) Z' w' (fun _ => False)) :
    OpSem P o get (.own kn) rd [(kn, some (.sem (kn :: ks) A))] (some kn) :=
  ⟨fun K Z ν w ev μ rs h1 hg hzk hkl hx hrd hkn => by
    have hk2 := hkn kn rfl
    obtain ⟨y, hrun, hy, hks, hA⟩ := h K Z ν w ev μ rs h1 hg hx hrd
    refine ⟨_, w, upN ν kn y, Z, .inl hrun, Step.refl K Z w, Zby hk2, Zco h1 hy, ?_, ?_, Zbr, fun b hb => hkl b (hzk b hb)⟩
    · rw [Zbp hzk]
      refine Zde (F := fun _ => False) hg hzk hkl hk2 (Nat.le_refl _) (fun _ _ => rfl) ?_ (fun k hk => ?_) (fun y hy => hy.elim)
      · intro Z' w' hZ hw
        have e : (kn :: ks).map (upN ν kn y) = y :: ks.map ν := by
          rw [List.map_cons, upN_same]
          exact congrArg _ (List.map_congr_left fun k hk => Zby hk2 k (hks k hk))
        rw [e]
        exact hA Z' w' hZ (fun b hb => hw b (.inl hb))
      · rcases List.mem_cons.1 hk with rfl | hk
        · exact Zbr
        · exact Zb5 k (hks k hk)
    · show [_] = [_]; rw [upN_same]⟩
theorem opsem_neqnil {o : Oper} {t e yt : Nat} {x : Operand} {get : Operand → AV} {l : List Int} (ho : o.op = .binOp .neq t x (.const (.slice none 0 0)) yt) (ht : P.underlying t = some (.slice e)) (hx : get x = .roI l) (hl : 0 < l.length) (hc : get (.const (.slice none 0 0)) = .cst (.slice none 0 0)) : OpSem P o get (.bool true) [] [] none :=
  Zb7 fun K Z ν w ev μ rs hone hg hv hrd => by
    obtain ⟨rx, _⟩ := hv x (by rw [ho]; simp [Op.operands])
    obtain ⟨ry, _⟩ := hv (.const (.slice none 0 0)) (by rw [ho]; simp [Op.operands])
    rw [hx] at rx
    rw [hc] at ry
    have hy := one1 ry
    obtain ⟨A, cap, hcs, _, _, hA⟩ := rx
    injection hcs with hcs _
    obtain ⟨b, f, hA, _⟩ := hA hl
    subst hA
    refine ⟨.bool true, ?_, rfl, rfl⟩
    have hq := run_neq_slice_nil_any (P := P) w t e (some ⟨b, f, none⟩) l.length cap 0 0 ht
    simp only [execOp, ho, hcs, hy]
    simp [eqGuard, hq, Sem.run_bind, Result.andThen, Sem.run]
theorem opsem_neqnil0 {o : Oper} {t e yt : Nat} {x : Operand} {get : Operand → AV} (ho : o.op = .binOp .neq t x (.const (.slice none 0 0)) yt) (ht : P.underlying t = some (.slice e)) (hx : get x = .cst (.slice none 0 0)) (hc : get (.const (.slice none 0 0)) = .cst (.slice none 0 0)) : OpSem P o get (.bool false) [] [] none :=
  Zb7 fun K Z ν w ev μ rs hone hg hv hrd => by
    obtain ⟨rx, _⟩ := hv x (by rw [ho]; simp [Op.operands])
    obtain ⟨ry, _⟩ := hv (.const (.slice none 0 0)) (by rw [ho]; simp [Op.operands])
    rw [hx] at rx
    rw [hc] at ry
    have hx := one1 rx
    have hy := one1 ry
    refine ⟨.bool false, ?_, rfl, rfl⟩
    have hq := run_neq_slice_nil_any (P := P) w t e none 0 0 0 0 ht
    simp only [execOp, ho, hx, hy]
    simp [eqGuard, hq, Sem.run_bind, Result.andThen, Sem.run]
theorem opsem_neqif {o : Oper} {t yt t2 k : Nat} {x : Operand} {get : Operand → AV} {u : AV} (ho : o.op = .binOp .neq t x (.const .nilIface) yt) (ht : P.underlying t = some (.interface (P.methodsAt t))) (hx : get x = .own k) (hc : get (.const .nilIface) = .cst .nilIface) : OpSem P o get (.bool true) [(k, .sem [k] (ifA t2 u))] [] none :=
  Zb7 fun K Z ν w ev μ rs hone hg hv hrd => by
    obtain ⟨rx, _⟩ := hv x (by rw [ho]; simp [Op.operands])
    obtain ⟨ry, _⟩ := hv (.const .nilIface) (by rw [ho]; simp [Op.operands])
    rw [hx] at rx
    rw [hc] at ry
    have hx := one1 rx
    have hy := one1 ry
    obtain ⟨Ft, hF⟩ := hg
    obtain ⟨_, _, hs, _⟩ := hF k _ (hrd (k, .sem [k] (ifA t2 u)) (by simp))
    obtain ⟨_, v, hv2, _⟩ := hs Z w (fun _ h => h) (fun _ _ => rfl)
    have hk : ν k = .iface t2 v := by simpa using hv2
    refine ⟨.bool true, ?_, rfl, rfl⟩
    have hq := run_neq_held_nil (P := P) w t t2 v ht
    simp only [execOp, ho, hx, hk, hy]
    simp [eqGuard, hq, Sem.run_bind, Result.andThen, Sem.run]
theorem opsem_neqif0 {o : Oper} {t yt : Nat} {x : Operand} {get : Operand → AV} (ho : o.op = .binOp .neq t x (.const .nilIface) yt) (ht : P.underlying t = some (.interface (P.methodsAt t))) (hx : get x = .cst .nilIface) (hc : get (.const .nilIface) = .cst .nilIface) : OpSem P o get (.bool false) [] [] none :=
  Zb7 fun K Z ν w ev μ rs hone hg hv hrd => by
    obtain ⟨rx, _⟩ := hv x (by rw [ho]; simp [Op.operands])
    obtain ⟨ry, _⟩ := hv (.const .nilIface) (by rw [ho]; simp [Op.operands])
    rw [hx] at rx
    rw [hc] at ry
    have hx := one1 rx
    have hy := one1 ry
    refine ⟨.bool false, ?_, rfl, rfl⟩
    have hq := run_neq_nil_nil (P := P) w t ht
    simp only [execOp, ho, hx, hy]
    simp [eqGuard, hq, Sem.run_bind, Result.andThen, Sem.run]
end
end Go.Proofs.YtdhoadhkkecjjaaDoor.Cal
