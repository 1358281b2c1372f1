/- Own texts, merged. -/
import Derived.Test.YtbcghiagomkadaaS13
set_option linter.unusedVariables false
set_option linter.unusedSimpArgs false
open Nat (reduceAdd reduceSub reduceMul reduceEqDiff reduceLeDiff reduceLT)
namespace Go.Proofs.Ytbcghiagomkadaa.Cal
open Go Pl
def mxI (p : List Int) : Int := p.foldl max 0
theorem mxI_next {p : List Int} {i : Nat} (h : i < p.length) : mxI (p.take (i + 1)) = max (mxI (p.take i)) (p.getD i 0) := by
  unfold mxI
  rw [Zhb (d := 0) h, List.foldl_append]; rfl
theorem Zj8 {p : List Int} {B : Int} (hB : 0 ≤ B) (h : ∀ v, v < p.length → p.getD v 0 ≤ B) : ∀ i, i ≤ p.length → 0 ≤ mxI (p.take i) ∧ mxI (p.take i) ≤ B ∧ ∀ v, v < i → p.getD v 0 ≤ mxI (p.take i)
  | 0, _ => ⟨Int.le_refl _, hB, fun v hv => absurd hv (Nat.not_lt_zero _)⟩
  | i + 1, hi => by
    have ih := Zj8 hB h i (by omega)
    have h1 := h i (by omega)
    rw [mxI_next (by omega)]
    refine ⟨by omega, by omega, fun v hv => ?_⟩
    rcases Nat.lt_succ_iff_lt_or_eq.1 hv with h2 | rfl
    · have := ih.2.2 v h2; omega
    · omega
noncomputable def imB (o p : List Int) (x : List (List Int)) (pl : Int) : Im := ⟨o, p, x, pl, ⟨false, false, List.replicate (mxI p + 1).toNat 0⟩, alLs o p x pl⟩
def bNx (h : Im) (ch : List Int) (k : Nat) : List Int × Bool := Ze0 h (vIt h ch k) ch h.o.length
inductive BRun (h : Im) : Nat → List Int → Nat → (Nat → Vl) → List Int → Prop
  | stop {ch : List Int} {k : Nat} : VEnd h ch k → (bNx h ch k).2 = false → BRun h 0 ch k (vIt h ch k) (bNx h ch k).1
  | more {r k k' : Nat} {ch c : List Int} {l : Nat → Vl} : VEnd h ch k → (bNx h ch k).2 = true → BRun h r (bNx h ch k).1 k' l c → BRun h (r + 1) ch k l c
theorem Zim {h : Im} {r k : Nat} {ch c : List Int} {l : Nat → Vl} (H : BRun h r ch k l c) : VEnd h ch k ∧ (((bNx h ch k).2 = false ∧ l = vIt h ch k ∧ c = (bNx h ch k).1) ∨ ∃ r' k', r = r' + 1 ∧ (bNx h ch k).2 = true ∧ BRun h r' (bNx h ch k).1 k' l c) := by
  cases H with
  | stop h1 h2 => exact ⟨h1, .inl ⟨h2, rfl, rfl⟩⟩
  | more h1 h2 h3 => exact ⟨h1, .inr ⟨_, _, rfl, h2, h3⟩⟩
structure BsS where
  r : Nat
  ch : List Int
  k : Nat
noncomputable def spBs : Nat → Option Spec
  | 48 => some alS
  | _ => none
theorem Zbd : SpOK Try.prog spBs := by
  intro f S h
  unfold spBs at h
  split at h
  · cases h; exact alone_ok
  · cases h
theorem imB_ok {o p : List Int} {x : List (List Int)} {pl : Int} (H : GmOK o p x) (hmx : ∀ v, v < p.length → p.getD v 0 ≤ 999000) : ImOK (imB o p x pl) (mxI p + 1).toNat := by
  have hb := Zj8 (p := p) (B := 999000) (by decide) hmx p.length (Nat.le_refl _)
  rw [List.take_length] at hb
  refine ⟨H.n, H.plen, H.xl, fun v hv => ⟨H.p0 v hv, ?_⟩, H.row, ⟨?_, fun _ => ⟨?_, fun q => ?_⟩⟩, Zfv⟩
  · have := H.p0 v hv
    have := hb.2.2 v (by have := H.plen; have hv : v < o.length := hv; omega)
    show (p.getD v 0).toNat < _
    omega
  · show (List.replicate (mxI p + 1).toNat (0 : Int)).length ≤ _
    rw [List.length_replicate]; omega
  · show (List.replicate (mxI p + 1).toNat (0 : Int)).length = _
    rw [List.length_replicate]
  · show 0 ≤ (List.replicate (mxI p + 1).toNat (0 : Int)).getD q 0 ∧ (List.replicate (mxI p + 1).toNat (0 : Int)).getD q 0 ≤ 0
    have : (List.replicate (mxI p + 1).toNat (0 : Int)).getD q 0 = 0 := by
      simp only [List.getD_eq_getElem?_getD, List.getElem?_replicate]
      split <;> rfl
    rw [this]; exact ⟨Int.le_refl _, Int.le_refl _⟩
set_option maxRecDepth 4000 in
set_option maxHeartbeats 4000000 in
theorem best_fg {o p : List Int} {x : List (List Int)} {pl : Int} {R k : Nat} {L : Nat → Vl} {C : List Int} (H : GmOK o p x) (hmx : ∀ v, v < p.length → p.getD v 0 ≤ 999000) (hR : BRun (imB o p x pl) R (List.replicate o.length (-1)) k L C) :
    FG Try.prog 31 [.agg (.cons (.roI o) (.cons (.roI p) (.cons (.roII x) .nil))), .int .i64 pl] [] 0
      fun g => g = ⟨0, .tup (.cons (.roB ((List.range o.length).map fun v => (L v).e)) (.cons (.roI C) .nil)), []⟩ := by
  have hIm := imB_ok (pl := pl) H hmx
  have hn : o.length ≤ 20000 := H.n
  have hmb := Zj8 (p := p) (B := 999000) (by decide) hmx
  have hpl : p.length = o.length := H.plen
  have hp0 := H.p0
  refine Zf5 htb (fn := Try.f31) (by kernel_rfl) (by kernel_rfl) rfl (Nat.le_of_ble_eq_true rfl) fun hl => ?_
  simp only [lenP, mkL, lim] at hl
  repeat' first
    | with_reducible first | apply Zan | apply Zaj | apply Zab | apply Zac | apply Zag | apply Zal | apply Zaf | apply Zah | apply Zam | apply Zao | apply Zak
    | ((with_reducible refine Zap ?_); refine Zai rfl ?_ ?_ <;> intro hb <;> (try simp only [zH] at hb)) | ((with_reducible refine Zaq 3 ?_ ?_); (· exact rfl); (first | refine Zad htb hmz Zbd fF rfl rfl ?_ | refine Zae hmo htb hmz Zbd fF rfl rfl (by kernel_rfl) ?_); intro _ _ _ _ h; simp only [zE, evp, evx, ev1, evLoad, evStore, evBin, Zaa, forall_const, z38, tb, reduceAdd, reduceSub, reduceMul, reduceEqDiff, reduceLeDiff, reduceLT, Nat.reduceBEq, Nat.reduceBNe, ↓reduceIte, reduceIte, spBs, alS, vlA] at h; obtain ⟨rfl, rfl, rfl, rfl⟩ := h; refine ⟨?_, ?_⟩) | ((with_reducible refine Ob.mk ?_); first | exact trivial | (intros; omega) | ((repeat' first | apply And.intro | (intro a; have b := a; try simp only [zH] at b)) <;> first | assumption | omega | (simp only [zH]; omega)))
  refine Zat (τ := Nat) (fun i => i ≤ p.length) (fun i => ⟨7, [(17, .int .i64 i), (16, .int .i64 p.length), (15, .roI p), (6, .int .i64 (mxI (p.take i))), (1, .int .i64 pl), (2, .rop (.agg (.cons (.roI o) (.cons (.roI p) (.cons (.roII x) .nil)))))], [], []⟩) (fun i => p.length - i) 0 [] ?_ (Nat.zero_le _) ?_
  · (refine ⟨rfl, ?_, ?_⟩ <;> simp only [zE, evp, evx, ev1, evLoad, evStore, evBin, Zaa, forall_const, z38, tb, reduceAdd, reduceSub, reduceMul, reduceEqDiff, reduceLeDiff, reduceLT, Nat.reduceBEq, Nat.reduceBNe, ↓reduceIte, reduceIte, spBs, alS, vlA, zI])
    rfl
  intro i hi
  have hm1 := mxI_next (p := p) (i := i)
  repeat' first
    | with_reducible first | apply Zan | apply Zaj | apply Zab | apply Zac | apply Zag | apply Zal | apply Zaf | apply Zah | apply Zam | apply Zao | apply Zak
    | ((with_reducible refine Zap ?_); refine Zai rfl ?_ ?_ <;> intro hb <;> (try simp only [zH] at hb)) | ((with_reducible refine Zaq 4 ?_ ?_); (· exact rfl); (with_reducible refine Zaq 7 ?_ ?_); (· exact rfl); (first | refine Zad htb hmz Zbd fF rfl rfl ?_ | refine Zae hmo htb hmz Zbd fF rfl rfl (by kernel_rfl) ?_); intro _ _ _ _ h; simp only [zE, evp, evx, ev1, evLoad, evStore, evBin, Zaa, forall_const, z38, tb, reduceAdd, reduceSub, reduceMul, reduceEqDiff, reduceLeDiff, reduceLT, Nat.reduceBEq, Nat.reduceBNe, ↓reduceIte, reduceIte, spBs, alS, vlA] at h; obtain ⟨rfl, rfl, rfl, rfl⟩ := h; refine ⟨?_, ?_⟩) | ((with_reducible refine Ob.mk ?_); first | exact trivial | (intros; omega) | ((repeat' first | apply And.intro | (intro a; have b := a; try simp only [zH] at b)) <;> first | assumption | omega | (simp only [zH]; omega)))
  · have hil : i < p.length := by omega
    have hm1 := hm1 hil
    repeat' first
      | with_reducible first | apply Zan | apply Zaj | apply Zab | apply Zac | apply Zag | apply Zal | apply Zaf | apply Zah | apply Zam | apply Zao | apply Zak
      | ((with_reducible refine Zap ?_); refine Zai rfl ?_ ?_ <;> intro hb <;> (try simp only [zH] at hb)) | ((with_reducible refine Zax ?_); (first | refine Zad htb hmz Zbd fF rfl rfl ?_ | refine Zae hmo htb hmz Zbd fF rfl rfl (by kernel_rfl) ?_); intro _ _ _ _ h; simp only [zE, evp, evx, ev1, evLoad, evStore, evBin, Zaa, forall_const, z38, tb, reduceAdd, reduceSub, reduceMul, reduceEqDiff, reduceLeDiff, reduceLT, Nat.reduceBEq, Nat.reduceBNe, ↓reduceIte, reduceIte, spBs, alS, vlA] at h; obtain ⟨rfl, rfl, rfl, rfl⟩ := h; refine ⟨?_, ?_⟩) | ((with_reducible refine Ob.mk ?_); first | exact trivial | (intros; omega) | ((repeat' first | apply And.intro | (intro a; have b := a; try simp only [zH] at b)) <;> first | assumption | omega | (simp only [zH]; omega)))
    refine back (i + 1) [] ?_ (by omega) (by omega)
    (refine ⟨rfl, ?_, ?_⟩ <;> simp only [zE, evp, evx, ev1, evLoad, evStore, evBin, Zaa, forall_const, z38, tb, reduceAdd, reduceSub, reduceMul, reduceEqDiff, reduceLeDiff, reduceLT, Nat.reduceBEq, Nat.reduceBNe, ↓reduceIte, reduceIte, spBs, alS, vlA, zI])
    exact hm1
  have hie : i = p.length := by omega
  subst hie
  have hmp := hmb p.length (Nat.le_refl _)
  rw [List.take_length] at hmp ⊢
  clear hmb hm1
  (refine Zae hmo htb hmz Zbd (fun i => Nat.beq i 4) rfl rfl (by kernel_rfl) ?_; intro _ _ _ _ h; simp only [zE, evp, evx, ev1, evLoad, evStore, evBin, Zaa, forall_const, z38, tb, reduceAdd, reduceSub, reduceMul, reduceEqDiff, reduceLeDiff, reduceLT, Nat.reduceBEq, Nat.reduceBNe, ↓reduceIte, reduceIte, spBs, alS, vlA] at h; obtain ⟨rfl, rfl, rfl, rfl⟩ := h; refine ⟨?_, ?_⟩)
  · first | ((with_reducible refine Ob.mk ?_); first | exact trivial | (intros; omega) | ((repeat' first | apply And.intro | (intro a; have b := a; try simp only [zH] at b)) <;> first | (with_reducible exact True.intro) | assumption | omega | (simp only [zH]; omega))) | skip
  refine Zab ?_
  unfold imB at hR hIm
  clear hmp
  generalize (mxI p + 1).toNat = K at *
  generalize List.replicate K (0 : Int) = sm at *
  generalize alLs o p x pl = al at *
  repeat' first
    | with_reducible first | apply Zan | apply Zaj | apply Zab | apply Zac | apply Zag | apply Zal | apply Zaf | apply Zah | apply Zam | apply Zao | apply Zak
    | ((with_reducible refine Zap ?_); refine Zai rfl ?_ ?_ <;> intro hb <;> (try simp only [zH] at hb)) | ((with_reducible refine Zax ?_); (first | refine Zad htb hmz Zbd fF rfl rfl ?_ | refine Zae hmo htb hmz Zbd fF rfl rfl (by kernel_rfl) ?_); intro _ _ _ _ h; simp only [zE, evp, evx, ev1, evLoad, evStore, evBin, Zaa, forall_const, z38, tb, reduceAdd, reduceSub, reduceMul, reduceEqDiff, reduceLeDiff, reduceLT, Nat.reduceBEq, Nat.reduceBNe, ↓reduceIte, reduceIte, spBs, alS, vlA] at h; obtain ⟨rfl, rfl, rfl, rfl⟩ := h; refine ⟨?_, ?_⟩) | ((with_reducible refine Ob.mk ?_); first | exact trivial | (intros; omega) | ((repeat' first | apply And.intro | (intro a; have b := a; try simp only [zH] at b)) <;> first | (with_reducible exact True.intro) | assumption | omega | (simp only [zH]; omega)))
  have hz : List.replicate o.length 0 = mix (fun _ => (-1 : Int)) (fun _ => 0) o.length 0 := List.ext_getElem (by simp [mix]) fun j h1 h2 => by simp [mix]
  refine Zat (τ := Nat) (fun i => i ≤ o.length) (fun i => ⟨28, [(42, .int .i64 i), (41, .int .i64 o.length), (9, .own 22)], [(20, some (.ints (mix (fun _ => (-1 : Int)) (fun _ => 0) o.length i))), (22, some (.box (.agg (.cons (.roI o) (.cons (.roI p) (.cons (.roII x) (.cons (.int .i64 pl) (.cons (.bool false) (.cons (.bool false) (.cons (.roI sm) (.cons (.roB al) (.cons (.own 20) .nil))))))))))))], []⟩) (fun i => o.length - i) 0 [] ?_ (Nat.zero_le _) ?_
  · (refine ⟨rfl, ?_, ?_⟩ <;> simp only [zE, evp, evx, ev1, evLoad, evStore, evBin, Zaa, forall_const, z38, tb, reduceAdd, reduceSub, reduceMul, reduceEqDiff, reduceLeDiff, reduceLT, Nat.reduceBEq, Nat.reduceBNe, ↓reduceIte, reduceIte, spBs, alS, vlA, zI])
    · simp
    · exact hz
  intro i hi
  have hml : (mix (fun _ => (-1 : Int)) (fun _ => 0) o.length i).length = o.length := Zc5
  have hms := Zcj (f := fun _ => (-1 : Int)) (h := fun _ => 0) (n := o.length) (i := i)
  repeat' first
    | with_reducible first | apply Zan | apply Zaj | apply Zab | apply Zac | apply Zag | apply Zal | apply Zaf | apply Zah | apply Zam | apply Zao | apply Zak
    | ((with_reducible refine Zap ?_); refine Zai rfl ?_ ?_ <;> intro hb <;> (try simp only [zH] at hb)) | ((with_reducible refine Zaq 10 ?_ ?_); (· exact rfl); (with_reducible refine Zaq 13 ?_ ?_); (· exact rfl); (first | refine Zad htb hmz Zbd fF rfl rfl ?_ | refine Zae hmo htb hmz Zbd fF rfl rfl (by kernel_rfl) ?_); intro _ _ _ _ h; simp only [zE, evp, evx, ev1, evLoad, evStore, evBin, Zaa, forall_const, z38, tb, reduceAdd, reduceSub, reduceMul, reduceEqDiff, reduceLeDiff, reduceLT, Nat.reduceBEq, Nat.reduceBNe, ↓reduceIte, reduceIte, spBs, alS, vlA] at h; obtain ⟨rfl, rfl, rfl, rfl⟩ := h; refine ⟨?_, ?_⟩) | ((with_reducible refine Ob.mk ?_); first | exact trivial | (intros; omega) | ((repeat' first | apply And.intro | (intro a; have b := a; try simp only [zH] at b)) <;> first | (with_reducible exact True.intro) | assumption | omega | (simp only [zH]; omega)))
  · repeat' first
      | with_reducible first | apply Zan | apply Zaj | apply Zab | apply Zac | apply Zag | apply Zal | apply Zaf | apply Zah | apply Zam | apply Zao | apply Zak
      | ((with_reducible refine Zap ?_); refine Zai rfl ?_ ?_ <;> intro hb <;> (try simp only [zH] at hb)) | ((with_reducible refine Zax ?_); (first | refine Zad htb hmz Zbd fF rfl rfl ?_ | refine Zae hmo htb hmz Zbd fF rfl rfl (by kernel_rfl) ?_); intro _ _ _ _ h; simp only [zE, evp, evx, ev1, evLoad, evStore, evBin, Zaa, forall_const, z38, tb, reduceAdd, reduceSub, reduceMul, reduceEqDiff, reduceLeDiff, reduceLT, Nat.reduceBEq, Nat.reduceBNe, ↓reduceIte, reduceIte, spBs, alS, vlA] at h; obtain ⟨rfl, rfl, rfl, rfl⟩ := h; refine ⟨?_, ?_⟩) | ((with_reducible refine Ob.mk ?_); first | exact trivial | (intros; omega) | ((repeat' first | apply And.intro | (intro a; have b := a; try simp only [zH] at b)) <;> first | (with_reducible exact True.intro) | assumption | omega | (simp only [zH]; omega)))
    refine back (i + 1) [] ?_ (by omega) (by omega)
    (refine ⟨rfl, ?_, ?_⟩ <;> simp only [zE, evp, evx, ev1, evLoad, evStore, evBin, Zaa, forall_const, z38, tb, reduceAdd, reduceSub, reduceMul, reduceEqDiff, reduceLeDiff, reduceLT, Nat.reduceBEq, Nat.reduceBNe, ↓reduceIte, reduceIte, spBs, alS, vlA, zI])
    exact hms
  have hie : i = o.length := by omega
  subst hie
  have hall : (List.range o.length).map (fun _ => (-1 : Int)) = List.replicate o.length (-1) := List.ext_getElem (by simp) fun j h1 h2 => by simp
  rw [Zck, hall]
  clear hall hz hms hml
  have hc0 : (List.replicate o.length (-1 : Int)).length = o.length := List.length_replicate ..
  have hc1 : ∀ v, v < o.length → (List.replicate o.length (-1 : Int)).getD v 0 < o.length := fun v hv => by
    have : (List.replicate o.length (-1 : Int)).getD v 0 = -1 := by
      simp [List.getD_eq_getElem?_getD, hv]
    omega
  generalize List.replicate o.length (-1 : Int) = ch at *
  have hV := (Zim hR).1
  refine Zcy ([_]) ([_]) rfl rfl ?_
  refine Zay htb hmz Zbd fF rfl rfl rfl ?_; intro _ _ _ _ h; simp only [zE, evp, evx, ev1, evLoad, evStore, evBin, Zaa, forall_const, z38, tb, reduceAdd, reduceSub, reduceMul, reduceEqDiff, reduceLeDiff, reduceLT, Nat.reduceBEq, Nat.reduceBNe, ↓reduceIte, reduceIte, spBs, alS, vlA] at h; obtain ⟨rfl, rfl, rfl, rfl⟩ := h; refine ⟨?_, Zab ?_⟩
  · first | ((with_reducible refine Ob.mk ?_); first | exact trivial | (intros; omega) | ((repeat' first | apply And.intro | (intro a; have b := a; try simp only [zH] at b)) <;> first | (with_reducible exact True.intro) | assumption | omega | (simp only [zH]; omega))) | skip
  refine Zbg ([20]) (values_fg (o := o) (p := p) (x := x) (pl := pl) (st := ⟨false, false, sm⟩) (ls := al) (ch := ch) (K := K) (k := k) hIm hc0 hc1 hV) rfl rfl rfl rfl rfl rfl rfl rfl rfl (by simp only [rinR, rhoC, zE, evp, evx, ev1, evLoad, evStore, evBin, Zaa, forall_const, z38, tb, reduceAdd, reduceSub, reduceMul, reduceEqDiff, reduceLeDiff, reduceLT, Nat.reduceBEq, Nat.reduceBNe, ↓reduceIte, reduceIte, spBs, alS, vlA]) ?_; intro gm gv gr hq m' e' l' h; simp only [GR.mk.injEq] at hq; obtain ⟨rfl, rfl, rfl⟩ := hq; simp only [rhoC, outR, renR, dels, zE, evp, evx, ev1, evLoad, evStore, evBin, Zaa, forall_const, z38, tb, reduceAdd, reduceSub, reduceMul, reduceEqDiff, reduceLeDiff, reduceLT, Nat.reduceBEq, Nat.reduceBNe, ↓reduceIte, reduceIte, spBs, alS, vlA] at h; obtain ⟨rfl, rfl, rfl⟩ := h; refine Zab ?_
  refine Zay htb hmz Zbd fF rfl rfl rfl ?_; intro _ _ _ _ h; simp only [zE, evp, evx, ev1, evLoad, evStore, evBin, Zaa, forall_const, z38, tb, reduceAdd, reduceSub, reduceMul, reduceEqDiff, reduceLeDiff, reduceLT, Nat.reduceBEq, Nat.reduceBNe, ↓reduceIte, reduceIte, spBs, alS, vlA] at h; obtain ⟨rfl, rfl, rfl, rfl⟩ := h; refine ⟨?_, ?_⟩
  · first | ((with_reducible refine Ob.mk ?_); first | exact trivial | (intros; omega) | ((repeat' first | apply And.intro | (intro a; have b := a; try simp only [zH] at b)) <;> first | (with_reducible exact True.intro) | assumption | omega | (simp only [zH]; omega))) | skip
  refine Zab ?_
  have hD0 : 0 ≤ (20001 : Int) * (o.length : Int) := Int.mul_nonneg (by decide) (by omega)
  have hvok : ∀ (ch : List Int) (k : Nat), (∀ v, v < o.length → ch.getD v 0 < o.length) → k ≤ 20001 → ∀ u, u < o.length → VOK K (20001 * (o.length : Int)) (vIt ⟨o, p, x, pl, ⟨false, false, sm⟩, al⟩ ch k u) := fun ch k hc hk u hu => Zcf (Zky hIm hc (k := k) u hu) (Int.mul_le_mul_of_nonneg_right (by omega) (by show (0 : Int) ≤ (o.length : Int); omega))
  have hbl := fun l ch => @Zd7 ⟨o, p, x, pl, ⟨false, false, sm⟩, al⟩ l ch o.length
  have hblt := fun (l : Nat → Vl) (ch : List Int) (hcl : ch.length = o.length) (hc1 : ∀ v, v < o.length → ch.getD v 0 < o.length) => Zil (h := ⟨o, p, x, pl, ⟨false, false, sm⟩, al⟩) (l := l) (ch := ch) (n := o.length) (fun v w hw hv => by
    obtain ⟨j, hj, rfl⟩ := Zc0 hw
    exact ((hIm.row v (by show v < o.length; omega)).2 j hj).2) (i := o.length) (by omega) (fun v hv => hc1 v (by omega))
  repeat' first
    | with_reducible first | apply Zan | apply Zaj | apply Zab | apply Zac | apply Zag | apply Zal | apply Zaf | apply Zah | apply Zam | apply Zao | apply Zak
    | ((with_reducible refine Zap ?_); refine Zai rfl ?_ ?_ <;> intro hb <;> (try simp only [zH] at hb)) | ((with_reducible refine Zaq 14 ?_ ?_); (· exact rfl); (first | refine Zad htb hmz Zbd fF rfl rfl ?_ | refine Zae hmo htb hmz Zbd fF rfl rfl (by kernel_rfl) ?_); intro _ _ _ _ h; simp only [zE, evp, evx, ev1, evLoad, evStore, evBin, Zaa, forall_const, z38, tb, reduceAdd, reduceSub, reduceMul, reduceEqDiff, reduceLeDiff, reduceLT, Nat.reduceBEq, Nat.reduceBNe, ↓reduceIte, reduceIte, spBs, alS, vlA] at h; obtain ⟨rfl, rfl, rfl, rfl⟩ := h; refine ⟨?_, ?_⟩) | ((with_reducible refine Ob.mk ?_); first | exact trivial | (intros; omega) | ((repeat' first | apply And.intro | (intro a; have b := a; try simp only [zH] at b)) <;> first | (with_reducible exact True.intro) | assumption | omega | (simp only [zH]; omega)))
  refine Zat (τ := BsS) (fun s => BRun ⟨o, p, x, pl, ⟨false, false, sm⟩, al⟩ s.r s.ch s.k L C ∧ s.ch.length = o.length ∧ ∀ v, v < o.length → s.ch.getD v 0 < o.length) (fun s => ⟨31, [(11, .own 30), (9, .own 22)], [(20, some (.ints s.ch)), (30, some (.avs 3 o.length fun j => vlA (vIt ⟨o, p, x, pl, ⟨false, false, sm⟩, al⟩ s.ch s.k j))), (22, some (.box (.agg (.cons (.roI o) (.cons (.roI p) (.cons (.roII x) (.cons (.int .i64 pl) (.cons (.bool false) (.cons (.bool false) (.cons (.roI sm) (.cons (.roB al) (.cons (.own 20) .nil))))))))))))], []⟩) (fun s => s.r) ⟨R, ch, k⟩ [] ?_ ⟨hR, hc0, hc1⟩ ?_
  · (refine ⟨rfl, ?_, ?_⟩ <;> simp only [zE, evp, evx, ev1, evLoad, evStore, evBin, Zaa, forall_const, z38, tb, reduceAdd, reduceSub, reduceMul, reduceEqDiff, reduceLeDiff, reduceLT, Nat.reduceBEq, Nat.reduceBNe, ↓reduceIte, reduceIte, spBs, alS, vlA, zI])
  clear hR hc0 hc1 hV
  clear ch k
  rintro ⟨r, ch, k⟩ ⟨hR, hc0, hc1⟩
  dsimp only at hR hc0 hc1 ⊢
  obtain ⟨hV, hBR⟩ := Zim hR
  have hvk := hvok ch k hc1 hV.1
  repeat' first
    | with_reducible first | apply Zan | apply Zaj | apply Zab | apply Zac | apply Zag | apply Zal | apply Zaf | apply Zah | apply Zam | apply Zao | apply Zak
    | ((with_reducible refine Zap ?_); refine Zai rfl ?_ ?_ <;> intro hb <;> (try simp only [zH] at hb)) | ((with_reducible refine Zaq 14 ?_ ?_); (· exact rfl); (first | refine Zad htb hmz Zbd fF rfl rfl ?_ | refine Zae hmo htb hmz Zbd fF rfl rfl (by kernel_rfl) ?_); intro _ _ _ _ h; simp only [zE, evp, evx, ev1, evLoad, evStore, evBin, Zaa, forall_const, z38, tb, reduceAdd, reduceSub, reduceMul, reduceEqDiff, reduceLeDiff, reduceLT, Nat.reduceBEq, Nat.reduceBNe, ↓reduceIte, reduceIte, spBs, alS, vlA] at h; obtain ⟨rfl, rfl, rfl, rfl⟩ := h; refine ⟨?_, ?_⟩) | ((with_reducible refine Ob.mk ?_); first | exact trivial | (intros; omega) | ((repeat' first | apply And.intro | (intro a; have b := a; try simp only [zH] at b)) <;> first | (with_reducible exact True.intro) | assumption | omega | (simp only [zH]; omega)))
  refine Zcy ([_, _]) ([]) rfl rfl ?_
  refine Zay htb hmz Zbd fF rfl rfl rfl ?_; intro _ _ _ _ h; simp only [zE, evp, evx, ev1, evLoad, evStore, evBin, Zaa, forall_const, z38, tb, reduceAdd, reduceSub, reduceMul, reduceEqDiff, reduceLeDiff, reduceLT, Nat.reduceBEq, Nat.reduceBNe, ↓reduceIte, reduceIte, spBs, alS, vlA] at h; obtain ⟨rfl, rfl, rfl, rfl⟩ := h; refine ⟨?_, Zab ?_⟩
  · first | ((with_reducible refine Ob.mk ?_); first | exact trivial | (intros; omega) | ((repeat' first | apply And.intro | (intro a; have b := a; try simp only [zH] at b)) <;> first | (with_reducible exact True.intro) | assumption | omega | (simp only [zH]; omega))) | skip
  refine Zbg ([30, 20]) (better_fg (o := o) (p := p) (x := x) (pl := pl) (st := ⟨false, false, sm⟩) (ls := al) (ch := ch) (K := K) hIm hD0 hc0 hc1 hvk) rfl rfl rfl rfl rfl rfl rfl rfl rfl (by simp only [rinR, rhoC, zE, evp, evx, ev1, evLoad, evStore, evBin, Zaa, forall_const, z38, tb, reduceAdd, reduceSub, reduceMul, reduceEqDiff, reduceLeDiff, reduceLT, Nat.reduceBEq, Nat.reduceBNe, ↓reduceIte, reduceIte, spBs, alS, vlA]) ?_; intro gm gv gr hq m' e' l' h; simp only [GR.mk.injEq] at hq; obtain ⟨rfl, rfl, rfl⟩ := hq; simp only [rhoC, outR, renR, dels, zE, evp, evx, ev1, evLoad, evStore, evBin, Zaa, forall_const, z38, tb, reduceAdd, reduceSub, reduceMul, reduceEqDiff, reduceLeDiff, reduceLT, Nat.reduceBEq, Nat.reduceBNe, ↓reduceIte, reduceIte, spBs, alS, vlA] at h; obtain ⟨rfl, rfl, rfl⟩ := h; refine Zab ?_
  refine awpL_nil ?_
  have hnl := hbl (vIt ⟨o, p, x, pl, ⟨false, false, sm⟩, al⟩ ch k) ch
  have hnt := hblt (vIt ⟨o, p, x, pl, ⟨false, false, sm⟩, al⟩ ch k) ch hc0 hc1
  have hbe : Ze0 ⟨o, p, x, pl, ⟨false, false, sm⟩, al⟩ (vIt ⟨o, p, x, pl, ⟨false, false, sm⟩, al⟩ ch k) ch o.length = bNx ⟨o, p, x, pl, ⟨false, false, sm⟩, al⟩ ch k := rfl
  rw [hbe] at hnl hnt ⊢
  repeat' first
    | with_reducible first | apply Zan | apply Zaj | apply Zab | apply Zac | apply Zag | apply Zal | apply Zaf | apply Zah | apply Zam | apply Zao | apply Zak
    | ((with_reducible refine Zap ?_); refine Zai rfl ?_ ?_ <;> intro hb <;> (try simp only [zH] at hb)) | ((with_reducible refine Zaq 15 ?_ ?_); (· exact rfl); (with_reducible refine Zaq 16 ?_ ?_); (· exact rfl); (first | refine Zad htb hmz Zbd fF rfl rfl ?_ | refine Zae hmo htb hmz Zbd fF rfl rfl (by kernel_rfl) ?_); intro _ _ _ _ h; simp only [zE, evp, evx, ev1, evLoad, evStore, evBin, Zaa, forall_const, z38, tb, reduceAdd, reduceSub, reduceMul, reduceEqDiff, reduceLeDiff, reduceLT, Nat.reduceBEq, Nat.reduceBNe, ↓reduceIte, reduceIte, spBs, alS, vlA] at h; obtain ⟨rfl, rfl, rfl, rfl⟩ := h; refine ⟨?_, ?_⟩) | ((with_reducible refine Ob.mk ?_); first | exact trivial | (intros; omega) | ((repeat' first | apply And.intro | (intro a; have b := a; try simp only [zH] at b)) <;> first | (with_reducible exact True.intro) | assumption | omega | (simp only [zH]; omega)))
  · rcases hBR with ⟨h1, h2, h3⟩ | ⟨r', k', h1, h2, h3⟩
    · rw [h1] at hb; cases hb
    have hV2 := (Zim h3).1
    subst h1
    generalize (bNx ⟨o, p, x, pl, ⟨false, false, sm⟩, al⟩ ch k).1 = ch2 at *
    have hc2 : ch2.length = o.length := by omega
    have hnt2 : ∀ v, v < o.length → ch2.getD v 0 < o.length := fun v hv => hnt v (by omega)
    refine Zcy ([_]) ([_]) rfl rfl ?_
    refine Zay htb hmz Zbd fF rfl rfl rfl ?_; intro _ _ _ _ h; simp only [zE, evp, evx, ev1, evLoad, evStore, evBin, Zaa, forall_const, z38, tb, reduceAdd, reduceSub, reduceMul, reduceEqDiff, reduceLeDiff, reduceLT, Nat.reduceBEq, Nat.reduceBNe, ↓reduceIte, reduceIte, spBs, alS, vlA] at h; obtain ⟨rfl, rfl, rfl, rfl⟩ := h; refine ⟨?_, Zab ?_⟩
    · first | ((with_reducible refine Ob.mk ?_); first | exact trivial | (intros; omega) | ((repeat' first | apply And.intro | (intro a; have b := a; try simp only [zH] at b)) <;> first | (with_reducible exact True.intro) | assumption | omega | (simp only [zH]; omega))) | skip
    refine Zbg ([20]) (values_fg (o := o) (p := p) (x := x) (pl := pl) (st := ⟨false, false, sm⟩) (ls := al) (ch := ch2) (K := K) (k := k') hIm hc2 hnt2 hV2) rfl rfl rfl rfl rfl rfl rfl rfl rfl (by simp only [rinR, rhoC, zE, evp, evx, ev1, evLoad, evStore, evBin, Zaa, forall_const, z38, tb, reduceAdd, reduceSub, reduceMul, reduceEqDiff, reduceLeDiff, reduceLT, Nat.reduceBEq, Nat.reduceBNe, ↓reduceIte, reduceIte, spBs, alS, vlA]) ?_; intro gm gv gr hq m' e' l' h; simp only [GR.mk.injEq] at hq; obtain ⟨rfl, rfl, rfl⟩ := hq; simp only [rhoC, outR, renR, dels, zE, evp, evx, ev1, evLoad, evStore, evBin, Zaa, forall_const, z38, tb, reduceAdd, reduceSub, reduceMul, reduceEqDiff, reduceLeDiff, reduceLT, Nat.reduceBEq, Nat.reduceBNe, ↓reduceIte, reduceIte, spBs, alS, vlA] at h; obtain ⟨rfl, rfl, rfl⟩ := h; refine Zab ?_
    refine Zay htb hmz Zbd fF rfl rfl rfl ?_; intro _ _ _ _ h; simp only [zE, evp, evx, ev1, evLoad, evStore, evBin, Zaa, forall_const, z38, tb, reduceAdd, reduceSub, reduceMul, reduceEqDiff, reduceLeDiff, reduceLT, Nat.reduceBEq, Nat.reduceBNe, ↓reduceIte, reduceIte, spBs, alS, vlA] at h; obtain ⟨rfl, rfl, rfl, rfl⟩ := h; refine ⟨?_, ?_⟩
    · first | ((with_reducible refine Ob.mk ?_); first | exact trivial | (intros; omega) | ((repeat' first | apply And.intro | (intro a; have b := a; try simp only [zH] at b)) <;> first | (with_reducible exact True.intro) | assumption | omega | (simp only [zH]; omega))) | skip
    repeat' first | with_reducible refine Zac ?_ | with_reducible refine Zab ?_
    refine back ⟨r', ch2, k'⟩ [(30, 34)] ?_ ⟨h3, hc2, hnt2⟩ (by dsimp only; omega)
    (refine ⟨rfl, ?_, ?_⟩ <;> simp only [zE, evp, evx, ev1, evLoad, evStore, evBin, Zaa, forall_const, z38, tb, reduceAdd, reduceSub, reduceMul, reduceEqDiff, reduceLeDiff, reduceLT, Nat.reduceBEq, Nat.reduceBNe, ↓reduceIte, reduceIte, spBs, alS, vlA, zI])
  · rcases hBR with ⟨h1, h2, h3⟩ | ⟨r', k', h1, h2, h3⟩
    · rw [← h2, ← h3]
      repeat' first
        | with_reducible first | apply Zan | apply Zaj | apply Zab | apply Zac | apply Zag | apply Zal | apply Zaf | apply Zah | apply Zam | apply Zao | apply Zak
        | ((with_reducible refine Zap ?_); refine Zai rfl ?_ ?_ <;> intro hb <;> (try simp only [zH] at hb)) | ((with_reducible refine Zax ?_); (first | refine Zad htb hmz Zbd fF rfl rfl ?_ | refine Zae hmo htb hmz Zbd fF rfl rfl (by kernel_rfl) ?_); intro _ _ _ _ h; simp only [zE, evp, evx, ev1, evLoad, evStore, evBin, Zaa, forall_const, z38, tb, reduceAdd, reduceSub, reduceMul, reduceEqDiff, reduceLeDiff, reduceLT, Nat.reduceBEq, Nat.reduceBNe, ↓reduceIte, reduceIte, spBs, alS, vlA] at h; obtain ⟨rfl, rfl, rfl, rfl⟩ := h; refine ⟨?_, ?_⟩) | ((with_reducible refine Ob.mk ?_); first | exact trivial | (intros; omega) | ((repeat' first | apply And.intro | (intro a; have b := a; try simp only [zH] at b)) <;> first | (with_reducible exact True.intro) | assumption | omega | (simp only [zH]; omega)))
      have hz : List.replicate o.length false = mix (fun v => (L v).e) (fun _ => false) o.length 0 := List.ext_getElem (by simp [mix]) fun j h1 h2 => by simp [mix]
      refine Zat (τ := Nat) (fun i => i ≤ o.length) (fun i => ⟨40, [(62, .int .i64 i), (61, .int .i64 o.length), (12, .own 35), (11, .own 30), (9, .own 22)], [(30, some (.avs 3 o.length fun j => vlA (L j))), (20, some (.ints C)), (22, some (.box (.agg (.cons (.roI o) (.cons (.roI p) (.cons (.roII x) (.cons (.int .i64 pl) (.cons (.bool false) (.cons (.bool false) (.cons (.roI sm) (.cons (.roB al) (.cons (.own 20) .nil)))))))))))), (35, some (.bools (mix (fun v => (L v).e) (fun _ => false) o.length i)))], []⟩) (fun i => o.length - i) 0 [] ?_ (Nat.zero_le _) ?_
      · (refine ⟨rfl, ?_, ?_⟩ <;> simp only [zE, evp, evx, ev1, evLoad, evStore, evBin, Zaa, forall_const, z38, tb, reduceAdd, reduceSub, reduceMul, reduceEqDiff, reduceLeDiff, reduceLT, Nat.reduceBEq, Nat.reduceBNe, ↓reduceIte, reduceIte, spBs, alS, vlA, zI])
        · simp
        · exact hz
      intro i hi
      have hml : (mix (fun v => (L v).e) (fun _ => false) o.length i).length = o.length := Zc5
      have hms := Zcj (f := fun v => (L v).e) (h := fun _ => false) (n := o.length) (i := i)
      clear h2 h3
      repeat' first
        | with_reducible first | apply Zan | apply Zaj | apply Zab | apply Zac | apply Zag | apply Zal | apply Zaf | apply Zah | apply Zam | apply Zao | apply Zak
        | ((with_reducible refine Zap ?_); refine Zai rfl ?_ ?_ <;> intro hb <;> (try simp only [zH] at hb)) | ((with_reducible refine Zaq 19 ?_ ?_); (· exact rfl); (with_reducible refine Zaq 22 ?_ ?_); (· exact rfl); (first | refine Zad htb hmz Zbd fF rfl rfl ?_ | refine Zae hmo htb hmz Zbd fF rfl rfl (by kernel_rfl) ?_); intro _ _ _ _ h; simp only [zE, evp, evx, ev1, evLoad, evStore, evBin, Zaa, forall_const, z38, tb, reduceAdd, reduceSub, reduceMul, reduceEqDiff, reduceLeDiff, reduceLT, Nat.reduceBEq, Nat.reduceBNe, ↓reduceIte, reduceIte, spBs, alS, vlA] at h; obtain ⟨rfl, rfl, rfl, rfl⟩ := h; refine ⟨?_, ?_⟩) | ((with_reducible refine Ob.mk ?_); first | exact trivial | (intros; omega) | ((repeat' first | apply And.intro | (intro a; have b := a; try simp only [zH] at b)) <;> first | (with_reducible exact True.intro) | assumption | omega | (simp only [zH]; omega)))
      · repeat' first
          | with_reducible first | apply Zan | apply Zaj | apply Zab | apply Zac | apply Zag | apply Zal | apply Zaf | apply Zah | apply Zam | apply Zao | apply Zak
          | ((with_reducible refine Zap ?_); refine Zai rfl ?_ ?_ <;> intro hb <;> (try simp only [zH] at hb)) | ((with_reducible refine Zax ?_); (first | refine Zad htb hmz Zbd fF rfl rfl ?_ | refine Zae hmo htb hmz Zbd fF rfl rfl (by kernel_rfl) ?_); intro _ _ _ _ h; simp only [zE, evp, evx, ev1, evLoad, evStore, evBin, Zaa, forall_const, z38, tb, reduceAdd, reduceSub, reduceMul, reduceEqDiff, reduceLeDiff, reduceLT, Nat.reduceBEq, Nat.reduceBNe, ↓reduceIte, reduceIte, spBs, alS, vlA] at h; obtain ⟨rfl, rfl, rfl, rfl⟩ := h; refine ⟨?_, ?_⟩) | ((with_reducible refine Ob.mk ?_); first | exact trivial | (intros; omega) | ((repeat' first | apply And.intro | (intro a; have b := a; try simp only [zH] at b)) <;> first | (with_reducible exact True.intro) | assumption | omega | (simp only [zH]; omega)))
        refine back (i + 1) [] ?_ (by omega) (by omega)
        (refine ⟨rfl, ?_, ?_⟩ <;> simp only [zE, evp, evx, ev1, evLoad, evStore, evBin, Zaa, forall_const, z38, tb, reduceAdd, reduceSub, reduceMul, reduceEqDiff, reduceLeDiff, reduceLT, Nat.reduceBEq, Nat.reduceBNe, ↓reduceIte, reduceIte, spBs, alS, vlA, zI])
        exact hms
      have hie : i = o.length := by omega
      subst hie
      rw [Zck]
      refine Zbi 35 (.roB ((List.range o.length).map fun v => (L v).e)) (by simp only [Zar, Zaw, fzE, fzA, fzR, fzB, set1, nbeq, reduceEqDiff, decide_true, decide_false, ↓reduceIte, reduceIte, cond_true, cond_false, List.take_length, Option.some.injEq]; rfl) (by first | exact rfl | (refine ⟨?_, rfl⟩; first | rfl | (intros; rfl))) (by simp only [Zar, Zaw, fzE, fzA, fzR, fzB, set1, nbeq, reduceEqDiff, decide_true, decide_false, ↓reduceIte, reduceIte, cond_true, cond_false, List.take_length, Option.some.injEq]; rfl) (by simp only [Zar, Zaw, fzE, fzA, fzR, fzB, set1, nbeq, reduceEqDiff, decide_true, decide_false, ↓reduceIte, reduceIte, cond_true, cond_false, List.take_length, Option.some.injEq]; rfl) ?_
      refine Zbi 20 (.roI C) (by simp only [Zar, Zaw, fzE, fzA, fzR, fzB, set1, nbeq, reduceEqDiff, decide_true, decide_false, ↓reduceIte, reduceIte, cond_true, cond_false, List.take_length, Option.some.injEq]; rfl) (by first | exact rfl | (refine ⟨?_, rfl⟩; first | rfl | (intros; rfl))) (by simp only [Zar, Zaw, fzE, fzA, fzR, fzB, set1, nbeq, reduceEqDiff, decide_true, decide_false, ↓reduceIte, reduceIte, cond_true, cond_false, List.take_length, Option.some.injEq]; rfl) (by simp only [Zar, Zaw, fzE, fzA, fzR, fzB, set1, nbeq, reduceEqDiff, decide_true, decide_false, ↓reduceIte, reduceIte, cond_true, cond_false, List.take_length, Option.some.injEq]; rfl) ?_
      repeat' first
        | with_reducible first | apply Zan | apply Zaj | apply Zab | apply Zac | apply Zag | apply Zal | apply Zaf | apply Zah | apply Zam | apply Zao | apply Zak
        | ((with_reducible refine Zap ?_); refine Zai rfl ?_ ?_ <;> intro hb <;> (try simp only [zH] at hb)) | ((with_reducible refine Zax ?_); (first | refine Zad htb hmz Zbd fF rfl rfl ?_ | refine Zae hmo htb hmz Zbd fF rfl rfl (by kernel_rfl) ?_); intro _ _ _ _ h; simp only [zE, evp, evx, ev1, evLoad, evStore, evBin, Zaa, forall_const, z38, tb, reduceAdd, reduceSub, reduceMul, reduceEqDiff, reduceLeDiff, reduceLT, Nat.reduceBEq, Nat.reduceBNe, ↓reduceIte, reduceIte, spBs, alS, vlA] at h; obtain ⟨rfl, rfl, rfl, rfl⟩ := h; refine ⟨?_, ?_⟩) | ((with_reducible refine Ob.mk ?_); first | exact trivial | (intros; omega) | ((repeat' first | apply And.intro | (intro a; have b := a; try simp only [zH] at b)) <;> first | (with_reducible exact True.intro) | assumption | omega | (simp only [zH]; omega)))
      refine Zav rfl rfl (Zee (⟨0, .tup (.cons (.roB ((List.range o.length).map fun v => (L v).e)) (.cons (.roI C) .nil)), []⟩) ([]) rfl rfl (Zcb rfl) ?_)
      simp only [grR, zE, evp, evx, ev1, evLoad, evStore, evBin, Zaa, forall_const, z38, tb, reduceAdd, reduceSub, reduceMul, reduceEqDiff, reduceLeDiff, reduceLT, Nat.reduceBEq, Nat.reduceBNe, ↓reduceIte, reduceIte, spBs, alS, vlA]
    · rw [h2] at hb; cases hb
section
open Pl
def sg (pl : Int) (p : Nat) : Int := if (p : Int) % 2 = pl then 1 else -1
def enF (pl B : Int) (f : Nat → Int) : Nat → Int
  | 0 => 0
  | k + 1 => enF pl B f k + sg pl k * f k * B ^ k
variable {pl B : Int}
theorem sg_or (p : Nat) : sg pl p = 1 ∨ sg pl p = -1 := by
  unfold sg
  split
  · exact .inl rfl
  · exact .inr rfl
theorem Zfq {f h : Nat → Int} : ∀ {k : Nat}, (∀ q, q < k → f q = h q) → enF pl B f k = enF pl B h k
  | 0, _ => rfl
  | k + 1, H => by rw [enF, enF, Zfq (k := k) fun q hq => H q (by omega), H k (by omega)]
theorem Zif {f h : Nat → Int} : ∀ {k : Nat}, enF pl B (fun q => f q - h q) k = enF pl B f k - enF pl B h k
  | 0 => rfl
  | k + 1 => by
    rw [enF, enF, enF, Zif (k := k), Int.mul_sub, Int.sub_mul]
    omega
theorem Zgm : ∀ {k : Nat}, enF pl B (fun _ => 0) k = 0
  | 0 => rfl
  | k + 1 => by rw [enF, Zgm (k := k), Int.mul_zero, Int.zero_mul]; rfl
theorem powB (hB : 1 ≤ B) : ∀ (k : Nat), 1 ≤ B ^ k
  | 0 => by rw [Int.pow_zero]; exact Int.le_refl 1
  | k + 1 => by
    have := powB hB k
    rw [Int.pow_succ]
    have := Int.mul_le_mul this hB (by decide) (by omega)
    omega
theorem Ziq {D : Int} (hD : 0 ≤ D) (hB : D + 1 ≤ B) {f : Nat → Int} : ∀ {k : Nat}, (∀ q, q < k → -D ≤ f q ∧ f q ≤ D) → -(B ^ k - 1) ≤ enF pl B f k ∧ enF pl B f k ≤ B ^ k - 1
  | 0, _ => by
    have e : enF pl B f 0 = 0 := rfl
    rw [e, Int.pow_zero]; exact ⟨Int.le_refl _, Int.le_refl _⟩
  | k + 1, H => by
    obtain ⟨h1, h2⟩ := Ziq hD hB (k := k) fun q hq => H q (by omega)
    obtain ⟨h3, h4⟩ := H k (by omega)
    have hP := powB (show 1 ≤ B by omega) k
    rw [enF, Int.pow_succ]
    have hD1 : D * B ^ k ≤ (B - 1) * B ^ k := Int.mul_le_mul_of_nonneg_right (by omega) (by omega)
    have h5 : f k * B ^ k ≤ D * B ^ k := Int.mul_le_mul_of_nonneg_right h4 (by omega)
    have h6 : -D * B ^ k ≤ f k * B ^ k := Int.mul_le_mul_of_nonneg_right h3 (by omega)
    rw [Int.sub_mul, Int.one_mul] at hD1
    rw [Int.neg_mul] at h6
    rw [Int.mul_comm (B ^ k) B]
    rcases sg_or (pl := pl) k with e | e
    · rw [e, Int.one_mul]; omega
    · rw [e, Int.neg_mul, Int.one_mul, Int.neg_mul]; omega
theorem Zjb {D : Int} (hD : 0 ≤ D) (hB : D + 1 ≤ B) {f : Nat → Int} {p : Nat} (hf : ∀ q, q < p → -D ≤ f q ∧ f q ≤ D) : ∀ {k : Nat}, p < k → (∀ q, p < q → q < k → f q = 0) → (1 ≤ sg pl p * f p → 1 ≤ enF pl B f k) ∧ (sg pl p * f p ≤ -1 → enF pl B f k ≤ -1)
  | 0, h, _ => absurd h (Nat.not_lt_zero _)
  | k + 1, h, H => by
    rcases Nat.lt_succ_iff_lt_or_eq.1 h with h1 | rfl
    · have := Zjb hD hB hf (k := k) h1 (fun q hq hq2 => H q hq (by omega))
      rw [enF, H k h1 (Nat.lt_succ_self _), Int.mul_zero, Int.zero_mul, Int.add_zero]
      exact this
    · obtain ⟨h1, h2⟩ := Ziq hD hB hf (pl := pl)
      have hP := powB (show 1 ≤ B by omega) p
      rw [enF]
      refine ⟨fun h3 => ?_, fun h3 => ?_⟩
      · have := Int.mul_le_mul_of_nonneg_right h3 (show 0 ≤ B ^ p by omega)
        rw [Int.one_mul] at this
        omega
      · have := Int.mul_le_mul_of_nonneg_right h3 (show 0 ≤ B ^ p by omega)
        rw [Int.neg_mul, Int.one_mul] at this
        omega
def hiF (pl B : Int) (f : Nat → Int) (p : Nat) : Nat → Int
  | 0 => 0
  | k + 1 => hiF pl B f p k + sg pl (p + k) * f (p + k) * B ^ k
theorem Zg7 {f : Nat → Int} {p : Nat} : ∀ {k : Nat}, enF pl B f (p + k) = enF pl B f p + B ^ p * hiF pl B f p k
  | 0 => by rw [hiF, Int.mul_zero, Int.add_zero]; rfl
  | k + 1 => by
    rw [← Nat.add_assoc, enF, Zg7 (k := k), hiF, Int.mul_add, Int.add_assoc, Int.pow_add, ← Int.mul_assoc, ← Int.mul_assoc]
    congr 2
    rw [Int.mul_right_comm, Int.mul_comm _ (B ^ p), ← Int.mul_assoc]
def wtP (pl B : Int) (p : Nat) : Int := sg pl p * B ^ p
theorem Zjp {p : Nat} : ∀ {k : Nat}, p < k → enF pl B (fun q => if q = p then 1 else 0) k = wtP pl B p
  | 0, h => absurd h (Nat.not_lt_zero _)
  | k + 1, h => by
    rw [enF]
    rcases Nat.lt_succ_iff_lt_or_eq.1 h with h1 | rfl
    · rw [Zjp h1, if_neg (by omega), Int.mul_zero, Int.zero_mul, Int.add_zero]
    · rw [if_pos rfl, Int.mul_one, Zfq (h := fun _ => 0) (fun q hq => if_neg (by omega)), Zgm, Int.zero_add]; rfl
theorem Zig {f h : Nat → Int} : ∀ {k : Nat}, enF pl B (fun q => f q + h q) k = enF pl B f k + enF pl B h k
  | 0 => rfl
  | k + 1 => by
    rw [enF, enF, enF, Zig (k := k), Int.mul_add, Int.add_mul]
    omega
theorem hi_step {D : Int} (hD : 0 ≤ D) (hB : 2 * D + 2 ≤ B) {f h : Nat → Int} (hf : ∀ q, 0 ≤ f q ∧ f q ≤ D) (hh : ∀ q, 0 ≤ h q ∧ h q ≤ D) {p q k : Nat} (hq : q ≤ p) (hk : 0 < k) (hle : enF pl B f (p + k) ≤ enF pl B h (p + k) + wtP pl B q) (hs : sg pl p = -1) :
    hiF pl B f p k + (if q = p then 1 else 0) ≤ hiF pl B h p k := by
  have hP := powB (show 1 ≤ B by omega) p
  have key : ∀ {a b c : Int}, B ^ p * a ≤ B ^ p * b + c → c ≤ B ^ p - 1 → a ≤ b := fun {a b c} h1 h2 => by
    refine Int.le_of_lt_add_one (Int.lt_of_mul_lt_mul_left (a := B ^ p) ?_ (by omega))
    rw [Int.mul_add, Int.mul_one]
    omega
  rw [Zg7, Zg7] at hle
  by_cases e : q = p
  · subst e
    rw [if_pos rfl]
    have e1 : wtP pl B q = -(B ^ q) := by unfold wtP; rw [hs, Int.neg_mul, Int.one_mul]
    rw [e1] at hle
    have hd := Ziq (pl := pl) (B := B) (D := D) hD (by omega) (f := fun x => h x - f x) (k := q) fun x _ => by have := hf x; have := hh x; omega
    rw [Zif] at hd
    refine key (c := enF pl B h q - enF pl B f q) ?_ hd.2
    rw [Int.mul_add, Int.mul_one]
    omega
  · rw [if_neg e, Int.add_zero]
    have hqp : q < p := by omega
    have hd := Ziq (pl := pl) (B := B) (D := D + 1) (by omega) (by omega) (f := fun x => (h x - f x) + (if x = q then 1 else 0)) (k := p) fun x _ => by
      have := hf x
      have := hh x
      split <;> omega
    rw [Zig, Zif, Zjp hqp] at hd
    refine key (c := enF pl B h p - enF pl B f p + wtP pl B q) ?_ hd.2
    omega
end
section
open Pl
inductive Zv where
  | nev
  | fin (x : Int)
  | evr
namespace Zv
def le : Zv → Zv → Prop
  | nev, _ => True
  | fin _, nev => False
  | fin a, fin b => a ≤ b
  | fin _, evr => True
  | evr, evr => True
  | evr, _ => False
def add : Zv → Int → Zv
  | nev, _ => nev
  | fin a, b => fin (a + b)
  | evr, _ => evr
theorem le_refl : ∀ (a : Zv), a.le a
  | nev => trivial
  | fin a => Int.le_refl a
  | evr => trivial
theorem le_trans {a b c : Zv} (h : a.le b) (h2 : b.le c) : a.le c := by
  cases a <;> cases b <;> cases c <;> simp only [le] at * <;> omega
theorem le_anti {a b : Zv} (h : a.le b) (h2 : b.le a) : a = b := by
  cases a <;> cases b <;> simp only [le] at * <;> first | rfl | (congr; omega)
theorem le_tot {a b : Zv} (h : ¬ a.le b) : b.le a := by
  cases a <;> cases b <;> simp only [le, not_true_eq_false, not_false_eq_true] at * <;> omega
theorem le_evr (a : Zv) : a.le evr := by cases a <;> trivial
theorem add_mono {a b : Zv} {x : Int} (h : a.le b) : (a.add x).le (b.add x) := by
  cases a <;> cases b <;> simp only [le, add] at * <;> omega
theorem add_up {a : Zv} {x : Int} (h : 0 ≤ x) : a.le (a.add x) := by
  cases a <;> simp only [le, add] at * <;> omega
theorem add_add {a : Zv} {x y : Int} : (a.add x).add y = a.add (x + y) := by
  cases a <;> simp only [add]
  congr 1; omega
theorem evr_le {a : Zv} (h : evr.le a) : a = evr := by
  cases a <;> simp only [le] at h ⊢
theorem le_nev {a : Zv} (h : a.le nev) : a = nev := by
  cases a <;> simp only [le] at h ⊢
end Zv
variable {own : Nat → Int} {sx : Nat → List Nat} {pl : Int} {n : Nat} {lost : Nat → Prop} {wt : Nat → Int} {c : Nat → Int}
def EdI (own : Nat → Int) (sx : Nat → List Nat) (pl : Int) (c : Nat → Int) (v u : Nat) : Prop := (own v = pl → (u : Int) = c v) ∧ (own v ≠ pl → u ∈ sx v)
inductive Wl (own : Nat → Int) (sx : Nat → List Nat) (pl : Int) (lost : Nat → Prop) (wt : Nat → Int) (c : Nat → Int) : List Nat → Zv → Prop
  | lost {v : Nat} : lost v → Wl own sx pl lost wt c [v] .nev
  | stop {v : Nat} : ¬ lost v → own v = pl → c v < 0 → Wl own sx pl lost wt c [v] (.fin (wt v))
  | step {v u : Nat} {l : List Nat} {x : Zv} : ¬ lost v → EdI own sx pl c v u → Wl own sx pl lost wt c (u :: l) x → Wl own sx pl lost wt c (v :: u :: l) (x.add (wt v))
def Pth (own : Nat → Int) (sx : Nat → List Nat) (pl : Int) (lost : Nat → Prop) (c : Nat → Int) : Nat → List Nat → Nat → Prop
  | v, [], w => ¬ lost v ∧ EdI own sx pl c v w
  | v, u :: a, w => ¬ lost v ∧ EdI own sx pl c v u ∧ Pth own sx pl lost c u a w
def sumW (wt : Nat → Int) : List Nat → Int
  | [] => 0
  | v :: l => wt v + sumW wt l
theorem wl_split {v : Nat} : ∀ {l : List Nat} {u : Nat} {x : Zv}, Wl own sx pl lost wt c (u :: l) x → v ∈ l → ∃ a b y, u :: l = (u :: a) ++ v :: b ∧ Pth own sx pl lost c u a v ∧ Wl own sx pl lost wt c (v :: b) y ∧ x = y.add (sumW wt (u :: a)) := by
  intro l
  induction l with
  | nil => intro u x _ h; cases h
  | cons w l ih =>
    intro u x h hm
    cases h with
    | @step _ _ _ x' h1 h2 h3 =>
      by_cases e : v = w
      · subst e
        refine ⟨[], l, x', rfl, ⟨h1, h2⟩, h3, ?_⟩
        show x'.add (wt u) = x'.add (wt u + 0)
        rw [Int.add_zero]
      · obtain ⟨a, b, y, e1, p, q, e2⟩ := ih h3 ((List.mem_cons.1 hm).resolve_left e)
        refine ⟨w :: a, b, y, ?_, ⟨h1, h2, p⟩, q, ?_⟩
        · rw [e1]; rfl
        · rw [e2, Zv.add_add]
          show _ = y.add (wt u + sumW wt (w :: a))
          rw [Int.add_comm]
theorem wl_short (hcyc : ∀ v a, Pth own sx pl lost c v a v → (v :: a).Nodup → 0 ≤ sumW wt (v :: a)) : ∀ {l : List Nat} {v : Nat} {x : Zv}, Wl own sx pl lost wt c (v :: l) x → ∃ l' x', Wl own sx pl lost wt c (v :: l') x' ∧ (v :: l').Nodup ∧ x'.le x := by
  intro l
  induction l with
  | nil => intro v x h; exact ⟨[], x, h, by simp, Zv.le_refl _⟩
  | cons u l ih =>
    intro v x h
    cases h with
    | @step _ _ _ x1 h1 h2 h3 =>
      obtain ⟨l', x', w, nd, hle⟩ := ih h3
      by_cases hm : v ∈ u :: l'
      · rcases List.mem_cons.1 hm with rfl | hm
        · have := hcyc v [] ⟨h1, h2⟩ (by simp)
          have this : 0 ≤ wt v + 0 := this
          exact ⟨l', x', w, nd, Zv.le_trans hle (Zv.add_up (by omega))⟩
        · obtain ⟨a, b, y, e1, p, q, e2⟩ := wl_split w hm
          have nd2 := nd
          rw [e1] at nd2
          obtain ⟨n1, n2, n3⟩ := List.nodup_append.1 nd2
          have hc := hcyc v (u :: a) ⟨h1, h2, p⟩ (List.nodup_cons.2 ⟨fun h => n3 v h v List.mem_cons_self rfl, n1⟩)
          refine ⟨b, y, q, n2, Zv.le_trans (Zv.add_up hc) ?_⟩
          show (y.add (wt v + sumW wt (u :: a))).le _
          rw [Int.add_comm, ← Zv.add_add, ← e2]
          exact Zv.add_mono hle
      · exact ⟨u :: l', x'.add (wt v), .step h1 h2 w, List.nodup_cons.2 ⟨hm, nd⟩, Zv.add_mono hle⟩
structure Bh (own : Nat → Int) (sx : Nat → List Nat) (pl : Int) (wt : Nat → Int) (c : Nat → Int) (l : Nat → Zv) (v : Nat) (y : Zv) : Prop where
  st : own v = pl → c v < 0 → y = .fin (wt v)
  le : ∀ u, EdI own sx pl c v u → y.le ((l u).add (wt v))
  ex : y = .evr ∨ (own v = pl ∧ c v < 0) ∨ ∃ u, EdI own sx pl c v u ∧ y = (l u).add (wt v)
theorem min_of (g : Nat → Zv) : ∀ (L : List Nat), ∃ y, (∀ u, u ∈ L → y.le (g u)) ∧ (y = .evr ∨ ∃ u, u ∈ L ∧ y = g u)
  | [] => ⟨.evr, (fun u h => by cases h), .inl rfl⟩
  | a :: L => by
    obtain ⟨y, h1, h2⟩ := min_of g L
    rcases Classical.em (y.le (g a)) with h | h
    · refine ⟨y, fun u hu => ?_, ?_⟩
      · rcases List.mem_cons.1 hu with rfl | hu
        · exact h
        · exact h1 u hu
      · rcases h2 with h2 | ⟨u, h2, h3⟩
        · exact .inl h2
        · exact .inr ⟨u, List.mem_cons_of_mem _ h2, h3⟩
    · refine ⟨g a, fun u hu => ?_, .inr ⟨a, List.mem_cons_self, rfl⟩⟩
      rcases List.mem_cons.1 hu with rfl | hu
      · exact Zv.le_refl _
      · exact Zv.le_trans (Zv.le_tot h) (h1 u hu)
theorem bh_ex (l : Nat → Zv) (v : Nat) : ∃ y, Bh own sx pl wt c l v y := by
  by_cases ho : own v = pl
  · by_cases hc : c v < 0
    · exact ⟨.fin (wt v), fun _ _ => rfl, fun u h => by have := h.1 ho; omega, .inr (.inl ⟨ho, hc⟩)⟩
    · have e : ∀ u : Nat, (u : Int) = c v ↔ u = (c v).toNat := fun u => by omega
      refine ⟨(l (c v).toNat).add (wt v), fun _ h => absurd h hc, fun u h => ?_, .inr (.inr ⟨(c v).toNat, ⟨fun _ => (e _).2 rfl, fun h => absurd ho h⟩, rfl⟩)⟩
      rw [(e u).1 (h.1 ho)]; exact Zv.le_refl _
  · obtain ⟨y, h1, h2⟩ := min_of (fun u => (l u).add (wt v)) (sx v)
    refine ⟨y, fun h => absurd h ho, fun u h => h1 u (h.2 ho), ?_⟩
    rcases h2 with h2 | ⟨u, h2, h3⟩
    · exact .inl h2
    · exact .inr (.inr ⟨u, ⟨fun h => absurd h ho, fun _ => h2⟩, h3⟩)
theorem bh_mono {l l' : Nat → Zv} {v : Nat} {y y' : Zv} (h : ∀ u, EdI own sx pl c v u → (l' u).le (l u)) (hy : Bh own sx pl wt c l v y) (hy' : Bh own sx pl wt c l' v y') : y'.le y := by
  rcases hy.ex with e | ⟨h1, h2⟩ | ⟨u, h1, h2⟩
  · rw [e]; exact Zv.le_evr _
  · rw [hy.st h1 h2, hy'.st h1 h2]; exact Zv.le_refl _
  · rw [h2]; exact Zv.le_trans (hy'.le u h1) (Zv.add_mono (h u h1))
open Classical in
noncomputable def updZ (lost : Nat → Prop) (l : Nat → Zv) (i : Nat) (y : Zv) : Nat → Zv := fun v => if v = i ∧ ¬ lost i ∧ ¬ (l i).le y then y else l v
theorem Zjl {l : Nat → Zv} {i : Nat} {y : Zv} (v : Nat) : (updZ lost l i y v).le (l v) := by
  unfold updZ
  split
  · rename_i h
    rw [h.1]; exact Zv.le_tot h.2.2
  · exact Zv.le_refl _
theorem upd_at {l : Nat → Zv} {i : Nat} {y : Zv} (h : ¬ lost i) : (updZ lost l i y i).le y := by
  unfold updZ
  split
  · exact Zv.le_refl _
  · rename_i h2
    exact Classical.byContradiction fun h3 => h2 ⟨rfl, h, h3⟩
structure VI (own : Nat → Int) (sx : Nat → List Nat) (pl : Int) (n : Nat) (lost : Nat → Prop) (wt : Nat → Int) (c : Nat → Int) (j i : Nat) (l : Nat → Zv) : Prop where
  snd : ∀ v, v < n → l v = .evr ∨ ∃ l', Wl own sx pl lost wt c (v :: l') (l v)
  cmp : ∀ v, v < n → ∀ l' x, Wl own sx pl lost wt c (v :: l') x → l'.length + 1 ≤ (if v < i then j + 1 else j) → (l v).le x
  lst : ∀ v, v < n → lost v → l v = .nev
  pre : ∀ v, v < n → ¬ lost v → ∀ y, Bh own sx pl wt c l v y → y.le (l v)
theorem VI_next {j : Nat} {l : Nat → Zv} (h : VI own sx pl n lost wt c j n l) : VI own sx pl n lost wt c (j + 1) 0 l :=
  ⟨h.snd, fun v hv l' x hw hl => h.cmp v hv l' x hw (by rw [if_pos hv]; rw [if_neg (by omega)] at hl; exact hl), h.lst, h.pre⟩
open Classical in
theorem VI_first : VI own sx pl n lost wt c 0 0 (fun v => if lost v then .nev else .evr) := by
  refine ⟨fun v hv => ?_, fun v hv l' x hw hl => ?_, fun v hv h => if_pos h, fun v hv h y hy => ?_⟩
  · by_cases h : lost v
    · rw [if_pos h]; exact .inr ⟨[], .lost h⟩
    · rw [if_neg h]; exact .inl rfl
  · rw [if_neg (by omega)] at hl; omega
  · rw [if_neg h]; exact Zv.le_evr _
theorem VI_step (hsx : ∀ v u, v < n → EdI own sx pl c v u → u < n) {j i : Nat} {l : Nat → Zv} {y : Zv} (hi : i < n) (h : VI own sx pl n lost wt c j i l) (hy : Bh own sx pl wt c l i y) : VI own sx pl n lost wt c j (i + 1) (updZ lost l i y) := by
  refine ⟨fun v hv => ?_, fun v hv l' x hw hl => ?_, fun v hv hlo => ?_, fun v hv hlo y' hy' => ?_⟩
  · unfold updZ
    split
    · rename_i h2
      obtain ⟨rfl, h3, h4⟩ := h2
      rcases hy.ex with e | ⟨h5, h6⟩ | ⟨u, h5, h6⟩
      · exact .inl e
      · refine .inr ⟨[], ?_⟩
        rw [hy.st h5 h6]; exact .stop h3 h5 h6
      · rcases h.snd u (hsx _ _ hv h5) with e | ⟨l', hw⟩
        · left; rw [h6, e]; rfl
        · exact .inr ⟨u :: l', h6 ▸ .step h3 h5 hw⟩
    · exact h.snd v hv
  · by_cases e : v = i
    · subst e
      cases hw with
      | lost h2 => rw [show updZ lost l v y v = l v by unfold updZ; rw [if_neg (fun h => h.2.1 h2)], h.lst v hv h2]; exact trivial
      | stop h2 h3 h4 => rw [← hy.st h3 h4]; exact upd_at h2
      | @step _ u l2 x2 h2 h3 h4 =>
        refine Zv.le_trans (upd_at h2) (Zv.le_trans (hy.le u h3) (Zv.add_mono ?_))
        refine h.cmp u (hsx _ _ hv h3) l2 x2 h4 ?_
        rw [if_pos (by omega), List.length_cons] at hl
        split <;> omega
    · refine Zv.le_trans (Zjl v) (h.cmp v hv l' x hw ?_)
      by_cases h2 : v < i
      · rw [if_pos h2]; rw [if_pos (by omega)] at hl; exact hl
      · rw [if_neg h2]; rw [if_neg (by omega)] at hl; exact hl
  · have := Zjl (lost := lost) (l := l) (i := i) (y := y) v
    rw [h.lst v hv hlo] at this
    exact Zv.le_nev this
  · by_cases e : v = i
    · subst e
      have h1 := bh_mono (fun u _ => Zjl u) hy hy'
      unfold updZ
      split
      · exact h1
      · rename_i h2
        have : (l v).le y := Classical.byContradiction fun h3 => h2 ⟨rfl, hlo, h3⟩
        exact Zv.le_trans h1 (h.pre v hv hlo y hy)
    · obtain ⟨y0, hy0⟩ := bh_ex (own := own) (sx := sx) (pl := pl) (wt := wt) (c := c) l v
      rw [show updZ lost l i y v = l v by unfold updZ; rw [if_neg (fun h => e h.1)]]
      exact Zv.le_trans (bh_mono (fun u _ => Zjl u) hy0 hy') (h.pre v hv hlo y0 hy0)
theorem VI_stop (hcyc : ∀ v a, Pth own sx pl lost c v a v → (v :: a).Nodup → 0 ≤ sumW wt (v :: a)) (hsx : ∀ v u, v < n → EdI own sx pl c v u → u < n) {j i : Nat} {l : Nat → Zv} {y : Zv} (hi : i < n) (hj : n ≤ j) (h : VI own sx pl n lost wt c j i l) (hy : Bh own sx pl wt c l i y) : lost i ∨ (l i).le y := by
  by_cases hl : lost i
  · exact .inl hl
  right
  have key : ∀ {l' : List Nat} {x : Zv}, Wl own sx pl lost wt c (i :: l') x → (l i).le x := fun {l' x} hw => by
    obtain ⟨l2, x2, w2, nd, hle⟩ := wl_short hcyc hw
    have hin : ∀ {l : List Nat} {v : Nat} {x : Zv}, Wl own sx pl lost wt c (v :: l) x → v < n → ∀ u, u ∈ v :: l → u < n := by
      intro l
      induction l with
      | nil => intro v x _ hv u hu; rw [List.mem_singleton.1 hu]; exact hv
      | cons w l ih =>
        intro v x h hv u hu
        cases h with
        | step h1 h2 h3 =>
          rcases List.mem_cons.1 hu with rfl | hu
          · exact hv
          · exact ih h3 (hsx _ _ hv h2) u hu
    have := Zfl n _ nd (hin w2 hi)
    rw [List.length_cons] at this
    exact Zv.le_trans (h.cmp i hi l2 x2 w2 (by split <;> omega)) hle
  rcases hy.ex with e | ⟨h5, h6⟩ | ⟨u, h5, h6⟩
  · rw [e]; exact Zv.le_evr _
  · rw [hy.st h5 h6]; exact key (.stop hl h5 h6)
  · rcases h.snd u (hsx _ _ hi h5) with e | ⟨l', hw⟩
    · rw [h6, e]; exact Zv.le_evr _
    · rw [h6]; exact key (.step hl h5 hw)
theorem VI_ge {φ l : Nat → Zv} (hsx : ∀ v u, v < n → EdI own sx pl c v u → u < n) (h0 : ∀ v, v < n → lost v → φ v = .nev) (hst : ∀ v, v < n → ¬ lost v → own v = pl → c v < 0 → (φ v).le (.fin (wt v))) (hed : ∀ v u, v < n → ¬ lost v → EdI own sx pl c v u → (φ v).le ((φ u).add (wt v))) (h : ∀ v, v < n → (φ v).le (l v)) {i : Nat} {y : Zv} (hi : i < n) (hy : Bh own sx pl wt c l i y) : ∀ v, v < n → (φ v).le (updZ lost l i y v) := by
  intro v hv
  unfold updZ
  split
  · rename_i h2
    obtain ⟨rfl, h3, h4⟩ := h2
    rcases hy.ex with e | ⟨h5, h6⟩ | ⟨u, h5, h6⟩
    · rw [e]; exact Zv.le_evr _
    · rw [hy.st h5 h6]; exact hst v hv h3 h5 h6
    · rw [h6]
      exact Zv.le_trans (hed v u hv h3 h5) (Zv.add_mono (h u (hsx _ _ hv h5)))
  · exact h v hv
end
section
open Pl
theorem enF_neg {pl B : Int} (hp : pl = 0 ∨ pl = 1) {f : Nat → Int} : ∀ {k : Nat}, enF (1 - pl) B f k = -(enF pl B f k)
  | 0 => rfl
  | k + 1 => by
    rw [enF, enF, enF_neg hp (k := k)]
    have : sg (1 - pl) k = -(sg pl k) := by
      unfold sg
      split <;> split <;> omega
    rw [this, Int.neg_mul, Int.neg_mul]
    omega
theorem sg_neg {pl : Int} (hp : pl = 0 ∨ pl = 1) {k : Nat} : sg (1 - pl) k = -(sg pl k) := by
  unfold sg
  split <;> split <;> omega
theorem wt_neg {pl B : Int} (hp : pl = 0 ∨ pl = 1) {q : Nat} : wtP (1 - pl) B q = -(wtP pl B q) := by
  unfold wtP
  rw [sg_neg hp, Int.neg_mul]
def DigV (pl B D : Int) (K n : Nat) (l : Nat → Zv) (m : Nat → Nat → Int) : Prop := ∀ v, v < n → ∀ x, l v = .fin x → x = enF pl B (m v) K ∧ ∀ q, 0 ≤ m v q ∧ m v q ≤ D
variable {own pri : Nat → Int} {sx : Nat → List Nat} {pl B D : Int} {n K : Nat} {lost : Nat → Prop} {c c' : Nat → Int} {l : Nat → Zv} {m : Nat → Nat → Int}
def wtF (pl B : Int) (pri : Nat → Int) (v : Nat) : Int := wtP pl B (pri v).toNat
theorem cyc_up (hD : 0 ≤ D) (hB : 2 * D + 2 ≤ B) (hdig : DigV pl B D K n l m) (hpri : ∀ v, v < n → 0 ≤ pri v ∧ (pri v).toNat < K) {E : Nat → Nat → Prop} (hE : ∀ a b, E a b → a < n ∧ b < n ∧ (l a).le ((l b).add (wtF pl B pri a))) {w : Nat} (hbad : sg pl (pri w).toNat = -1) {x : Int} (hw : l w = .fin x) : ¬ Cyc E pri w := by
  rintro ⟨t, ⟨hwt, hlt⟩, hr⟩
  have hwn := (hE _ _ hwt).1
  have key : ∀ {a b : Nat}, a < n → pri a ≤ pri w → E a b → ∀ {y}, l a = .fin y → l b = .evr ∨ ∃ z, l b = .fin z ∧ hiF pl B (m a) (pri w).toNat (K - (pri w).toNat) + (if (pri a).toNat = (pri w).toNat then 1 else 0) ≤ hiF pl B (m b) (pri w).toNat (K - (pri w).toNat) := by
    intro a b ha hpa he y hy
    obtain ⟨_, hb, hle⟩ := hE _ _ he
    rw [hy] at hle
    cases hlb : l b with
    | nev => rw [hlb] at hle; exact hle.elim
    | evr => exact .inl rfl
    | fin z =>
      refine .inr ⟨z, rfl, ?_⟩
      rw [hlb] at hle
      have hle : y ≤ z + wtF pl B pri a := hle
      obtain ⟨e1, d1⟩ := hdig a ha y hy
      obtain ⟨e2, d2⟩ := hdig b hb z hlb
      have hq := (hpri w hwn).2
      have hKe : (pri w).toNat + (K - (pri w).toNat) = K := by omega
      exact hi_step hD hB d1 d2 (by omega) (by omega) (by rw [hKe, ← e1, ← e2]; exact hle) hbad
  -- what holds behind the first step
  have P : ∀ {z : Nat}, Rch (Low E pri w) t z → z < n ∧ pri z ≤ pri w ∧ (l z = .evr ∨ ∃ y, l z = .fin y ∧ hiF pl B (m w) (pri w).toNat (K - (pri w).toNat) + 1 ≤ hiF pl B (m z) (pri w).toNat (K - (pri w).toNat)) := by
    intro z hz
    induction hz with
    | refl =>
      refine ⟨(hE _ _ hwt).2.1, hlt, ?_⟩
      rcases key hwn (Int.le_refl _) hwt hw with h | ⟨z, h1, h2⟩
      · exact .inl h
      · rw [if_pos rfl] at h2; exact .inr ⟨z, h1, h2⟩
    | step _ e ih =>
      obtain ⟨i1, i2, i3⟩ := ih
      refine ⟨(hE _ _ e.1).2.1, e.2, ?_⟩
      rcases i3 with h | ⟨y, h1, h2⟩
      · left
        have := (hE _ _ e.1).2.2
        rw [h] at this
        have := Zv.evr_le this
        revert this
        cases l _ <;> intro h <;> first | rfl | cases h
      · rcases key i1 i2 e.1 h1 with h | ⟨z, h3, h4⟩
        · exact .inl h
        · refine .inr ⟨z, h3, ?_⟩
          split at h4 <;> omega
  obtain ⟨_, _, h⟩ := P hr
  rcases h with h | ⟨y, h1, h2⟩
  · rw [hw] at h; cases h
  · omega
theorem cyc_down (hp : pl = 0 ∨ pl = 1) (hD : 0 ≤ D) (hB : 2 * D + 2 ≤ B) (hdig : DigV pl B D K n l m) (hpri : ∀ v, v < n → 0 ≤ pri v ∧ (pri v).toNat < K) {E : Nat → Nat → Prop} (hE : ∀ a b, E a b → a < n ∧ b < n ∧ ∃ x y, l a = .fin x ∧ l b = .fin y ∧ y + wtF pl B pri a ≤ x) {w : Nat} (hgood : sg pl (pri w).toNat = 1) : ¬ Cyc E pri w := by
  intro hc
  obtain ⟨t, ht, hr⟩ := id hc
  obtain ⟨hwn, _, x, _, hx, _⟩ := hE _ _ ht.1
  -- the same for the other player, with all worths turned round
  refine cyc_up (pl := 1 - pl) (l := fun v => match l v with | .fin x => .fin (-x) | z => z) (m := m) hD hB (K := K) (n := n) (fun v hv x hx => ?_) hpri (E := E) (fun a b he => ?_) (w := w) (by rw [sg_neg hp, hgood]) (x := -x) (by rw [hx]) hc
  · cases hlv : l v with
    | nev => dsimp only at hx; rw [hlv] at hx; cases hx
    | evr => dsimp only at hx; rw [hlv] at hx; cases hx
    | fin y =>
      dsimp only at hx
      rw [hlv] at hx
      obtain ⟨e, d⟩ := hdig v hv y hlv
      refine ⟨?_, d⟩
      rw [enF_neg hp, ← e]
      injection hx with hx
      exact hx.symm
  · obtain ⟨ha, hb, x, y, h1, h2, h3⟩ := hE a b he
    refine ⟨ha, hb, ?_⟩
    rw [h1, h2]
    show -x ≤ -y + wtP (1 - pl) B (pri a).toNat
    rw [wt_neg hp]
    have : wtF pl B pri a = wtP pl B (pri a).toNat := rfl
    omega
def NB (own pri : Nat → Int) (sx : Nat → List Nat) (pl : Int) (n : Nat) (lost : Nat → Prop) (c : Nat → Int) : Prop := ∀ w, w < n → sg pl (pri w).toNat = -1 → ¬ Cyc (fun a b => a < n ∧ ¬ lost a ∧ EdI own sx pl c a b) pri w
theorem pth_rch {E : Nat → Nat → Prop} {P : Int} : ∀ {a : List Nat} {v u : Nat}, Pth own sx pl lost c v a u → (∀ x y, ¬ lost x → EdI own sx pl c x y → x ∈ v :: a → pri y ≤ P → E x y) → (∀ z, z ∈ a → pri z ≤ P) → pri u ≤ P → Rch E v u ∧ ∀ w, w ∈ v :: a → Rch E v w ∧ ∃ t, (E w t ∧ pri t ≤ P) ∧ Rch E t u := by
  intro a
  induction a with
  | nil =>
    intro v u h hE _ hu
    have e := hE v u h.1 h.2 List.mem_cons_self hu
    refine ⟨Rch.one e, fun w hw => ?_⟩
    rw [List.mem_singleton.1 hw]
    exact ⟨.refl _, u, ⟨e, hu⟩, .refl _⟩
  | cons z a ih =>
    intro v u h hE hP hu
    obtain ⟨h1, h2, h3⟩ := h
    have e := hE v z h1 h2 List.mem_cons_self (hP z List.mem_cons_self)
    obtain ⟨i1, i2⟩ := ih h3 (fun x y q1 q2 q3 q4 => hE x y q1 q2 (List.mem_cons_of_mem _ q3) q4) (fun z hz => hP z (List.mem_cons_of_mem _ hz)) hu
    refine ⟨Rch.cons e i1, fun w hw => ?_⟩
    rcases List.mem_cons.1 hw with rfl | hw
    · exact ⟨.refl _, z, ⟨e, hP z List.mem_cons_self⟩, i1⟩
    · obtain ⟨j1, j2⟩ := i2 w hw
      exact ⟨Rch.cons e j1, j2⟩
def cntP (pri : Nat → Int) (l : List Nat) (q : Nat) : Int := (l.countP fun v => decide ((pri v).toNat = q) : Nat)
theorem sumW_en (hK : ∀ v, v < n → (pri v).toNat < K) : ∀ {L : List Nat}, (∀ v, v ∈ L → v < n) → sumW (wtF pl B pri) L = enF pl B (cntP pri L) K
  | [], _ => by
    show (0 : Int) = enF pl B (fun _ => 0) K
    rw [Zgm]
  | a :: L, h => by
    have e : cntP pri (a :: L) = fun q => cntP pri L q + (if q = (pri a).toNat then 1 else 0) := by
      funext q
      unfold cntP
      rw [List.countP_cons]
      by_cases e : (pri a).toNat = q
      · rw [if_pos (by simpa using e), if_pos e.symm]; omega
      · rw [if_neg (by simpa using e), if_neg (fun h => e h.symm)]; omega
    rw [e, Zig, Zjp (hK a (h a List.mem_cons_self)), ← sumW_en hK (L := L) fun v hv => h v (List.mem_cons_of_mem _ hv)]
    show wtF pl B pri a + _ = _ + wtP pl B (pri a).toNat
    rw [Int.add_comm]; rfl
theorem top_of : ∀ {L : List Nat}, L ≠ [] → ∃ w, w ∈ L ∧ ∀ v, v ∈ L → pri v ≤ pri w
  | [], h => absurd rfl h
  | [a], _ => ⟨a, List.mem_cons_self, fun v hv => by rw [List.mem_singleton.1 hv]; exact Int.le_refl _⟩
  | a :: b :: L, _ => by
    obtain ⟨w, h1, h2⟩ := top_of (L := b :: L) (by simp)
    by_cases h : pri a ≤ pri w
    · refine ⟨w, List.mem_cons_of_mem _ h1, fun v hv => ?_⟩
      rcases List.mem_cons.1 hv with rfl | hv
      · exact h
      · exact h2 v hv
    · refine ⟨a, List.mem_cons_self, fun v hv => ?_⟩
      rcases List.mem_cons.1 hv with rfl | hv
      · exact Int.le_refl _
      · have := h2 v hv; omega
theorem nb_cyc (hD : (n : Int) ≤ D) (hB : D + 1 ≤ B) (hpri : ∀ v, v < n → 0 ≤ pri v ∧ (pri v).toNat < K) (hnb : NB own pri sx pl n lost c) (hlt : ∀ v a u, Pth own sx pl lost c v a u → u < n → ∀ z, z ∈ v :: a → z < n) : ∀ v a, Pth own sx pl lost c v a v → v < n → (v :: a).Nodup → 0 ≤ sumW (wtF pl B pri) (v :: a) := by
  intro v a hp hv hnd
  have hin := hlt v a v hp hv
  have hlen := Zfl n _ hnd hin
  obtain ⟨w, hw, htop⟩ := top_of (pri := pri) (L := v :: a) (by simp)
  have hwn := hin w hw
  have hgood : sg pl (pri w).toNat = 1 := by
    rcases sg_or (pl := pl) (pri w).toNat with h | h
    · exact h
    · exfalso
      refine hnb w hwn h ?_
      obtain ⟨r1, r2⟩ := pth_rch (E := Low (fun a b => a < n ∧ ¬ lost a ∧ EdI own sx pl c a b) pri w) (pri := pri) (P := pri w) hp (fun x y q1 q2 q3 q4 => ⟨⟨hin x q3, q1, q2⟩, q4⟩) (fun z hz => htop z (List.mem_cons_of_mem _ hz)) (htop v List.mem_cons_self)
      obtain ⟨r3, t, ⟨r4, _⟩, r5⟩ := r2 w hw
      exact ⟨t, r4, Rch.trans r5 r3⟩
  rw [sumW_en (fun v hv => (hpri v hv).2) hin]
  have hcb : ∀ q, 0 ≤ cntP pri (v :: a) q ∧ cntP pri (v :: a) q ≤ D := fun q => by
    unfold cntP
    have : (v :: a).countP (fun v => decide ((pri v).toNat = q)) ≤ (v :: a).length := List.countP_le_length
    omega
  have hz : ∀ q, (pri w).toNat < q → q < K → cntP pri (v :: a) q = 0 := fun q h1 h2 => by
    unfold cntP
    have : (v :: a).countP (fun v => decide ((pri v).toNat = q)) = 0 := List.countP_eq_zero.2 fun z hz => by
      have := htop z hz
      simp only [decide_eq_true_eq]
      omega
    omega
  have h1 : 1 ≤ cntP pri (v :: a) (pri w).toNat := by
    unfold cntP
    have : 0 < (v :: a).countP (fun v => decide ((pri v).toNat = (pri w).toNat)) := List.countP_pos_iff.2 ⟨w, hw, by simp⟩
    omega
  have := (Zjb (pl := pl) (D := D) (B := B) (by omega) hB (f := cntP pri (v :: a)) (p := (pri w).toNat) (fun q _ => by have := hcb q; omega) (hpri w hwn).2 hz).1 (by rw [hgood]; omega)
  omega
def nowZ (c : Nat → Int) (l : Nat → Zv) (v : Nat) : Zv := if c v < 0 then .fin 0 else l (c v).toNat
structure Fx (own pri : Nat → Int) (sx : Nat → List Nat) (pl B : Int) (n : Nat) (lost : Nat → Prop) (c : Nat → Int) (l : Nat → Zv) : Prop where
  fx : ∀ v, v < n → ¬ lost v → Bh own sx pl (wtF pl B pri) c l v (l v)
  ls : ∀ v, v < n → lost v → l v = .nev
  lo : ∀ v, lost v → own v ≠ pl
  ch : ∀ v, v < n → own v = pl → 0 ≤ c v → l (c v).toNat ≠ .nev
def Imp1 (own : Nat → Int) (sx : Nat → List Nat) (pl : Int) (n : Nat) (c : Nat → Int) (l : Nat → Zv) (c' : Nat → Int) : Prop :=
  ∀ v, v < n → own v = pl → c' v = c v ∨ ∃ u : Nat, u ∈ sx v ∧ c' v = u ∧ ¬ (l u).le (nowZ c l v)
theorem Zf8 (h : Fx own pri sx pl B n lost c l) {v : Nat} (hv : v < n) (ho : own v = pl) : l v = (nowZ c l v).add (wtF pl B pri v) := by
  have hb := h.fx v hv fun hl => h.lo v hl ho
  unfold nowZ
  split
  · rename_i hc
    rw [hb.st ho hc]
    show Zv.fin _ = Zv.fin _
    rw [Int.zero_add]
  · rename_i hc
    have he : EdI own sx pl c v (c v).toNat := ⟨fun _ => by omega, fun h => absurd ho h⟩
    rcases hb.ex with e | ⟨_, h2⟩ | ⟨u, h2, h3⟩
    · have := hb.le _ he
      rw [e] at this
      rw [e, Zv.evr_le this]
    · exact absurd h2 hc
    · have : u = (c v).toNat := by have := h2.1 ho; omega
      rw [h3, this]
theorem fx_nev (h : Fx own pri sx pl B n lost c l) {v : Nat} (hv : v < n) (ho : own v = pl) : l v ≠ .nev := by
  rw [Zf8 h hv ho]
  unfold nowZ
  split
  · intro h; cases h
  · rename_i hc
    have := h.ch v hv ho (by omega)
    intro h2
    cases h3 : l (c v).toNat with
    | nev => exact this h3
    | evr => rw [h3] at h2; cases h2
    | fin x => rw [h3] at h2; cases h2
theorem Zjo (h : Fx own pri sx pl B n lost c l) (hi : Imp1 own sx pl n c l c') {v u : Nat} (hv : v < n) (hl : ¬ lost v) (he : EdI own sx pl c' v u) : (l v).le ((l u).add (wtF pl B pri v)) := by
  by_cases ho : own v = pl
  · rcases hi v hv ho with e | ⟨w, h1, h2, h3⟩
    · exact (h.fx v hv hl).le u ⟨fun _ => by rw [← e]; exact he.1 ho, fun h => absurd ho h⟩
    · have : u = w := by have := he.1 ho; omega
      subst this
      rw [Zf8 h hv ho]
      exact Zv.add_mono (Zv.le_tot h3)
  · exact (h.fx v hv hl).le u ⟨fun h => absurd h ho, he.2⟩
theorem imp_st (h : Fx own pri sx pl B n lost c l) (hi : Imp1 own sx pl n c l c') {v : Nat} (hv : v < n) (ho : own v = pl) (hc : c' v < 0) : (l v).le (.fin (wtF pl B pri v)) := by
  rcases hi v hv ho with e | ⟨w, h1, h2, h3⟩
  · rw [(h.fx v hv fun hl => h.lo v hl ho).st ho (by omega)]; exact Zv.le_refl _
  · omega
theorem nb_imp (hD : 0 ≤ D) (hB : 2 * D + 2 ≤ B) (hdig : DigV pl B D K n l m) (hpri : ∀ v, v < n → 0 ≤ pri v ∧ (pri v).toNat < K) (hsx : ∀ v u, v < n → EdI own sx pl c' v u → u < n) (h : Fx own pri sx pl B n lost c l) (hi : Imp1 own sx pl n c l c') (hnb : NB own pri sx pl n lost c) : NB own pri sx pl n lost c' := by
  intro w hwn hbad hcy
  cases hlw : l w with
  | fin x => exact cyc_up hD hB hdig hpri (E := fun a b => a < n ∧ ¬ lost a ∧ EdI own sx pl c' a b) (fun a b he => ⟨he.1, hsx _ _ he.1 he.2.2, Zjo h hi he.1 he.2.1 he.2.2⟩) hbad hlw hcy
  | evr =>
    obtain ⟨t, ht, hr⟩ := hcy
    have key : ∀ a b, l a = .evr → Low (fun a b => a < n ∧ ¬ lost a ∧ EdI own sx pl c' a b) pri w a b → Low (fun a b => a < n ∧ ¬ lost a ∧ EdI own sx pl c a b) pri w a b ∧ l b = .evr := by
      rintro a b ha ⟨⟨h1, h2, h3⟩, h4⟩
      refine ⟨⟨⟨h1, h2, ?_⟩, h4⟩, ?_⟩
      · refine ⟨fun ho => ?_, h3.2⟩
        rcases hi a h1 ho with e | ⟨u, q1, q2, q3⟩
        · rw [← e]; exact h3.1 ho
        · exfalso
          refine q3 ?_
          have e := Zf8 h h1 ho
          rw [ha] at e
          cases hn : nowZ c l a with
          | evr => exact Zv.le_evr _
          | nev => rw [hn] at e; cases e
          | fin y => rw [hn] at e; cases e
      · have := Zjo h hi h1 h2 h3
        rw [ha] at this
        have := Zv.evr_le this
        revert this
        cases l b <;> intro h <;> first | rfl | cases h
    obtain ⟨k1, k2⟩ := key w t hlw ht
    obtain ⟨k3, _⟩ := Rch.mapD (f := id) (D := fun a => l a = .evr) (fun a b ha hb => key a b ha hb) hr k2
    exact hnb w hwn hbad ⟨t, k1, k3⟩
  | nev =>
    obtain ⟨t, ht, hr⟩ := hcy
    have key : ∀ a b, l b = .nev → Low (fun a b => a < n ∧ ¬ lost a ∧ EdI own sx pl c' a b) pri w a b → Low (fun a b => a < n ∧ ¬ lost a ∧ EdI own sx pl c a b) pri w a b ∧ l a = .nev := by
      rintro a b hb ⟨⟨h1, h2, h3⟩, h4⟩
      have := Zjo h hi h1 h2 h3
      rw [hb] at this
      have hna := Zv.le_nev this
      have ho : own a ≠ pl := fun ho => fx_nev h h1 ho hna
      exact ⟨⟨⟨h1, h2, fun h => absurd h ho, h3.2⟩, h4⟩, hna⟩
    have k : ∀ {z : Nat}, Rch (Low (fun a b => a < n ∧ ¬ lost a ∧ EdI own sx pl c' a b) pri w) t z → l z = .nev → Rch (Low (fun a b => a < n ∧ ¬ lost a ∧ EdI own sx pl c a b) pri w) t z ∧ l t = .nev := by
      intro z hz
      induction hz with
      | refl => intro h; exact ⟨.refl _, h⟩
      | step _ e ih =>
        intro h2
        obtain ⟨e1, e2⟩ := key _ _ h2 e
        obtain ⟨e3, e4⟩ := ih e2
        exact ⟨.step e3 e1, e4⟩
    obtain ⟨k1, k2⟩ := k hr hlw
    exact hnb w hwn hbad ⟨t, (key w t k2 ht).1, k1⟩
end
section
open Go Pl
def enV (pl B : Int) (K : Nat) (v : Vl) : Zv := if v.n = true then .nev else if v.e = true then .evr else .fin (enF pl B (fun q => v.m.getD q 0) K)
variable {pl B D : Int} {K : Nat}
theorem cmpK_en (hD : 0 ≤ D) (hB : D + 1 ≤ B) {a b : List Int} (ha : ∀ q, 0 ≤ a.getD q 0 ∧ a.getD q 0 ≤ D) (hb : ∀ q, 0 ≤ b.getD q 0 ∧ b.getD q 0 ≤ D) : ∀ {k : Nat}, cmpK pl a b k = sgnI (enF pl B (fun q => a.getD q 0) k) (enF pl B (fun q => b.getD q 0) k)
  | 0 => by show 0 = sgnI 0 0; rfl
  | k + 1 => by
    have ih := cmpK_en hD hB ha hb (k := k)
    have e1 : cmpK pl a b (k + 1) = if sgnI (a.getD k 0) (b.getD k 0) ≠ 0 then (if (k : Int) % 2 ≠ pl then -(sgnI (a.getD k 0) (b.getD k 0)) else sgnI (a.getD k 0) (b.getD k 0)) else cmpK pl a b k := rfl
    rw [e1]
    have ht := Zjb (pl := pl) (B := B) hD hB (f := fun q => a.getD q 0 - b.getD q 0) (p := k) (fun q _ => by have := ha q; have := hb q; omega) (k := k + 1) (Nat.lt_succ_self _) (fun q h1 h2 => by omega)
    rw [Zif] at ht
    obtain ⟨t1, t2⟩ := ht
    have hs : sgnI (a.getD k 0) (b.getD k 0) ≠ 0 ↔ a.getD k 0 ≠ b.getD k 0 := by
      unfold sgnI
      split
      · exact ⟨fun _ => by omega, fun _ => by decide⟩
      · split
        · exact ⟨fun _ => by omega, fun _ => by decide⟩
        · exact ⟨fun h => absurd rfl h, fun h => by omega⟩
    by_cases h : sgnI (a.getD k 0) (b.getD k 0) ≠ 0
    · rw [if_pos h]
      have hne := hs.1 h
      unfold sg at t1 t2
      by_cases h2 : (k : Int) % 2 = pl
      · rw [if_neg (fun h => h h2)]
        rw [if_pos h2] at t1 t2
        unfold sgnI
        rcases Int.lt_or_lt_of_ne hne with h3 | h3
        · have := t2 (by omega)
          rw [if_pos h3, if_pos (by omega)]
        · have := t1 (by omega)
          rw [if_neg (by omega), if_pos h3, if_neg (by omega), if_pos (by omega)]
      · rw [if_pos h2]
        rw [if_neg h2] at t1 t2
        unfold sgnI
        rcases Int.lt_or_lt_of_ne hne with h3 | h3
        · have := t1 (by omega)
          rw [if_pos h3, if_neg (by omega), if_pos (by omega)]; rfl
        · have := t2 (by omega)
          rw [if_neg (by omega), if_pos h3, if_pos (by omega)]
    · rw [if_neg h, ih]
      have he : a.getD k 0 = b.getD k 0 := Classical.byContradiction fun h2 => h (hs.2 h2)
      have e2 : ∀ f : Nat → Int, enF pl B f (k + 1) = enF pl B f k + sg pl k * f k * B ^ k := fun f => rfl
      rw [e2, e2]
      rw [he]
      generalize sg pl k * b.getD k 0 * B ^ k = z
      generalize enF pl B (fun q => a.getD q 0) k = x
      generalize enF pl B (fun q => b.getD q 0) k = y
      have s1 : ∀ {x y : Int}, x < y → sgnI x y = -1 := fun h => if_pos h
      have s2 : ∀ {x y : Int}, y < x → sgnI x y = 1 := fun {x y} h => by unfold sgnI; rw [if_neg (by omega), if_pos h]
      have s3 : ∀ {x : Int}, sgnI x x = 0 := fun {x} => by unfold sgnI; rw [if_neg (by omega), if_neg (by omega)]
      rcases Int.lt_trichotomy x y with q | q | q
      · rw [s1 q, s1 (by omega)]
      · subst q; rw [s3, s3]
      · rw [s2 q, s2 (by omega)]
theorem sgn_lt {x y : Int} : sgnI x y < 0 ↔ x < y := by
  unfold sgnI
  split
  · exact ⟨fun _ => by assumption, fun _ => by decide⟩
  · split
    · exact ⟨fun h => absurd h (by decide), fun h => by omega⟩
    · exact ⟨fun h => absurd h (by decide), fun h => by omega⟩
theorem sgn_gt {x y : Int} : 0 < sgnI x y ↔ y < x := by
  unfold sgnI
  split
  · exact ⟨fun h => absurd h (by decide), fun h => by omega⟩
  · split
    · exact ⟨fun _ => by assumption, fun _ => by decide⟩
    · exact ⟨fun h => absurd h (by decide), fun h => by omega⟩
theorem Zii (hD : 0 ≤ D) (hB : D + 1 ≤ B) {a b : Vl} (ha : VOK K D a) (hb : VOK K D b) : (cmpV pl a b < 0 ↔ ¬ (enV pl B K b).le (enV pl B K a)) ∧ (0 < cmpV pl a b ↔ ¬ (enV pl B K a).le (enV pl B K b)) := by
  obtain ⟨ae, an, am⟩ := a
  obtain ⟨be, bn, bm⟩ := b
  cases an with
  | true =>
    have e1 : cmpV pl ⟨ae, true, am⟩ ⟨be, bn, bm⟩ = sgnI (-1) (Zch ⟨be, bn, bm⟩) := by
      unfold cmpV
      rw [if_pos (.inr (by show (-1 : Int) ≠ 0; decide))]; rfl
    rw [e1]
    cases bn with
    | true => exact ⟨⟨fun h => absurd h (by show ¬ sgnI (-1) (-1) < 0; decide), fun h => absurd trivial h⟩, ⟨fun h => absurd h (by show ¬ 0 < sgnI (-1) (-1); decide), fun h => absurd trivial h⟩⟩
    | false =>
      cases be with
      | true => exact ⟨⟨fun _ h => h, fun _ => by show sgnI (-1) 1 < 0; decide⟩, ⟨fun h => absurd h (by show ¬ 0 < sgnI (-1) 1; decide), fun h => absurd trivial h⟩⟩
      | false => exact ⟨⟨fun _ h => h, fun _ => by show sgnI (-1) 0 < 0; decide⟩, ⟨fun h => absurd h (by show ¬ 0 < sgnI (-1) 0; decide), fun h => absurd trivial h⟩⟩
  | false =>
    cases ae with
    | true =>
      have e1 : cmpV pl ⟨true, false, am⟩ ⟨be, bn, bm⟩ = sgnI 1 (Zch ⟨be, bn, bm⟩) := by
        unfold cmpV
        rw [if_pos (.inr (by show (1 : Int) ≠ 0; decide))]; rfl
      rw [e1]
      cases bn with
      | true => exact ⟨⟨fun h => absurd h (by show ¬ sgnI 1 (-1) < 0; decide), fun h => absurd trivial h⟩, ⟨fun _ h => h, fun _ => by show 0 < sgnI 1 (-1); decide⟩⟩
      | false =>
        cases be with
        | true => exact ⟨⟨fun h => absurd h (by show ¬ sgnI 1 1 < 0; decide), fun h => absurd trivial h⟩, ⟨fun h => absurd h (by show ¬ 0 < sgnI 1 1; decide), fun h => absurd trivial h⟩⟩
        | false => exact ⟨⟨fun h => absurd h (by show ¬ sgnI 1 0 < 0; decide), fun h => absurd trivial h⟩, ⟨fun _ h => h, fun _ => by show 0 < sgnI 1 0; decide⟩⟩
    | false =>
      cases bn with
      | true =>
        have e1 : cmpV pl ⟨false, false, am⟩ ⟨be, true, bm⟩ = sgnI 0 (-1) := by
          unfold cmpV
          rw [if_pos (.inl (by show sgnI 0 (-1) ≠ 0; decide))]; rfl
        rw [e1]
        exact ⟨⟨fun h => absurd h (by decide), fun h => absurd trivial h⟩, ⟨fun _ h => h, fun _ => by decide⟩⟩
      | false =>
        cases be with
        | true =>
          have e1 : cmpV pl ⟨false, false, am⟩ ⟨true, false, bm⟩ = sgnI 0 1 := by
            unfold cmpV
            rw [if_pos (.inl (by show sgnI 0 1 ≠ 0; decide))]; rfl
          rw [e1]
          exact ⟨⟨fun _ h => h, fun _ => by decide⟩, ⟨fun h => absurd h (by decide), fun h => absurd trivial h⟩⟩
        | false =>
          obtain ⟨_, ha⟩ := ha
          obtain ⟨_, hb⟩ := hb
          obtain ⟨ha1, ha2⟩ := ha rfl
          obtain ⟨hb1, hb2⟩ := hb rfl
          have e1 : cmpV pl ⟨false, false, am⟩ ⟨false, false, bm⟩ = cmpK pl am bm K := by
            unfold cmpV
            rw [if_neg (by rintro (h | h) <;> exact h rfl), show (Vl.mk false false am).m.length = K from ha1]
          rw [e1, cmpK_en hD hB ha2 hb2, sgn_lt, sgn_gt]
          have z : ∀ x y : Int, ¬ (Zv.fin x).le (.fin y) ↔ y < x := fun x y => Int.not_le
          exact ⟨(z _ _).symm, (z _ _).symm⟩
theorem Zi3 {v : Vl} (hv : VOK K D v) {q : Nat} (hq : q < K) : enV pl B K (Zed v q) = (enV pl B K v).add (wtP pl B q) := by
  obtain ⟨e, n, m⟩ := v
  cases n with
  | true =>
    have : Zed ⟨e, true, m⟩ q = ⟨e, true, m⟩ := if_pos (.inr rfl)
    rw [this]; rfl
  | false =>
    cases e with
    | true =>
      have : Zed ⟨true, false, m⟩ q = ⟨true, false, m⟩ := if_pos (.inl rfl)
      rw [this]; rfl
    | false =>
      have : Zed ⟨false, false, m⟩ q = ⟨false, false, m.set q (m.getD q 0 + 1)⟩ := if_neg (by rintro (h | h) <;> cases h)
      rw [this]
      obtain ⟨h1, h2⟩ := hv.2 rfl
      have h1 : m.length = K := h1
      show Zv.fin _ = Zv.fin _
      congr 1
      rw [← Zjp (pl := pl) (B := B) hq, ← Zig]
      refine Zfq fun x hx => ?_
      dsimp only
      simp only [List.getD_eq_getElem?_getD, List.getElem?_set]
      by_cases e : q = x
      · subst e; simp [h1, hq]
      · rw [if_neg e, if_neg (fun h => e h.symm), Int.add_zero]
theorem Zka (hD : 0 ≤ D) (hB : D + 1 ≤ B) {l : Nat → Vl} : ∀ {row : List Int} {out : Vl}, VOK K D out → (∀ w, w ∈ row → VOK K D (l w.toNat)) →
    (enV pl B K (row.foldl (fun out w => if cmpV pl (l w.toNat) out < 0 then l w.toNat else out) out)).le (enV pl B K out) ∧ (∀ w, w ∈ row → (enV pl B K (row.foldl (fun out w => if cmpV pl (l w.toNat) out < 0 then l w.toNat else out) out)).le (enV pl B K (l w.toNat))) ∧
    (row.foldl (fun out w => if cmpV pl (l w.toNat) out < 0 then l w.toNat else out) out = out ∨ ∃ w, w ∈ row ∧ row.foldl (fun out w => if cmpV pl (l w.toNat) out < 0 then l w.toNat else out) out = l w.toNat)
  | [], out, _, _ => ⟨Zv.le_refl _, (fun w h => by cases h), .inl rfl⟩
  | a :: row, out, ho, hl => by
    have ha := hl a List.mem_cons_self
    obtain ⟨c1, _⟩ := Zii (pl := pl) hD hB ha ho
    rw [List.foldl_cons]
    by_cases h : cmpV pl (l a.toNat) out < 0
    · rw [if_pos h]
      obtain ⟨i1, i2, i3⟩ := Zka hD hB (l := l) (row := row) ha fun w hw => hl w (List.mem_cons_of_mem _ hw)
      refine ⟨Zv.le_trans i1 (Zv.le_tot (c1.1 h)), fun w hw => ?_, ?_⟩
      · rcases List.mem_cons.1 hw with rfl | hw
        · exact i1
        · exact i2 w hw
      · rcases i3 with e | ⟨w, hw, e⟩
        · exact .inr ⟨a, List.mem_cons_self, e⟩
        · exact .inr ⟨w, List.mem_cons_of_mem _ hw, e⟩
    · rw [if_neg h]
      obtain ⟨i1, i2, i3⟩ := Zka hD hB (l := l) (row := row) ho fun w hw => hl w (List.mem_cons_of_mem _ hw)
      refine ⟨i1, fun w hw => ?_, ?_⟩
      · rcases List.mem_cons.1 hw with rfl | hw
        · exact Zv.le_trans i1 (Classical.byContradiction fun h2 => h (c1.2 h2))
        · exact i2 w hw
      · rcases i3 with e | ⟨w, hw, e⟩
        · exact .inl e
        · exact .inr ⟨w, List.mem_cons_of_mem _ hw, e⟩
end
section
open Go Pl
def hOw (h : Im) : Nat → Int := fun v => h.o.getD v 0
def hPr (h : Im) : Nat → Int := fun v => h.p.getD v 0
def hLo (h : Im) : Nat → Prop := fun v => h.ls.getD v false = true
def cF (ch : List Int) : Nat → Int := fun v => ch.getD v (-1)
theorem Zis {ch : List Int} {v : Nat} (h : v < ch.length) : cF ch v = ch.getD v 0 := by simp [cF, List.getD_eq_getElem?_getD, h]
def eF (h : Im) (B : Int) (K : Nat) (l : Nat → Vl) : Nat → Zv := fun u => enV h.pl B K (l u)
variable {h : Im} {B D : Int} {K : Nat} {ch : List Int}
theorem Zk1 (H : ImOK h K) (hst : enV h.pl B K h.st = .fin 0) (hD : 0 ≤ D) (hB : D + 1 ≤ B) (hcl : ch.length = h.o.length) (hc : ∀ v, v < h.o.length → ch.getD v 0 < h.o.length) {l : Nat → Vl} (hl : ∀ u, u < h.o.length → VOK K D (l u)) {v : Nat} (hv : v < h.o.length) :
    Bh (hOw h) (rws h.x) h.pl (wtF h.pl B (hPr h)) (cF ch) (eF h B K l) v (enV h.pl B K (h.bh ch l v)) := by
  have hq := (H.p0 v hv).2
  have hcf : cF ch v = ch.getD v 0 := Zis (by omega)
  unfold Im.bh bhV
  by_cases ho : h.o.getD v 0 = h.pl
  · rw [if_pos ho]
    by_cases hcv : ch.getD v 0 < 0
    · rw [if_pos hcv, Zi3 (Zcf H.st hD) hq, hst]
      refine ⟨fun _ _ => ?_, fun u hu => ?_, .inr (.inl ⟨ho, by rw [hcf]; exact hcv⟩)⟩
      · show Zv.fin (0 + _) = Zv.fin _
        rw [Int.zero_add]; rfl
      · have h1 : (u : Int) = ch.getD v 0 := hcf ▸ hu.1 ho
        omega
    · rw [if_neg hcv]
      have hcn := hc v hv
      have hlt : (ch.getD v 0).toNat < h.o.length := by omega
      rw [Zi3 (hl _ hlt) hq]
      refine ⟨fun _ h2 => absurd h2 (by rw [hcf]; exact hcv), fun u hu => ?_, .inr (.inr ⟨(ch.getD v 0).toNat, ⟨fun _ => ?_, fun h2 => absurd ho h2⟩, rfl⟩)⟩
      · have h1 : (u : Int) = ch.getD v 0 := hcf ▸ hu.1 ho
        have : u = (ch.getD v 0).toNat := by omega
        rw [this]; exact Zv.le_refl _
      · rw [hcf]; omega
  · rw [if_neg ho]
    have hrow : ∀ w, w ∈ h.x.getD v [] → VOK K D (l w.toNat) := fun w hw => by
      obtain ⟨j, hj, rfl⟩ := Zc0 hw
      have := (H.row v hv).2 j hj
      exact hl _ (by omega)
    have hout : VOK K D ⟨true, false, []⟩ := ⟨Nat.zero_le _, fun h => by cases h⟩
    obtain ⟨m1, m2, m3⟩ := Zka (pl := h.pl) hD hB (l := l) (row := h.x.getD v []) hout hrow
    have hmin : VOK K D (minV h.pl l (h.x.getD v [])) := Zj9 hrow
    rw [Zi3 hmin hq]
    refine ⟨fun h2 => absurd h2 ho, fun u hu => ?_, ?_⟩
    · obtain ⟨w, hw, rfl⟩ := List.mem_map.1 (hu.2 ho)
      exact Zv.add_mono (m2 w hw)
    · rcases m3 with e | ⟨w, hw, e⟩
      · left
        have e : minV h.pl l (h.x.getD v []) = ⟨true, false, []⟩ := e
        rw [e]; rfl
      · right; right
        refine ⟨w.toNat, ⟨fun h2 => absurd h2 ho, fun _ => List.mem_map.2 ⟨w, hw, rfl⟩⟩, ?_⟩
        have e : minV h.pl l (h.x.getD v []) = l w.toNat := e
        rw [e]; rfl
theorem Ziy (H : ImOK h K) (hD : 0 ≤ D) (hB : D + 2 ≤ B) (hcl : ch.length = h.o.length) (hc : ∀ v, v < h.o.length → ch.getD v 0 < h.o.length) {s : (Nat → Vl) × Bool} (hl : ∀ u, u < h.o.length → VOK K D (s.1 u)) {v : Nat} (hv : v < h.o.length) :
    eF h B K (Zha h ch s v).1 = updZ (hLo h) (eF h B K s.1) v (enV h.pl B K (h.bh ch s.1 v)) ∧ ((hLo h v ∨ (eF h B K s.1 v).le (enV h.pl B K (h.bh ch s.1 v))) → Zha h ch s v = s) := by
  have hbv := Zk0 H hc hD hl hv
  obtain ⟨c1, _⟩ := Zii (pl := h.pl) (B := B) (D := D + 1) (by omega) (by omega) hbv (Zcf (hl v hv) (by omega : D ≤ D + 1))
  have hls : h.ls.getD v false = false ↔ ¬ hLo h v := by
    show _ ↔ ¬ (h.ls.getD v false = true)
    cases h.ls.getD v false <;> simp
  unfold Zha
  refine ⟨?_, fun hh => if_neg fun h2 => ?_⟩
  · funext u
    unfold updZ
    by_cases hcnd : h.ls.getD v false = false ∧ cmpV h.pl (h.bh ch s.1 v) (s.1 v) < 0
    · rw [if_pos hcnd]
      show enV h.pl B K (if u = v then h.bh ch s.1 v else s.1 u) = _
      by_cases e : u = v
      · subst e
        rw [if_pos rfl, if_pos ⟨rfl, hls.1 hcnd.1, c1.1 hcnd.2⟩]
      · rw [if_neg e, if_neg (fun h => e h.1)]; rfl
    · rw [if_neg hcnd, if_neg]
      rintro ⟨rfl, h2, h3⟩
      exact hcnd ⟨hls.2 h2, c1.2 h3⟩
  · rcases hh with hh | hh
    · exact hls.1 h2.1 hh
    · exact c1.1 h2.2 hh
def VokAll (h : Im) (ch : List Int) (K : Nat) (D : Int) : Prop := ∀ j, j ≤ h.o.length → ∀ i, i ≤ h.o.length → ∀ u, u < h.o.length → VOK K D ((Zc3 h ch (vIt h ch j) i).1 u)
theorem Zgt (H : ImOK h K) (hc : ∀ v, v < h.o.length → ch.getD v 0 < h.o.length) : VokAll h ch K 900000000000 := fun j hj i hi u hu => by
  have hn := H.n
  have h1 : (j : Int) * (h.o.length : Int) ≤ 20000 * 20000 := Int.mul_le_mul (by omega) (by omega) (by omega) (by omega)
  exact Zcf (Zhw H hc (Int.mul_nonneg (by omega) (by omega)) (Zky H hc (k := j)) hi u hu) (by omega)
theorem Zkk (H : ImOK h K) (hcl : ch.length = h.o.length) (hc : ∀ v, v < h.o.length → ch.getD v 0 < h.o.length) {v u : Nat} (hv : v < h.o.length) (he : EdI (hOw h) (rws h.x) h.pl (cF ch) v u) : u < h.o.length := by
  by_cases ho : h.o.getD v 0 = h.pl
  · have hcf : cF ch v = ch.getD v 0 := Zis (by omega)
    have h1 : (u : Int) = ch.getD v 0 := hcf ▸ he.1 ho
    have := hc v hv
    omega
  · obtain ⟨w, hw, rfl⟩ := List.mem_map.1 (he.2 ho)
    obtain ⟨j, hj, rfl⟩ := Zc0 hw
    have := (H.row v hv).2 j hj
    omega
abbrev VIh (h : Im) (B : Int) (ch : List Int) (j i : Nat) (l : Nat → Zv) : Prop := VI (hOw h) (rws h.x) h.pl h.o.length (hLo h) (wtF h.pl B (hPr h)) (cF ch) j i l
theorem Ziw (H : ImOK h K) (hst : enV h.pl B K h.st = .fin 0) (hD : 0 ≤ D) (hB : D + 2 ≤ B) (hcl : ch.length = h.o.length) (hc : ∀ v, v < h.o.length → ch.getD v 0 < h.o.length) {j : Nat} {l : Nat → Vl} (hl : ∀ i, i ≤ h.o.length → ∀ u, u < h.o.length → VOK K D ((Zc3 h ch l i).1 u)) (hV : VIh h B ch j 0 (eF h B K l)) : ∀ i, i ≤ h.o.length → VIh h B ch j i (eF h B K (Zc3 h ch l i).1)
  | 0, _ => hV
  | i + 1, hi => by
    have ih := Ziw H hst hD hB hcl hc hl hV i (by omega)
    rw [Zcr, (Ziy H hD hB hcl hc (hl i (by omega)) (v := i) (by omega)).1]
    exact VI_step (fun v u hv he => Zkk H hcl hc hv he) (by omega) ih (Zk1 H hst hD (by omega) hcl hc (hl i (by omega)) (by omega))
theorem Zkt (H : ImOK h K) (hst : enV h.pl B K h.st = .fin 0) (hD : 0 ≤ D) (hB : D + 2 ≤ B) (hcl : ch.length = h.o.length) (hc : ∀ v, v < h.o.length → ch.getD v 0 < h.o.length) (hA : VokAll h ch K D) : ∀ j, j ≤ h.o.length → VIh h B ch j 0 (eF h B K (vIt h ch j))
  | 0, _ => by
    have e : eF h B K (vIt h ch 0) = fun v => open Classical in if hLo h v then .nev else .evr := by
      funext v
      show enV h.pl B K ⟨!h.ls.getD v false, h.ls.getD v false, []⟩ = _
      by_cases e : h.ls.getD v false = true
      · rw [if_pos (show hLo h v from e), e]; rfl
      · have e2 : h.ls.getD v false = false := by simpa using e
        rw [if_neg (show ¬ hLo h v from e), e2]; rfl
    rw [e]
    exact VI_first
  | j + 1, hj => VI_next (Ziw H hst hD hB hcl hc (hA j (by omega)) (Zkt H hst hD hB hcl hc hA j (by omega)) h.o.length (Nat.le_refl _))
end
section
open Go Pl
variable {h : Im} {B : Int} {K : Nat} {ch : List Int}
theorem ed_src (hxl : h.x.length = h.o.length) (hcl : ch.length = h.o.length) {v u : Nat} (he : EdI (hOw h) (rws h.x) h.pl (cF ch) v u) : v < h.o.length := by
  rcases Nat.lt_or_ge v h.o.length with h1 | h1
  · exact h1
  · exfalso
    by_cases ho : hOw h v = h.pl
    · have h2 : (u : Int) = cF ch v := he.1 ho
      have : cF ch v = -1 := by simp [cF, List.getD_eq_getElem?_getD, List.getElem?_eq_none (show ch.length ≤ v by omega)]
      omega
    · have h2 := he.2 ho
      have e : h.x.getD v [] = [] := by rw [List.getD_eq_getElem?_getD, List.getElem?_eq_none (by omega)]; rfl
      unfold rws at h2
      rw [e] at h2
      cases h2
theorem Zj5 (hxl : h.x.length = h.o.length) (hcl : ch.length = h.o.length) : ∀ {a : List Nat} {v u : Nat}, Pth (hOw h) (rws h.x) h.pl (hLo h) (cF ch) v a u → ∀ z, z ∈ v :: a → z < h.o.length
  | [], v, u, hp, z, hz => by
    rw [List.mem_singleton.1 hz]
    exact ed_src hxl hcl hp.2
  | b :: a, v, u, hp, z, hz => by
    rcases List.mem_cons.1 hz with rfl | hz
    · exact ed_src hxl hcl hp.2.1
    · exact Zj5 hxl hcl (a := a) hp.2.2 z hz
abbrev NBh (h : Im) (ch : List Int) : Prop := NB (hOw h) (hPr h) (rws h.x) h.pl h.o.length (hLo h) (cF ch)
structure ChOK (h : Im) (ch : List Int) : Prop where
  len : ch.length = h.o.length
  lt : ∀ v, v < h.o.length → ch.getD v 0 < h.o.length
  nb : NBh h ch
theorem nb_all (H : ImOK h K) (hB : 900000000000 + 1 ≤ B) (hC : ChOK h ch) : ∀ v a, Pth (hOw h) (rws h.x) h.pl (hLo h) (cF ch) v a v → (v :: a).Nodup → 0 ≤ sumW (wtF h.pl B (hPr h)) (v :: a) := fun v a hp hnd => by
  have hn := H.n
  exact nb_cyc (D := 900000000000) (by omega) hB (fun v hv => H.p0 v hv) hC.nb (fun v a u hp _ => Zj5 H.xl hC.len hp) v a hp (Zj5 H.xl hC.len hp v List.mem_cons_self) hnd
theorem pass_stop (H : ImOK h K) (hst : enV h.pl B K h.st = .fin 0) (hB : 900000000000 + 2 ≤ B) (hC : ChOK h ch) : ∀ i, i ≤ h.o.length → Zc3 h ch (vIt h ch h.o.length) i = (vIt h ch h.o.length, false)
  | 0, _ => rfl
  | i + 1, hi => by
    have ih := pass_stop H hst hB hC i (by omega)
    have hA := Zgt H hC.lt
    have hV := Ziw H hst (by decide) hB hC.len hC.lt (hA h.o.length (Nat.le_refl _)) (Zkt H hst (by decide) hB hC.len hC.lt hA h.o.length (Nat.le_refl _)) i (by omega)
    have hl := hA h.o.length (Nat.le_refl _) i (by omega)
    rw [Zcr]
    rw [ih] at hV hl ⊢
    refine (Ziy H (by decide) hB hC.len hC.lt hl (v := i) (by omega)).2 ?_
    exact VI_stop (nb_all H (by omega) hC) (fun v u hv he => Zkk H hC.len hC.lt hv he) (by omega) (Nat.le_refl _) hV (Zk1 H hst (by decide) (by omega) hC.len hC.lt hl (by omega))
theorem least_f {f : Nat → Bool} : ∀ (m : Nat), f m = false → ∃ k, k ≤ m ∧ (∀ j, j < k → f j = true) ∧ f k = false := by
  intro m
  induction m using Nat.strongRecOn with
  | _ m ih =>
    intro hm
    by_cases hj : ∃ j, j < m ∧ f j = false
    · obtain ⟨j, h1, h2⟩ := hj
      obtain ⟨k, h3, h4⟩ := ih j h1 h2
      exact ⟨k, by omega, h4⟩
    · refine ⟨m, Nat.le_refl _, fun j hj2 => ?_, hm⟩
      cases hf : f j with
      | true => rfl
      | false => exact absurd ⟨j, hj2, hf⟩ hj
theorem vend_ex (H : ImOK h K) (hst : enV h.pl B K h.st = .fin 0) (hB : 900000000000 + 2 ≤ B) (hC : ChOK h ch) : ∃ k, k ≤ h.o.length ∧ VEnd h ch k := by
  have hn := H.n
  obtain ⟨k, h1, h2, h3⟩ := least_f (f := fun j => (Zc3 h ch (vIt h ch j) h.o.length).2) h.o.length (by
    show (Zc3 h ch (vIt h ch h.o.length) h.o.length).2 = false
    rw [pass_stop H hst hB hC _ (Nat.le_refl _)])
  exact ⟨k, h1, by omega, h2, h3⟩
theorem pass_flag {l : Nat → Vl} : ∀ {m i : Nat}, (Zc3 h ch l m).2 = false → i < m → ¬ (h.ls.getD i false = false ∧ cmpV h.pl (h.bh ch l i) (l i) < 0)
  | 0, i, _, hi => absurd hi (Nat.not_lt_zero _)
  | m + 1, i, hf, hi => by
    rw [Zcr] at hf
    unfold Zha at hf
    split at hf
    · cases hf
    · rename_i h2
      rcases Nat.lt_succ_iff_lt_or_eq.1 hi with h3 | rfl
      · exact pass_flag hf h3
      · rw [Zfz hf] at h2
        exact h2
theorem Zkf (H : ImOK h K) (hC : ChOK h ch) {k : Nat} (hk : k ≤ h.o.length) : ∀ u, u < h.o.length → VOK K 900000000000 (vIt h ch k u) := fun u hu => Zgt H hC.lt k hk 0 (Nat.zero_le _) u hu
theorem fx_of (H : ImOK h K) (hst : enV h.pl B K h.st = .fin 0) (hB : 900000000000 + 2 ≤ B) (hC : ChOK h ch) (hlo : ∀ v, hLo h v → hOw h v ≠ h.pl) {k : Nat} (hk : k ≤ h.o.length) (hE : VEnd h ch k) (hch : ∀ v, v < h.o.length → hOw h v = h.pl → 0 ≤ cF ch v → eF h B K (vIt h ch k) (cF ch v).toNat ≠ .nev) :
    Fx (hOw h) (hPr h) (rws h.x) h.pl B h.o.length (hLo h) (cF ch) (eF h B K (vIt h ch k)) := by
  have hA := Zgt H hC.lt
  have hV := Zkt H hst (by decide) hB hC.len hC.lt hA k hk
  have hl := Zkf H hC hk
  refine ⟨fun v hv hnl => ?_, hV.lst, hlo, hch⟩
  have hb := Zk1 H hst (by decide) (by omega) hC.len hC.lt hl hv (B := B)
  have h1 := hV.pre v hv hnl _ hb
  have hf := pass_flag hE.2.2 hv
  have hbv := Zk0 H hC.lt (by decide) hl hv
  obtain ⟨c1, _⟩ := Zii (pl := h.pl) (B := B) (D := 900000000000 + 1) (by omega) (by omega) hbv (Zcf (hl v hv) (by omega))
  have h2 : (eF h B K (vIt h ch k) v).le (enV h.pl B K (h.bh ch (vIt h ch k) v)) := Classical.byContradiction fun h3 => hf ⟨by
    cases e : h.ls.getD v false with
    | false => rfl
    | true => exact absurd e hnl, c1.2 h3⟩
  rw [← Zv.le_anti h1 h2]
  exact hb
theorem Zkl (H : ImOK h K) (hC : ChOK h ch) {k : Nat} (hk : k ≤ h.o.length) : DigV h.pl B 900000000000 K h.o.length (eF h B K (vIt h ch k)) (fun v q => (vIt h ch k v).m.getD q 0) := by
  intro v hv x hx
  have hl := Zkf H hC hk v hv
  have hx : enV h.pl B K (vIt h ch k v) = .fin x := hx
  unfold enV at hx
  split at hx
  · cases hx
  · rename_i hn
    split at hx
    · cases hx
    · rename_i he
      injection hx with hx
      have hr : Zch (vIt h ch k v) = 0 := by
        unfold Zch
        rw [if_neg hn, if_neg he]
      exact ⟨hx.symm, (hl.2 hr).2⟩
end
end Go.Proofs.Ytbcghiagomkadaa.Cal
