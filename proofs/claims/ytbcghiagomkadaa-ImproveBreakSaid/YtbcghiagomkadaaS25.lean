/- Own texts of the proof, merged, in order. -/
import Derived.Test.YtbcghiagomkadaaS24
set_option linter.unusedVariables false
set_option linter.unusedSimpArgs false
namespace Go.Proofs.Ytbcghiagomkadaa.Cal
open Go Pl
/-- The greatest of a list, at least 0. -/
def mxI (p : List Int) : Int := p.foldl max 0
theorem mxI_next {p : List Int} {i : Nat} (h : i < p.length) : mxI (p.take (i + 1)) = max (mxI (p.take i)) (p.getD i 0) := by
  unfold mxI
  rw [Zf3 (d := 0) h, List.foldl_append]; rfl
theorem Zhr {p : List Int} {B : Int} (hB : 0 ≤ B) (h : ∀ v, v < p.length → p.getD v 0 ≤ B) : ∀ i, i ≤ p.length → 0 ≤ mxI (p.take i) ∧ mxI (p.take i) ≤ B ∧ ∀ v, v < i → p.getD v 0 ≤ mxI (p.take i)
  | 0, _ => ⟨Int.le_refl _, hB, fun v hv => absurd hv (Nat.not_lt_zero _)⟩
  | i + 1, hi => by
    have ih := Zhr hB h i (by omega)
    have h1 := h i (by omega)
    rw [mxI_next (by omega)]
    refine ⟨by omega, by omega, fun v hv => ?_⟩
    rcases Nat.lt_succ_iff_lt_or_eq.1 hv with h2 | rfl
    · have := ih.2.2 v h2; omega
    · omega
/-- What the strategies begin with. -/
noncomputable def imB (o p : List Int) (x : List (List Int)) (pl : Int) : Im := ⟨o, p, x, pl, ⟨false, false, List.replicate (mxI p + 1).toNat 0⟩, alLs o p x pl⟩
def bNx (h : Im) (ch : List Int) (k : Nat) : List Int × Bool := bPass h (vIt h ch k) ch h.o.length
inductive BRun (h : Im) : Nat → List Int → Nat → (Nat → Vl) → List Int → Prop
  | stop {ch : List Int} {k : Nat} : VEnd h ch k → (bNx h ch k).2 = false → BRun h 0 ch k (vIt h ch k) (bNx h ch k).1
  | more {r k k' : Nat} {ch c : List Int} {l : Nat → Vl} : VEnd h ch k → (bNx h ch k).2 = true → BRun h r (bNx h ch k).1 k' l c → BRun h (r + 1) ch k l c
theorem Zgv {h : Im} {r k : Nat} {ch c : List Int} {l : Nat → Vl} (H : BRun h r ch k l c) : VEnd h ch k ∧ (((bNx h ch k).2 = false ∧ l = vIt h ch k ∧ c = (bNx h ch k).1) ∨ ∃ r' k', r = r' + 1 ∧ (bNx h ch k).2 = true ∧ BRun h r' (bNx h ch k).1 k' l c) := by
  cases H with
  | stop h1 h2 => exact ⟨h1, .inl ⟨h2, rfl, rfl⟩⟩
  | more h1 h2 h3 => exact ⟨h1, .inr ⟨_, _, rfl, h2, h3⟩⟩
structure BsS where
  r : Nat
  ch : List Int
  k : Nat
noncomputable def spBs : Nat → Option Spec
  | 48 => some alS
  | _ => none
theorem Zbe : SpOK Try.prog spBs := by
  intro f S h
  unfold spBs at h
  split at h
  · cases h; exact alone_ok
  · cases h
theorem imB_ok {o p : List Int} {x : List (List Int)} {pl : Int} (H : GmOK o p x) (hmx : ∀ v, v < p.length → p.getD v 0 ≤ 999000) : ImOK (imB o p x pl) (mxI p + 1).toNat := by
  have hb := Zhr (p := p) (B := 999000) (by decide) hmx p.length (Nat.le_refl _)
  rw [List.take_length] at hb
  refine ⟨H.n, H.plen, H.xl, fun v hv => ⟨H.p0 v hv, ?_⟩, H.row, ⟨?_, fun _ => ⟨?_, fun q => ?_⟩⟩, Ze7⟩
  · have := H.p0 v hv
    have := hb.2.2 v (by have := H.plen; have hv : v < o.length := hv; omega)
    show (p.getD v 0).toNat < _
    omega
  · show (List.replicate (mxI p + 1).toNat (0 : Int)).length ≤ _
    rw [List.length_replicate]; omega
  · show (List.replicate (mxI p + 1).toNat (0 : Int)).length = _
    rw [List.length_replicate]
  · show 0 ≤ (List.replicate (mxI p + 1).toNat (0 : Int)).getD q 0 ∧ (List.replicate (mxI p + 1).toNat (0 : Int)).getD q 0 ≤ 0
    have : (List.replicate (mxI p + 1).toNat (0 : Int)).getD q 0 = 0 := by
      simp only [List.getD_eq_getElem?_getD, List.getElem?_replicate]
      split <;> rfl
    rw [this]; exact ⟨Int.le_refl _, Int.le_refl _⟩
set_option maxRecDepth 4000 in
set_option maxHeartbeats 4000000 in
theorem best_fg {o p : List Int} {x : List (List Int)} {pl : Int} {R k : Nat} {L : Nat → Vl} {C : List Int} (H : GmOK o p x) (hmx : ∀ v, v < p.length → p.getD v 0 ≤ 999000) (hR : BRun (imB o p x pl) R (List.replicate o.length (-1)) k L C) :
    FG Try.prog 31 [.agg (.cons (.roI o) (.cons (.roI p) (.cons (.roII x) .nil))), .int .i64 pl] [] 0
      fun g => g = ⟨0, .tup (.cons (.roB ((List.range o.length).map fun v => (L v).e)) (.cons (.roI C) .nil)), []⟩ := by
  have hIm := imB_ok (pl := pl) H hmx
  have hn : o.length ≤ 20000 := H.n
  have hmb := Zhr (p := p) (B := 999000) (by decide) hmx
  have hpl : p.length = o.length := H.plen
  have hp0 := H.p0
  refine Zd1 htb (fn := Try.f31) (by kernel_rfl) (by kernel_rfl) rfl (Nat.le_of_ble_eq_true rfl) fun hl => ?_
  simp only [lenP, mkL, lim] at hl
  repeat' first
    | with_reducible first | refine Zas ?_ | refine Zao ?_ | refine Zac ?_ | refine Zad ?_ | refine Zai ?_ | refine Zaq ?_ | refine Zah ?_ | refine Zak ?_ | refine Zar ?_ | refine Zat ?_ | refine Zap ?_ | refine Zam ?_ | refine Zaa ?_ | refine Zae ?_ | refine Zab ?_ | refine Zal ?_
    | ((with_reducible refine Zaj ?_ ?_); exact rfl)
    | ((with_reducible refine Zau ?_); refine Zan rfl ?_ ?_ <;> intro hb <;> (try simp only [zH] at hb))
    | ((with_reducible refine Zav 3 ?_ ?_); (· exact rfl); (first | refine Zaf htb hmz Zbe (fun _ => false) rfl rfl ?_ | refine Zag hmo htb hmz Zbe (fun _ => false) rfl rfl (by kernel_rfl) ?_); intro m' e' l' ob h; simp only [zE0, zE1, zE2, zE3, zE4, zE5, evp, evx, ev1, evLoad, evStore, evBin, isBoolK, forall_const, z38, tb, Nat.reduceAdd, Nat.reduceSub, Nat.reduceMul, Nat.reduceEqDiff, Nat.reduceLeDiff, Nat.reduceLT, Nat.reduceBEq, Nat.reduceBNe, ↓reduceIte, reduceIte, spBs, alS, vlA] at h; obtain ⟨rfl, rfl, rfl, rfl⟩ := h; refine ⟨?_, ?_⟩)
    | ((with_reducible refine Ob.mk ?_); first | exact trivial | (intros; omega) | ((repeat' first | apply And.intro | (intro hg; have hg' := hg; try simp only [zH] at hg')) <;> first | assumption | omega | (simp only [zH]; omega)))
  refine Za1 (τ := Nat) (fun i => i ≤ p.length) (fun i => ⟨7, [(17, .int .i64 i), (16, .int .i64 p.length), (15, .roI p), (6, .int .i64 (mxI (p.take i))), (1, .int .i64 pl), (2, .rop (.agg (.cons (.roI o) (.cons (.roI p) (.cons (.roII x) .nil)))))], [], []⟩) (fun i => p.length - i) 0 [] ?_ (Nat.zero_le _) ?_
  · (refine ⟨rfl, ?_, ?_⟩ <;> simp only [zE0, zE1, zE2, zE3, zE4, zE5, evp, evx, ev1, evLoad, evStore, evBin, isBoolK, forall_const, z38, tb, Nat.reduceAdd, Nat.reduceSub, Nat.reduceMul, Nat.reduceEqDiff, Nat.reduceLeDiff, Nat.reduceLT, Nat.reduceBEq, Nat.reduceBNe, ↓reduceIte, reduceIte, spBs, alS, vlA, zI])
    rfl
  intro i hi
  have hm1 := mxI_next (p := p) (i := i)
  repeat' first
    | with_reducible first | refine Zas ?_ | refine Zao ?_ | refine Zac ?_ | refine Zad ?_ | refine Zai ?_ | refine Zaq ?_ | refine Zah ?_ | refine Zak ?_ | refine Zar ?_ | refine Zat ?_ | refine Zap ?_ | refine Zam ?_ | refine Zaa ?_ | refine Zae ?_ | refine Zab ?_ | refine Zal ?_
    | ((with_reducible refine Zaj ?_ ?_); exact rfl)
    | ((with_reducible refine Zau ?_); refine Zan rfl ?_ ?_ <;> intro hb <;> (try simp only [zH] at hb))
    | ((with_reducible refine Zav 4 ?_ ?_); (· exact rfl); (with_reducible refine Zav 7 ?_ ?_); (· exact rfl); (first | refine Zaf htb hmz Zbe (fun _ => false) rfl rfl ?_ | refine Zag hmo htb hmz Zbe (fun _ => false) rfl rfl (by kernel_rfl) ?_); intro m' e' l' ob h; simp only [zE0, zE1, zE2, zE3, zE4, zE5, evp, evx, ev1, evLoad, evStore, evBin, isBoolK, forall_const, z38, tb, Nat.reduceAdd, Nat.reduceSub, Nat.reduceMul, Nat.reduceEqDiff, Nat.reduceLeDiff, Nat.reduceLT, Nat.reduceBEq, Nat.reduceBNe, ↓reduceIte, reduceIte, spBs, alS, vlA] at h; obtain ⟨rfl, rfl, rfl, rfl⟩ := h; refine ⟨?_, ?_⟩)
    | ((with_reducible refine Ob.mk ?_); first | exact trivial | (intros; omega) | ((repeat' first | apply And.intro | (intro hg; have hg' := hg; try simp only [zH] at hg')) <;> first | assumption | omega | (simp only [zH]; omega)))
  · have hil : i < p.length := by omega
    have hm1 := hm1 hil
    repeat' first
      | with_reducible first | refine Zas ?_ | refine Zao ?_ | refine Zac ?_ | refine Zad ?_ | refine Zai ?_ | refine Zaq ?_ | refine Zah ?_ | refine Zak ?_ | refine Zar ?_ | refine Zat ?_ | refine Zap ?_ | refine Zam ?_ | refine Zaa ?_ | refine Zae ?_ | refine Zab ?_ | refine Zal ?_
      | ((with_reducible refine Zaj ?_ ?_); exact rfl)
      | ((with_reducible refine Zau ?_); refine Zan rfl ?_ ?_ <;> intro hb <;> (try simp only [zH] at hb))
      | ((with_reducible refine Za0 ?_); (first | refine Zaf htb hmz Zbe (fun _ => false) rfl rfl ?_ | refine Zag hmo htb hmz Zbe (fun _ => false) rfl rfl (by kernel_rfl) ?_); intro m' e' l' ob h; simp only [zE0, zE1, zE2, zE3, zE4, zE5, evp, evx, ev1, evLoad, evStore, evBin, isBoolK, forall_const, z38, tb, Nat.reduceAdd, Nat.reduceSub, Nat.reduceMul, Nat.reduceEqDiff, Nat.reduceLeDiff, Nat.reduceLT, Nat.reduceBEq, Nat.reduceBNe, ↓reduceIte, reduceIte, spBs, alS, vlA] at h; obtain ⟨rfl, rfl, rfl, rfl⟩ := h; refine ⟨?_, ?_⟩)
      | ((with_reducible refine Ob.mk ?_); first | exact trivial | (intros; omega) | ((repeat' first | apply And.intro | (intro hg; have hg' := hg; try simp only [zH] at hg')) <;> first | assumption | omega | (simp only [zH]; omega)))
    refine back (i + 1) [] ?_ (by omega) (by omega)
    (refine ⟨rfl, ?_, ?_⟩ <;> simp only [zE0, zE1, zE2, zE3, zE4, zE5, evp, evx, ev1, evLoad, evStore, evBin, isBoolK, forall_const, z38, tb, Nat.reduceAdd, Nat.reduceSub, Nat.reduceMul, Nat.reduceEqDiff, Nat.reduceLeDiff, Nat.reduceLT, Nat.reduceBEq, Nat.reduceBNe, ↓reduceIte, reduceIte, spBs, alS, vlA, zI])
    exact hm1
  have hie : i = p.length := by omega
  subst hie
  have hmp := hmb p.length (Nat.le_refl _)
  rw [List.take_length] at hmp ⊢
  clear hmb hm1
  (refine Zag hmo htb hmz Zbe (fun i => Nat.beq i 4) rfl rfl (by kernel_rfl) ?_; intro m' e' l' ob h; simp only [zE0, zE1, zE2, zE3, zE4, zE5, evp, evx, ev1, evLoad, evStore, evBin, isBoolK, forall_const, z38, tb, Nat.reduceAdd, Nat.reduceSub, Nat.reduceMul, Nat.reduceEqDiff, Nat.reduceLeDiff, Nat.reduceLT, Nat.reduceBEq, Nat.reduceBNe, ↓reduceIte, reduceIte, spBs, alS, vlA] at h; obtain ⟨rfl, rfl, rfl, rfl⟩ := h; refine ⟨?_, ?_⟩)
  · first | ((with_reducible refine Ob.mk ?_); first | exact trivial | (intros; omega) | ((repeat' first | apply And.intro | (intro hg; have hg' := hg; try simp only [zH] at hg')) <;> first | (with_reducible exact True.intro) | assumption | omega | (simp only [zH]; omega))) | skip
  refine Zac ?_
  unfold imB at hR hIm
  clear hmp
  generalize (mxI p + 1).toNat = K at *
  generalize List.replicate K (0 : Int) = sm at *
  generalize alLs o p x pl = al at *
  repeat' first
    | with_reducible first | refine Zas ?_ | refine Zao ?_ | refine Zac ?_ | refine Zad ?_ | refine Zai ?_ | refine Zaq ?_ | refine Zah ?_ | refine Zak ?_ | refine Zar ?_ | refine Zat ?_ | refine Zap ?_ | refine Zam ?_ | refine Zaa ?_ | refine Zae ?_ | refine Zab ?_ | refine Zal ?_
    | ((with_reducible refine Zaj ?_ ?_); exact rfl)
    | ((with_reducible refine Zau ?_); refine Zan rfl ?_ ?_ <;> intro hb <;> (try simp only [zH] at hb))
    | ((with_reducible refine Za0 ?_); (first | refine Zaf htb hmz Zbe (fun _ => false) rfl rfl ?_ | refine Zag hmo htb hmz Zbe (fun _ => false) rfl rfl (by kernel_rfl) ?_); intro m' e' l' ob h; simp only [zE0, zE1, zE2, zE3, zE4, zE5, evp, evx, ev1, evLoad, evStore, evBin, isBoolK, forall_const, z38, tb, Nat.reduceAdd, Nat.reduceSub, Nat.reduceMul, Nat.reduceEqDiff, Nat.reduceLeDiff, Nat.reduceLT, Nat.reduceBEq, Nat.reduceBNe, ↓reduceIte, reduceIte, spBs, alS, vlA] at h; obtain ⟨rfl, rfl, rfl, rfl⟩ := h; refine ⟨?_, ?_⟩)
    | ((with_reducible refine Ob.mk ?_); first | exact trivial | (intros; omega) | ((repeat' first | apply And.intro | (intro hg; have hg' := hg; try simp only [zH] at hg')) <;> first | (with_reducible exact True.intro) | assumption | omega | (simp only [zH]; omega)))
  have hz : List.replicate o.length 0 = mix (fun _ => (-1 : Int)) (fun _ => 0) o.length 0 := List.ext_getElem (by simp [mix]) fun j h1 h2 => by simp [mix]
  refine Za1 (τ := Nat) (fun i => i ≤ o.length) (fun i => ⟨28, [(42, .int .i64 i), (41, .int .i64 o.length), (9, .own 22)], [(20, some (.ints (mix (fun _ => (-1 : Int)) (fun _ => 0) o.length i))), (22, some (.box (.agg (.cons (.roI o) (.cons (.roI p) (.cons (.roII x) (.cons (.int .i64 pl) (.cons (.bool false) (.cons (.bool false) (.cons (.roI sm) (.cons (.roB al) (.cons (.own 20) .nil))))))))))))], []⟩) (fun i => o.length - i) 0 [] ?_ (Nat.zero_le _) ?_
  · (refine ⟨rfl, ?_, ?_⟩ <;> simp only [zE0, zE1, zE2, zE3, zE4, zE5, evp, evx, ev1, evLoad, evStore, evBin, isBoolK, forall_const, z38, tb, Nat.reduceAdd, Nat.reduceSub, Nat.reduceMul, Nat.reduceEqDiff, Nat.reduceLeDiff, Nat.reduceLT, Nat.reduceBEq, Nat.reduceBNe, ↓reduceIte, reduceIte, spBs, alS, vlA, zI])
    · simp
    · exact hz
  intro i hi
  have hml : (mix (fun _ => (-1 : Int)) (fun _ => 0) o.length i).length = o.length := Zdo
  have hms := Zdn (f := fun _ => (-1 : Int)) (h := fun _ => 0) (n := o.length) (i := i)
  repeat' first
    | with_reducible first | refine Zas ?_ | refine Zao ?_ | refine Zac ?_ | refine Zad ?_ | refine Zai ?_ | refine Zaq ?_ | refine Zah ?_ | refine Zak ?_ | refine Zar ?_ | refine Zat ?_ | refine Zap ?_ | refine Zam ?_ | refine Zaa ?_ | refine Zae ?_ | refine Zab ?_ | refine Zal ?_
    | ((with_reducible refine Zaj ?_ ?_); exact rfl)
    | ((with_reducible refine Zau ?_); refine Zan rfl ?_ ?_ <;> intro hb <;> (try simp only [zH] at hb))
    | ((with_reducible refine Zav 10 ?_ ?_); (· exact rfl); (with_reducible refine Zav 13 ?_ ?_); (· exact rfl); (first | refine Zaf htb hmz Zbe (fun _ => false) rfl rfl ?_ | refine Zag hmo htb hmz Zbe (fun _ => false) rfl rfl (by kernel_rfl) ?_); intro m' e' l' ob h; simp only [zE0, zE1, zE2, zE3, zE4, zE5, evp, evx, ev1, evLoad, evStore, evBin, isBoolK, forall_const, z38, tb, Nat.reduceAdd, Nat.reduceSub, Nat.reduceMul, Nat.reduceEqDiff, Nat.reduceLeDiff, Nat.reduceLT, Nat.reduceBEq, Nat.reduceBNe, ↓reduceIte, reduceIte, spBs, alS, vlA] at h; obtain ⟨rfl, rfl, rfl, rfl⟩ := h; refine ⟨?_, ?_⟩)
    | ((with_reducible refine Ob.mk ?_); first | exact trivial | (intros; omega) | ((repeat' first | apply And.intro | (intro hg; have hg' := hg; try simp only [zH] at hg')) <;> first | (with_reducible exact True.intro) | assumption | omega | (simp only [zH]; omega)))
  · repeat' first
      | with_reducible first | refine Zas ?_ | refine Zao ?_ | refine Zac ?_ | refine Zad ?_ | refine Zai ?_ | refine Zaq ?_ | refine Zah ?_ | refine Zak ?_ | refine Zar ?_ | refine Zat ?_ | refine Zap ?_ | refine Zam ?_ | refine Zaa ?_ | refine Zae ?_ | refine Zab ?_ | refine Zal ?_
      | ((with_reducible refine Zaj ?_ ?_); exact rfl)
      | ((with_reducible refine Zau ?_); refine Zan rfl ?_ ?_ <;> intro hb <;> (try simp only [zH] at hb))
      | ((with_reducible refine Za0 ?_); (first | refine Zaf htb hmz Zbe (fun _ => false) rfl rfl ?_ | refine Zag hmo htb hmz Zbe (fun _ => false) rfl rfl (by kernel_rfl) ?_); intro m' e' l' ob h; simp only [zE0, zE1, zE2, zE3, zE4, zE5, evp, evx, ev1, evLoad, evStore, evBin, isBoolK, forall_const, z38, tb, Nat.reduceAdd, Nat.reduceSub, Nat.reduceMul, Nat.reduceEqDiff, Nat.reduceLeDiff, Nat.reduceLT, Nat.reduceBEq, Nat.reduceBNe, ↓reduceIte, reduceIte, spBs, alS, vlA] at h; obtain ⟨rfl, rfl, rfl, rfl⟩ := h; refine ⟨?_, ?_⟩)
      | ((with_reducible refine Ob.mk ?_); first | exact trivial | (intros; omega) | ((repeat' first | apply And.intro | (intro hg; have hg' := hg; try simp only [zH] at hg')) <;> first | (with_reducible exact True.intro) | assumption | omega | (simp only [zH]; omega)))
    refine back (i + 1) [] ?_ (by omega) (by omega)
    (refine ⟨rfl, ?_, ?_⟩ <;> simp only [zE0, zE1, zE2, zE3, zE4, zE5, evp, evx, ev1, evLoad, evStore, evBin, isBoolK, forall_const, z38, tb, Nat.reduceAdd, Nat.reduceSub, Nat.reduceMul, Nat.reduceEqDiff, Nat.reduceLeDiff, Nat.reduceLT, Nat.reduceBEq, Nat.reduceBNe, ↓reduceIte, reduceIte, spBs, alS, vlA, zI])
    exact hms
  have hie : i = o.length := by omega
  subst hie
  have hall : (List.range o.length).map (fun _ => (-1 : Int)) = List.replicate o.length (-1) := List.ext_getElem (by simp) fun j h1 h2 => by simp
  rw [Zdp, hall]
  clear hall hz hms hml
  have hc0 : (List.replicate o.length (-1 : Int)).length = o.length := List.length_replicate ..
  have hc1 : ∀ v, v < o.length → (List.replicate o.length (-1 : Int)).getD v 0 < o.length := fun v hv => by
    have : (List.replicate o.length (-1 : Int)).getD v 0 = -1 := by
      simp [List.getD_eq_getElem?_getD, hv]
    omega
  generalize List.replicate o.length (-1 : Int) = ch at *
  have hV := (Zgv hR).1
  refine Zcg ([_]) ([_]) rfl rfl ?_
  refine Zaz htb hmz Zbe (fun _ => false) rfl rfl rfl ?_; intro m' e' l' ob h; simp only [zE0, zE1, zE2, zE3, zE4, zE5, evp, evx, ev1, evLoad, evStore, evBin, isBoolK, forall_const, z38, tb, Nat.reduceAdd, Nat.reduceSub, Nat.reduceMul, Nat.reduceEqDiff, Nat.reduceLeDiff, Nat.reduceLT, Nat.reduceBEq, Nat.reduceBNe, ↓reduceIte, reduceIte, spBs, alS, vlA] at h; obtain ⟨rfl, rfl, rfl, rfl⟩ := h; refine ⟨?_, Zac ?_⟩
  · first | ((with_reducible refine Ob.mk ?_); first | exact trivial | (intros; omega) | ((repeat' first | apply And.intro | (intro hg; have hg' := hg; try simp only [zH] at hg')) <;> first | (with_reducible exact True.intro) | assumption | omega | (simp only [zH]; omega))) | skip
  refine Zbh ([20]) (values_fg (o := o) (p := p) (x := x) (pl := pl) (st := ⟨false, false, sm⟩) (ls := al) (ch := ch) (K := K) (k := k) hIm hc0 hc1 hV) rfl rfl rfl rfl rfl rfl rfl rfl rfl (by simp only [rinR, rhoC, zE0, zE1, zE2, zE3, zE4, zE5, evp, evx, ev1, evLoad, evStore, evBin, isBoolK, forall_const, z38, tb, Nat.reduceAdd, Nat.reduceSub, Nat.reduceMul, Nat.reduceEqDiff, Nat.reduceLeDiff, Nat.reduceLT, Nat.reduceBEq, Nat.reduceBNe, ↓reduceIte, reduceIte, spBs, alS, vlA]) ?_; intro gm gv gr hq m' e' l' h; simp only [GR.mk.injEq] at hq; obtain ⟨rfl, rfl, rfl⟩ := hq; simp only [rhoC, outR, renR, dels, zE0, zE1, zE2, zE3, zE4, zE5, evp, evx, ev1, evLoad, evStore, evBin, isBoolK, forall_const, z38, tb, Nat.reduceAdd, Nat.reduceSub, Nat.reduceMul, Nat.reduceEqDiff, Nat.reduceLeDiff, Nat.reduceLT, Nat.reduceBEq, Nat.reduceBNe, ↓reduceIte, reduceIte, spBs, alS, vlA] at h; obtain ⟨rfl, rfl, rfl⟩ := h; refine Zac ?_
  refine Zaz htb hmz Zbe (fun _ => false) rfl rfl rfl ?_; intro m' e' l' ob h; simp only [zE0, zE1, zE2, zE3, zE4, zE5, evp, evx, ev1, evLoad, evStore, evBin, isBoolK, forall_const, z38, tb, Nat.reduceAdd, Nat.reduceSub, Nat.reduceMul, Nat.reduceEqDiff, Nat.reduceLeDiff, Nat.reduceLT, Nat.reduceBEq, Nat.reduceBNe, ↓reduceIte, reduceIte, spBs, alS, vlA] at h; obtain ⟨rfl, rfl, rfl, rfl⟩ := h; refine ⟨?_, ?_⟩
  · first | ((with_reducible refine Ob.mk ?_); first | exact trivial | (intros; omega) | ((repeat' first | apply And.intro | (intro hg; have hg' := hg; try simp only [zH] at hg')) <;> first | (with_reducible exact True.intro) | assumption | omega | (simp only [zH]; omega))) | skip
  refine Zac ?_
  have hD0 : 0 ≤ (20001 : Int) * (o.length : Int) := Int.mul_nonneg (by decide) (by omega)
  have hvok : ∀ (ch : List Int) (k : Nat), (∀ v, v < o.length → ch.getD v 0 < o.length) → k ≤ 20001 → ∀ u, u < o.length → VOK K (20001 * (o.length : Int)) (vIt ⟨o, p, x, pl, ⟨false, false, sm⟩, al⟩ ch k u) := fun ch k hc hk u hu => Zc0 (Zh4 hIm hc (k := k) u hu) (Int.mul_le_mul_of_nonneg_right (by omega) (by show (0 : Int) ≤ (o.length : Int); omega))
  have hbl := fun l ch => @Zdb ⟨o, p, x, pl, ⟨false, false, sm⟩, al⟩ l ch o.length
  have hblt := fun (l : Nat → Vl) (ch : List Int) (hcl : ch.length = o.length) (hc1 : ∀ v, v < o.length → ch.getD v 0 < o.length) => Zgq (h := ⟨o, p, x, pl, ⟨false, false, sm⟩, al⟩) (l := l) (ch := ch) (n := o.length) (fun v w hw hv => by
    obtain ⟨j, hj, rfl⟩ := Zc9 hw
    exact ((hIm.row v (by show v < o.length; omega)).2 j hj).2) (i := o.length) (by omega) (fun v hv => hc1 v (by omega))
  repeat' first
    | with_reducible first | refine Zas ?_ | refine Zao ?_ | refine Zac ?_ | refine Zad ?_ | refine Zai ?_ | refine Zaq ?_ | refine Zah ?_ | refine Zak ?_ | refine Zar ?_ | refine Zat ?_ | refine Zap ?_ | refine Zam ?_ | refine Zaa ?_ | refine Zae ?_ | refine Zab ?_ | refine Zal ?_
    | ((with_reducible refine Zaj ?_ ?_); exact rfl)
    | ((with_reducible refine Zau ?_); refine Zan rfl ?_ ?_ <;> intro hb <;> (try simp only [zH] at hb))
    | ((with_reducible refine Zav 14 ?_ ?_); (· exact rfl); (first | refine Zaf htb hmz Zbe (fun _ => false) rfl rfl ?_ | refine Zag hmo htb hmz Zbe (fun _ => false) rfl rfl (by kernel_rfl) ?_); intro m' e' l' ob h; simp only [zE0, zE1, zE2, zE3, zE4, zE5, evp, evx, ev1, evLoad, evStore, evBin, isBoolK, forall_const, z38, tb, Nat.reduceAdd, Nat.reduceSub, Nat.reduceMul, Nat.reduceEqDiff, Nat.reduceLeDiff, Nat.reduceLT, Nat.reduceBEq, Nat.reduceBNe, ↓reduceIte, reduceIte, spBs, alS, vlA] at h; obtain ⟨rfl, rfl, rfl, rfl⟩ := h; refine ⟨?_, ?_⟩)
    | ((with_reducible refine Ob.mk ?_); first | exact trivial | (intros; omega) | ((repeat' first | apply And.intro | (intro hg; have hg' := hg; try simp only [zH] at hg')) <;> first | (with_reducible exact True.intro) | assumption | omega | (simp only [zH]; omega)))
  refine Za1 (τ := BsS) (fun s => BRun ⟨o, p, x, pl, ⟨false, false, sm⟩, al⟩ s.r s.ch s.k L C ∧ s.ch.length = o.length ∧ ∀ v, v < o.length → s.ch.getD v 0 < o.length) (fun s => ⟨31, [(11, .own 30), (9, .own 22)], [(20, some (.ints s.ch)), (30, some (.avs 3 o.length fun j => vlA (vIt ⟨o, p, x, pl, ⟨false, false, sm⟩, al⟩ s.ch s.k j))), (22, some (.box (.agg (.cons (.roI o) (.cons (.roI p) (.cons (.roII x) (.cons (.int .i64 pl) (.cons (.bool false) (.cons (.bool false) (.cons (.roI sm) (.cons (.roB al) (.cons (.own 20) .nil))))))))))))], []⟩) (fun s => s.r) ⟨R, ch, k⟩ [] ?_ ⟨hR, hc0, hc1⟩ ?_
  · (refine ⟨rfl, ?_, ?_⟩ <;> simp only [zE0, zE1, zE2, zE3, zE4, zE5, evp, evx, ev1, evLoad, evStore, evBin, isBoolK, forall_const, z38, tb, Nat.reduceAdd, Nat.reduceSub, Nat.reduceMul, Nat.reduceEqDiff, Nat.reduceLeDiff, Nat.reduceLT, Nat.reduceBEq, Nat.reduceBNe, ↓reduceIte, reduceIte, spBs, alS, vlA, zI])
  clear hR hc0 hc1 hV
  clear ch k
  rintro ⟨r, ch, k⟩ ⟨hR, hc0, hc1⟩
  dsimp only at hR hc0 hc1 ⊢
  obtain ⟨hV, hBR⟩ := Zgv hR
  have hvk := hvok ch k hc1 hV.1
  repeat' first
    | with_reducible first | refine Zas ?_ | refine Zao ?_ | refine Zac ?_ | refine Zad ?_ | refine Zai ?_ | refine Zaq ?_ | refine Zah ?_ | refine Zak ?_ | refine Zar ?_ | refine Zat ?_ | refine Zap ?_ | refine Zam ?_ | refine Zaa ?_ | refine Zae ?_ | refine Zab ?_ | refine Zal ?_
    | ((with_reducible refine Zaj ?_ ?_); exact rfl)
    | ((with_reducible refine Zau ?_); refine Zan rfl ?_ ?_ <;> intro hb <;> (try simp only [zH] at hb))
    | ((with_reducible refine Zav 14 ?_ ?_); (· exact rfl); (first | refine Zaf htb hmz Zbe (fun _ => false) rfl rfl ?_ | refine Zag hmo htb hmz Zbe (fun _ => false) rfl rfl (by kernel_rfl) ?_); intro m' e' l' ob h; simp only [zE0, zE1, zE2, zE3, zE4, zE5, evp, evx, ev1, evLoad, evStore, evBin, isBoolK, forall_const, z38, tb, Nat.reduceAdd, Nat.reduceSub, Nat.reduceMul, Nat.reduceEqDiff, Nat.reduceLeDiff, Nat.reduceLT, Nat.reduceBEq, Nat.reduceBNe, ↓reduceIte, reduceIte, spBs, alS, vlA] at h; obtain ⟨rfl, rfl, rfl, rfl⟩ := h; refine ⟨?_, ?_⟩)
    | ((with_reducible refine Ob.mk ?_); first | exact trivial | (intros; omega) | ((repeat' first | apply And.intro | (intro hg; have hg' := hg; try simp only [zH] at hg')) <;> first | (with_reducible exact True.intro) | assumption | omega | (simp only [zH]; omega)))
  refine Zcg ([_, _]) ([]) rfl rfl ?_
  refine Zaz htb hmz Zbe (fun _ => false) rfl rfl rfl ?_; intro m' e' l' ob h; simp only [zE0, zE1, zE2, zE3, zE4, zE5, evp, evx, ev1, evLoad, evStore, evBin, isBoolK, forall_const, z38, tb, Nat.reduceAdd, Nat.reduceSub, Nat.reduceMul, Nat.reduceEqDiff, Nat.reduceLeDiff, Nat.reduceLT, Nat.reduceBEq, Nat.reduceBNe, ↓reduceIte, reduceIte, spBs, alS, vlA] at h; obtain ⟨rfl, rfl, rfl, rfl⟩ := h; refine ⟨?_, Zac ?_⟩
  · first | ((with_reducible refine Ob.mk ?_); first | exact trivial | (intros; omega) | ((repeat' first | apply And.intro | (intro hg; have hg' := hg; try simp only [zH] at hg')) <;> first | (with_reducible exact True.intro) | assumption | omega | (simp only [zH]; omega))) | skip
  refine Zbh ([30, 20]) (better_fg (o := o) (p := p) (x := x) (pl := pl) (st := ⟨false, false, sm⟩) (ls := al) (ch := ch) (K := K) hIm hD0 hc0 hc1 hvk) rfl rfl rfl rfl rfl rfl rfl rfl rfl (by simp only [rinR, rhoC, zE0, zE1, zE2, zE3, zE4, zE5, evp, evx, ev1, evLoad, evStore, evBin, isBoolK, forall_const, z38, tb, Nat.reduceAdd, Nat.reduceSub, Nat.reduceMul, Nat.reduceEqDiff, Nat.reduceLeDiff, Nat.reduceLT, Nat.reduceBEq, Nat.reduceBNe, ↓reduceIte, reduceIte, spBs, alS, vlA]) ?_; intro gm gv gr hq m' e' l' h; simp only [GR.mk.injEq] at hq; obtain ⟨rfl, rfl, rfl⟩ := hq; simp only [rhoC, outR, renR, dels, zE0, zE1, zE2, zE3, zE4, zE5, evp, evx, ev1, evLoad, evStore, evBin, isBoolK, forall_const, z38, tb, Nat.reduceAdd, Nat.reduceSub, Nat.reduceMul, Nat.reduceEqDiff, Nat.reduceLeDiff, Nat.reduceLT, Nat.reduceBEq, Nat.reduceBNe, ↓reduceIte, reduceIte, spBs, alS, vlA] at h; obtain ⟨rfl, rfl, rfl⟩ := h; refine Zac ?_
  refine awpL_nil ?_
  have hnl := hbl (vIt ⟨o, p, x, pl, ⟨false, false, sm⟩, al⟩ ch k) ch
  have hnt := hblt (vIt ⟨o, p, x, pl, ⟨false, false, sm⟩, al⟩ ch k) ch hc0 hc1
  have hbe : bPass ⟨o, p, x, pl, ⟨false, false, sm⟩, al⟩ (vIt ⟨o, p, x, pl, ⟨false, false, sm⟩, al⟩ ch k) ch o.length = bNx ⟨o, p, x, pl, ⟨false, false, sm⟩, al⟩ ch k := rfl
  rw [hbe] at hnl hnt ⊢
  repeat' first
    | with_reducible first | refine Zas ?_ | refine Zao ?_ | refine Zac ?_ | refine Zad ?_ | refine Zai ?_ | refine Zaq ?_ | refine Zah ?_ | refine Zak ?_ | refine Zar ?_ | refine Zat ?_ | refine Zap ?_ | refine Zam ?_ | refine Zaa ?_ | refine Zae ?_ | refine Zab ?_ | refine Zal ?_
    | ((with_reducible refine Zaj ?_ ?_); exact rfl)
    | ((with_reducible refine Zau ?_); refine Zan rfl ?_ ?_ <;> intro hb <;> (try simp only [zH] at hb))
    | ((with_reducible refine Zav 15 ?_ ?_); (· exact rfl); (with_reducible refine Zav 16 ?_ ?_); (· exact rfl); (first | refine Zaf htb hmz Zbe (fun _ => false) rfl rfl ?_ | refine Zag hmo htb hmz Zbe (fun _ => false) rfl rfl (by kernel_rfl) ?_); intro m' e' l' ob h; simp only [zE0, zE1, zE2, zE3, zE4, zE5, evp, evx, ev1, evLoad, evStore, evBin, isBoolK, forall_const, z38, tb, Nat.reduceAdd, Nat.reduceSub, Nat.reduceMul, Nat.reduceEqDiff, Nat.reduceLeDiff, Nat.reduceLT, Nat.reduceBEq, Nat.reduceBNe, ↓reduceIte, reduceIte, spBs, alS, vlA] at h; obtain ⟨rfl, rfl, rfl, rfl⟩ := h; refine ⟨?_, ?_⟩)
    | ((with_reducible refine Ob.mk ?_); first | exact trivial | (intros; omega) | ((repeat' first | apply And.intro | (intro hg; have hg' := hg; try simp only [zH] at hg')) <;> first | (with_reducible exact True.intro) | assumption | omega | (simp only [zH]; omega)))
  · rcases hBR with ⟨h1, h2, h3⟩ | ⟨r', k', h1, h2, h3⟩
    · rw [h1] at hb; cases hb
    have hV2 := (Zgv h3).1
    subst h1
    generalize (bNx ⟨o, p, x, pl, ⟨false, false, sm⟩, al⟩ ch k).1 = ch2 at *
    have hc2 : ch2.length = o.length := by omega
    have hnt2 : ∀ v, v < o.length → ch2.getD v 0 < o.length := fun v hv => hnt v (by omega)
    refine Zcg ([_]) ([_]) rfl rfl ?_
    refine Zaz htb hmz Zbe (fun _ => false) rfl rfl rfl ?_; intro m' e' l' ob h; simp only [zE0, zE1, zE2, zE3, zE4, zE5, evp, evx, ev1, evLoad, evStore, evBin, isBoolK, forall_const, z38, tb, Nat.reduceAdd, Nat.reduceSub, Nat.reduceMul, Nat.reduceEqDiff, Nat.reduceLeDiff, Nat.reduceLT, Nat.reduceBEq, Nat.reduceBNe, ↓reduceIte, reduceIte, spBs, alS, vlA] at h; obtain ⟨rfl, rfl, rfl, rfl⟩ := h; refine ⟨?_, Zac ?_⟩
    · first | ((with_reducible refine Ob.mk ?_); first | exact trivial | (intros; omega) | ((repeat' first | apply And.intro | (intro hg; have hg' := hg; try simp only [zH] at hg')) <;> first | (with_reducible exact True.intro) | assumption | omega | (simp only [zH]; omega))) | skip
    refine Zbh ([20]) (values_fg (o := o) (p := p) (x := x) (pl := pl) (st := ⟨false, false, sm⟩) (ls := al) (ch := ch2) (K := K) (k := k') hIm hc2 hnt2 hV2) rfl rfl rfl rfl rfl rfl rfl rfl rfl (by simp only [rinR, rhoC, zE0, zE1, zE2, zE3, zE4, zE5, evp, evx, ev1, evLoad, evStore, evBin, isBoolK, forall_const, z38, tb, Nat.reduceAdd, Nat.reduceSub, Nat.reduceMul, Nat.reduceEqDiff, Nat.reduceLeDiff, Nat.reduceLT, Nat.reduceBEq, Nat.reduceBNe, ↓reduceIte, reduceIte, spBs, alS, vlA]) ?_; intro gm gv gr hq m' e' l' h; simp only [GR.mk.injEq] at hq; obtain ⟨rfl, rfl, rfl⟩ := hq; simp only [rhoC, outR, renR, dels, zE0, zE1, zE2, zE3, zE4, zE5, evp, evx, ev1, evLoad, evStore, evBin, isBoolK, forall_const, z38, tb, Nat.reduceAdd, Nat.reduceSub, Nat.reduceMul, Nat.reduceEqDiff, Nat.reduceLeDiff, Nat.reduceLT, Nat.reduceBEq, Nat.reduceBNe, ↓reduceIte, reduceIte, spBs, alS, vlA] at h; obtain ⟨rfl, rfl, rfl⟩ := h; refine Zac ?_
    refine Zaz htb hmz Zbe (fun _ => false) rfl rfl rfl ?_; intro m' e' l' ob h; simp only [zE0, zE1, zE2, zE3, zE4, zE5, evp, evx, ev1, evLoad, evStore, evBin, isBoolK, forall_const, z38, tb, Nat.reduceAdd, Nat.reduceSub, Nat.reduceMul, Nat.reduceEqDiff, Nat.reduceLeDiff, Nat.reduceLT, Nat.reduceBEq, Nat.reduceBNe, ↓reduceIte, reduceIte, spBs, alS, vlA] at h; obtain ⟨rfl, rfl, rfl, rfl⟩ := h; refine ⟨?_, ?_⟩
    · first | ((with_reducible refine Ob.mk ?_); first | exact trivial | (intros; omega) | ((repeat' first | apply And.intro | (intro hg; have hg' := hg; try simp only [zH] at hg')) <;> first | (with_reducible exact True.intro) | assumption | omega | (simp only [zH]; omega))) | skip
    repeat' first | with_reducible refine Zad ?_ | with_reducible refine Zac ?_
    refine back ⟨r', ch2, k'⟩ [(30, 34)] ?_ ⟨h3, hc2, hnt2⟩ (by dsimp only; omega)
    (refine ⟨rfl, ?_, ?_⟩ <;> simp only [zE0, zE1, zE2, zE3, zE4, zE5, evp, evx, ev1, evLoad, evStore, evBin, isBoolK, forall_const, z38, tb, Nat.reduceAdd, Nat.reduceSub, Nat.reduceMul, Nat.reduceEqDiff, Nat.reduceLeDiff, Nat.reduceLT, Nat.reduceBEq, Nat.reduceBNe, ↓reduceIte, reduceIte, spBs, alS, vlA, zI])
  · rcases hBR with ⟨h1, h2, h3⟩ | ⟨r', k', h1, h2, h3⟩
    · rw [← h2, ← h3]
      repeat' first
        | with_reducible first | refine Zas ?_ | refine Zao ?_ | refine Zac ?_ | refine Zad ?_ | refine Zai ?_ | refine Zaq ?_ | refine Zah ?_ | refine Zak ?_ | refine Zar ?_ | refine Zat ?_ | refine Zap ?_ | refine Zam ?_ | refine Zaa ?_ | refine Zae ?_ | refine Zab ?_ | refine Zal ?_
        | ((with_reducible refine Zaj ?_ ?_); exact rfl)
        | ((with_reducible refine Zau ?_); refine Zan rfl ?_ ?_ <;> intro hb <;> (try simp only [zH] at hb))
        | ((with_reducible refine Za0 ?_); (first | refine Zaf htb hmz Zbe (fun _ => false) rfl rfl ?_ | refine Zag hmo htb hmz Zbe (fun _ => false) rfl rfl (by kernel_rfl) ?_); intro m' e' l' ob h; simp only [zE0, zE1, zE2, zE3, zE4, zE5, evp, evx, ev1, evLoad, evStore, evBin, isBoolK, forall_const, z38, tb, Nat.reduceAdd, Nat.reduceSub, Nat.reduceMul, Nat.reduceEqDiff, Nat.reduceLeDiff, Nat.reduceLT, Nat.reduceBEq, Nat.reduceBNe, ↓reduceIte, reduceIte, spBs, alS, vlA] at h; obtain ⟨rfl, rfl, rfl, rfl⟩ := h; refine ⟨?_, ?_⟩)
        | ((with_reducible refine Ob.mk ?_); first | exact trivial | (intros; omega) | ((repeat' first | apply And.intro | (intro hg; have hg' := hg; try simp only [zH] at hg')) <;> first | (with_reducible exact True.intro) | assumption | omega | (simp only [zH]; omega)))
      have hz : List.replicate o.length false = mix (fun v => (L v).e) (fun _ => false) o.length 0 := List.ext_getElem (by simp [mix]) fun j h1 h2 => by simp [mix]
      refine Za1 (τ := Nat) (fun i => i ≤ o.length) (fun i => ⟨40, [(62, .int .i64 i), (61, .int .i64 o.length), (12, .own 35), (11, .own 30), (9, .own 22)], [(30, some (.avs 3 o.length fun j => vlA (L j))), (20, some (.ints C)), (22, some (.box (.agg (.cons (.roI o) (.cons (.roI p) (.cons (.roII x) (.cons (.int .i64 pl) (.cons (.bool false) (.cons (.bool false) (.cons (.roI sm) (.cons (.roB al) (.cons (.own 20) .nil)))))))))))), (35, some (.bools (mix (fun v => (L v).e) (fun _ => false) o.length i)))], []⟩) (fun i => o.length - i) 0 [] ?_ (Nat.zero_le _) ?_
      · (refine ⟨rfl, ?_, ?_⟩ <;> simp only [zE0, zE1, zE2, zE3, zE4, zE5, evp, evx, ev1, evLoad, evStore, evBin, isBoolK, forall_const, z38, tb, Nat.reduceAdd, Nat.reduceSub, Nat.reduceMul, Nat.reduceEqDiff, Nat.reduceLeDiff, Nat.reduceLT, Nat.reduceBEq, Nat.reduceBNe, ↓reduceIte, reduceIte, spBs, alS, vlA, zI])
        · simp
        · exact hz
      intro i hi
      have hml : (mix (fun v => (L v).e) (fun _ => false) o.length i).length = o.length := Zdo
      have hms := Zdn (f := fun v => (L v).e) (h := fun _ => false) (n := o.length) (i := i)
      clear h2 h3
      repeat' first
        | with_reducible first | refine Zas ?_ | refine Zao ?_ | refine Zac ?_ | refine Zad ?_ | refine Zai ?_ | refine Zaq ?_ | refine Zah ?_ | refine Zak ?_ | refine Zar ?_ | refine Zat ?_ | refine Zap ?_ | refine Zam ?_ | refine Zaa ?_ | refine Zae ?_ | refine Zab ?_ | refine Zal ?_
        | ((with_reducible refine Zaj ?_ ?_); exact rfl)
        | ((with_reducible refine Zau ?_); refine Zan rfl ?_ ?_ <;> intro hb <;> (try simp only [zH] at hb))
        | ((with_reducible refine Zav 19 ?_ ?_); (· exact rfl); (with_reducible refine Zav 22 ?_ ?_); (· exact rfl); (first | refine Zaf htb hmz Zbe (fun _ => false) rfl rfl ?_ | refine Zag hmo htb hmz Zbe (fun _ => false) rfl rfl (by kernel_rfl) ?_); intro m' e' l' ob h; simp only [zE0, zE1, zE2, zE3, zE4, zE5, evp, evx, ev1, evLoad, evStore, evBin, isBoolK, forall_const, z38, tb, Nat.reduceAdd, Nat.reduceSub, Nat.reduceMul, Nat.reduceEqDiff, Nat.reduceLeDiff, Nat.reduceLT, Nat.reduceBEq, Nat.reduceBNe, ↓reduceIte, reduceIte, spBs, alS, vlA] at h; obtain ⟨rfl, rfl, rfl, rfl⟩ := h; refine ⟨?_, ?_⟩)
        | ((with_reducible refine Ob.mk ?_); first | exact trivial | (intros; omega) | ((repeat' first | apply And.intro | (intro hg; have hg' := hg; try simp only [zH] at hg')) <;> first | (with_reducible exact True.intro) | assumption | omega | (simp only [zH]; omega)))
      · repeat' first
          | with_reducible first | refine Zas ?_ | refine Zao ?_ | refine Zac ?_ | refine Zad ?_ | refine Zai ?_ | refine Zaq ?_ | refine Zah ?_ | refine Zak ?_ | refine Zar ?_ | refine Zat ?_ | refine Zap ?_ | refine Zam ?_ | refine Zaa ?_ | refine Zae ?_ | refine Zab ?_ | refine Zal ?_
          | ((with_reducible refine Zaj ?_ ?_); exact rfl)
          | ((with_reducible refine Zau ?_); refine Zan rfl ?_ ?_ <;> intro hb <;> (try simp only [zH] at hb))
          | ((with_reducible refine Za0 ?_); (first | refine Zaf htb hmz Zbe (fun _ => false) rfl rfl ?_ | refine Zag hmo htb hmz Zbe (fun _ => false) rfl rfl (by kernel_rfl) ?_); intro m' e' l' ob h; simp only [zE0, zE1, zE2, zE3, zE4, zE5, evp, evx, ev1, evLoad, evStore, evBin, isBoolK, forall_const, z38, tb, Nat.reduceAdd, Nat.reduceSub, Nat.reduceMul, Nat.reduceEqDiff, Nat.reduceLeDiff, Nat.reduceLT, Nat.reduceBEq, Nat.reduceBNe, ↓reduceIte, reduceIte, spBs, alS, vlA] at h; obtain ⟨rfl, rfl, rfl, rfl⟩ := h; refine ⟨?_, ?_⟩)
          | ((with_reducible refine Ob.mk ?_); first | exact trivial | (intros; omega) | ((repeat' first | apply And.intro | (intro hg; have hg' := hg; try simp only [zH] at hg')) <;> first | (with_reducible exact True.intro) | assumption | omega | (simp only [zH]; omega)))
        refine back (i + 1) [] ?_ (by omega) (by omega)
        (refine ⟨rfl, ?_, ?_⟩ <;> simp only [zE0, zE1, zE2, zE3, zE4, zE5, evp, evx, ev1, evLoad, evStore, evBin, isBoolK, forall_const, z38, tb, Nat.reduceAdd, Nat.reduceSub, Nat.reduceMul, Nat.reduceEqDiff, Nat.reduceLeDiff, Nat.reduceLT, Nat.reduceBEq, Nat.reduceBNe, ↓reduceIte, reduceIte, spBs, alS, vlA, zI])
        exact hms
      have hie : i = o.length := by omega
      subst hie
      rw [Zdp]
      refine Zbv 35 (.roB ((List.range o.length).map fun v => (L v).e)) (by simp only [Zax, Za4, fzE, fzA, fzR, fzB, set1, nbeq, Nat.reduceEqDiff, decide_true, decide_false, ↓reduceIte, reduceIte, cond_true, cond_false, List.take_length, Option.some.injEq]; rfl) (by first | exact rfl | (refine ⟨?_, rfl⟩; first | rfl | (intros; rfl))) (by simp only [Zax, Za4, fzE, fzA, fzR, fzB, set1, nbeq, Nat.reduceEqDiff, decide_true, decide_false, ↓reduceIte, reduceIte, cond_true, cond_false, List.take_length, Option.some.injEq]; rfl) (by simp only [Zax, Za4, fzE, fzA, fzR, fzB, set1, nbeq, Nat.reduceEqDiff, decide_true, decide_false, ↓reduceIte, reduceIte, cond_true, cond_false, List.take_length, Option.some.injEq]; rfl) ?_
      refine Zbv 20 (.roI C) (by simp only [Zax, Za4, fzE, fzA, fzR, fzB, set1, nbeq, Nat.reduceEqDiff, decide_true, decide_false, ↓reduceIte, reduceIte, cond_true, cond_false, List.take_length, Option.some.injEq]; rfl) (by first | exact rfl | (refine ⟨?_, rfl⟩; first | rfl | (intros; rfl))) (by simp only [Zax, Za4, fzE, fzA, fzR, fzB, set1, nbeq, Nat.reduceEqDiff, decide_true, decide_false, ↓reduceIte, reduceIte, cond_true, cond_false, List.take_length, Option.some.injEq]; rfl) (by simp only [Zax, Za4, fzE, fzA, fzR, fzB, set1, nbeq, Nat.reduceEqDiff, decide_true, decide_false, ↓reduceIte, reduceIte, cond_true, cond_false, List.take_length, Option.some.injEq]; rfl) ?_
      repeat' first
        | with_reducible first | refine Zas ?_ | refine Zao ?_ | refine Zac ?_ | refine Zad ?_ | refine Zai ?_ | refine Zaq ?_ | refine Zah ?_ | refine Zak ?_ | refine Zar ?_ | refine Zat ?_ | refine Zap ?_ | refine Zam ?_ | refine Zaa ?_ | refine Zae ?_ | refine Zab ?_ | refine Zal ?_
        | ((with_reducible refine Zaj ?_ ?_); exact rfl)
        | ((with_reducible refine Zau ?_); refine Zan rfl ?_ ?_ <;> intro hb <;> (try simp only [zH] at hb))
        | ((with_reducible refine Za0 ?_); (first | refine Zaf htb hmz Zbe (fun _ => false) rfl rfl ?_ | refine Zag hmo htb hmz Zbe (fun _ => false) rfl rfl (by kernel_rfl) ?_); intro m' e' l' ob h; simp only [zE0, zE1, zE2, zE3, zE4, zE5, evp, evx, ev1, evLoad, evStore, evBin, isBoolK, forall_const, z38, tb, Nat.reduceAdd, Nat.reduceSub, Nat.reduceMul, Nat.reduceEqDiff, Nat.reduceLeDiff, Nat.reduceLT, Nat.reduceBEq, Nat.reduceBNe, ↓reduceIte, reduceIte, spBs, alS, vlA] at h; obtain ⟨rfl, rfl, rfl, rfl⟩ := h; refine ⟨?_, ?_⟩)
        | ((with_reducible refine Ob.mk ?_); first | exact trivial | (intros; omega) | ((repeat' first | apply And.intro | (intro hg; have hg' := hg; try simp only [zH] at hg')) <;> first | (with_reducible exact True.intro) | assumption | omega | (simp only [zH]; omega)))
      refine Zay rfl rfl (Zcw (⟨0, .tup (.cons (.roB ((List.range o.length).map fun v => (L v).e)) (.cons (.roI C) .nil)), []⟩) ([]) rfl rfl (Zbp rfl) ?_)
      simp only [grR, zE0, zE1, zE2, zE3, zE4, zE5, evp, evx, ev1, evLoad, evStore, evBin, isBoolK, forall_const, z38, tb, Nat.reduceAdd, Nat.reduceSub, Nat.reduceMul, Nat.reduceEqDiff, Nat.reduceLeDiff, Nat.reduceLT, Nat.reduceBEq, Nat.reduceBNe, ↓reduceIte, reduceIte, spBs, alS, vlA]
    · rw [h2] at hb; cases hb
end Go.Proofs.Ytbcghiagomkadaa.Cal
