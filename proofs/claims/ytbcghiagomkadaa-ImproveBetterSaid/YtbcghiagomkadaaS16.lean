/- Own texts, merged. -/
import Derived.Test.YtbcghiagomkadaaS15
set_option linter.unusedVariables false
set_option linter.unusedSimpArgs false
open Nat (reduceAdd reduceSub reduceMul reduceEqDiff reduceLeDiff reduceLT)
namespace Go.Proofs.Ytbcghiagomkadaa.Cal
open Go Pl
theorem held_ok {o p : List Int} {x : List (List Int)} {pl : Int} {c : List Int} (hv : Zbc ⟨o, p, x⟩ = true) (hf : Zdg ⟨o, p, x⟩ pl c = true) : HeldOK o p x pl c := by
  have hV := validB_iff.1 hv
  have hG := gok hV
  obtain ⟨h1, h2⟩ := Zia hv hf
  refine ⟨hG.n, hG.pl, fun v hv => (hG.pri v hv).1, hG.xl, fun v hv _ => by rw [h1]; exact hv, fun v hv => ?_⟩
  unfold nxF
  split
  · rename_i ho
    refine ⟨by simp, fun j hj => ?_⟩
    have hj : j < 1 := hj
    obtain rfl : j = 0 := by omega
    exact h2 v hv ho
  · exact ⟨(hG.len v hv).2, hG.at' v hv⟩
theorem Zet {o p : List Int} {x : List (List Int)} {pl : Int} {c : List Int} {v : Nat} (hv : v < o.length) : nxN o x pl c v = rws (Zbw ⟨o, p, x⟩ pl c).nxt v := by
  unfold rws nxN
  rw [Zja (g := ⟨o, p, x⟩) hv]
  rfl
theorem om1 {z pl : Int} (hp : pl = 0 ∨ pl = 1) (h : z ≠ pl) (hm : z = 0 ∨ z = 1) : z = 1 - pl := by omega
theorem wn_from {o p : List Int} {x : List (List Int)} {pl : Int} {c : List Int} (hH : HeldOK o p x pl c) (hp : pl = 0 ∨ pl = 1) : wnB o p x pl c = Za7 ⟨o, p, x⟩ pl c := by
  have hEn : ∀ u t, u < o.length → t ∈ nxN o x pl c u → t < o.length := by
    intro u t hu ht
    obtain ⟨z, hz, rfl⟩ := List.mem_map.1 ht
    obtain ⟨j, hj, rfl⟩ := Zc0 hz
    have := (hH.row u hu).2 j hj
    rw [Zkx] at this
    omega
  have hlen : (wnB o p x pl c).length = o.length := Zgp
  have hfl : (Za7 ⟨o, p, x⟩ pl c).length = o.length := by simp [Za7]
  have g1 : ∀ {F : List Bool} {u : Nat} (hj : u < F.length), F[u] = F.getD u false := fun hj => by rw [List.getD_eq_getElem?_getD, List.getElem?_eq_getElem hj]; rfl
  refine List.ext_getElem (hlen.trans hfl.symm) fun u h1 h2 => ?_
  rw [g1 h1, g1 h2]
  have hu : u < o.length := by omega
  have e1 := Zgq (E := fun a b => b ∈ nxN o x pl c a) (B := kp (bdK o p x pl c) o.length) (i := (kp (bdK o p x pl c) o.length).length) hu
  have e2 : (Za7 ⟨o, p, x⟩ pl c).getD u false = !(Zcl (Zbw ⟨o, p, x⟩ pl c) (1 - pl)).getD u false := by simp [Za7, List.getD_eq_getElem?_getD, hu]
  have e3 := Zc6 (g := Zbw ⟨o, p, x⟩ pl c) (pl := 1 - pl) (v := u) hu
  have key : (∃ j, j < (kp (bdK o p x pl c) o.length).length ∧ Rch (fun a b => b ∈ nxN o x pl c a) u ((kp (bdK o p x pl c) o.length).getD j 0)) ↔ Zga (Zbw ⟨o, p, x⟩ pl c) (1 - pl) u := by
    have hm1 : ∀ {a b : Nat}, Rch (fun a b => b ∈ nxN o x pl c a) a b → a < o.length → RchA (Zbw ⟨o, p, x⟩ pl c).nxt a b ∧ b < o.length := fun {a b} h ha => by
      refine Rch.mapD (f := id) (D := fun v => v < o.length) (fun a b ha hab => ⟨?_, hEn a b ha hab⟩) h ha
      show b ∈ rws (Zbw ⟨o, p, x⟩ pl c).nxt a
      rw [← Zet ha]; exact hab
    have hm2 : ∀ {a b : Nat}, RchA (Zbw ⟨o, p, x⟩ pl c).nxt a b → a < o.length → Rch (fun a b => b ∈ nxN o x pl c a) a b ∧ b < o.length := fun {a b} h ha => by
      refine Rch.mapD (f := id) (D := fun v => v < o.length) (fun a b ha hab => ?_) h ha
      have h3 : b ∈ nxN o x pl c a := by rw [Zet (p := p) ha]; exact hab
      exact ⟨h3, hEn a b ha h3⟩
    constructor
    · rintro ⟨j, h3, h4⟩
      obtain ⟨k1, k2⟩ := kp_at h3
      obtain ⟨b1, t, b2, b3⟩ := (Zjd k1).1 k2
      have hm := Int.emod_two_eq (p.getD ((kp (bdK o p x pl c) o.length).getD j 0) 0)
      obtain ⟨r1, r2⟩ := Rch.mapD (f := id) (D := fun v => v < o.length) (E' := Ed (rws (Zbw ⟨o, p, x⟩ pl c).nxt) (okP p (p.getD ((kp (bdK o p x pl c) o.length).getD j 0) 0))) (fun a b ha hab => ⟨⟨by show b ∈ rws (Zbw ⟨o, p, x⟩ pl c).nxt a; rw [← Zet ha]; exact hab.1, hab.2⟩, hEn a b ha hab.1⟩) b3 (hEn _ _ k1 b2.1)
      refine ⟨_, k1, ⟨?_, t, ⟨?_, b2.2⟩, r1⟩, (hm1 h4 hu).1⟩
      · show p.getD _ 0 % 2 = 1 - pl
        exact om1 hp b1 hm
      · rw [← Zet k1]; exact b2.1
    · rintro ⟨w, hw, ⟨h3, t, h4, h5⟩, h6⟩
      have hw : w < o.length := hw
      have h3 : p.getD w 0 % 2 = 1 - pl := h3
      have ht : t ∈ nxN o x pl c w := by rw [Zet (p := p) hw]; exact h4.1
      obtain ⟨r1, r2⟩ := Rch.mapD (f := id) (D := fun v => v < o.length) (E' := Low (fun a b => b ∈ nxN o x pl c a) (fun v => p.getD v 0) w) (fun a b ha hab => by
        have h7 : b ∈ nxN o x pl c a := by rw [Zet (p := p) ha]; exact hab.1
        exact ⟨⟨h7, hab.2⟩, hEn a b ha h7⟩) h5 (hEn _ _ hw ht)
      have hk : (bdK o p x pl c).getD w false = true := (Zjd hw).2 ⟨by
        generalize p.getD w 0 % 2 = z at *
        omega, t, ⟨ht, h4.2⟩, r1⟩
      obtain ⟨k1, k2⟩ := Zkd hk hw
      exact ⟨_, k1, by rw [k2]; exact (hm2 h6 hu).1⟩
  cases e4 : (wnB o p x pl c).getD u false with
  | false =>
    rw [e2, e3.2 (key.1 (e1.1 e4))]; rfl
  | true =>
    rw [e2]
    cases e5 : (Zcl (Zbw ⟨o, p, x⟩ pl c) (1 - pl)).getD u false with
    | false => rfl
    | true =>
      have := e1.2 (key.2 (e3.1 e5))
      have this : (wnB o p x pl c).getD u false = false := this
      rw [e4] at this; cases this
theorem Zhe (l : List Int) : selI 0 l = l := rfl
theorem selII_0 (l : List (List Int)) : Zku 0 l = l := rfl
theorem selN_0 (l : Int) : selN 0 l = l := rfl
noncomputable def spIw : Nat → Option Spec
  | 29 => some chkS
  | 30 => some Zb3
  | _ => none
theorem Zdv : SpOK Try.prog spIw := by
  intro f S h
  unfold spIw at h
  split at h
  · cases h; exact checked_ok
  · cases h; exact winh_ok
  · cases h
set_option maxRecDepth 4000 in
set_option maxHeartbeats 4000000 in
theorem iwin_ok : Zb2 Try.prog 16 Zhc := by
  refine Za3 htb (fn := Try.f16) (by kernel_rfl) (by kernel_rfl) rfl (fun args r hS => ?_) (fun args r hS hob hl => ?_)
  · unfold Zhc at hS; split at hS <;> first | (cases hS; done) | (cases hS; exact Nat.le_of_ble_eq_true rfl)
  unfold Zhc at hS
  split at hS
  case h_2 => cases hS
  rename_i o p x pl c
  simp only [Option.some.injEq] at hS
  subst hS
  simp only [lenP, mkL, lim] at hl
  dsimp only at hob
  rcases Zjg ⟨o, p, x⟩ pl c with ⟨hv, hp, hf, ha⟩ | ha
  · have hH := held_ok hv hf
    have hw := wn_from hH (by omega)
    repeat' first
      | with_reducible first | apply Zan | apply Zaj | apply Zab | apply Zac | apply Zag | apply Zal | apply Zaf | apply Zah | apply Zam | apply Zao | apply Zak
      | ((with_reducible refine Zap ?_); refine Zai rfl ?_ ?_ <;> intro hb <;> (try simp only [zH] at hb)) | ((with_reducible refine Zaq 2 ?_ ?_); (· exact rfl); (first | refine Zad htb hmz Zdv fF rfl rfl ?_ | refine Zae hmo htb hmz Zdv fF rfl rfl (by kernel_rfl) ?_); intro _ _ _ _ h; simp only [zE, evp, evx, ev1, evLoad, evStore, evBin, Zaa, forall_const, z38, tb, reduceAdd, reduceSub, reduceMul, reduceEqDiff, reduceLeDiff, reduceLT, Nat.reduceBEq, Nat.reduceBNe, ↓reduceIte, reduceIte, spIw, chkS, Zb3] at h; obtain ⟨rfl, rfl, rfl, rfl⟩ := h; refine ⟨?_, ?_⟩) | ((with_reducible refine Ob.mk ?_); first | exact trivial | (intros; omega) | ((repeat' first | apply And.intro | (intro a; have b := a; try simp only [zH] at b)) <;> first | assumption | omega | (simp only [zH]; omega)))
    rw [ha, Zhe, Zhe, Zhe, selII_0, selN_0]
    repeat' first
      | with_reducible first | apply Zan | apply Zaj | apply Zab | apply Zac | apply Zag | apply Zal | apply Zaf | apply Zah | apply Zam | apply Zao | apply Zak
      | ((with_reducible refine Zap ?_); refine Zai rfl ?_ ?_ <;> intro hb <;> (try simp only [zH] at hb)) | ((with_reducible refine Zaq 3 ?_ ?_); (· exact rfl); (with_reducible refine Zaq 4 ?_ ?_); (· exact rfl); (first | refine Zad htb hmz Zdv fF rfl rfl ?_ | refine Zae hmo htb hmz Zdv fF rfl rfl (by kernel_rfl) ?_); intro _ _ _ _ h; simp only [zE, evp, evx, ev1, evLoad, evStore, evBin, Zaa, forall_const, z38, tb, reduceAdd, reduceSub, reduceMul, reduceEqDiff, reduceLeDiff, reduceLT, Nat.reduceBEq, Nat.reduceBNe, ↓reduceIte, reduceIte, spIw, chkS, Zb3] at h; obtain ⟨rfl, rfl, rfl, rfl⟩ := h; refine ⟨?_, ?_⟩) | ((with_reducible refine Ob.mk ?_); first | exact trivial | (intros; omega) | ((repeat' first | apply And.intro | (intro a; have b := a; try simp only [zH] at b)) <;> first | assumption | omega | (simp only [zH]; omega)))
    · exact absurd hb (by decide)
    clear hb
    repeat' first
      | with_reducible first | apply Zan | apply Zaj | apply Zab | apply Zac | apply Zag | apply Zal | apply Zaf | apply Zah | apply Zam | apply Zao | apply Zak
      | ((with_reducible refine Zap ?_); refine Zai rfl ?_ ?_ <;> intro hb <;> (try simp only [zH] at hb)) | ((with_reducible refine Zax ?_); (first | refine Zad htb hmz Zdv fF rfl rfl ?_ | refine Zae hmo htb hmz Zdv fF rfl rfl (by kernel_rfl) ?_); intro _ _ _ _ h; simp only [zE, evp, evx, ev1, evLoad, evStore, evBin, Zaa, forall_const, z38, tb, reduceAdd, reduceSub, reduceMul, reduceEqDiff, reduceLeDiff, reduceLT, Nat.reduceBEq, Nat.reduceBNe, ↓reduceIte, reduceIte, spIw, chkS, Zb3] at h; obtain ⟨rfl, rfl, rfl, rfl⟩ := h; refine ⟨?_, ?_⟩) | ((with_reducible refine Ob.mk ?_); first | exact trivial | (intros; omega) | ((repeat' first | apply And.intro | (intro a; have b := a; try simp only [zH] at b)) <;> first | assumption | omega | (simp only [zH]; omega)))
    refine Zav rfl rfl (Zas rfl ?_ rfl)
    rw [if_pos rfl, hw]
    rfl
  · repeat' first
      | with_reducible first | apply Zan | apply Zaj | apply Zab | apply Zac | apply Zag | apply Zal | apply Zaf | apply Zah | apply Zam | apply Zao | apply Zak
      | ((with_reducible refine Zap ?_); refine Zai rfl ?_ ?_ <;> intro hb <;> (try simp only [zH] at hb)) | ((with_reducible refine Zaq 3 ?_ ?_); (· exact rfl); (with_reducible refine Zaq 4 ?_ ?_); (· exact rfl); (first | refine Zad htb hmz Zdv fF rfl rfl ?_ | refine Zae hmo htb hmz Zdv fF rfl rfl (by kernel_rfl) ?_); intro _ _ _ _ h; simp only [zE, evp, evx, ev1, evLoad, evStore, evBin, Zaa, forall_const, z38, tb, reduceAdd, reduceSub, reduceMul, reduceEqDiff, reduceLeDiff, reduceLT, Nat.reduceBEq, Nat.reduceBNe, ↓reduceIte, reduceIte, spIw, chkS, Zb3] at h; obtain ⟨rfl, rfl, rfl, rfl⟩ := h; refine ⟨?_, ?_⟩) | ((with_reducible refine Ob.mk ?_); first | exact trivial | (intros; omega) | ((repeat' first | apply And.intro | (intro a; have b := a; try simp only [zH] at b)) <;> first | assumption | omega | (simp only [zH]; omega)))
    · repeat' first
        | with_reducible first | apply Zan | apply Zaj | apply Zab | apply Zac | apply Zag | apply Zal | apply Zaf | apply Zah | apply Zam | apply Zao | apply Zak
        | ((with_reducible refine Zap ?_); refine Zai rfl ?_ ?_ <;> intro hb <;> (try simp only [zH] at hb)) | ((with_reducible refine Zax ?_); (first | refine Zad htb hmz Zdv fF rfl rfl ?_ | refine Zae hmo htb hmz Zdv fF rfl rfl (by kernel_rfl) ?_); intro _ _ _ _ h; simp only [zE, evp, evx, ev1, evLoad, evStore, evBin, Zaa, forall_const, z38, tb, reduceAdd, reduceSub, reduceMul, reduceEqDiff, reduceLeDiff, reduceLT, Nat.reduceBEq, Nat.reduceBNe, ↓reduceIte, reduceIte, spIw, chkS, Zb3] at h; obtain ⟨rfl, rfl, rfl, rfl⟩ := h; refine ⟨?_, ?_⟩) | ((with_reducible refine Ob.mk ?_); first | exact trivial | (intros; omega) | ((repeat' first | apply And.intro | (intro a; have b := a; try simp only [zH] at b)) <;> first | assumption | omega | (simp only [zH]; omega)))
      refine Zav rfl rfl (Zff rfl ?_ rfl)
      rw [if_neg ha]
      exact Zi7 (Zds imp_nilB (Zcb rfl))
    exact absurd hb ha
open Go Pl
set_option maxRecDepth 4000 in
set_option maxHeartbeats 4000000 in
theorem eqB_ok : Zb2 Try.prog 33 Zbv := by
  refine Za3 htb (fn := Try.f33) (by kernel_rfl) (by kernel_rfl) rfl (fun args r hS => ?_) (fun args r hS hob hl => ?_)
  · unfold Zbv at hS; split at hS <;> first | (cases hS; done) | (cases hS; exact Nat.le_of_ble_eq_true rfl)
  unfold Zbv at hS
  split at hS
  case h_2 => cases hS
  rename_i a b
  simp only [Option.some.injEq] at hS
  subst hS
  simp only [lenP, mkL, lim] at hl
  dsimp only at hob
  repeat' first
    | with_reducible first | apply Zan | apply Zaj | apply Zab | apply Zac | apply Zag | apply Zal | apply Zaf | apply Zah | apply Zam | apply Zao | apply Zak
    | ((with_reducible refine Zap ?_); refine Zai rfl ?_ ?_ <;> intro hb <;> (try simp only [zH] at hb)) | ((with_reducible refine Zaq 2 ?_ ?_); (· exact rfl); (with_reducible refine Zaq 3 ?_ ?_); (· exact rfl); (first | refine Zad htb hmz noSp fF rfl rfl ?_ | refine Zae hmo htb hmz noSp fF rfl rfl (by kernel_rfl) ?_); intro _ _ _ _ h; simp only [zE, evp, evx, ev1, evLoad, evStore, evBin, Zaa, forall_const, z38, tb, reduceAdd, reduceSub, reduceMul, reduceEqDiff, reduceLeDiff, reduceLT, Nat.reduceBEq, Nat.reduceBNe, ↓reduceIte, reduceIte] at h; obtain ⟨rfl, rfl, rfl, rfl⟩ := h; refine ⟨?_, ?_⟩) | ((with_reducible refine Ob.mk ?_); first | exact trivial | (intros; omega) | ((repeat' first | apply And.intro | (intro a; have b := a; try simp only [zH] at b)) <;> first | assumption | omega | (simp only [zH]; omega)))
  · repeat' first
      | with_reducible first | apply Zan | apply Zaj | apply Zab | apply Zac | apply Zag | apply Zal | apply Zaf | apply Zah | apply Zam | apply Zao | apply Zak
      | ((with_reducible refine Zap ?_); refine Zai rfl ?_ ?_ <;> intro hb <;> (try simp only [zH] at hb)) | ((with_reducible refine Zax ?_); (first | refine Zad htb hmz noSp fF rfl rfl ?_ | refine Zae hmo htb hmz noSp fF rfl rfl (by kernel_rfl) ?_); intro _ _ _ _ h; simp only [zE, evp, evx, ev1, evLoad, evStore, evBin, Zaa, forall_const, z38, tb, reduceAdd, reduceSub, reduceMul, reduceEqDiff, reduceLeDiff, reduceLT, Nat.reduceBEq, Nat.reduceBNe, ↓reduceIte, reduceIte] at h; obtain ⟨rfl, rfl, rfl, rfl⟩ := h; refine ⟨?_, ?_⟩) | ((with_reducible refine Ob.mk ?_); first | exact trivial | (intros; omega) | ((repeat' first | apply And.intro | (intro a; have b := a; try simp only [zH] at b)) <;> first | assumption | omega | (simp only [zH]; omega)))
    refine Zav rfl rfl (Zas rfl ?_ rfl)
    have e : decide (a = b) = false := decide_eq_false fun h => by rw [h] at hb; exact hb rfl
    rw [e]; rfl
  have hl2 : a.length = b.length := by omega
  clear hb
  repeat' first
    | with_reducible first | apply Zan | apply Zaj | apply Zab | apply Zac | apply Zag | apply Zal | apply Zaf | apply Zah | apply Zam | apply Zao | apply Zak
    | ((with_reducible refine Zap ?_); refine Zai rfl ?_ ?_ <;> intro hb <;> (try simp only [zH] at hb)) | ((with_reducible refine Zax ?_); (first | refine Zad htb hmz noSp fF rfl rfl ?_ | refine Zae hmo htb hmz noSp fF rfl rfl (by kernel_rfl) ?_); intro _ _ _ _ h; simp only [zE, evp, evx, ev1, evLoad, evStore, evBin, Zaa, forall_const, z38, tb, reduceAdd, reduceSub, reduceMul, reduceEqDiff, reduceLeDiff, reduceLT, Nat.reduceBEq, Nat.reduceBNe, ↓reduceIte, reduceIte] at h; obtain ⟨rfl, rfl, rfl, rfl⟩ := h; refine ⟨?_, ?_⟩) | ((with_reducible refine Ob.mk ?_); first | exact trivial | (intros; omega) | ((repeat' first | apply And.intro | (intro a; have b := a; try simp only [zH] at b)) <;> first | assumption | omega | (simp only [zH]; omega)))
  refine Zat (τ := Nat) (fun i => i ≤ a.length ∧ ∀ j, j < i → a.getD j false = b.getD j false) (fun i => ⟨14, [(13, .int .i64 i), (12, .int .i64 a.length), (0, .roB a), (1, .roB b)], [], []⟩) (fun i => a.length - i) 0 [] ?_ ⟨Nat.zero_le _, fun j hj => absurd hj (Nat.not_lt_zero j)⟩ ?_
  · (refine ⟨rfl, ?_, ?_⟩ <;> simp only [zE, evp, evx, ev1, evLoad, evStore, evBin, Zaa, forall_const, z38, tb, reduceAdd, reduceSub, reduceMul, reduceEqDiff, reduceLeDiff, reduceLT, Nat.reduceBEq, Nat.reduceBNe, ↓reduceIte, reduceIte, zI])
  rintro i ⟨hi, hk⟩
  repeat' first
    | with_reducible first | apply Zan | apply Zaj | apply Zab | apply Zac | apply Zag | apply Zal | apply Zaf | apply Zah | apply Zam | apply Zao | apply Zak
    | ((with_reducible refine Zap ?_); refine Zai rfl ?_ ?_ <;> intro hb <;> (try simp only [zH] at hb)) | ((with_reducible refine Zaq 7 ?_ ?_); (· exact rfl); (with_reducible refine Zaq 9 ?_ ?_); (· exact rfl); (first | refine Zad htb hmz noSp fF rfl rfl ?_ | refine Zae hmo htb hmz noSp fF rfl rfl (by kernel_rfl) ?_); intro _ _ _ _ h; simp only [zE, evp, evx, ev1, evLoad, evStore, evBin, Zaa, forall_const, z38, tb, reduceAdd, reduceSub, reduceMul, reduceEqDiff, reduceLeDiff, reduceLT, Nat.reduceBEq, Nat.reduceBNe, ↓reduceIte, reduceIte] at h; obtain ⟨rfl, rfl, rfl, rfl⟩ := h; refine ⟨?_, ?_⟩) | ((with_reducible refine Ob.mk ?_); first | exact trivial | (intros; omega) | ((repeat' first | apply And.intro | (intro a; have b := a; try simp only [zH] at b)) <;> first | assumption | omega | (simp only [zH]; omega)))
  · repeat' first
      | with_reducible first | apply Zan | apply Zaj | apply Zab | apply Zac | apply Zag | apply Zal | apply Zaf | apply Zah | apply Zam | apply Zao | apply Zak
      | ((with_reducible refine Zap ?_); refine Zai rfl ?_ ?_ <;> intro hb <;> (try simp only [zH] at hb)) | ((with_reducible refine Zax ?_); (first | refine Zad htb hmz noSp fF rfl rfl ?_ | refine Zae hmo htb hmz noSp fF rfl rfl (by kernel_rfl) ?_); intro _ _ _ _ h; simp only [zE, evp, evx, ev1, evLoad, evStore, evBin, Zaa, forall_const, z38, tb, reduceAdd, reduceSub, reduceMul, reduceEqDiff, reduceLeDiff, reduceLT, Nat.reduceBEq, Nat.reduceBNe, ↓reduceIte, reduceIte] at h; obtain ⟨rfl, rfl, rfl, rfl⟩ := h; refine ⟨?_, ?_⟩) | ((with_reducible refine Ob.mk ?_); first | exact trivial | (intros; omega) | ((repeat' first | apply And.intro | (intro a; have b := a; try simp only [zH] at b)) <;> first | assumption | omega | (simp only [zH]; omega)))
    refine Zav rfl rfl (Zas rfl ?_ rfl)
    have e : decide (a = b) = false := decide_eq_false fun h => by rw [h] at hb; simp at hb
    rw [e]; rfl
  · refine back (i + 1) [] ?_ ⟨by omega, fun v hv => ?_⟩ (by omega)
    · (refine ⟨rfl, ?_, ?_⟩ <;> simp only [zE, evp, evx, ev1, evLoad, evStore, evBin, Zaa, forall_const, z38, tb, reduceAdd, reduceSub, reduceMul, reduceEqDiff, reduceLeDiff, reduceLT, Nat.reduceBEq, Nat.reduceBNe, ↓reduceIte, reduceIte, zI])
    · rcases Nat.lt_succ_iff_lt_or_eq.1 hv with h | rfl
      · exact hk v h
      · simpa using hb
  have hie : i = a.length := by omega
  subst hie
  repeat' first
    | with_reducible first | apply Zan | apply Zaj | apply Zab | apply Zac | apply Zag | apply Zal | apply Zaf | apply Zah | apply Zam | apply Zao | apply Zak
    | ((with_reducible refine Zap ?_); refine Zai rfl ?_ ?_ <;> intro hb <;> (try simp only [zH] at hb)) | ((with_reducible refine Zax ?_); (first | refine Zad htb hmz noSp fF rfl rfl ?_ | refine Zae hmo htb hmz noSp fF rfl rfl (by kernel_rfl) ?_); intro _ _ _ _ h; simp only [zE, evp, evx, ev1, evLoad, evStore, evBin, Zaa, forall_const, z38, tb, reduceAdd, reduceSub, reduceMul, reduceEqDiff, reduceLeDiff, reduceLT, Nat.reduceBEq, Nat.reduceBNe, ↓reduceIte, reduceIte] at h; obtain ⟨rfl, rfl, rfl, rfl⟩ := h; refine ⟨?_, ?_⟩) | ((with_reducible refine Ob.mk ?_); first | exact trivial | (intros; omega) | ((repeat' first | apply And.intro | (intro a; have b := a; try simp only [zH] at b)) <;> first | assumption | omega | (simp only [zH]; omega)))
  refine Zav rfl rfl (Zas rfl ?_ rfl)
  have e : decide (a = b) = true := decide_eq_true (Zkz hl2 hk)
  rw [e]; rfl
set_option maxRecDepth 4000 in
set_option maxHeartbeats 4000000 in
theorem clone_fg {a : List Int} (h0 : 0 < a.length) (h1 : a.length ≤ 1000000000) : FG Try.prog 32 [.roI a] [] 0 fun g => g = ⟨1, .own 0, [(0, some (.ints a))]⟩ := by
  refine Zf5 htb (fn := Try.f32) (by kernel_rfl) (by kernel_rfl) rfl (Nat.le_of_ble_eq_true rfl) fun hl => ?_
  simp only [lenP, mkL, lim] at hl
  refine Zan ?_
  first | (refine Zad htb hmz noSp fF rfl rfl ?_; intro _ _ _ _ h; simp only [zE, evp, evx, ev1, evLoad, evStore, evBin, Zaa, forall_const, z38, tb, reduceAdd, reduceSub, reduceMul, reduceEqDiff, reduceLeDiff, reduceLT, Nat.reduceBEq, Nat.reduceBNe, ↓reduceIte, reduceIte] at h; obtain ⟨rfl, rfl, rfl, rfl⟩ := h; refine ⟨?_, ?_⟩)
        | (refine Zae hmo htb hmz noSp fF rfl rfl (by kernel_rfl) ?_; intro _ _ _ _ h; simp only [zE, evp, evx, ev1, evLoad, evStore, evBin, Zaa, forall_const, z38, tb, reduceAdd, reduceSub, reduceMul, reduceEqDiff, reduceLeDiff, reduceLT, Nat.reduceBEq, Nat.reduceBNe, ↓reduceIte, reduceIte] at h; obtain ⟨rfl, rfl, rfl, rfl⟩ := h; refine ⟨?_, ?_⟩)
  · trivial
  refine Zab (Zan (awp_nilq (xs := a) (by kernel_rfl : Try.prog.underlying 22 = some (.slice 3)) rfl rfl rfl rfl rfl ?_ ?_))
  · rintro rfl
    exact absurd h0 (by decide)
  · refine Zak (Zab (Zan ?_))
    (refine Zad htb hmz noSp (fun i => Nat.beq i 0) rfl rfl ?_; intro _ _ _ _ h; simp only [zE, evp, evx, ev1, evLoad, evStore, evBin, Zaa, forall_const, z38, tb, reduceAdd, reduceSub, reduceMul, reduceEqDiff, reduceLeDiff, reduceLT, Nat.reduceBEq, Nat.reduceBNe, ↓reduceIte, reduceIte] at h; obtain ⟨rfl, rfl, rfl, rfl⟩ := h; refine ⟨?_, ?_⟩)
    · refine Ob.mk ?_; omega
    refine Zab ?_
    repeat' first
      | with_reducible first | apply Zan | apply Zaj | apply Zab | apply Zac | apply Zag | apply Zal | apply Zaf | apply Zah | apply Zam | apply Zao | apply Zak
      | ((with_reducible refine Zap ?_); refine Zai rfl ?_ ?_ <;> intro hb <;> (try simp only [zH] at hb)) | ((with_reducible refine Zax ?_); (first | refine Zad htb hmz noSp fF rfl rfl ?_ | refine Zae hmo htb hmz noSp fF rfl rfl (by kernel_rfl) ?_); intro _ _ _ _ h; simp only [zE, evp, evx, ev1, evLoad, evStore, evBin, Zaa, forall_const, z38, tb, reduceAdd, reduceSub, reduceMul, reduceEqDiff, reduceLeDiff, reduceLT, Nat.reduceBEq, Nat.reduceBNe, ↓reduceIte, reduceIte] at h; obtain ⟨rfl, rfl, rfl, rfl⟩ := h; refine ⟨?_, ?_⟩) | ((with_reducible refine Ob.mk ?_); first | exact trivial | (intros; omega) | ((repeat' first | apply And.intro | (intro a; have b := a; try simp only [zH] at b)) <;> first | assumption | omega | (simp only [zH]; omega)))
    refine Zav rfl rfl (Zee (⟨1, .own 0, [(0, some (.ints a))]⟩) ([(0, 3)]) rfl rfl (Zcb rfl) ?_)
    simp only [grR, zE, evp, evx, ev1, evLoad, evStore, evBin, Zaa, forall_const, z38, tb, reduceAdd, reduceSub, reduceMul, reduceEqDiff, reduceLeDiff, reduceLT, Nat.reduceBEq, Nat.reduceBNe, ↓reduceIte, reduceIte]
noncomputable def spBt : Nat → Option Spec
  | 29 => some chkS
  | 30 => some Zb3
  | 33 => some Zbv
  | 32 => some Zbl
  | _ => none
theorem Za9 : SpOK Try.prog spBt := by
  intro f S h
  unfold spBt at h
  split at h
  · cases h; exact checked_ok
  · cases h; exact winh_ok
  · cases h; exact eqB_ok
  · cases h; exact clone_ok
  · cases h
set_option maxRecDepth 4000 in
set_option maxHeartbeats 4000000 in
theorem btr0_fg {o p : List Int} {x : List (List Int)} {c : List Int} (ha : Zcp ⟨o, p, x⟩ 0 c ≠ 0) : FG Try.prog 11 [.agg (.cons (.roI o) (.cons (.roI p) (.cons (.roII x) .nil))), .roI c] [] 0 fun g => g = ⟨0, .tup (.cons (.roI []) (.cons (.bool false) (.cons (.int .i64 (Zcp ⟨o, p, x⟩ 0 c)) .nil))), []⟩ := by
  refine Zf5 htb (fn := Try.f11) (by kernel_rfl) (by kernel_rfl) rfl (Nat.le_of_ble_eq_true rfl) fun hl => ?_
  simp only [lenP, mkL, lim] at hl
  repeat' first
    | with_reducible first | apply Zan | apply Zaj | apply Zab | apply Zac | apply Zag | apply Zal | apply Zaf | apply Zah | apply Zam | apply Zao | apply Zak
    | ((with_reducible refine Zap ?_); refine Zai rfl ?_ ?_ <;> intro hb <;> (try simp only [zH] at hb)) | ((with_reducible refine Zaq 3 ?_ ?_); (· exact rfl); (with_reducible refine Zaq 4 ?_ ?_); (· exact rfl); (first | refine Zad htb hmz Za9 fF rfl rfl ?_ | refine Zae hmo htb hmz Za9 fF rfl rfl (by kernel_rfl) ?_); intro _ _ _ _ h; simp only [zE, evp, evx, ev1, evLoad, evStore, evBin, Zaa, forall_const, z38, tb, reduceAdd, reduceSub, reduceMul, reduceEqDiff, reduceLeDiff, reduceLT, Nat.reduceBEq, Nat.reduceBNe, ↓reduceIte, reduceIte, spBt, chkS, Zb3, Zbv, Zbl] at h; obtain ⟨rfl, rfl, rfl, rfl⟩ := h; refine ⟨?_, ?_⟩) | ((with_reducible refine Ob.mk ?_); first | exact trivial | (intros; omega) | ((repeat' first | apply And.intro | (intro a; have b := a; try simp only [zH] at b)) <;> first | assumption | omega | (simp only [zH]; omega)))
  · repeat' first
      | with_reducible first | apply Zan | apply Zaj | apply Zab | apply Zac | apply Zag | apply Zal | apply Zaf | apply Zah | apply Zam | apply Zao | apply Zak
      | ((with_reducible refine Zap ?_); refine Zai rfl ?_ ?_ <;> intro hb <;> (try simp only [zH] at hb)) | ((with_reducible refine Zax ?_); (first | refine Zad htb hmz Za9 fF rfl rfl ?_ | refine Zae hmo htb hmz Za9 fF rfl rfl (by kernel_rfl) ?_); intro _ _ _ _ h; simp only [zE, evp, evx, ev1, evLoad, evStore, evBin, Zaa, forall_const, z38, tb, reduceAdd, reduceSub, reduceMul, reduceEqDiff, reduceLeDiff, reduceLT, Nat.reduceBEq, Nat.reduceBNe, ↓reduceIte, reduceIte, spBt, chkS, Zb3, Zbv, Zbl] at h; obtain ⟨rfl, rfl, rfl, rfl⟩ := h; refine ⟨?_, ?_⟩) | ((with_reducible refine Ob.mk ?_); first | exact trivial | (intros; omega) | ((repeat' first | apply And.intro | (intro a; have b := a; try simp only [zH] at b)) <;> first | assumption | omega | (simp only [zH]; omega)))
    refine Zav rfl rfl (Zee ⟨0, resV [.roI [], .bool false, .int .i64 (Zcp ⟨o, p, x⟩ 0 c)], []⟩ [] rfl rfl ?_ trivial)
    exact Zi7 (Zds Zgj (Zcb rfl))
  exact absurd hb ha
theorem BRun_len {h : Im} {r k : Nat} {ch c : List Int} {l : Nat → Vl} (H : BRun h r ch k l c) : c.length = ch.length := by
  induction H with
  | stop h1 h2 => exact Zd7
  | more h1 h2 h3 ih => rw [ih]; exact Zd7
def btO (o c : List Int) (mine won : List Bool) (to : List Int) : List Int := (List.range o.length).map fun v => if o.getD v 0 = 0 ∧ won.getD v false = true ∧ mine.getD v false = false then to.getD v 0 else c.getD v 0
set_option maxRecDepth 4000 in
set_option maxHeartbeats 4000000 in
theorem btr_fg {o p : List Int} {x : List (List Int)} {c : List Int} {R k : Nat} {L : Nat → Vl} {C : List Int} (hv : Zbc ⟨o, p, x⟩ = true) (ha : Zcp ⟨o, p, x⟩ 0 c = 0) (hR : BRun (imB o p x 0) R (List.replicate o.length (-1)) k L C) :
    FG Try.prog 11 [.agg (.cons (.roI o) (.cons (.roI p) (.cons (.roII x) .nil))), .roI c] [] 0 fun g => g = ⟨0, .tup (.cons (.roI (if Za7 ⟨o, p, x⟩ 0 c = (List.range o.length).map (fun v => (L v).e) then c else btO o c (Za7 ⟨o, p, x⟩ 0 c) ((List.range o.length).map fun v => (L v).e) C)) (.cons (.bool (decide (Za7 ⟨o, p, x⟩ 0 c ≠ (List.range o.length).map fun v => (L v).e))) (.cons (.int .i64 0) .nil))), []⟩ := by
  obtain ⟨hv, hp, hf⟩ : Zbc ⟨o, p, x⟩ = true ∧ (0 = (0 : Int) ∨ 0 = (1 : Int)) ∧ Zdg ⟨o, p, x⟩ 0 c = true := by
    rcases Zjg ⟨o, p, x⟩ 0 c with ⟨hv, hp, hf, _⟩ | h
    · exact ⟨hv, by omega, hf⟩
    · exact absurd ha h
  have hV := validB_iff.1 hv
  have hG := gok hV
  have hH := held_ok hv hf
  have hw := wn_from hH hp
  have hK : GmOK o p x := ⟨hG.n, hG.pl, fun v hv => (hG.pri v hv).1, fun v hv => by rcases hG.own v hv with h | h <;> (have h : o.getD v 0 = _ := h; rw [h]; decide), hG.xl, fun v hv => ⟨(hG.len v hv).2, hG.at' v hv⟩⟩
  have hmx : ∀ v, v < p.length → p.getD v 0 ≤ 999000 := fun v hv => by
    have h1 : p.length = o.length := hG.pl
    have h2 : p.getD v 0 ≤ 60 := (hG.pri v (by show v < o.length; omega)).2
    omega
  have hn : o.length ≤ 20000 := hG.n
  have hcl : c.length = o.length := (Zia hv hf).1
  refine Zf5 htb (fn := Try.f11) (by kernel_rfl) (by kernel_rfl) rfl (Nat.le_of_ble_eq_true rfl) fun hl => ?_
  simp only [lenP, mkL, lim] at hl
  repeat' first
    | with_reducible first | apply Zan | apply Zaj | apply Zab | apply Zac | apply Zag | apply Zal | apply Zaf | apply Zah | apply Zam | apply Zao | apply Zak
    | ((with_reducible refine Zap ?_); refine Zai rfl ?_ ?_ <;> intro hb <;> (try simp only [zH] at hb)) | ((with_reducible refine Zaq 2 ?_ ?_); (· exact rfl); (first | refine Zad htb hmz Za9 fF rfl rfl ?_ | refine Zae hmo htb hmz Za9 fF rfl rfl (by kernel_rfl) ?_); intro _ _ _ _ h; simp only [zE, evp, evx, ev1, evLoad, evStore, evBin, Zaa, forall_const, z38, tb, reduceAdd, reduceSub, reduceMul, reduceEqDiff, reduceLeDiff, reduceLT, Nat.reduceBEq, Nat.reduceBNe, ↓reduceIte, reduceIte, spBt, chkS, Zb3, Zbv, Zbl] at h; obtain ⟨rfl, rfl, rfl, rfl⟩ := h; refine ⟨?_, ?_⟩) | ((with_reducible refine Ob.mk ?_); first | exact trivial | (intros; omega) | ((repeat' first | apply And.intro | (intro a; have b := a; try simp only [zH] at b)) <;> first | assumption | omega | (simp only [zH]; omega)))
  rw [ha, Zhe, Zhe, Zhe, selII_0, selN_0]
  repeat' first
    | with_reducible first | apply Zan | apply Zaj | apply Zab | apply Zac | apply Zag | apply Zal | apply Zaf | apply Zah | apply Zam | apply Zao | apply Zak
    | ((with_reducible refine Zap ?_); refine Zai rfl ?_ ?_ <;> intro hb <;> (try simp only [zH] at hb)) | ((with_reducible refine Zaq 3 ?_ ?_); (· exact rfl); (with_reducible refine Zaq 4 ?_ ?_); (· exact rfl); (first | refine Zad htb hmz Za9 fF rfl rfl ?_ | refine Zae hmo htb hmz Za9 fF rfl rfl (by kernel_rfl) ?_); intro _ _ _ _ h; simp only [zE, evp, evx, ev1, evLoad, evStore, evBin, Zaa, forall_const, z38, tb, reduceAdd, reduceSub, reduceMul, reduceEqDiff, reduceLeDiff, reduceLT, Nat.reduceBEq, Nat.reduceBNe, ↓reduceIte, reduceIte, spBt, chkS, Zb3, Zbv, Zbl] at h; obtain ⟨rfl, rfl, rfl, rfl⟩ := h; refine ⟨?_, ?_⟩) | ((with_reducible refine Ob.mk ?_); first | exact trivial | (intros; omega) | ((repeat' first | apply And.intro | (intro a; have b := a; try simp only [zH] at b)) <;> first | assumption | omega | (simp only [zH]; omega)))
  · exact absurd hb (by decide)
  clear hb
  repeat' first
    | with_reducible first | apply Zan | apply Zaj | apply Zab | apply Zac | apply Zag | apply Zal | apply Zaf | apply Zah | apply Zam | apply Zao | apply Zak
    | ((with_reducible refine Zap ?_); refine Zai rfl ?_ ?_ <;> intro hb <;> (try simp only [zH] at hb)) | ((with_reducible refine Zaq 5 ?_ ?_); (· exact rfl); (first | refine Zad htb hmz Za9 fF rfl rfl ?_ | refine Zae hmo htb hmz Za9 fF rfl rfl (by kernel_rfl) ?_); intro _ _ _ _ h; simp only [zE, evp, evx, ev1, evLoad, evStore, evBin, Zaa, forall_const, z38, tb, reduceAdd, reduceSub, reduceMul, reduceEqDiff, reduceLeDiff, reduceLT, Nat.reduceBEq, Nat.reduceBNe, ↓reduceIte, reduceIte, spBt, chkS, Zb3, Zbv, Zbl] at h; obtain ⟨rfl, rfl, rfl, rfl⟩ := h; refine ⟨?_, ?_⟩) | ((with_reducible refine Ob.mk ?_); first | exact trivial | (intros; omega) | ((repeat' first | apply And.intro | (intro a; have b := a; try simp only [zH] at b)) <;> first | assumption | omega | (simp only [zH]; omega)))
  rw [hw]
  have hfl : (Za7 ⟨o, p, x⟩ 0 c).length = o.length := by simp [Za7]
  have hWl : ((List.range o.length).map fun v => (L v).e).length = o.length := by simp
  generalize Za7 ⟨o, p, x⟩ 0 c = mine at *
  clear hw
  refine Zcy ([_]) ([_, _, _, _, _]) rfl rfl ?_
  refine Zay htb hmz Za9 fF rfl rfl rfl ?_; intro _ _ _ _ h; simp only [zE, evp, evx, ev1, evLoad, evStore, evBin, Zaa, forall_const, z38, tb, reduceAdd, reduceSub, reduceMul, reduceEqDiff, reduceLeDiff, reduceLT, Nat.reduceBEq, Nat.reduceBNe, ↓reduceIte, reduceIte, spBt, chkS, Zb3, Zbv, Zbl] at h; obtain ⟨rfl, rfl, rfl, rfl⟩ := h; refine ⟨?_, Zab ?_⟩
  · first | ((with_reducible refine Ob.mk ?_); first | exact trivial | (intros; omega) | ((repeat' first | apply And.intro | (intro a; have b := a; try simp only [zH] at b)) <;> first | assumption | omega | (simp only [zH]; omega))) | skip
  refine Zbg ([]) (best_fg (o := o) (p := p) (x := x) (pl := 0) (R := R) (k := k) (L := L) (C := C) hK hmx hR) rfl rfl rfl rfl rfl rfl rfl rfl rfl (by simp only [rinR, rhoC, zE, evp, evx, ev1, evLoad, evStore, evBin, Zaa, forall_const, z38, tb, reduceAdd, reduceSub, reduceMul, reduceEqDiff, reduceLeDiff, reduceLT, Nat.reduceBEq, Nat.reduceBNe, ↓reduceIte, reduceIte, spBt, chkS, Zb3, Zbv, Zbl]) ?_; intro gm gv gr hq m' e' l' h; simp only [GR.mk.injEq] at hq; obtain ⟨rfl, rfl, rfl⟩ := hq; simp only [rhoC, outR, renR, dels, zE, evp, evx, ev1, evLoad, evStore, evBin, Zaa, forall_const, z38, tb, reduceAdd, reduceSub, reduceMul, reduceEqDiff, reduceLeDiff, reduceLT, Nat.reduceBEq, Nat.reduceBNe, ↓reduceIte, reduceIte, spBt, chkS, Zb3, Zbv, Zbl] at h; obtain ⟨rfl, rfl, rfl⟩ := h; refine Zab ?_
  generalize (List.range o.length).map (fun v => (L v).e) = won at *
  refine Zay htb hmz Za9 fF rfl rfl rfl ?_; intro _ _ _ _ h; simp only [zE, evp, evx, ev1, evLoad, evStore, evBin, Zaa, forall_const, z38, tb, reduceAdd, reduceSub, reduceMul, reduceEqDiff, reduceLeDiff, reduceLT, Nat.reduceBEq, Nat.reduceBNe, ↓reduceIte, reduceIte, spBt, chkS, Zb3, Zbv, Zbl] at h; obtain ⟨rfl, rfl, rfl, rfl⟩ := h; refine ⟨?_, ?_⟩
  · first | ((with_reducible refine Ob.mk ?_); first | exact trivial | (intros; omega) | ((repeat' first | apply And.intro | (intro a; have b := a; try simp only [zH] at b)) <;> first | assumption | omega | (simp only [zH]; omega))) | skip
  refine Zab ?_
  have hCl : C.length = o.length := by rw [BRun_len hR, List.length_replicate]
  clear hR
  by_cases h0 : c.length = 0
  · have hm : mine = won := by
      rw [List.length_eq_zero_iff.1 (show mine.length = 0 by omega), List.length_eq_zero_iff.1 (show won.length = 0 by omega)]
    subst hm
    rw [if_pos (rfl : mine = mine), decide_eq_false (show ¬ mine ≠ mine from fun h => h rfl)]
    repeat' first
      | with_reducible first | apply Zan | apply Zaj | apply Zab | apply Zac | apply Zag | apply Zal | apply Zaf | apply Zah | apply Zam | apply Zao | apply Zak
      | ((with_reducible refine Zap ?_); refine Zai rfl ?_ ?_ <;> intro hb <;> (try simp only [zH] at hb)) | ((with_reducible refine Zaq 8 ?_ ?_); (· exact rfl); (with_reducible refine Zaq 9 ?_ ?_); (· exact rfl); (first | refine Zad htb hmz Za9 fF rfl rfl ?_ | refine Zae hmo htb hmz Za9 fF rfl rfl (by kernel_rfl) ?_); intro _ _ _ _ h; simp only [zE, evp, evx, ev1, evLoad, evStore, evBin, Zaa, forall_const, z38, tb, reduceAdd, reduceSub, reduceMul, reduceEqDiff, reduceLeDiff, reduceLT, Nat.reduceBEq, Nat.reduceBNe, ↓reduceIte, reduceIte, spBt, chkS, Zb3, Zbv, Zbl] at h; obtain ⟨rfl, rfl, rfl, rfl⟩ := h; refine ⟨?_, ?_⟩) | ((with_reducible refine Ob.mk ?_); first | exact trivial | (intros; omega) | ((repeat' first | apply And.intro | (intro a; have b := a; try simp only [zH] at b)) <;> first | assumption | omega | (simp only [zH]; omega)))
    · repeat' first
        | with_reducible first | apply Zan | apply Zaj | apply Zab | apply Zac | apply Zag | apply Zal | apply Zaf | apply Zah | apply Zam | apply Zao | apply Zak
        | ((with_reducible refine Zap ?_); refine Zai rfl ?_ ?_ <;> intro hb <;> (try simp only [zH] at hb)) | ((with_reducible refine Zax ?_); (first | refine Zad htb hmz Za9 fF rfl rfl ?_ | refine Zae hmo htb hmz Za9 fF rfl rfl (by kernel_rfl) ?_); intro _ _ _ _ h; simp only [zE, evp, evx, ev1, evLoad, evStore, evBin, Zaa, forall_const, z38, tb, reduceAdd, reduceSub, reduceMul, reduceEqDiff, reduceLeDiff, reduceLT, Nat.reduceBEq, Nat.reduceBNe, ↓reduceIte, reduceIte, spBt, chkS, Zb3, Zbv, Zbl] at h; obtain ⟨rfl, rfl, rfl, rfl⟩ := h; refine ⟨?_, ?_⟩) | ((with_reducible refine Ob.mk ?_); first | exact trivial | (intros; omega) | ((repeat' first | apply And.intro | (intro a; have b := a; try simp only [zH] at b)) <;> first | assumption | omega | (simp only [zH]; omega)))
      refine Zav rfl rfl (Zee (⟨0, .tup (.cons (.roI c) (.cons (.bool false) (.cons (.int .i64 0) .nil))), []⟩) ([]) rfl rfl (Zcb rfl) ?_)
      simp only [grR, zE, evp, evx, ev1, evLoad, evStore, evBin, Zaa, forall_const, z38, tb, reduceAdd, reduceSub, reduceMul, reduceEqDiff, reduceLeDiff, reduceLT, Nat.reduceBEq, Nat.reduceBNe, ↓reduceIte, reduceIte, spBt, chkS, Zb3, Zbv, Zbl]
    · exact absurd hb (by simp)
  · repeat' first
      | with_reducible first | apply Zan | apply Zaj | apply Zab | apply Zac | apply Zag | apply Zal | apply Zaf | apply Zah | apply Zam | apply Zao | apply Zak
      | ((with_reducible refine Zap ?_); refine Zai rfl ?_ ?_ <;> intro hb <;> (try simp only [zH] at hb)) | ((with_reducible refine Zaq 6 ?_ ?_); (· exact rfl); (first | refine Zad htb hmz Za9 fF rfl rfl ?_ | refine Zae hmo htb hmz Za9 fF rfl rfl (by kernel_rfl) ?_); intro _ _ _ _ h; simp only [zE, evp, evx, ev1, evLoad, evStore, evBin, Zaa, forall_const, z38, tb, reduceAdd, reduceSub, reduceMul, reduceEqDiff, reduceLeDiff, reduceLT, Nat.reduceBEq, Nat.reduceBNe, ↓reduceIte, reduceIte, spBt, chkS, Zb3, Zbv, Zbl] at h; obtain ⟨rfl, rfl, rfl, rfl⟩ := h; refine ⟨?_, ?_⟩) | ((with_reducible refine Ob.mk ?_); first | exact trivial | (intros; omega) | ((repeat' first | apply And.intro | (intro a; have b := a; try simp only [zH] at b)) <;> first | assumption | omega | (simp only [zH]; omega)))
    refine Zcy ([_]) ([_]) rfl rfl ?_
    refine Zay htb hmz Za9 fF rfl rfl rfl ?_; intro _ _ _ _ h; simp only [zE, evp, evx, ev1, evLoad, evStore, evBin, Zaa, forall_const, z38, tb, reduceAdd, reduceSub, reduceMul, reduceEqDiff, reduceLeDiff, reduceLT, Nat.reduceBEq, Nat.reduceBNe, ↓reduceIte, reduceIte, spBt, chkS, Zb3, Zbv, Zbl] at h; obtain ⟨rfl, rfl, rfl, rfl⟩ := h; refine ⟨?_, Zab ?_⟩
    · first | ((with_reducible refine Ob.mk ?_); first | exact trivial | (intros; omega) | ((repeat' first | apply And.intro | (intro a; have b := a; try simp only [zH] at b)) <;> first | assumption | omega | (simp only [zH]; omega))) | skip
    refine Zbg ([]) (clone_fg (a := c) (by omega) (by omega)) rfl rfl rfl rfl rfl rfl rfl rfl rfl (by simp only [rinR, rhoC, zE, evp, evx, ev1, evLoad, evStore, evBin, Zaa, forall_const, z38, tb, reduceAdd, reduceSub, reduceMul, reduceEqDiff, reduceLeDiff, reduceLT, Nat.reduceBEq, Nat.reduceBNe, ↓reduceIte, reduceIte, spBt, chkS, Zb3, Zbv, Zbl]) ?_; intro gm gv gr hq m' e' l' h; simp only [GR.mk.injEq] at hq; obtain ⟨rfl, rfl, rfl⟩ := hq; simp only [rhoC, outR, renR, dels, zE, evp, evx, ev1, evLoad, evStore, evBin, Zaa, forall_const, z38, tb, reduceAdd, reduceSub, reduceMul, reduceEqDiff, reduceLeDiff, reduceLT, Nat.reduceBEq, Nat.reduceBNe, ↓reduceIte, reduceIte, spBt, chkS, Zb3, Zbv, Zbl] at h; obtain ⟨rfl, rfl, rfl⟩ := h; refine Zab ?_
    refine Zay htb hmz Za9 fF rfl rfl rfl ?_; intro _ _ _ _ h; simp only [zE, evp, evx, ev1, evLoad, evStore, evBin, Zaa, forall_const, z38, tb, reduceAdd, reduceSub, reduceMul, reduceEqDiff, reduceLeDiff, reduceLT, Nat.reduceBEq, Nat.reduceBNe, ↓reduceIte, reduceIte, spBt, chkS, Zb3, Zbv, Zbl] at h; obtain ⟨rfl, rfl, rfl, rfl⟩ := h; refine ⟨?_, ?_⟩
    · first | ((with_reducible refine Ob.mk ?_); first | exact trivial | (intros; omega) | ((repeat' first | apply And.intro | (intro a; have b := a; try simp only [zH] at b)) <;> first | assumption | omega | (simp only [zH]; omega))) | skip
    refine Zab ?_
    repeat' first
      | with_reducible first | apply Zan | apply Zaj | apply Zab | apply Zac | apply Zag | apply Zal | apply Zaf | apply Zah | apply Zam | apply Zao | apply Zak
      | ((with_reducible refine Zap ?_); refine Zai rfl ?_ ?_ <;> intro hb <;> (try simp only [zH] at hb)) | ((with_reducible refine Zaq 8 ?_ ?_); (· exact rfl); (with_reducible refine Zaq 9 ?_ ?_); (· exact rfl); (first | refine Zad htb hmz Za9 fF rfl rfl ?_ | refine Zae hmo htb hmz Za9 fF rfl rfl (by kernel_rfl) ?_); intro _ _ _ _ h; simp only [zE, evp, evx, ev1, evLoad, evStore, evBin, Zaa, forall_const, z38, tb, reduceAdd, reduceSub, reduceMul, reduceEqDiff, reduceLeDiff, reduceLT, Nat.reduceBEq, Nat.reduceBNe, ↓reduceIte, reduceIte, spBt, chkS, Zb3, Zbv, Zbl] at h; obtain ⟨rfl, rfl, rfl, rfl⟩ := h; refine ⟨?_, ?_⟩) | ((with_reducible refine Ob.mk ?_); first | exact trivial | (intros; omega) | ((repeat' first | apply And.intro | (intro a; have b := a; try simp only [zH] at b)) <;> first | assumption | omega | (simp only [zH]; omega)))
    · rw [if_pos hb, decide_eq_false (show ¬ mine ≠ won from fun h => h hb)]
      refine Zbi 25 (.roI c) (by simp only [Zar, Zaw, fzE, fzA, fzR, fzB, set1, nbeq, reduceEqDiff, decide_true, decide_false, ↓reduceIte, reduceIte, cond_true, cond_false, List.take_length, Option.some.injEq]; rfl) (by first | exact rfl | (refine ⟨?_, rfl⟩; first | rfl | (intros; rfl))) (by simp only [Zar, Zaw, fzE, fzA, fzR, fzB, set1, nbeq, reduceEqDiff, decide_true, decide_false, ↓reduceIte, reduceIte, cond_true, cond_false, List.take_length, Option.some.injEq]; rfl) (by simp only [Zar, Zaw, fzE, fzA, fzR, fzB, set1, nbeq, reduceEqDiff, decide_true, decide_false, ↓reduceIte, reduceIte, cond_true, cond_false, List.take_length, Option.some.injEq]; rfl) ?_
      repeat' first
        | with_reducible first | apply Zan | apply Zaj | apply Zab | apply Zac | apply Zag | apply Zal | apply Zaf | apply Zah | apply Zam | apply Zao | apply Zak
        | ((with_reducible refine Zap ?_); refine Zai rfl ?_ ?_ <;> intro hb <;> (try simp only [zH] at hb)) | ((with_reducible refine Zax ?_); (first | refine Zad htb hmz Za9 fF rfl rfl ?_ | refine Zae hmo htb hmz Za9 fF rfl rfl (by kernel_rfl) ?_); intro _ _ _ _ h; simp only [zE, evp, evx, ev1, evLoad, evStore, evBin, Zaa, forall_const, z38, tb, reduceAdd, reduceSub, reduceMul, reduceEqDiff, reduceLeDiff, reduceLT, Nat.reduceBEq, Nat.reduceBNe, ↓reduceIte, reduceIte, spBt, chkS, Zb3, Zbv, Zbl] at h; obtain ⟨rfl, rfl, rfl, rfl⟩ := h; refine ⟨?_, ?_⟩) | ((with_reducible refine Ob.mk ?_); first | exact trivial | (intros; omega) | ((repeat' first | apply And.intro | (intro a; have b := a; try simp only [zH] at b)) <;> first | assumption | omega | (simp only [zH]; omega)))
      refine Zav rfl rfl (Zee (⟨0, .tup (.cons (.roI c) (.cons (.bool false) (.cons (.int .i64 0) .nil))), []⟩) ([]) rfl rfl (Zcb rfl) ?_)
      simp only [grR, zE, evp, evx, ev1, evLoad, evStore, evBin, Zaa, forall_const, z38, tb, reduceAdd, reduceSub, reduceMul, reduceEqDiff, reduceLeDiff, reduceLT, Nat.reduceBEq, Nat.reduceBNe, ↓reduceIte, reduceIte, spBt, chkS, Zb3, Zbv, Zbl]
    · rw [if_neg hb, decide_eq_true (show mine ≠ won from hb)]
      repeat' first
        | with_reducible first | apply Zan | apply Zaj | apply Zab | apply Zac | apply Zag | apply Zal | apply Zaf | apply Zah | apply Zam | apply Zao | apply Zak
        | ((with_reducible refine Zap ?_); refine Zai rfl ?_ ?_ <;> intro hb <;> (try simp only [zH] at hb)) | ((with_reducible refine Zax ?_); (first | refine Zad htb hmz Za9 fF rfl rfl ?_ | refine Zae hmo htb hmz Za9 fF rfl rfl (by kernel_rfl) ?_); intro _ _ _ _ h; simp only [zE, evp, evx, ev1, evLoad, evStore, evBin, Zaa, forall_const, z38, tb, reduceAdd, reduceSub, reduceMul, reduceEqDiff, reduceLeDiff, reduceLT, Nat.reduceBEq, Nat.reduceBNe, ↓reduceIte, reduceIte, spBt, chkS, Zb3, Zbv, Zbl] at h; obtain ⟨rfl, rfl, rfl, rfl⟩ := h; refine ⟨?_, ?_⟩) | ((with_reducible refine Ob.mk ?_); first | exact trivial | (intros; omega) | ((repeat' first | apply And.intro | (intro a; have b := a; try simp only [zH] at b)) <;> first | assumption | omega | (simp only [zH]; omega)))
      have hmz := Zh1 (f := fun v => if o.getD v 0 = 0 ∧ won.getD v false = true ∧ mine.getD v false = false then C.getD v 0 else c.getD v 0) (x := c) (d := 0)
      rw [hcl] at hmz
      refine Zat (τ := Nat) (fun i => i ≤ o.length) (fun i => ⟨33, [(38, .int .i64 i), (37, .int .i64 o.length), (12, .own 25), (11, .roI C), (10, .roB won), (9, .roB mine), (2, .rop (.agg (.cons (.roI o) (.cons (.roI p) (.cons (.roII x) .nil)))))], [(25, some (.ints (mix (fun v => if o.getD v 0 = 0 ∧ won.getD v false = true ∧ mine.getD v false = false then C.getD v 0 else c.getD v 0) (fun v => c.getD v 0) o.length i)))], []⟩) (fun i => o.length - i) 0 [] ?_ (Nat.zero_le _) ?_
      · (refine ⟨rfl, ?_, ?_⟩ <;> simp only [zE, evp, evx, ev1, evLoad, evStore, evBin, Zaa, forall_const, z38, tb, reduceAdd, reduceSub, reduceMul, reduceEqDiff, reduceLeDiff, reduceLT, Nat.reduceBEq, Nat.reduceBNe, ↓reduceIte, reduceIte, spBt, chkS, Zb3, Zbv, Zbl, zI])
        · rw [hcl]
        · exact hmz.symm
      intro i hi
      have hms := Zcj (f := fun v => if o.getD v 0 = 0 ∧ won.getD v false = true ∧ mine.getD v false = false then C.getD v 0 else c.getD v 0) (h := fun v => c.getD v 0) (n := o.length) (i := i)
      have hmk := Zh2 (f := fun v => if o.getD v 0 = 0 ∧ won.getD v false = true ∧ mine.getD v false = false then C.getD v 0 else c.getD v 0) (h := fun v => c.getD v 0) (n := o.length) (i := i)
      have hml := Zc5 (f := fun v => if o.getD v 0 = 0 ∧ won.getD v false = true ∧ mine.getD v false = false then C.getD v 0 else c.getD v 0) (h := fun v => c.getD v 0) (n := o.length) (i := i)
      clear hmz
      repeat' first
        | with_reducible first | apply Zan | apply Zaj | apply Zab | apply Zac | apply Zag | apply Zal | apply Zaf | apply Zah | apply Zam | apply Zao | apply Zak
        | ((with_reducible refine Zap ?_); refine Zai rfl ?_ ?_ <;> intro hb <;> (try simp only [zH] at hb)) | ((with_reducible refine Zaq 11 ?_ ?_); (· exact rfl); (with_reducible refine Zaq 15 ?_ ?_); (· exact rfl); (first | refine Zad htb hmz Za9 fF rfl rfl ?_ | refine Zae hmo htb hmz Za9 fF rfl rfl (by kernel_rfl) ?_); intro _ _ _ _ h; simp only [zE, evp, evx, ev1, evLoad, evStore, evBin, Zaa, forall_const, z38, tb, reduceAdd, reduceSub, reduceMul, reduceEqDiff, reduceLeDiff, reduceLT, Nat.reduceBEq, Nat.reduceBNe, ↓reduceIte, reduceIte, spBt, chkS, Zb3, Zbv, Zbl] at h; obtain ⟨rfl, rfl, rfl, rfl⟩ := h; refine ⟨?_, ?_⟩) | ((with_reducible refine Ob.mk ?_); first | exact trivial | (intros; omega) | ((repeat' first | apply And.intro | (intro a; have b := a; try simp only [zH] at b)) <;> first | assumption | omega | (simp only [zH]; omega)))
      · have hil : i < o.length := by omega
        repeat' first
          | with_reducible first | apply Zan | apply Zaj | apply Zab | apply Zac | apply Zag | apply Zal | apply Zaf | apply Zah | apply Zam | apply Zao | apply Zak
          | ((with_reducible refine Zap ?_); refine Zai rfl ?_ ?_ <;> intro hb <;> (try simp only [zH] at hb)) | ((with_reducible refine Zaq 13 ?_ ?_); (· exact rfl); (with_reducible refine Zaq 14 ?_ ?_); (· exact rfl); (first | refine Zad htb hmz Za9 fF rfl rfl ?_ | refine Zae hmo htb hmz Za9 fF rfl rfl (by kernel_rfl) ?_); intro _ _ _ _ h; simp only [zE, evp, evx, ev1, evLoad, evStore, evBin, Zaa, forall_const, z38, tb, reduceAdd, reduceSub, reduceMul, reduceEqDiff, reduceLeDiff, reduceLT, Nat.reduceBEq, Nat.reduceBNe, ↓reduceIte, reduceIte, spBt, chkS, Zb3, Zbv, Zbl] at h; obtain ⟨rfl, rfl, rfl, rfl⟩ := h; refine ⟨?_, ?_⟩) | ((with_reducible refine Ob.mk ?_); first | exact trivial | (intros; omega) | ((repeat' first | apply And.intro | (intro a; have b := a; try simp only [zH] at b)) <;> first | assumption | omega | (simp only [zH]; omega)))
        · rw [if_pos ⟨hb.1.1, hb.1.2, hb.2⟩] at hms
          repeat' first
            | with_reducible first | apply Zan | apply Zaj | apply Zab | apply Zac | apply Zag | apply Zal | apply Zaf | apply Zah | apply Zam | apply Zao | apply Zak
            | ((with_reducible refine Zap ?_); refine Zai rfl ?_ ?_ <;> intro hb <;> (try simp only [zH] at hb)) | ((with_reducible refine Zax ?_); (first | refine Zad htb hmz Za9 fF rfl rfl ?_ | refine Zae hmo htb hmz Za9 fF rfl rfl (by kernel_rfl) ?_); intro _ _ _ _ h; simp only [zE, evp, evx, ev1, evLoad, evStore, evBin, Zaa, forall_const, z38, tb, reduceAdd, reduceSub, reduceMul, reduceEqDiff, reduceLeDiff, reduceLT, Nat.reduceBEq, Nat.reduceBNe, ↓reduceIte, reduceIte, spBt, chkS, Zb3, Zbv, Zbl] at h; obtain ⟨rfl, rfl, rfl, rfl⟩ := h; refine ⟨?_, ?_⟩) | ((with_reducible refine Ob.mk ?_); first | exact trivial | (intros; omega) | ((repeat' first | apply And.intro | (intro a; have b := a; try simp only [zH] at b)) <;> first | assumption | omega | (simp only [zH]; omega)))
          refine back (i + 1) [] ?_ (by omega) (by omega)
          (refine ⟨rfl, ?_, ?_⟩ <;> simp only [zE, evp, evx, ev1, evLoad, evStore, evBin, Zaa, forall_const, z38, tb, reduceAdd, reduceSub, reduceMul, reduceEqDiff, reduceLeDiff, reduceLT, Nat.reduceBEq, Nat.reduceBNe, ↓reduceIte, reduceIte, spBt, chkS, Zb3, Zbv, Zbl, zI])
          exact hms
        · have hmk := hmk (if_neg fun h => by
            rcases hb with (h1 | h1) | h1
            · exact h1 h.1
            · rw [h1] at h; exact absurd h.2.1 (by decide)
            · rw [h1] at h; exact absurd h.2.2 (by decide))
          repeat' first
            | with_reducible first | apply Zan | apply Zaj | apply Zab | apply Zac | apply Zag | apply Zal | apply Zaf | apply Zah | apply Zam | apply Zao | apply Zak
            | ((with_reducible refine Zap ?_); refine Zai rfl ?_ ?_ <;> intro hb <;> (try simp only [zH] at hb)) | ((with_reducible refine Zax ?_); (first | refine Zad htb hmz Za9 fF rfl rfl ?_ | refine Zae hmo htb hmz Za9 fF rfl rfl (by kernel_rfl) ?_); intro _ _ _ _ h; simp only [zE, evp, evx, ev1, evLoad, evStore, evBin, Zaa, forall_const, z38, tb, reduceAdd, reduceSub, reduceMul, reduceEqDiff, reduceLeDiff, reduceLT, Nat.reduceBEq, Nat.reduceBNe, ↓reduceIte, reduceIte, spBt, chkS, Zb3, Zbv, Zbl] at h; obtain ⟨rfl, rfl, rfl, rfl⟩ := h; refine ⟨?_, ?_⟩) | ((with_reducible refine Ob.mk ?_); first | exact trivial | (intros; omega) | ((repeat' first | apply And.intro | (intro a; have b := a; try simp only [zH] at b)) <;> first | assumption | omega | (simp only [zH]; omega)))
          refine back (i + 1) [] ?_ (by omega) (by omega)
          (refine ⟨rfl, ?_, ?_⟩ <;> simp only [zE, evp, evx, ev1, evLoad, evStore, evBin, Zaa, forall_const, z38, tb, reduceAdd, reduceSub, reduceMul, reduceEqDiff, reduceLeDiff, reduceLT, Nat.reduceBEq, Nat.reduceBNe, ↓reduceIte, reduceIte, spBt, chkS, Zb3, Zbv, Zbl, zI])
          exact hmk
      have hie : i = o.length := by omega
      subst hie
      rw [Zck]
      refine Zbi 25 (.roI (btO o c mine won C)) (by simp only [Zar, Zaw, fzE, fzA, fzR, fzB, set1, nbeq, reduceEqDiff, decide_true, decide_false, ↓reduceIte, reduceIte, cond_true, cond_false, List.take_length, Option.some.injEq]; rfl) (by first | exact rfl | (refine ⟨?_, rfl⟩; first | rfl | (intros; rfl))) (by simp only [Zar, Zaw, fzE, fzA, fzR, fzB, set1, nbeq, reduceEqDiff, decide_true, decide_false, ↓reduceIte, reduceIte, cond_true, cond_false, List.take_length, Option.some.injEq]; rfl) (by simp only [Zar, Zaw, fzE, fzA, fzR, fzB, set1, nbeq, reduceEqDiff, decide_true, decide_false, ↓reduceIte, reduceIte, cond_true, cond_false, List.take_length, Option.some.injEq]; rfl) ?_
      repeat' first
        | with_reducible first | apply Zan | apply Zaj | apply Zab | apply Zac | apply Zag | apply Zal | apply Zaf | apply Zah | apply Zam | apply Zao | apply Zak
        | ((with_reducible refine Zap ?_); refine Zai rfl ?_ ?_ <;> intro hb <;> (try simp only [zH] at hb)) | ((with_reducible refine Zax ?_); (first | refine Zad htb hmz Za9 fF rfl rfl ?_ | refine Zae hmo htb hmz Za9 fF rfl rfl (by kernel_rfl) ?_); intro _ _ _ _ h; simp only [zE, evp, evx, ev1, evLoad, evStore, evBin, Zaa, forall_const, z38, tb, reduceAdd, reduceSub, reduceMul, reduceEqDiff, reduceLeDiff, reduceLT, Nat.reduceBEq, Nat.reduceBNe, ↓reduceIte, reduceIte, spBt, chkS, Zb3, Zbv, Zbl] at h; obtain ⟨rfl, rfl, rfl, rfl⟩ := h; refine ⟨?_, ?_⟩) | ((with_reducible refine Ob.mk ?_); first | exact trivial | (intros; omega) | ((repeat' first | apply And.intro | (intro a; have b := a; try simp only [zH] at b)) <;> first | assumption | omega | (simp only [zH]; omega)))
      refine Zav rfl rfl (Zee (⟨0, .tup (.cons (.roI (btO o c mine won C)) (.cons (.bool true) (.cons (.int .i64 0) .nil))), []⟩) ([]) rfl rfl (Zcb rfl) ?_)
      simp only [grR, zE, evp, evx, ev1, evLoad, evStore, evBin, Zaa, forall_const, z38, tb, reduceAdd, reduceSub, reduceMul, reduceEqDiff, reduceLeDiff, reduceLT, Nat.reduceBEq, Nat.reduceBNe, ↓reduceIte, reduceIte, spBt, chkS, Zb3, Zbv, Zbl]
section
open Go Pl
variable {o p : List Int} {x : List (List Int)} {pl : Int}
theorem Zi9 (hv : Zbc ⟨o, p, x⟩ = true) : GmOK o p x ∧ ∀ v, v < p.length → p.getD v 0 ≤ 999000 := by
  have hG := gok (validB_iff.1 hv)
  refine ⟨⟨hG.n, hG.pl, fun v hv => (hG.pri v hv).1, fun v hv => by rcases hG.own v hv with h | h <;> (have h : o.getD v 0 = _ := h; rw [h]; decide), hG.xl, fun v hv => ⟨(hG.len v hv).2, hG.at' v hv⟩⟩, fun v hv => ?_⟩
  have h1 : p.length = o.length := hG.pl
  have h2 : p.getD v 0 ≤ 60 := (hG.pri v (by show v < o.length; omega)).2
  omega
theorem Zc7 {v : Nat} (h : (alLs o p x pl).getD v false = true) : v < o.length ∧ o.getD v 0 ≠ pl ∧ ∃ u, u < o.length ∧ alBs o p x pl u ∧ Rch (alE o x pl) v u := by
  have hv : v < o.length := by
    rcases Nat.lt_or_ge v o.length with h2 | h2
    · exact h2
    · rw [List.getD_eq_getElem?_getD, List.getElem?_eq_none (by rw [Zfv]; exact h2)] at h; cases h
  obtain ⟨u, h1, h2, h3⟩ := (Zez hv).1 h
  refine ⟨hv, ?_, u, h1, h2, h3⟩
  rcases h3.uncons with rfl | ⟨t, h4, _⟩
  · exact h2.1.1
  · obtain ⟨z, hz, _⟩ := List.mem_map.1 h4
    exact (alR_mem.1 hz).1
theorem lost_step (hG : GmOK o p x) {v u : Nat} (hv : v < o.length) (ho : o.getD v 0 ≠ pl) (hu : u ∈ rws x v) (hl : (alLs o p x pl).getD u false = true) : (alLs o p x pl).getD v false = true := by
  obtain ⟨h1, h2, z, h3, h4, h5⟩ := Zc7 hl
  refine (Zez hv).2 ⟨z, h3, h4, Rch.cons ?_ h5⟩
  obtain ⟨w, hw, rfl⟩ := List.mem_map.1 hu
  exact List.mem_map.2 ⟨w, alR_mem.2 ⟨ho, hw, h2⟩, rfl⟩
theorem Zkg (hv : Zbc ⟨o, p, x⟩ = true) : ImG (imB o p x pl) (2 * 900000000000 + 2) (mxI p + 1).toNat := by
  obtain ⟨hK, hmx⟩ := Zi9 hv
  refine ⟨imB_ok hK hmx, ?_, Int.le_refl _, fun v hl => (Zc7 hl).2.1⟩
  show Zv.fin (enF pl _ (fun q => (List.replicate (mxI p + 1).toNat (0 : Int)).getD q 0) _) = .fin 0
  congr 1
  rw [Zfq (h := fun _ => 0) fun q hq => by
    simp only [List.getD_eq_getElem?_getD, List.getElem?_replicate]
    split <;> rfl]
  exact Zgm
theorem nb_first (hv : Zbc ⟨o, p, x⟩ = true) : NBh (imB o p x pl) (List.replicate o.length (-1)) := by
  intro w hw hs hc
  have hw : w < o.length := hw
  have hcf : ∀ v, cF (List.replicate o.length (-1)) v = -1 := fun v => by
    simp only [cF, List.getD_eq_getElem?_getD, List.getElem?_replicate]
    split <;> rfl
  obtain ⟨t, ht, hr⟩ := id hc
  have hown : ∀ {a b : Nat}, (a < o.length ∧ ¬ hLo (imB o p x pl) a ∧ EdI (hOw (imB o p x pl)) (rws x) pl (cF (List.replicate o.length (-1))) a b) → o.getD a 0 ≠ pl := fun {a b} h ho => by
    have h1 : (b : Int) = cF (List.replicate o.length (-1)) a := h.2.2.1 ho
    rw [hcf] at h1
    omega
  have hout : ∀ z, OnC (fun a b => a < o.length ∧ ¬ hLo (imB o p x pl) a ∧ EdI (hOw (imB o p x pl)) (rws x) pl (cF (List.replicate o.length (-1))) a b) (hPr (imB o p x pl)) w t z → o.getD z 0 ≠ pl := fun z hz => by
    obtain ⟨s, h1, _⟩ := Zg3 ht hr hz
    exact hown h1
  have hcy : Cyc (alE o x pl) (fun v => p.getD v 0) w := Zda ht hr fun a b ha hb he => by
    have h1 := hown he
    obtain ⟨z, hz, rfl⟩ := List.mem_map.1 (he.2.2.2 h1)
    exact List.mem_map.2 ⟨z, alR_mem.2 ⟨h1, hz, hout _ hb⟩, rfl⟩
  have hwo : o.getD w 0 ≠ pl := hout w ⟨hr, .refl _⟩
  have hpw : p.getD w 0 % 2 ≠ pl := by
    intro e
    have hG := gok (validB_iff.1 hv)
    have h0 : 0 ≤ p.getD w 0 := (hG.pri w hw).1
    unfold sg at hs
    rw [if_pos (by show (((p.getD w 0).toNat : Nat) : Int) % 2 = pl; rw [Int.toNat_of_nonneg h0]; exact e)] at hs
    cases hs
  exact ht.1.2.1 ((Zez hw).2 ⟨w, hw, ⟨⟨hwo, hpw⟩, hcy⟩, .refl _⟩)
theorem lost_sol (hv : Zbc ⟨o, p, x⟩ = true) (hp : pl = 0 ∨ pl = 1) : ∃ c : Nat → Nat, (∀ v, (alLs o p x pl).getD v false = true → c v ∈ rws x v ∧ (alLs o p x pl).getD (c v) false = true) ∧ ∀ w, (alLs o p x pl).getD w false = true → p.getD w 0 % 2 = pl → ¬ Cyc (fun a b => (alLs o p x pl).getD a false = true ∧ b = c a) (fun v => p.getD v 0) w := by
  have hG := gok (validB_iff.1 hv)
  have hK : ∀ v, (alLs o p x pl).getD v false = true → v < o.length := fun v h => (Zc7 h).1
  have hno : ∀ v, (alLs o p x pl).getD v false = true → o.getD v 0 = 1 - pl := fun v h => by
    have h1 := (Zc7 h).2.1
    rcases hG.own v (hK v h) with h2 | h2 <;> (have h2 : o.getD v 0 = _ := h2; omega)
  have hsub : ∀ {a b : Nat}, alE o x pl a b → b ∈ rws x a := fun {a b} h => by
    obtain ⟨z, hz, rfl⟩ := List.mem_map.1 h
    exact List.mem_map.2 ⟨z, (alR_mem.1 hz).2.1, rfl⟩
  have hEl : ∀ {a b u : Nat}, alE o x pl a b → Rch (alE o x pl) b u → u < o.length → alBs o p x pl u → (alLs o p x pl).getD b false = true := fun {a b u} h hr hu hb => by
    have hbl : b < o.length := by
      rcases hr.uncons with rfl | ⟨t, h4, _⟩
      · exact hu
      · obtain ⟨z, hz, _⟩ := List.mem_map.1 h4
        rcases Nat.lt_or_ge b o.length with h5 | h5
        · exact h5
        · exfalso
          have e : x.getD b [] = [] := by
            have : x.length = o.length := hG.xl
            rw [List.getD_eq_getElem?_getD, List.getElem?_eq_none (by omega)]; rfl
          have := (alR_mem.1 hz).2.1
          rw [e] at this; cases this
    exact (Zez hbl).2 ⟨u, hu, hb, hr⟩
  have htrap : Trap (fun v => (alR o x pl v).map Int.toNat) (fun v => (alLs o p x pl).getD v false = true) := fun v h => by
    obtain ⟨_, _, u, h1, h2, h3⟩ := Zc7 h
    rcases h3.uncons with rfl | ⟨t, h4, h5⟩
    · obtain ⟨t, h4, h5⟩ := h2.2
      exact ⟨t, h4.1, hEl h4.1 (h5.mono fun a b h => h.1) h1 h2⟩
    · exact ⟨t, h4, hEl h4 h5 h1 h2⟩
  have hcnt : cntZ o.length (fun v => (alLs o p x pl).getD v false) ≤ o.length + 1 := by
    have : cntZ o.length (fun v => (alLs o p x pl).getD v false) ≤ (List.range o.length).length := List.countP_le_length
    rw [List.length_range] at this
    omega
  obtain ⟨h1, c, h2, h3⟩ := zsol (own := fun v => o.getD v 0) (pri := fun v => p.getD v 0) (sx := fun v => (alR o x pl v).map Int.toNat) (n := o.length) hG.own (fun v hv => (hG.pri v hv).1) (o.length + 1) (fun v => (alLs o p x pl).getD v false) hK hcnt htrap
  generalize winZ (fun v => o.getD v 0) (fun v => p.getD v 0) (fun v => (alR o x pl v).map Int.toNat) o.length (o.length + 1) (fun v => (alLs o p x pl).getD v false) = W at *
  have hS : Sol (fun v => o.getD v 0) (fun v => p.getD v 0) (fun v => (alR o x pl v).map Int.toNat) (fun v => (alLs o p x pl).getD v false = true) W c pl ∧ Sol (fun v => o.getD v 0) (fun v => p.getD v 0) (fun v => (alR o x pl v).map Int.toNat) (fun v => (alLs o p x pl).getD v false = true) W c (1 - pl) := by
    rcases hp with rfl | rfl
    · exact ⟨h2, h3⟩
    · exact ⟨h3, h2⟩
  have hW : ∀ v, (alLs o p x pl).getD v false = true → W v = 1 - pl := fun v hl => by
    rcases Classical.em (W v = pl) with hw | hw
    · exfalso
      obtain ⟨_, _, u, q1, q2, q3⟩ := Zc7 hl
      have hst : ∀ a b, ((alLs o p x pl).getD a false = true ∧ W a = pl) → (alE o x pl a b ∧ (alLs o p x pl).getD b false = true) → (alLs o p x pl).getD b false = true ∧ W b = pl := fun a b ha hb => ⟨hb.2, hS.1.his a ha.1 ha.2 (Zc7 ha.1).2.1 b hb.1 hb.2⟩
      have key : ∀ {a : Nat}, Rch (alE o x pl) a u → ((alLs o p x pl).getD a false = true ∧ W a = pl) → ((alLs o p x pl).getD u false = true ∧ W u = pl) := fun {a} hr => by
        intro ha
        have : ∀ z, Rch (alE o x pl) a z → Rch (alE o x pl) z u → (alLs o p x pl).getD z false = true ∧ W z = pl := by
          intro z hz
          induction hz with
          | refl => intro _; exact ha
          | step hz' he ih =>
            intro hzu
            exact hst _ _ (ih (Rch.cons he hzu)) ⟨he, hEl he hzu q1 q2⟩
        exact this u hr (.refl _)
      obtain ⟨u1, u2⟩ := key q3 ⟨hl, hw⟩
      obtain ⟨t, t1, t2⟩ := q2.2
      refine hS.1.cyc u u1 u2 q2.1.2 (Zda t1 t2 fun a b ha hb he => ?_)
      have hin : ∀ z, OnC (alE o x pl) (fun v => p.getD v 0) u t z → (alLs o p x pl).getD z false = true ∧ W z = pl := fun z hz => by
        have r1 : Rch (alE o x pl) u z := Rch.cons t1.1 (hz.1.mono fun a b h => h.1)
        have r2 : Rch (alE o x pl) z u := hz.2.mono fun a b h => h.1
        have : ∀ z, Rch (alE o x pl) u z → Rch (alE o x pl) z u → (alLs o p x pl).getD z false = true ∧ W z = pl := by
          intro z hz
          induction hz with
          | refl => intro _; exact ⟨u1, u2⟩
          | step hz' he ih =>
            intro hzu
            exact hst _ _ (ih (Rch.cons he hzu)) ⟨he, hEl he hzu q1 q2⟩
        exact this z r1 r2
      exact ⟨hin a ha, (hin b hb).1, fun ho => absurd ho (Zc7 (hin a ha).1).2.1, fun _ => he⟩
    · rcases h1 v hl with h | h <;> omega
  refine ⟨c, fun v hl => ?_, fun w hl hpw hc => ?_⟩
  · obtain ⟨m1, m2, _⟩ := hS.2.mine v hl (hW v hl) (hno v hl)
    exact ⟨hsub m1, m2⟩
  · obtain ⟨t, t1, t2⟩ := hc
    refine hS.2.cyc w hl (hW w hl) (by show p.getD w 0 % 2 ≠ 1 - pl; omega) (Zda t1 t2 fun a b ha hb he => ?_)
    obtain ⟨m1, m2, m3⟩ := hS.2.mine a he.1 (hW a he.1) (hno a he.1)
    exact ⟨⟨he.1, hW a he.1⟩, by rw [he.2]; exact m2, fun _ => he.2, fun ho => absurd (hno a he.1) ho⟩
end
section
open Go Pl
theorem sol_congr {own pri : Nat → Int} {sx : Nat → List Nat} {K : Nat → Prop} {W W' : Nat → Int} {c : Nat → Nat} {q : Int} (h : ∀ v, K v → W v = W' v) (hS : Sol own pri sx K W c q) : Sol own pri sx K W' c q := by
  refine ⟨fun v hv hw ho => ?_, fun v hv hw ho t ht hk => ?_, fun w hw hw2 hp hc => ?_⟩
  · obtain ⟨a, b, d⟩ := hS.mine v hv ((h v hv).trans hw) ho
    exact ⟨a, b, (h _ b).symm.trans d⟩
  · exact (h t hk).symm.trans (hS.his v hv ((h v hv).trans hw) ho t ht hk)
  · refine hS.cyc w hw ((h w hw).trans hw2) hp ?_
    obtain ⟨t, t1, t2⟩ := hc
    exact Zda t1 t2 fun a b ha hb he => ⟨⟨he.1.1, (h a he.1.1).trans he.1.2⟩, he.2⟩
theorem win_uniq {g : Gm} (hV : Zhd g) {W : Nat → Int} {c d : Nat → Nat} (hW : ∀ v, v < g.own.length → W v = 0 ∨ W v = 1) (h0 : Sol (fun v => g.own.getD v 0) (fun v => g.pri.getD v 0) (rws g.nxt) (fun v => v < g.own.length) W c 0) (h1 : Sol (fun v => g.own.getD v 0) (fun v => g.pri.getD v 0) (rws g.nxt) (fun v => v < g.own.length) W d 1) : ∀ v, v < g.own.length → (winA g).getD v 0 = W v := by
  intro v hv
  have hown := (gok hV).own
  obtain ⟨w, e, s0, s1⟩ := win_sol hV
  rcases w v hv with a | a <;> rcases hW v hv with b | b
  · rw [a, b]
  · exact absurd b (Zgx (fun v hv => hv) s0 h1 hown hv a)
  · exact absurd a (Zgx (fun v hv => hv) h0 s1 hown hv b)
  · rw [a, b]
theorem vl_ex {h : Im} {ch : List Int} (hst : h.st.e = false) : ∀ (k : Nat) (u : Nat), ¬ ((vIt h ch k u).e = true ∧ (vIt h ch k u).n = true) := by
  have hplus : ∀ (v : Vl) (q : Nat), ¬ (v.e = true ∧ v.n = true) → ¬ ((Zed v q).e = true ∧ (Zed v q).n = true) := fun v q hv => by
    unfold Zed
    split
    · exact hv
    · intro h; cases h.1
  have hmin : ∀ (l : Nat → Vl) (row : List Int) (out : Vl), (∀ u, ¬ ((l u).e = true ∧ (l u).n = true)) → ¬ (out.e = true ∧ out.n = true) → ¬ ((row.foldl (fun out w => if cmpV h.pl (l w.toNat) out < 0 then l w.toNat else out) out).e = true ∧ (row.foldl (fun out w => if cmpV h.pl (l w.toNat) out < 0 then l w.toNat else out) out).n = true) := by
    intro l row
    induction row with
    | nil => intro out _ ho; exact ho
    | cons a row ih =>
      intro out hl ho
      rw [List.foldl_cons]
      refine ih _ hl ?_
      split
      · exact hl _
      · exact ho
  have hbh : ∀ (l : Nat → Vl) (v : Nat), (∀ u, ¬ ((l u).e = true ∧ (l u).n = true)) → ¬ ((h.bh ch l v).e = true ∧ (h.bh ch l v).n = true) := fun l v hl => by
    unfold Im.bh bhV
    refine hplus _ _ ?_
    split
    · split
      · intro h2; rw [hst] at h2; cases h2.1
      · exact hl _
    · exact hmin l _ _ hl (fun h => by cases h.2)
  have hpass : ∀ (l : Nat → Vl), (∀ u, ¬ ((l u).e = true ∧ (l u).n = true)) → ∀ (i : Nat) (u : Nat), ¬ (((Zc3 h ch l i).1 u).e = true ∧ ((Zc3 h ch l i).1 u).n = true) := by
    intro l hl i
    induction i with
    | zero => exact hl
    | succ i ih =>
      intro u
      rw [Zcr]
      unfold Zha
      split
      · dsimp only
        split
        · exact hbh _ _ ih
        · exact ih u
      · exact ih u
  intro k
  induction k with
  | zero =>
    intro u
    show ¬ ((!h.ls.getD u false) = true ∧ h.ls.getD u false = true)
    cases h.ls.getD u false <;> simp
  | succ k ih => exact hpass _ ih _
variable {o p : List Int} {x : List (List Int)} {pl : Int}
theorem nev_lost (hv : Zbc ⟨o, p, x⟩ = true) {C : List Int} {k : Nat} (hF : FinI (imB o p x pl) (2 * 900000000000 + 2) (mxI p + 1).toNat C k) {v : Nat} (hvn : v < o.length) (hn : eF (imB o p x pl) (2 * 900000000000 + 2) (mxI p + 1).toNat (vIt (imB o p x pl) C k) v = .nev) : (alLs o p x pl).getD v false = true := by
  have G := Zkg (pl := pl) hv
  have hK := (Zi9 hv).1
  have F := hF.chi.fx G
  have hV := Zkt G.ok G.st (by decide) (by decide) hF.chi.ok.len hF.chi.ok.lt (Zgt G.ok hF.chi.ok.lt) k hF.chi.kn
  generalize hl : eF (imB o p x pl) (2 * 900000000000 + 2) (mxI p + 1).toNat (vIt (imB o p x pl) C k) = l at *
  have key : ∀ {L : List Nat} {z : Zv}, Wl (hOw (imB o p x pl)) (rws x) pl (hLo (imB o p x pl)) (wtF pl (2 * 900000000000 + 2) (hPr (imB o p x pl))) (cF C) L z → ∀ a L', L = a :: L' → a < o.length → z = .nev → (alLs o p x pl).getD a false = true := by
    intro L z hw
    induction hw with
    | lost hlo => intro a L' e ha _; injection e with e1 _; rw [← e1]; exact hlo
    | stop _ _ _ => intro a L' _ _ hz; cases hz
    | @step v u L2 y h1 h2 h3 ih =>
      intro a L' e ha hz
      injection e with e1 _
      subst e1
      have hy : y = .nev := by
        cases y with
        | nev => rfl
        | fin _ => cases hz
        | evr => cases hz
      have hun : u < o.length := Zkk G.ok hF.chi.ok.len hF.chi.ok.lt (v := v) ha h2
      have hlu := ih u L2 rfl hun hy
      by_cases ho : hOw (imB o p x pl) v = pl
      · exfalso
        have hcu : (u : Int) = cF C v := h2.1 ho
        have := hF.chi.hch v ha ho (by omega)
        rw [← hcu, Int.toNat_natCast, hl] at this
        exact this (F.ls u hun hlu)
      · exact lost_step hK ha ho (h2.2 ho) hlu
  rcases hV.snd v hvn with e | ⟨l', hw⟩
  · rw [e] at hn; cases hn
  · exact key hw v l' rfl hvn hn
theorem fin_win (hv : Zbc ⟨o, p, x⟩ = true) (hp : pl = 0 ∨ pl = 1) {C : List Int} {k : Nat} (hF : FinI (imB o p x pl) (2 * 900000000000 + 2) (mxI p + 1).toNat C k) :
    (∀ v, v < o.length → ((vIt (imB o p x pl) C k v).e = true ↔ (winA ⟨o, p, x⟩).getD v 0 = pl)) ∧ Sol (fun v => o.getD v 0) (fun v => p.getD v 0) (rws x) (fun v => v < o.length) (fun v => (winA ⟨o, p, x⟩).getD v 0) (fun v => (C.getD v 0).toNat) pl ∧ ∀ v, v < o.length → o.getD v 0 = pl → (winA ⟨o, p, x⟩).getD v 0 = pl → C.getD v 0 ∈ x.getD v [] := by
  have hV := validB_iff.1 hv
  have hG := gok hV
  have G := Zkg (pl := pl) hv
  have F := hF.chi.fx G
  have hnev := fun v (hvn : v < o.length) => nev_lost (pl := pl) hv hF (v := v) hvn
  have hno := hF.no
  have hrow := hF.chi.row
  have hnb := hF.chi.ok.nb
  have hCl : C.length = o.length := hF.chi.ok.len
  have hClt : ∀ v, v < o.length → C.getD v 0 < o.length := hF.chi.ok.lt
  have hdig := Zkl (B := 2 * 900000000000 + 2) G.ok hF.chi.ok hF.chi.kn
  have hpri : ∀ v, v < o.length → 0 ≤ hPr (imB o p x pl) v ∧ (hPr (imB o p x pl) v).toNat < (mxI p + 1).toNat := fun v hv => G.ok.p0 v hv
  have hev : ∀ v, (vIt (imB o p x pl) C k v).e = true ↔ eF (imB o p x pl) (2 * 900000000000 + 2) (mxI p + 1).toNat (vIt (imB o p x pl) C k) v = .evr := fun v => by
    have hx := vl_ex (h := imB o p x pl) (ch := C) rfl k v
    show _ ↔ enV pl _ _ (vIt (imB o p x pl) C k v) = .evr
    unfold enV
    cases h1 : (vIt (imB o p x pl) C k v).n with
    | true =>
      rw [if_pos rfl]
      exact ⟨fun h => absurd ⟨h, h1⟩ hx, fun h => by cases h⟩
    | false =>
      rw [if_neg (by decide)]
      cases h2 : (vIt (imB o p x pl) C k v).e with
      | true => exact ⟨fun _ => if_pos rfl, fun _ => rfl⟩
      | false => rw [if_neg (by decide)]; exact ⟨fun h => (by cases h), fun h => (by cases h)⟩
  generalize eF (imB o p x pl) (2 * 900000000000 + 2) (mxI p + 1).toNat (vIt (imB o p x pl) C k) = l at *
  have hcf : ∀ v, v < o.length → cF C v = C.getD v 0 := fun v hv => Zis (by omega)
  have hlost : ∀ v, (alLs o p x pl).getD v false = true → l v = .nev := fun v h => F.ls v (Zc7 h).1 h
  have hoth : ∀ v, v < o.length → o.getD v 0 ≠ pl → o.getD v 0 = 1 - pl := fun v hv ho => by
    rcases hG.own v hv with h2 | h2 <;> (have h2 : o.getD v 0 = _ := h2; omega)
  have hpm : pl ≠ 1 - pl := by omega
  obtain ⟨cl, l1, l2⟩ := lost_sol hv hp
  -- the other one's choices
  have hd : ∀ v, ∃ u, v < o.length → o.getD v 0 ≠ pl → l v ≠ .evr → u ∈ rws x v ∧ l u ≠ .evr ∧ ((alLs o p x pl).getD v false = true → u = cl v) ∧ ((alLs o p x pl).getD v false ≠ true → l v = (l u).add (wtF pl (2 * 900000000000 + 2) (hPr (imB o p x pl)) v)) := fun v => by
    by_cases hc : v < o.length ∧ o.getD v 0 ≠ pl ∧ l v ≠ .evr
    · obtain ⟨hvn, ho, hl⟩ := hc
      by_cases hlo : (alLs o p x pl).getD v false = true
      · refine ⟨cl v, fun _ _ _ => ⟨(l1 v hlo).1, ?_, fun _ => rfl, fun h => absurd hlo h⟩⟩
        rw [hlost _ (l1 v hlo).2]; intro h; cases h
      · have hb := F.fx v hvn hlo
        rcases hb.ex with e | ⟨h1, _⟩ | ⟨u, h1, h2⟩
        · exact absurd e hl
        · exact absurd h1 ho
        · refine ⟨u, fun _ _ _ => ⟨h1.2 ho, fun e => ?_, fun h => absurd h hlo, fun _ => h2⟩⟩
          rw [e] at h2
          exact hl h2
    · exact ⟨0, fun a b c => absurd ⟨a, b, c⟩ hc⟩
  obtain ⟨d, hd⟩ := Classical.axiomOfChoice hd
  have hW01 : ∀ v, (open Classical in if l v = .evr then pl else 1 - pl) = 0 ∨ (open Classical in if l v = .evr then pl else 1 - pl) = 1 := fun v => by split <;> omega
  obtain ⟨W, hWd⟩ : ∃ W : Nat → Int, ∀ v, (W v = pl ↔ l v = .evr) ∧ (W v = 1 - pl ↔ l v ≠ .evr) := ⟨fun v => open Classical in if l v = .evr then pl else 1 - pl, fun v => by
    dsimp only
    split
    · rename_i h; exact ⟨⟨fun _ => h, fun _ => rfl⟩, ⟨fun h2 => by omega, fun h2 => absurd h h2⟩⟩
    · rename_i h; exact ⟨⟨fun h2 => by omega, fun h2 => absurd h2 h⟩, ⟨fun _ => h, fun _ => rfl⟩⟩⟩
  have hWv : ∀ v, W v = 0 ∨ W v = 1 := fun v => by
    by_cases h : l v = .evr
    · have := (hWd v).1.2 h; omega
    · have := (hWd v).2.2 h; omega
  have hrl : ∀ v u, v < o.length → u ∈ rws x v → u < o.length := fun v u hv hu => hG.row v hv u hu
  have hcev : ∀ v, v < o.length → o.getD v 0 = pl → l v = .evr → C.getD v 0 ∈ x.getD v [] ∧ 0 ≤ C.getD v 0 ∧ l (C.getD v 0).toNat = .evr := fun v hvn ho he => by
    have e := Zf8 F hvn ho
    rw [he] at e
    unfold nowZ at e
    split at e
    · cases e
    · rename_i h2
      rw [hcf v hvn] at h2 e
      rcases (hrow v hvn).1 ho with h3 | h3
      · omega
      · refine ⟨h3, by omega, ?_⟩
        cases h4 : l (C.getD v 0).toNat with
        | evr => rfl
        | nev => rw [h4] at e; cases e
        | fin y => rw [h4] at e; cases e
  have S1 : Sol (fun v => o.getD v 0) (fun v => p.getD v 0) (rws x) (fun v => v < o.length) W (fun v => (C.getD v 0).toNat) pl := by
    refine ⟨fun v hvn hw ho => ?_, fun v hvn hw ho t ht htn => ?_, fun w hwn hw hpw hc => ?_⟩
    · obtain ⟨a, b, e⟩ := hcev v hvn ho ((hWd v).1.1 hw)
      have := hClt v hvn
      exact ⟨List.mem_map.2 ⟨_, a, rfl⟩, by omega, (hWd _).1.2 e⟩
    · have he := (hWd v).1.1 hw
      have hnl : ¬ hLo (imB o p x pl) v := fun h => by rw [hlost v h] at he; cases he
      have := (F.fx v hvn hnl).le t ⟨fun h => absurd h ho, fun _ => ht⟩
      rw [he] at this
      have := Zv.evr_le this
      refine (hWd t).1.2 ?_
      cases h4 : l t with
      | evr => rfl
      | nev => rw [h4] at this; cases this
      | fin y => rw [h4] at this; cases this
    · have h0 := hpri w hwn
      refine hnb w hwn ?_ ?_
      · unfold sg
        rw [if_neg]
        rw [Int.toNat_of_nonneg h0.1]
        exact hpw
      · obtain ⟨t, t1, t2⟩ := hc
        refine Zda t1 t2 fun a b ha hb he => ⟨he.1.1, fun hl => ?_, fun ho => ?_, he.2.2.2⟩
        · have := (hWd a).1.1 he.1.2
          rw [hlost a hl] at this; cases this
        · have h1 := he.2.2.1 ho
          have h2 := (hcev a he.1.1 ho ((hWd a).1.1 he.1.2)).2.1
          show (b : Int) = cF C a
          rw [hcf a he.1.1, h1, Int.toNat_of_nonneg h2]
  have S2 : Sol (fun v => o.getD v 0) (fun v => p.getD v 0) (rws x) (fun v => v < o.length) W d (1 - pl) := by
    refine ⟨fun v hvn hw ho => ?_, fun v hvn hw ho t ht htn => ?_, fun w hwn hw hpw hc => ?_⟩
    · have ho2 : o.getD v 0 ≠ pl := fun e => by have ho : o.getD v 0 = 1 - pl := ho; omega
      obtain ⟨a, b, _⟩ := hd v hvn ho2 ((hWd v).2.1 hw)
      exact ⟨a, hrl v _ hvn a, (hWd _).2.2 b⟩
    · have ho2 : o.getD v 0 = pl := Classical.byContradiction fun h => ho (hoth v hvn h)
      have he := (hWd v).2.1 hw
      refine (hWd t).2.2 fun e => he ?_
      have h1 := hno v hvn ho2 t ht
      rw [e] at h1
      rw [Zf8 F hvn ho2, Zv.evr_le h1]; rfl
    · have hpw2 : p.getD w 0 % 2 = pl := by
        have := Int.emod_two_eq (p.getD w 0)
        have hpw : p.getD w 0 % 2 ≠ 1 - pl := hpw
        omega
      obtain ⟨t, t1, t2⟩ := id hc
      have hed : ∀ a b, Stp (fun v => o.getD v 0) (rws x) (fun v => v < o.length) W d (1 - pl) a b → (alLs o p x pl).getD a false = true → b = cl a ∧ (alLs o p x pl).getD b false = true := fun a b he hl => by
        have ho := (Zc7 hl).2.1
        obtain ⟨_, _, e, _⟩ := hd a he.1.1 ho ((hWd a).2.1 he.1.2)
        have h1 := he.2.2.1 (hoth a he.1.1 ho)
        rw [e hl] at h1
        exact ⟨h1, by rw [h1]; exact (l1 a hl).2⟩
      by_cases hlw : (alLs o p x pl).getD w false = true
      · refine l2 w hlw hpw2 ?_
        have hall : ∀ z, OnC (Stp (fun v => o.getD v 0) (rws x) (fun v => v < o.length) W d (1 - pl)) (fun v => p.getD v 0) w t z → (alLs o p x pl).getD z false = true := fun z hz => Rch.closed (C := fun z => (alLs o p x pl).getD z false = true) (fun a b ha he => (hed a b he.1 ha).2) hz.1 ((hed w t t1.1 hlw).2)
        exact Zda t1 t2 fun a b ha hb he => ⟨hall a ha, (hed a b he (hall a ha)).1⟩
      · have hall : ∀ z, OnC (Stp (fun v => o.getD v 0) (rws x) (fun v => v < o.length) W d (1 - pl)) (fun v => p.getD v 0) w t z → (alLs o p x pl).getD z false ≠ true := fun z hz hl => hlw (Rch.closed (C := fun z => (alLs o p x pl).getD z false = true) (fun a b ha he => (hed a b he.1 ha).2) hz.2 hl)
        have hfin : ∀ z, z < o.length → l z ≠ .evr → (alLs o p x pl).getD z false ≠ true → ∃ y, l z = .fin y := fun z hz h1 h2 => by
          cases h3 : l z with
          | nev => exact absurd (hnev z hz h3) h2
          | evr => exact absurd h3 h1
          | fin y => exact ⟨y, rfl⟩
        refine cyc_down (pl := pl) (B := 2 * 900000000000 + 2) (D := 900000000000) (l := l) (n := o.length) (pri := hPr (imB o p x pl)) (E := fun a b => Stp (fun v => o.getD v 0) (rws x) (fun v => v < o.length) W d (1 - pl) a b ∧ (alLs o p x pl).getD a false ≠ true ∧ (alLs o p x pl).getD b false ≠ true ∧ W b = 1 - pl) hp (by decide) (Int.le_refl _) hdig hpri (fun a b he => ?_) (w := w) ?_ ?_
        · obtain ⟨hst, n1, n2, n3⟩ := he
          have han := hst.1.1
          obtain ⟨y1, e1⟩ := hfin a han ((hWd a).2.1 hst.1.2) n1
          obtain ⟨y2, e2⟩ := hfin b hst.2.1 ((hWd b).2.1 n3) n2
          refine ⟨han, hst.2.1, y1, y2, e1, e2, ?_⟩
          by_cases ho : o.getD a 0 = pl
          · have hs := hst.2.2.2 (fun h => by have h : o.getD a 0 = 1 - pl := h; omega)
            have h1 := hno a han ho b hs
            have h2 := Zf8 F han ho
            have h3 := Zv.add_mono (x := wtF pl (2 * 900000000000 + 2) (hPr (imB o p x pl)) a) h1
            rw [show wtF (imB o p x pl).pl (2 * 900000000000 + 2) (hPr (imB o p x pl)) a = wtF pl (2 * 900000000000 + 2) (hPr (imB o p x pl)) a from rfl] at h2
            rw [← h2, e1, e2] at h3
            exact h3
          · have hb := hst.2.2.1 (hoth a han ho)
            obtain ⟨_, _, _, q⟩ := hd a han ho ((hWd a).2.1 hst.1.2)
            have q := q n1
            rw [← hb, e1, e2] at q
            injection q with q
            omega
        · unfold sg
          rw [if_pos]
          rw [Int.toNat_of_nonneg (hpri w hwn).1]
          exact hpw2
        · exact Zda t1 t2 fun a b ha hb he => ⟨he, hall a ha, hall b hb, by
            obtain ⟨s, h1, _⟩ := Zg3 t1 t2 hb
            exact h1.1.2⟩
  have huniq : ∀ v, v < o.length → (winA ⟨o, p, x⟩).getD v 0 = W v := by
    rcases hp with rfl | rfl
    · exact win_uniq hV (fun v _ => hWv v) S1 S2
    · exact win_uniq hV (fun v _ => hWv v) S2 S1
  refine ⟨fun v hvn => ?_, sol_congr (fun v hvn => (huniq v hvn).symm) S1, fun v hvn ho hw => ?_⟩
  · rw [hev, huniq v hvn, (hWd v).1]
  · rw [huniq v hvn] at hw
    exact (hcev v hvn ho ((hWd v).1.1 hw)).1
theorem best_ex (hv : Zbc ⟨o, p, x⟩ = true) (hp : pl = 0 ∨ pl = 1) : ∃ R k L C, BRun (imB o p x pl) R (List.replicate o.length (-1)) k L C ∧ C.length = o.length ∧ (∀ v, v < o.length → ((L v).e = true ↔ (winA ⟨o, p, x⟩).getD v 0 = pl)) ∧ Sol (fun v => o.getD v 0) (fun v => p.getD v 0) (rws x) (fun v => v < o.length) (fun v => (winA ⟨o, p, x⟩).getD v 0) (fun v => (C.getD v 0).toNat) pl ∧ ∀ v, v < o.length → o.getD v 0 = pl → (winA ⟨o, p, x⟩).getD v 0 = pl → C.getD v 0 ∈ x.getD v [] := by
  have G := Zkg (pl := pl) hv
  have h1 : ∀ v, v < o.length → (List.replicate o.length (-1 : Int)).getD v 0 = -1 := fun v hv => by
    simp [List.getD_eq_getElem?_getD, hv]
  have hcf : ∀ v, cF (List.replicate o.length (-1)) v = -1 := fun v => by
    simp only [cF, List.getD_eq_getElem?_getD, List.getElem?_replicate]
    split <;> rfl
  have hok : ChOK (imB o p x pl) (List.replicate o.length (-1)) := ⟨List.length_replicate .., fun v hvn => by
    have := h1 v hvn
    show _ < (o.length : Int)
    omega, nb_first hv⟩
  obtain ⟨k, hk, hE⟩ := vend_ex G.ok G.st (by decide) hok
  have hC : ChI (imB o p x pl) (2 * 900000000000 + 2) (mxI p + 1).toNat (List.replicate o.length (-1)) k := ⟨hok, hk, hE, fun v _ _ hc => by rw [hcf] at hc; exact absurd hc (by decide), fun v hvn => ⟨fun _ => .inl (h1 v hvn), fun _ => h1 v hvn⟩⟩
  obtain ⟨r, L, C, kf, q1, rfl, q3⟩ := brun_ex G _ _ _ hC (Nat.le_refl _)
  obtain ⟨f1, f2, f3⟩ := fin_win hv hp q3
  exact ⟨r, k, _, C, q1, q3.chi.ok.len, f1, f2, f3⟩
end
open Go Pl
noncomputable def wonL (g : Gm) (pl : Int) : List Bool := (List.range g.own.length).map fun v => decide ((winA g).getD v 0 = pl)
theorem wonL_len {g : Gm} {pl : Int} : (wonL g pl).length = g.own.length := by simp [wonL]
theorem Zfd {g : Gm} {pl : Int} {v : Nat} (hv : v < g.own.length) : (wonL g pl).getD v false = true ↔ (winA g).getD v 0 = pl := by
  simp [wonL, List.getD_eq_getElem?_getD, hv]
structure BestC (g : Gm) (pl : Int) (C : List Int) : Prop where
  len : C.length = g.own.length
  sol : Sol (fun v => g.own.getD v 0) (fun v => g.pri.getD v 0) (rws g.nxt) (fun v => v < g.own.length) (fun v => (winA g).getD v 0) (fun v => (C.getD v 0).toNat) pl
  row : ∀ v, v < g.own.length → g.own.getD v 0 = pl → (winA g).getD v 0 = pl → C.getD v 0 ∈ g.nxt.getD v []
theorem best_win {o p : List Int} {x : List (List Int)} {pl : Int} (hv : Zbc ⟨o, p, x⟩ = true) (hp : pl = 0 ∨ pl = 1) : ∃ C, BestC ⟨o, p, x⟩ pl C ∧ FG Try.prog 31 [.agg (.cons (.roI o) (.cons (.roI p) (.cons (.roII x) .nil))), .int .i64 pl] [] 0
      (fun g => g = ⟨0, .tup (.cons (.roB (wonL ⟨o, p, x⟩ pl)) (.cons (.roI C) .nil)), []⟩) ∧
      ∃ R k L, BRun (imB o p x pl) R (List.replicate o.length (-1)) k L C ∧ (List.range o.length).map (fun v => (L v).e) = wonL ⟨o, p, x⟩ pl := by
  obtain ⟨R, k, L, C, h1, h2, h3, h4, h5⟩ := best_ex hv hp
  obtain ⟨hK, hmx⟩ := Zi9 hv
  have e : (List.range o.length).map (fun v => (L v).e) = wonL ⟨o, p, x⟩ pl := by
    unfold wonL
    refine List.map_congr_left fun v hvn => ?_
    have := h3 v (List.mem_range.1 hvn)
    rw [Bool.eq_iff_iff, decide_eq_true_eq]
    exact this
  refine ⟨C, ⟨h2, h4, h5⟩, ?_, R, k, L, h1, e⟩
  have := best_fg (o := o) (p := p) (x := x) (pl := pl) hK hmx h1
  rw [e] at this
  exact this
open Go Pl
theorem Zgl {g : Gm} {pl : Int} {c : List Int} {v : Nat} (hv : v < g.own.length) : (Za7 g pl c).getD v false = true ↔ ¬ Zga (Zbw g pl c) (1 - pl) v := by
  have e : (Za7 g pl c).getD v false = !(Zcl (Zbw g pl c) (1 - pl)).getD v false := by simp [Za7, List.getD_eq_getElem?_getD, hv]
  have h := Zc6 (g := Zbw g pl c) (pl := 1 - pl) (v := v) hv
  rw [e]
  cases h2 : (Zcl (Zbw g pl c) (1 - pl)).getD v false with
  | true => exact ⟨fun h3 => (by cases h3), fun h3 => absurd (h.1 h2) h3⟩
  | false => exact ⟨fun _ h3 => (by rw [h.2 h3] at h2; cases h2), fun _ => rfl⟩
theorem alone_step {g : Gm} {pl : Int} {v w : Nat} (h : Zga g pl w) (he : w ∈ rws g.nxt v) : Zga g pl v := by
  obtain ⟨z, h1, h2, h3⟩ := h
  exact ⟨z, h1, h2, (Rch.one he).trans h3⟩
theorem Zex {g : Gm} {pl : Int} {c : List Int} {v : Nat} (hv : v < g.own.length) : rws (Zbw g pl c).nxt v = if g.own.getD v 0 = pl then [(c.getD v 0).toNat] else rws g.nxt v := by
  unfold rws
  rw [Zja hv]
  split <;> rfl
section
open Go Pl
variable {g : Gm} {c : List Int}
theorem full_at (hv : Zbc g = true) {pl : Int} (hf : Zdg g pl c = true) {v : Nat} (hvn : v < g.own.length) : (g.own.getD v 0 = pl → (c.getD v 0).toNat ∈ rws g.nxt v ∧ (c.getD v 0).toNat < g.own.length) := fun ho => by
  obtain ⟨_, h2⟩ := of_decide_eq_true hf
  have hm : (c.getD v 0).toNat ∈ rws g.nxt v := List.mem_map.2 ⟨_, (h2 v hvn).1 ho, rfl⟩
  exact ⟨hm, (gok (validB_iff.1 hv)).row v hvn _ hm⟩
theorem again_of {g' : Gm} {pl : Int} {w : Nat} (h : Zkp g' pl w) : Cyc (fun a b => b ∈ rws g'.nxt a) (fun v => g'.pri.getD v 0) w := h.2
theorem from_sol (hv : Zbc g = true) (hf : Zdg g 0 c = true) : Sol (fun v => g.own.getD v 0) (fun v => g.pri.getD v 0) (rws g.nxt) (fun v => v < g.own.length) (fun v => if (Za7 g 0 c).getD v false = true then 0 else 1) (fun v => (c.getD v 0).toNat) 0 := by
  have hG := gok (validB_iff.1 hv)
  have hW : ∀ v, (if (Za7 g 0 c).getD v false = true then (0 : Int) else 1) = 0 ↔ (Za7 g 0 c).getD v false = true := fun v => by
    split
    · rename_i h; exact ⟨fun _ => h, fun _ => rfl⟩
    · rename_i h; exact ⟨fun h2 => (by cases h2), fun h2 => absurd h2 h⟩
  have hst : ∀ v t, v < g.own.length → t < g.own.length → (Za7 g 0 c).getD v false = true → t ∈ rws (Zbw g 0 c).nxt v → (Za7 g 0 c).getD t false = true := fun v t hvn htn h ht => (Zgl htn).2 fun ha => (Zgl hvn).1 h (alone_step ha ht)
  refine ⟨fun v hvn hw ho => ?_, fun v hvn hw ho t ht htn => ?_, fun w hwn hw hp hc => ?_⟩
  · obtain ⟨h1, h2⟩ := full_at hv hf hvn ho
    refine ⟨h1, h2, (hW _).2 (hst v _ hvn h2 ((hW v).1 hw) ?_)⟩
    rw [Zex hvn, if_pos ho]; exact List.mem_singleton.2 rfl
  · refine (hW _).2 (hst v t hvn htn ((hW v).1 hw) ?_)
    rw [Zex hvn, if_neg ho]; exact ht
  · have hna := (Zgl hwn).1 ((hW w).1 hw)
    refine hna ⟨w, hwn, ⟨?_, ?_⟩, .refl _⟩
    · have hp : g.pri.getD w 0 % 2 ≠ 0 := hp
      have := Int.emod_two_eq (g.pri.getD w 0)
      show g.pri.getD w 0 % 2 = 1 - 0
      omega
    · obtain ⟨t, t1, t2⟩ := hc
      exact Zda (E' := fun a b => b ∈ rws (Zbw g 0 c).nxt a) t1 t2 fun a b ha hb he => by
        show b ∈ rws (Zbw g 0 c).nxt a
        rw [Zex he.1.1]
        split
        · rename_i ho; rw [he.2.2.1 ho]; exact List.mem_singleton.2 rfl
        · rename_i ho; exact he.2.2.2 ho
theorem Zgk (hv : Zbc g = true) (hf : Zdg g 0 c = true) {v : Nat} (hvn : v < g.own.length) (h : (Za7 g 0 c).getD v false = true) : (winA g).getD v 0 = 0 := by
  have hV := validB_iff.1 hv
  obtain ⟨w, e, s0, s1⟩ := win_sol hV
  rcases w v hvn with h1 | h1
  · exact h1
  · exact absurd h1 (Zgx (fun v hv => hv) (from_sol hv hf) s1 (gok hV).own hvn (if_pos h))
theorem sol_from (hv : Zbc g = true) (hf : Zdg g 0 c = true) {W : Nat → Int} (hS : Sol (fun v => g.own.getD v 0) (fun v => g.pri.getD v 0) (rws g.nxt) (fun v => v < g.own.length) W (fun v => (c.getD v 0).toNat) 0) {v : Nat} (hvn : v < g.own.length) (hw : W v = 0) : (Za7 g 0 c).getD v false = true := by
  have hG := gok (validB_iff.1 hv)
  refine (Zgl hvn).2 ?_
  rintro ⟨w, hwn, ha, hr⟩
  have hst : ∀ a b, (a < g.own.length ∧ W a = 0) → b ∈ rws (Zbw g 0 c).nxt a → (b < g.own.length ∧ W b = 0) := fun a b h1 hb => by
    rw [Zex h1.1] at hb
    split at hb
    · rename_i ho
      obtain ⟨m1, m2, m3⟩ := hS.mine a h1.1 h1.2 ho
      rw [List.mem_singleton.1 hb]; exact ⟨m2, m3⟩
    · rename_i ho
      have hbn := hG.row a h1.1 b hb
      exact ⟨hbn, hS.his a h1.1 h1.2 ho b hb hbn⟩
  have hwW := Rch.closed (C := fun a => a < g.own.length ∧ W a = 0) (fun a b ha he => hst a b ha he) hr ⟨hvn, hw⟩
  have hp : g.pri.getD w 0 % 2 = 1 := ha.1
  obtain ⟨t, t1, t2⟩ := again_of ha
  refine hS.cyc w hwW.1 hwW.2 (by show g.pri.getD w 0 % 2 ≠ 0; omega) (Zda t1 t2 fun a b hoa hob he => ?_)
  have haW := Rch.closed (C := fun a => a < g.own.length ∧ W a = 0) (fun a b ha he => hst a b ha he.1) hoa.1 (hst w t hwW t1.1)
  refine ⟨haW, (hst a b haW he).1, fun ho => ?_, fun ho => ?_⟩
  · have he : b ∈ rws (Zbw g 0 c).nxt a := he
    rw [Zex haW.1, if_pos ho] at he
    exact List.mem_singleton.1 he
  · have he : b ∈ rws (Zbw g 0 c).nxt a := he
    rw [Zex haW.1, if_neg ho] at he
    exact he
theorem wonL_eq {l : List Bool} (hl : l.length = g.own.length) {pl : Int} (h : ∀ v, v < g.own.length → (l.getD v false = true ↔ (winA g).getD v 0 = pl)) : l = wonL g pl := by
  refine Zkz (hl.trans wonL_len.symm) fun v hv => ?_
  rw [hl] at hv
  rw [Bool.eq_iff_iff, h v hv, Zfd hv]
theorem Zeo {pl : Int} : (Za7 g pl c).length = g.own.length := by simp [Za7]
theorem best_iff (hv : Zbc g = true) (hf : Zdg g 0 c = true) : Zk2 g c = decide (Za7 g 0 c = wonL g 0) := by
  unfold Zk2
  refine decide_eq_decide.2 ⟨fun h => wonL_eq Zeo fun v hvn => ⟨Zgk hv hf hvn, h v hvn⟩, fun h v hvn hw => ?_⟩
  rw [h]; exact (Zfd hvn).2 hw
theorem btr_all (hv : Zbc g = true) (hf : Zdg g 0 c = true) {C : List Int} (hC : BestC g 0 C) : Zdg g 0 (btO g.own c (Za7 g 0 c) (wonL g 0) C) = true ∧ Za7 g 0 (btO g.own c (Za7 g 0 c) (wonL g 0) C) = wonL g 0 := by
  have hG := gok (validB_iff.1 hv)
  obtain ⟨f1, f2⟩ := of_decide_eq_true hf
  have hat : ∀ v, v < g.own.length → (btO g.own c (Za7 g 0 c) (wonL g 0) C).getD v 0 = if g.own.getD v 0 = 0 ∧ (wonL g 0).getD v false = true ∧ (Za7 g 0 c).getD v false = false then C.getD v 0 else c.getD v 0 := fun v hv => by simp [btO, List.getD_eq_getElem?_getD, hv]
  have hln : (btO g.own c (Za7 g 0 c) (wonL g 0) C).length = g.own.length := by simp [btO]
  generalize btO g.own c (Za7 g 0 c) (wonL g 0) C = nx at *
  have hfn : Zdg g 0 nx = true := by
    refine decide_eq_true ⟨hln, fun v hvn => ⟨fun ho => ?_, fun ho => ?_⟩⟩
    · rw [hat v hvn]
      split
      · rename_i h
        exact hC.row v hvn ho ((Zfd hvn).1 h.2.1)
      · exact (f2 v hvn).1 ho
    · rw [hat v hvn, if_neg (fun h => ho h.1)]
      exact (f2 v hvn).2 ho
  refine ⟨hfn, ?_⟩
  have hS0 := from_sol hv hf
  have hmw : ∀ v, v < g.own.length → (Za7 g 0 c).getD v false = true → (winA g).getD v 0 = 0 := fun v hvn h => Zgk hv hf hvn h
  have hW : ∀ v, (if (Za7 g 0 c).getD v false = true then (0 : Int) else 1) = 0 ↔ (Za7 g 0 c).getD v false = true := fun v => by
    split
    · rename_i h; exact ⟨fun _ => h, fun _ => rfl⟩
    · rename_i h; exact ⟨fun h2 => (by cases h2), fun h2 => absurd h2 h⟩
  -- where the old one wins, the new one is the old one
  have hold : ∀ v, v < g.own.length → (Za7 g 0 c).getD v false = true → nx.getD v 0 = c.getD v 0 := fun v hvn h => by
    rw [hat v hvn, if_neg]
    rintro ⟨_, _, h2⟩
    rw [h] at h2; cases h2
  have hnew : ∀ v, v < g.own.length → (winA g).getD v 0 = 0 → g.own.getD v 0 = 0 → (Za7 g 0 c).getD v false ≠ true → nx.getD v 0 = C.getD v 0 := fun v hvn hw ho h => by
    rw [hat v hvn, if_pos ⟨ho, (Zfd hvn).2 hw, by simpa using h⟩]
  have S : Sol (fun v => g.own.getD v 0) (fun v => g.pri.getD v 0) (rws g.nxt) (fun v => v < g.own.length) (fun v => (winA g).getD v 0) (fun v => (nx.getD v 0).toNat) 0 := by
    refine ⟨fun v hvn hw ho => ?_, hC.sol.his, fun w hwn hw hp hc => ?_⟩
    · by_cases hm : (Za7 g 0 c).getD v false = true
      · obtain ⟨m1, m2, m3⟩ := hS0.mine v hvn ((hW v).2 hm) ho
        rw [hold v hvn hm]
        exact ⟨m1, m2, hmw _ m2 ((hW _).1 m3)⟩
      · rw [hnew v hvn hw ho hm]
        exact hC.sol.mine v hvn hw ho
    · obtain ⟨t, t1, t2⟩ := hc
      have hclo : ∀ a b, Stp (fun v => g.own.getD v 0) (rws g.nxt) (fun v => v < g.own.length) (fun v => (winA g).getD v 0) (fun v => (nx.getD v 0).toNat) 0 a b → (Za7 g 0 c).getD a false = true → (Za7 g 0 c).getD b false = true := fun a b he hm => by
        by_cases ho : g.own.getD a 0 = 0
        · obtain ⟨_, _, m3⟩ := hS0.mine a he.1.1 ((hW a).2 hm) ho
          rw [he.2.2.1 ho]
          dsimp only
          rw [hold a he.1.1 hm]
          exact (hW _).1 m3
        · exact (hW b).1 (hS0.his a he.1.1 ((hW a).2 hm) ho b (he.2.2.2 ho) he.2.1)
      by_cases hm : (Za7 g 0 c).getD w false = true
      · have hall : ∀ z, OnC (Stp (fun v => g.own.getD v 0) (rws g.nxt) (fun v => v < g.own.length) (fun v => (winA g).getD v 0) (fun v => (nx.getD v 0).toNat) 0) (fun v => g.pri.getD v 0) w t z → (Za7 g 0 c).getD z false = true := fun z hz => Rch.closed (C := fun z => (Za7 g 0 c).getD z false = true) (fun a b ha he => hclo a b he.1 ha) hz.1 (hclo w t t1.1 hm)
        refine hS0.cyc w hwn ((hW w).2 hm) hp (Zda t1 t2 fun a b ha hb he => ⟨⟨he.1.1, (hW a).2 (hall a ha)⟩, he.2.1, fun ho => ?_, he.2.2.2⟩)
        rw [he.2.2.1 ho]
        dsimp only
        rw [hold a he.1.1 (hall a ha)]
      · have hall : ∀ z, OnC (Stp (fun v => g.own.getD v 0) (rws g.nxt) (fun v => v < g.own.length) (fun v => (winA g).getD v 0) (fun v => (nx.getD v 0).toNat) 0) (fun v => g.pri.getD v 0) w t z → (Za7 g 0 c).getD z false ≠ true := fun z hz hl => hm (Rch.closed (C := fun z => (Za7 g 0 c).getD z false = true) (fun a b ha he => hclo a b he.1 ha) hz.2 hl)
        refine hC.sol.cyc w hwn hw hp (Zda t1 t2 fun a b ha hb he => ⟨he.1, he.2.1, fun ho => ?_, he.2.2.2⟩)
        rw [he.2.2.1 ho]
        dsimp only
        rw [hnew a he.1.1 he.1.2 ho (hall a ha)]
  exact wonL_eq Zeo fun v hvn => ⟨Zgk hv hfn hvn, sol_from hv hfn S hvn⟩
end
end Go.Proofs.Ytbcghiagomkadaa.Cal
