/- Own texts, merged. -/
import Derived.Test.YtbcghiagomkadaaS7
set_option linter.unusedVariables false
set_option linter.unusedSimpArgs false
open Nat (reduceAdd reduceSub reduceMul reduceEqDiff reduceLeDiff reduceLT)
namespace Go.Proofs.Ytbcghiagomkadaa.Cal
open Go Pl
noncomputable def winG (g : Gm) (k : Nat) (K : Nat → Bool) : Nat → Int := winZ (fun v => g.own.getD v 0) (fun v => g.pri.getD v 0) (rws g.nxt) g.own.length k K
noncomputable def winL (g : Gm) (k : Nat) (K : Nat → Bool) : List Int := (List.range g.own.length).map (winG g k K)
noncomputable def Zbh (k : Nat) : Spec
  | [.agg (.cons (.roI o) (.cons (.roI p) (.cons (.roII x) .nil))), .roB keep] => some ⟨Zbc ⟨o, p, x⟩ = true ∧ keep.length = o.length ∧ cntZ o.length (bF keep) < k, .roI (winL ⟨o, p, x⟩ k (bF keep)), none⟩
  | _ => none
noncomputable def spWn (k : Nat) : Nat → Option Spec
  | 55 => some insS
  | 45 => some (Zbh k)
  | _ => none
theorem Za4 {k : Nat} (ih : Zb2 Try.prog 45 (Zbh k)) : SpOK Try.prog (spWn k) := by
  intro f S h
  unfold spWn at h
  split at h
  · cases h; exact inside_ok
  · cases h; exact ih
  · cases h
theorem Ziv {n : Nat} {f : Nat → Bool} (h : ∀ v, n ≤ v → f v = false) : bF ((List.range n).map f) = f := by
  funext v
  unfold bF
  rw [List.getD_eq_getElem?_getD]
  by_cases hv : v < n
  · simp [hv]
  · rw [List.getElem?_eq_none (by simp; omega), h v (by omega)]; rfl
theorem Zf9 {l : List Bool} {v : Nat} (h : l.length ≤ v) : bF l v = false := by
  unfold bF
  rw [List.getD_eq_getElem?_getD, List.getElem?_eq_none h]; rfl
def sB (f : Nat → Bool) (i : Nat) : Bool := (List.range i).any f
theorem sB_next {f : Nat → Bool} {i : Nat} : sB f (i + 1) = (sB f i || f i) := by
  unfold sB; rw [List.range_succ, List.any_append]; simp
theorem sB_iff {f : Nat → Bool} {i : Nat} : sB f i = true ↔ ∃ u, u < i ∧ f u = true := by
  unfold sB; rw [List.any_eq_true]
  exact ⟨fun ⟨u, h1, h2⟩ => ⟨u, List.mem_range.1 h1, h2⟩, fun ⟨u, h1, h2⟩ => ⟨u, List.mem_range.2 h1, h2⟩⟩
theorem insL_getD {g : Gm} {keep to : List Bool} {q : Int} {v : Nat} (hv : v < g.own.length) : (insL g keep q to).getD v false = attB (fun v => g.own.getD v 0) (rws g.nxt) (bF keep) (bF to) q v := by
  simp [insL, List.getD_eq_getElem?_getD, hv]
theorem insL_len {g : Gm} {keep to : List Bool} {q : Int} : (insL g keep q to).length = g.own.length := by simp [insL]
theorem Zgb {g : Gm} {k : Nat} {K : Nat → Bool} : (winL g k K).length = g.own.length := by simp [winL]
theorem Zgs {g : Gm} {k : Nat} {K : Nat → Bool} {v : Nat} (hv : v < g.own.length) : (winL g k K).getD v 0 = winG g k K v := by
  simp [winL, List.getD_eq_getElem?_getD, hv]
theorem attB_in {own : Nat → Int} {sx : Nat → List Nat} {K T : Nat → Bool} {q : Int} {v : Nat} (h : T v = true) : attB own sx K T q v = true := attB_iff.2 ⟨0, h⟩
theorem wins0_ok : Zb2 Try.prog 45 (Zbh 0) := by
  refine Za3 htb (fn := Try.f45) (by kernel_rfl) (by kernel_rfl) rfl (fun args r hS => ?_) (fun args r hS hob hl => ?_)
  · unfold Zbh at hS; split at hS <;> first | (cases hS; done) | (cases hS; exact Nat.le_of_ble_eq_true rfl)
  · unfold Zbh at hS
    split at hS
    case h_2 => cases hS
    simp only [Option.some.injEq] at hS
    subst hS
    exact absurd hob.2.2 (Nat.not_lt_zero _)
set_option maxRecDepth 4000 in
set_option maxHeartbeats 4000000 in
theorem wins_step {k : Nat} (ih : Zb2 Try.prog 45 (Zbh k)) : Zb2 Try.prog 45 (Zbh (k + 1)) := by
  refine Za3 htb (fn := Try.f45) (by kernel_rfl) (by kernel_rfl) rfl (fun args r hS => ?_) (fun args r hS hob hl => ?_)
  · unfold Zbh at hS; split at hS <;> first | (cases hS; done) | (cases hS; exact Nat.le_of_ble_eq_true rfl)
  unfold Zbh at hS
  split at hS
  case h_2 => cases hS
  rename_i o p x keep
  simp only [Option.some.injEq] at hS
  subst hS
  simp only [lenP, mkL, lim] at hl
  dsimp only at hob
  obtain ⟨hv, hkl, hck⟩ := hob
  have hV := validB_iff.1 hv
  obtain ⟨hn, hpl, hxl, hpos⟩ := id hV
  simp only [Gm.n] at hn hpl hxl
  have hpr : ∀ v, v < o.length → 0 ≤ p.getD v 0 ∧ p.getD v 0 ≤ 60 := fun v h => by
    obtain ⟨⟨a1, a2, a3, a4, _, a6⟩, _⟩ := hpos v (by simp only [Gm.n]; omega)
    exact ⟨a3, a4⟩
  repeat' first
    | with_reducible first | apply Zan | apply Zaj | apply Zab | apply Zac | apply Zag | apply Zal | apply Zaf | apply Zah | apply Zam | apply Zao | apply Zak
    | ((with_reducible refine Zap ?_); refine Zai rfl ?_ ?_ <;> intro hb <;> (try simp only [zH] at hb)) | ((with_reducible refine Zax ?_); (first | refine Zad htb hmz (Za4 ih) fF rfl rfl ?_ | refine Zae hmo htb hmz (Za4 ih) fF rfl rfl (by kernel_rfl) ?_); intro _ _ _ _ h; simp only [zE, evp, evx, ev1, evLoad, evStore, evBin, Zaa, forall_const, z38, tb, reduceAdd, reduceSub, reduceMul, reduceEqDiff, reduceLeDiff, reduceLT, Nat.reduceBEq, Nat.reduceBNe, ↓reduceIte, reduceIte, spWn, insS, Zbh] at h; obtain ⟨rfl, rfl, rfl, rfl⟩ := h; refine ⟨?_, ?_⟩) | ((with_reducible refine Ob.mk ?_); first | exact trivial | (intros; omega) | ((repeat' first | apply And.intro | (intro a; have b := a; try simp only [zH] at b)) <;> first | assumption | omega | (simp only [zH]; omega)))
  refine Zat (τ := Nat) (fun i => i ≤ o.length) (fun i => ⟨13, [(37, .int .i64 i), (36, .int .i64 keep.length), (35, .roB keep), (7, .int .i64 (topR (fun v => p.getD v 0) (bF keep) i)), (6, .own 7), (5, .int .i64 o.length), (2, (.rop (.agg (.cons (.roI o) (.cons (.roI p) (.cons (.roII x) .nil)))))), (1, .roB keep)], [(7, some (.ints (List.replicate o.length 0)))], []⟩) (fun i => o.length - i) 0 [] ?_ (Nat.zero_le _) ?_
  · (refine ⟨rfl, ?_, ?_⟩ <;> simp only [zE, evp, evx, ev1, evLoad, evStore, evBin, Zaa, forall_const, z38, tb, reduceAdd, reduceSub, reduceMul, reduceEqDiff, reduceLeDiff, reduceLT, Nat.reduceBEq, Nat.reduceBNe, ↓reduceIte, reduceIte, spWn, insS, Zbh, zI])
    rfl
  intro i hi
  have htn : topR (fun v => p.getD v 0) (bF keep) (i + 1) = if bF keep i = true then max (topR (fun v => p.getD v 0) (bF keep) i) (p.getD i 0) else topR (fun v => p.getD v 0) (bF keep) i := rfl
  have htb2 : topR (fun v => p.getD v 0) (bF keep) i = -1 ∨ ∃ v, v < i ∧ bF keep v = true ∧ p.getD v 0 = topR (fun v => p.getD v 0) (bF keep) i := topR_mem
  have hbi : bF keep i = keep.getD i false := rfl
  rw [hbi] at htn
  generalize hT : topR (fun v => p.getD v 0) (bF keep) = T at *
  have hT60 : -1 ≤ T i ∧ T i ≤ 60 := by
    rcases htb2 with h | ⟨v, h1, h2, h3⟩
    · omega
    · have := hpr v (by omega); omega
  have hpri := hpr i
  repeat' first
    | with_reducible first | apply Zan | apply Zaj | apply Zab | apply Zac | apply Zag | apply Zal | apply Zaf | apply Zah | apply Zam | apply Zao | apply Zak
    | ((with_reducible refine Zap ?_); refine Zai rfl ?_ ?_ <;> intro hb <;> (try simp only [zH] at hb)) | ((with_reducible refine Zaq 10 ?_ ?_); (· exact rfl); (first | refine Zad htb hmz (Za4 ih) fF rfl rfl ?_ | refine Zae hmo htb hmz (Za4 ih) fF rfl rfl (by kernel_rfl) ?_); intro _ _ _ _ h; simp only [zE, evp, evx, ev1, evLoad, evStore, evBin, Zaa, forall_const, z38, tb, reduceAdd, reduceSub, reduceMul, reduceEqDiff, reduceLeDiff, reduceLT, Nat.reduceBEq, Nat.reduceBNe, ↓reduceIte, reduceIte, spWn, insS, Zbh] at h; obtain ⟨rfl, rfl, rfl, rfl⟩ := h; refine ⟨?_, ?_⟩) | ((with_reducible refine Ob.mk ?_); first | exact trivial | (intros; omega) | ((repeat' first | apply And.intro | (intro a; have b := a; try simp only [zH] at b)) <;> first | assumption | omega | (simp only [zH]; omega)))
  · refine back (i + 1) [] ?_ (by omega) (by omega)
    (refine ⟨rfl, ?_, ?_⟩ <;> simp only [zE, evp, evx, ev1, evLoad, evStore, evBin, Zaa, forall_const, z38, tb, reduceAdd, reduceSub, reduceMul, reduceEqDiff, reduceLeDiff, reduceLT, Nat.reduceBEq, Nat.reduceBNe, ↓reduceIte, reduceIte, spWn, insS, Zbh, zI])
    rw [htn, if_pos hb]
  · refine back (i + 1) [] ?_ (by omega) (by omega)
    (refine ⟨rfl, ?_, ?_⟩ <;> simp only [zE, evp, evx, ev1, evLoad, evStore, evBin, Zaa, forall_const, z38, tb, reduceAdd, reduceSub, reduceMul, reduceEqDiff, reduceLeDiff, reduceLT, Nat.reduceBEq, Nat.reduceBNe, ↓reduceIte, reduceIte, spWn, insS, Zbh, zI])
    rw [htn, if_neg (by rw [hb]; decide)]
  have hie : i = o.length := by omega
  subst hie
  have hwz : ∀ v, winG ⟨o, p, x⟩ (k + 1) (bF keep) v = if T o.length < 0 then 0
    else if ∀ u, u < o.length → Zcd (fun v => o.getD v 0) (fun v => p.getD v 0) (rws x) o.length (bF keep) u = true → winG ⟨o, p, x⟩ k (Zcd (fun v => o.getD v 0) (fun v => p.getD v 0) (rws x) o.length (bF keep)) u = T o.length % 2 then T o.length % 2
    else if attB (fun v => o.getD v 0) (rws x) (bF keep) (fun u => Zcd (fun v => o.getD v 0) (fun v => p.getD v 0) (rws x) o.length (bF keep) u && decide (winG ⟨o, p, x⟩ k (Zcd (fun v => o.getD v 0) (fun v => p.getD v 0) (rws x) o.length (bF keep)) u ≠ T o.length % 2)) (1 - T o.length % 2) v = true then 1 - T o.length % 2
    else winG ⟨o, p, x⟩ k (fun u => bF keep u && !attB (fun v => o.getD v 0) (rws x) (bF keep) (fun u => Zcd (fun v => o.getD v 0) (fun v => p.getD v 0) (rws x) o.length (bF keep) u && decide (winG ⟨o, p, x⟩ k (Zcd (fun v => o.getD v 0) (fun v => p.getD v 0) (rws x) o.length (bF keep)) u ≠ T o.length % 2)) (1 - T o.length % 2) u) v := fun v => by
      rw [← hT]; rfl
  have hrs : Zcd (fun v => o.getD v 0) (fun v => p.getD v 0) (rws x) o.length (bF keep) = fun v => bF keep v && !attB (fun v => o.getD v 0) (rws x) (bF keep) (fun v => bF keep v && decide (p.getD v 0 = T o.length)) (T o.length % 2) v := by
    funext v; rw [← hT]; rfl
  have hex := htb2
  clear htn hbi hpri htb2
  generalize T o.length = top at *
  repeat' first
    | with_reducible first | apply Zan | apply Zaj | apply Zab | apply Zac | apply Zag | apply Zal | apply Zaf | apply Zah | apply Zam | apply Zao | apply Zak
    | ((with_reducible refine Zap ?_); refine Zai rfl ?_ ?_ <;> intro hb <;> (try simp only [zH] at hb)) | ((with_reducible refine Zaq 10 ?_ ?_); (· exact rfl); (first | refine Zad htb hmz (Za4 ih) fF rfl rfl ?_ | refine Zae hmo htb hmz (Za4 ih) fF rfl rfl (by kernel_rfl) ?_); intro _ _ _ _ h; simp only [zE, evp, evx, ev1, evLoad, evStore, evBin, Zaa, forall_const, z38, tb, reduceAdd, reduceSub, reduceMul, reduceEqDiff, reduceLeDiff, reduceLT, Nat.reduceBEq, Nat.reduceBNe, ↓reduceIte, reduceIte, spWn, insS, Zbh] at h; obtain ⟨rfl, rfl, rfl, rfl⟩ := h; refine ⟨?_, ?_⟩) | ((with_reducible refine Ob.mk ?_); first | exact trivial | (intros; omega) | ((repeat' first | apply And.intro | (intro a; have b := a; try simp only [zH] at b)) <;> first | assumption | omega | (simp only [zH]; omega)))
  repeat' first
    | with_reducible first | apply Zan | apply Zaj | apply Zab | apply Zac | apply Zag | apply Zal | apply Zaf | apply Zah | apply Zam | apply Zao | apply Zak
    | ((with_reducible refine Zap ?_); refine Zai rfl ?_ ?_ <;> intro hb <;> (try simp only [zH] at hb)) | ((with_reducible refine Zaq 11 ?_ ?_); (· exact rfl); (with_reducible refine Zaq 12 ?_ ?_); (· exact rfl); (first | refine Zad htb hmz (Za4 ih) fF rfl rfl ?_ | refine Zae hmo htb hmz (Za4 ih) fF rfl rfl (by kernel_rfl) ?_); intro _ _ _ _ h; simp only [zE, evp, evx, ev1, evLoad, evStore, evBin, Zaa, forall_const, z38, tb, reduceAdd, reduceSub, reduceMul, reduceEqDiff, reduceLeDiff, reduceLT, Nat.reduceBEq, Nat.reduceBNe, ↓reduceIte, reduceIte, spWn, insS, Zbh] at h; obtain ⟨rfl, rfl, rfl, rfl⟩ := h; refine ⟨?_, ?_⟩) | ((with_reducible refine Ob.mk ?_); first | exact trivial | (intros; omega) | ((repeat' first | apply And.intro | (intro a; have b := a; try simp only [zH] at b)) <;> first | assumption | omega | (simp only [zH]; omega)))
  · refine Zbi 7 (.roI (List.replicate o.length 0)) (by simp only [Zar, Zaw, fzE, fzA, fzR, fzB, set1, nbeq, reduceEqDiff, decide_true, decide_false, ↓reduceIte, reduceIte, cond_true, cond_false, List.take_length, Option.some.injEq]; rfl) (by first | exact rfl | (refine ⟨?_, rfl⟩; first | rfl | (intros; rfl))) (by simp only [Zar, Zaw, fzE, fzA, fzR, fzB, set1, nbeq, reduceEqDiff, decide_true, decide_false, ↓reduceIte, reduceIte, cond_true, cond_false, List.take_length, Option.some.injEq]; rfl) (by simp only [Zar, Zaw, fzE, fzA, fzR, fzB, set1, nbeq, reduceEqDiff, decide_true, decide_false, ↓reduceIte, reduceIte, cond_true, cond_false, List.take_length, Option.some.injEq]; rfl) ?_
    repeat' first
      | with_reducible first | apply Zan | apply Zaj | apply Zab | apply Zac | apply Zag | apply Zal | apply Zaf | apply Zah | apply Zam | apply Zao | apply Zak
      | ((with_reducible refine Zap ?_); refine Zai rfl ?_ ?_ <;> intro hb <;> (try simp only [zH] at hb)) | ((with_reducible refine Zax ?_); (first | refine Zad htb hmz (Za4 ih) fF rfl rfl ?_ | refine Zae hmo htb hmz (Za4 ih) fF rfl rfl (by kernel_rfl) ?_); intro _ _ _ _ h; simp only [zE, evp, evx, ev1, evLoad, evStore, evBin, Zaa, forall_const, z38, tb, reduceAdd, reduceSub, reduceMul, reduceEqDiff, reduceLeDiff, reduceLT, Nat.reduceBEq, Nat.reduceBNe, ↓reduceIte, reduceIte, spWn, insS, Zbh] at h; obtain ⟨rfl, rfl, rfl, rfl⟩ := h; refine ⟨?_, ?_⟩) | ((with_reducible refine Ob.mk ?_); first | exact trivial | (intros; omega) | ((repeat' first | apply And.intro | (intro a; have b := a; try simp only [zH] at b)) <;> first | assumption | omega | (simp only [zH]; omega)))
    refine Zav rfl rfl (Zas rfl ?_ rfl)
    refine congrArg AV.roI ?_
    unfold winL
    refine List.ext_getElem (by simp) fun v h1 h2 => ?_
    simp only [List.getElem_replicate, List.getElem_map, List.getElem_range]
    rw [hwz, if_pos hb]
  have htop : 0 ≤ top := by omega
  obtain ⟨ve, hve1, hve2, hve3⟩ : ∃ v, v < o.length ∧ bF keep v = true ∧ p.getD v 0 = top := hex.resolve_left (by omega)
  have hz : ∀ f : Nat → Bool, List.replicate o.length false = mix f (fun _ => false) o.length 0 := fun f => List.ext_getElem (by simp [mix]) fun j h1 h2 => by simp [mix]
  have hml : ∀ (f : Nat → Bool) i, (mix f (fun _ => false) o.length i).length = o.length := fun f i => Zc5
  repeat' first
    | with_reducible first | apply Zan | apply Zaj | apply Zab | apply Zac | apply Zag | apply Zal | apply Zaf | apply Zah | apply Zam | apply Zao | apply Zak
    | ((with_reducible refine Zap ?_); refine Zai rfl ?_ ?_ <;> intro hb <;> (try simp only [zH] at hb)) | ((with_reducible refine Zax ?_); (first | refine Zad htb hmz (Za4 ih) fF rfl rfl ?_ | refine Zae hmo htb hmz (Za4 ih) fF rfl rfl (by kernel_rfl) ?_); intro _ _ _ _ h; simp only [zE, evp, evx, ev1, evLoad, evStore, evBin, Zaa, forall_const, z38, tb, reduceAdd, reduceSub, reduceMul, reduceEqDiff, reduceLeDiff, reduceLT, Nat.reduceBEq, Nat.reduceBNe, ↓reduceIte, reduceIte, spWn, insS, Zbh] at h; obtain ⟨rfl, rfl, rfl, rfl⟩ := h; refine ⟨?_, ?_⟩) | ((with_reducible refine Ob.mk ?_); first | exact trivial | (intros; omega) | ((repeat' first | apply And.intro | (intro a; have b := a; try simp only [zH] at b)) <;> first | assumption | omega | (simp only [zH]; omega)))
  refine Zat (τ := Nat) (fun i => i ≤ o.length) (fun i => ⟨25, [(60, .int .i64 i), (59, .int .i64 keep.length), (58, .roB keep), (11, .own 20), (10, .int .i64 (top % 2)), (7, .int .i64 top), (6, .own 7), (5, .int .i64 o.length), (2, (.rop (.agg (.cons (.roI o) (.cons (.roI p) (.cons (.roII x) .nil)))))), (1, .roB keep)], [(7, some (.ints (List.replicate o.length 0))), (20, some (.bools (mix (fun v => bF keep v && decide (p.getD v 0 = top)) (fun _ => false) o.length i)))], []⟩) (fun i => o.length - i) 0 [] ?_ (Nat.zero_le _) ?_
  · (refine ⟨rfl, ?_, ?_⟩ <;> simp only [zE, evp, evx, ev1, evLoad, evStore, evBin, Zaa, forall_const, z38, tb, reduceAdd, reduceSub, reduceMul, reduceEqDiff, reduceLeDiff, reduceLT, Nat.reduceBEq, Nat.reduceBNe, ↓reduceIte, reduceIte, spWn, insS, Zbh, zI])
    exact hz _
  intro i hi
  have hml1 := hml (fun v => bF keep v && decide (p.getD v 0 = top)) i
  have hpri := hpr i
  repeat' first
    | with_reducible first | apply Zan | apply Zaj | apply Zab | apply Zac | apply Zag | apply Zal | apply Zaf | apply Zah | apply Zam | apply Zao | apply Zak
    | ((with_reducible refine Zap ?_); refine Zai rfl ?_ ?_ <;> intro hb <;> (try simp only [zH] at hb)) | ((with_reducible refine Zaq 19 ?_ ?_); (· exact rfl); (first | refine Zad htb hmz (Za4 ih) fF rfl rfl ?_ | refine Zae hmo htb hmz (Za4 ih) fF rfl rfl (by kernel_rfl) ?_); intro _ _ _ _ h; simp only [zE, evp, evx, ev1, evLoad, evStore, evBin, Zaa, forall_const, z38, tb, reduceAdd, reduceSub, reduceMul, reduceEqDiff, reduceLeDiff, reduceLT, Nat.reduceBEq, Nat.reduceBNe, ↓reduceIte, reduceIte, spWn, insS, Zbh] at h; obtain ⟨rfl, rfl, rfl, rfl⟩ := h; refine ⟨?_, ?_⟩) | ((with_reducible refine Ob.mk ?_); first | exact trivial | (intros; omega) | ((repeat' first | apply And.intro | (intro a; have b := a; try simp only [zH] at b)) <;> first | assumption | omega | (simp only [zH]; omega)))
  · refine back (i + 1) [] ?_ (by omega) (by omega)
    (refine ⟨rfl, ?_, ?_⟩ <;> simp only [zE, evp, evx, ev1, evLoad, evStore, evBin, Zaa, forall_const, z38, tb, reduceAdd, reduceSub, reduceMul, reduceEqDiff, reduceLeDiff, reduceLT, Nat.reduceBEq, Nat.reduceBNe, ↓reduceIte, reduceIte, spWn, insS, Zbh, zI])
    exact Zcj
  have hie : i = o.length := by omega
  subst hie
  rw [Zck]
  refine Zbi 20 (.roB ((List.range o.length).map fun v => bF keep v && decide (p.getD v 0 = top))) (by simp only [Zar, Zaw, fzE, fzA, fzR, fzB, set1, nbeq, reduceEqDiff, decide_true, decide_false, ↓reduceIte, reduceIte, cond_true, cond_false, List.take_length, Option.some.injEq]; rfl) (by first | exact rfl | (refine ⟨?_, rfl⟩; first | rfl | (intros; rfl))) (by simp only [Zar, Zaw, fzE, fzA, fzR, fzB, set1, nbeq, reduceEqDiff, decide_true, decide_false, ↓reduceIte, reduceIte, cond_true, cond_false, List.take_length, Option.some.injEq]; rfl) (by simp only [Zar, Zaw, fzE, fzA, fzR, fzB, set1, nbeq, reduceEqDiff, decide_true, decide_false, ↓reduceIte, reduceIte, cond_true, cond_false, List.take_length, Option.some.injEq]; rfl) ?_
  have hgl : ((List.range o.length).map fun v => bF keep v && decide (p.getD v 0 = top)).length = o.length := by simp
  have hgf : bF ((List.range o.length).map fun v => bF keep v && decide (p.getD v 0 = top)) = fun v => bF keep v && decide (p.getD v 0 = top) := Ziv fun v hv => by rw [Zf9 (by omega)]; rfl
  rw [← hgf] at hrs
  generalize (List.range o.length).map (fun v => bF keep v && decide (p.getD v 0 = top)) = great at *
  repeat' first
    | with_reducible first | apply Zan | apply Zaj | apply Zab | apply Zac | apply Zag | apply Zal | apply Zaf | apply Zah | apply Zam | apply Zao | apply Zak
    | ((with_reducible refine Zap ?_); refine Zai rfl ?_ ?_ <;> intro hb <;> (try simp only [zH] at hb)) | ((with_reducible refine Zaq 20 ?_ ?_); (· exact rfl); (first | refine Zad htb hmz (Za4 ih) fF rfl rfl ?_ | refine Zae hmo htb hmz (Za4 ih) fF rfl rfl (by kernel_rfl) ?_); intro _ _ _ _ h; simp only [zE, evp, evx, ev1, evLoad, evStore, evBin, Zaa, forall_const, z38, tb, reduceAdd, reduceSub, reduceMul, reduceEqDiff, reduceLeDiff, reduceLT, Nat.reduceBEq, Nat.reduceBNe, ↓reduceIte, reduceIte, spWn, insS, Zbh] at h; obtain ⟨rfl, rfl, rfl, rfl⟩ := h; refine ⟨?_, ?_⟩) | ((with_reducible refine Ob.mk ?_); first | exact trivial | (intros; omega) | ((repeat' first | apply And.intro | (intro a; have b := a; try simp only [zH] at b)) <;> first | assumption | omega | (simp only [zH]; omega)))
  have hNl : (insL ⟨o, p, x⟩ keep (top % 2) great).length = o.length := insL_len
  have hNg : ∀ v, v < o.length → (insL ⟨o, p, x⟩ keep (top % 2) great).getD v false = attB (fun v => o.getD v 0) (rws x) (bF keep) (bF great) (top % 2) v := fun v hv => insL_getD hv
  generalize insL ⟨o, p, x⟩ keep (top % 2) great = N at *
  repeat' first
    | with_reducible first | apply Zan | apply Zaj | apply Zab | apply Zac | apply Zag | apply Zal | apply Zaf | apply Zah | apply Zam | apply Zao | apply Zak
    | ((with_reducible refine Zap ?_); refine Zai rfl ?_ ?_ <;> intro hb <;> (try simp only [zH] at hb)) | ((with_reducible refine Zax ?_); (first | refine Zad htb hmz (Za4 ih) fF rfl rfl ?_ | refine Zae hmo htb hmz (Za4 ih) fF rfl rfl (by kernel_rfl) ?_); intro _ _ _ _ h; simp only [zE, evp, evx, ev1, evLoad, evStore, evBin, Zaa, forall_const, z38, tb, reduceAdd, reduceSub, reduceMul, reduceEqDiff, reduceLeDiff, reduceLT, Nat.reduceBEq, Nat.reduceBNe, ↓reduceIte, reduceIte, spWn, insS, Zbh] at h; obtain ⟨rfl, rfl, rfl, rfl⟩ := h; refine ⟨?_, ?_⟩) | ((with_reducible refine Ob.mk ?_); first | exact trivial | (intros; omega) | ((repeat' first | apply And.intro | (intro a; have b := a; try simp only [zH] at b)) <;> first | assumption | omega | (simp only [zH]; omega)))
  refine Zat (τ := Nat) (fun i => i ≤ o.length) (fun i => ⟨38, [(88, .int .i64 i), (87, .int .i64 keep.length), (86, .roB keep), (15, .own 33), (14, .roB N), (10, .int .i64 (top % 2)), (7, .int .i64 top), (6, .own 7), (5, .int .i64 o.length), (2, (.rop (.agg (.cons (.roI o) (.cons (.roI p) (.cons (.roII x) .nil)))))), (1, .roB keep)], [(7, some (.ints (List.replicate o.length 0))), (33, some (.bools (mix (fun v => bF keep v && !N.getD v false) (fun _ => false) o.length i)))], []⟩) (fun i => o.length - i) 0 [] ?_ (Nat.zero_le _) ?_
  · (refine ⟨rfl, ?_, ?_⟩ <;> simp only [zE, evp, evx, ev1, evLoad, evStore, evBin, Zaa, forall_const, z38, tb, reduceAdd, reduceSub, reduceMul, reduceEqDiff, reduceLeDiff, reduceLT, Nat.reduceBEq, Nat.reduceBNe, ↓reduceIte, reduceIte, spWn, insS, Zbh, zI])
    exact hz _
  intro i hi
  have hml1 := hml (fun v => bF keep v && !N.getD v false) i
  repeat' first
    | with_reducible first | apply Zan | apply Zaj | apply Zab | apply Zac | apply Zag | apply Zal | apply Zaf | apply Zah | apply Zam | apply Zao | apply Zak
    | ((with_reducible refine Zap ?_); refine Zai rfl ?_ ?_ <;> intro hb <;> (try simp only [zH] at hb)) | ((with_reducible refine Zaq 26 ?_ ?_); (· exact rfl); (first | refine Zad htb hmz (Za4 ih) fF rfl rfl ?_ | refine Zae hmo htb hmz (Za4 ih) fF rfl rfl (by kernel_rfl) ?_); intro _ _ _ _ h; simp only [zE, evp, evx, ev1, evLoad, evStore, evBin, Zaa, forall_const, z38, tb, reduceAdd, reduceSub, reduceMul, reduceEqDiff, reduceLeDiff, reduceLT, Nat.reduceBEq, Nat.reduceBNe, ↓reduceIte, reduceIte, spWn, insS, Zbh] at h; obtain ⟨rfl, rfl, rfl, rfl⟩ := h; refine ⟨?_, ?_⟩) | ((with_reducible refine Ob.mk ?_); first | exact trivial | (intros; omega) | ((repeat' first | apply And.intro | (intro a; have b := a; try simp only [zH] at b)) <;> first | assumption | omega | (simp only [zH]; omega)))
  · refine back (i + 1) [] ?_ (by omega) (by omega)
    (refine ⟨rfl, ?_, ?_⟩ <;> simp only [zE, evp, evx, ev1, evLoad, evStore, evBin, Zaa, forall_const, z38, tb, reduceAdd, reduceSub, reduceMul, reduceEqDiff, reduceLeDiff, reduceLT, Nat.reduceBEq, Nat.reduceBNe, ↓reduceIte, reduceIte, spWn, insS, Zbh, zI])
    exact Zcj
  have hie : i = o.length := by omega
  subst hie
  rw [Zck]
  refine Zbi 33 (.roB ((List.range o.length).map fun v => bF keep v && !N.getD v false)) (by simp only [Zar, Zaw, fzE, fzA, fzR, fzB, set1, nbeq, reduceEqDiff, decide_true, decide_false, ↓reduceIte, reduceIte, cond_true, cond_false, List.take_length, Option.some.injEq]; rfl) (by first | exact rfl | (refine ⟨?_, rfl⟩; first | rfl | (intros; rfl))) (by simp only [Zar, Zaw, fzE, fzA, fzR, fzB, set1, nbeq, reduceEqDiff, decide_true, decide_false, ↓reduceIte, reduceIte, cond_true, cond_false, List.take_length, Option.some.injEq]; rfl) (by simp only [Zar, Zaw, fzE, fzA, fzR, fzB, set1, nbeq, reduceEqDiff, decide_true, decide_false, ↓reduceIte, reduceIte, cond_true, cond_false, List.take_length, Option.some.injEq]; rfl) ?_
  have hRl : ((List.range o.length).map fun v => bF keep v && !N.getD v false).length = o.length := by simp
  have hRf : bF ((List.range o.length).map fun v => bF keep v && !N.getD v false) = Zcd (fun v => o.getD v 0) (fun v => p.getD v 0) (rws x) o.length (bF keep) := by
    rw [Ziv fun v hv => by rw [Zf9 (by omega)]; rfl, hrs]
    funext v
    by_cases h : v < o.length
    · rw [hNg v h]
    · rw [Zf9 (by omega)]; rfl
  rw [hrs] at hRf
  rw [hrs] at hwz
  rw [← hRf] at hwz
  have hRk : ∀ v, bF ((List.range o.length).map fun v => bF keep v && !N.getD v false) v = true → bF keep v = true := fun v h => by
    rw [hRf] at h
    rw [Bool.and_eq_true] at h; exact h.1
  have hcR : cntZ o.length (bF ((List.range o.length).map fun v => bF keep v && !N.getD v false)) < k := by
    have := Zjq (n := o.length) (K := bF keep) hRk hve1 hve2 (by
      rw [hRf]
      show (bF keep ve && !attB _ _ _ _ _ ve) = false
      rw [attB_in (by rw [hgf]; show (bF keep ve && decide _) = true; rw [hve2, decide_eq_true hve3]; rfl)]; simp)
    omega
  generalize (List.range o.length).map (fun v => bF keep v && !N.getD v false) = R at *
  clear hrs hNg hgf hRf
  repeat' first
    | with_reducible first | apply Zan | apply Zaj | apply Zab | apply Zac | apply Zag | apply Zal | apply Zaf | apply Zah | apply Zam | apply Zao | apply Zak
    | ((with_reducible refine Zap ?_); refine Zai rfl ?_ ?_ <;> intro hb <;> (try simp only [zH] at hb)) | ((with_reducible refine Zaq 27 ?_ ?_); (· exact rfl); (first | refine Zad htb hmz (Za4 ih) fF rfl rfl ?_ | refine Zae hmo htb hmz (Za4 ih) fF rfl rfl (by kernel_rfl) ?_); intro _ _ _ _ h; simp only [zE, evp, evx, ev1, evLoad, evStore, evBin, Zaa, forall_const, z38, tb, reduceAdd, reduceSub, reduceMul, reduceEqDiff, reduceLeDiff, reduceLT, Nat.reduceBEq, Nat.reduceBNe, ↓reduceIte, reduceIte, spWn, insS, Zbh] at h; obtain ⟨rfl, rfl, rfl, rfl⟩ := h; refine ⟨?_, ?_⟩) | ((with_reducible refine Ob.mk ?_); first | exact trivial | (intros; omega) | ((repeat' first | apply And.intro | (intro a; have b := a; try simp only [zH] at b)) <;> first | assumption | omega | (simp only [zH]; omega)))
  have hBl : (winL ⟨o, p, x⟩ k (bF R)).length = o.length := Zgb
  have hBg : ∀ v, v < o.length → (winL ⟨o, p, x⟩ k (bF R)).getD v 0 = winG ⟨o, p, x⟩ k (bF R) v := fun v hv => Zgs hv
  generalize winL ⟨o, p, x⟩ k (bF R) = B at *
  clear hex hT hml1 hpri hpos
  repeat' first
    | with_reducible first | apply Zan | apply Zaj | apply Zab | apply Zac | apply Zag | apply Zal | apply Zaf | apply Zah | apply Zam | apply Zao | apply Zak
    | ((with_reducible refine Zap ?_); refine Zai rfl ?_ ?_ <;> intro hb <;> (try simp only [zH] at hb)) | ((with_reducible refine Zax ?_); (first | refine Zad htb hmz (Za4 ih) fF rfl rfl ?_ | refine Zae hmo htb hmz (Za4 ih) fF rfl rfl (by kernel_rfl) ?_); intro _ _ _ _ h; simp only [zE, evp, evx, ev1, evLoad, evStore, evBin, Zaa, forall_const, z38, tb, reduceAdd, reduceSub, reduceMul, reduceEqDiff, reduceLeDiff, reduceLT, Nat.reduceBEq, Nat.reduceBNe, ↓reduceIte, reduceIte, spWn, insS, Zbh] at h; obtain ⟨rfl, rfl, rfl, rfl⟩ := h; refine ⟨?_, ?_⟩) | ((with_reducible refine Ob.mk ?_); first | exact trivial | (intros; omega) | ((repeat' first | apply And.intro | (intro a; have b := a; try simp only [zH] at b)) <;> first | assumption | omega | (simp only [zH]; omega)))
  obtain ⟨F, hF⟩ : ∃ F : Nat → Bool, F = fun v => R.getD v false && decide (B.getD v 0 ≠ top % 2) := ⟨_, rfl⟩
  have hFi : ∀ i, F i = (R.getD i false && decide (B.getD i 0 ≠ top % 2)) := fun i => by rw [hF]
  refine Zat (τ := Nat) (fun i => i ≤ o.length) (fun i => ⟨50, [(112, .int .i64 i), (111, .int .i64 R.length), (110, .roB R), (20, .bool (sB F i)), (19, .own 44), (18, .roI B), (15, .roB R), (14, .roB N), (10, .int .i64 (top % 2)), (7, .int .i64 top), (6, .own 7), (5, .int .i64 o.length), (2, (.rop (.agg (.cons (.roI o) (.cons (.roI p) (.cons (.roII x) .nil)))))), (1, .roB keep)], [(7, some (.ints (List.replicate o.length 0))), (44, some (.bools (mix F (fun _ => false) o.length i)))], []⟩) (fun i => o.length - i) 0 [] ?_ (Nat.zero_le _) ?_
  · (refine ⟨rfl, ?_, ?_⟩ <;> simp only [zE, evp, evx, ev1, evLoad, evStore, evBin, Zaa, forall_const, z38, tb, reduceAdd, reduceSub, reduceMul, reduceEqDiff, reduceLeDiff, reduceLT, Nat.reduceBEq, Nat.reduceBNe, ↓reduceIte, reduceIte, spWn, insS, Zbh, zI])
    · rfl
    · exact hz _
  intro i hi
  have hml1 := hml F i
  have hsn1 : sB F (i + 1) = (sB F i || F i) := sB_next
  have hms1 : (mix F (fun _ => false) o.length i).set i (F i) = mix F (fun _ => false) o.length (i + 1) := Zcj
  have hmk1 : F i = false → mix F (fun _ => false) o.length i = mix F (fun _ => false) o.length (i + 1) := fun h => Zh2 h
  have hF1 := hFi i
  repeat' first
    | with_reducible first | apply Zan | apply Zaj | apply Zab | apply Zac | apply Zag | apply Zal | apply Zaf | apply Zah | apply Zam | apply Zao | apply Zak
    | ((with_reducible refine Zap ?_); refine Zai rfl ?_ ?_ <;> intro hb <;> (try simp only [zH] at hb)) | ((with_reducible refine Zaq 35 ?_ ?_); (· exact rfl); (first | refine Zad htb hmz (Za4 ih) fF rfl rfl ?_ | refine Zae hmo htb hmz (Za4 ih) fF rfl rfl (by kernel_rfl) ?_); intro _ _ _ _ h; simp only [zE, evp, evx, ev1, evLoad, evStore, evBin, Zaa, forall_const, z38, tb, reduceAdd, reduceSub, reduceMul, reduceEqDiff, reduceLeDiff, reduceLT, Nat.reduceBEq, Nat.reduceBNe, ↓reduceIte, reduceIte, spWn, insS, Zbh] at h; obtain ⟨rfl, rfl, rfl, rfl⟩ := h; refine ⟨?_, ?_⟩) | ((with_reducible refine Ob.mk ?_); first | exact trivial | (intros; omega) | ((repeat' first | apply And.intro | (intro a; have b := a; try simp only [zH] at b)) <;> first | assumption | omega | (simp only [zH]; omega)))
  · have hFt : F i = true := by rw [hF1, hb.1, decide_eq_true hb.2]; rfl
    rw [hFt] at hms1 hsn1
    refine back (i + 1) [] ?_ (by omega) (by omega)
    (refine ⟨rfl, ?_, ?_⟩ <;> simp only [zE, evp, evx, ev1, evLoad, evStore, evBin, Zaa, forall_const, z38, tb, reduceAdd, reduceSub, reduceMul, reduceEqDiff, reduceLeDiff, reduceLT, Nat.reduceBEq, Nat.reduceBNe, ↓reduceIte, reduceIte, spWn, insS, Zbh, zI])
    · rw [hsn1, Bool.or_true]
    · exact hms1
  · have hFt : F i = false := by
      rw [hF1, Bool.and_eq_false_iff, decide_eq_false_iff_not]
      exact hb.imp id fun h => Classical.not_not.2 h
    refine back (i + 1) [] ?_ (by omega) (by omega)
    (refine ⟨rfl, ?_, ?_⟩ <;> simp only [zE, evp, evx, ev1, evLoad, evStore, evBin, Zaa, forall_const, z38, tb, reduceAdd, reduceSub, reduceMul, reduceEqDiff, reduceLeDiff, reduceLT, Nat.reduceBEq, Nat.reduceBNe, ↓reduceIte, reduceIte, spWn, insS, Zbh, zI])
    · rw [hsn1, hFt, Bool.or_false]
    · exact hmk1 hFt
  have hie : i = o.length := by omega
  subst hie
  have hsF : sB F o.length = true ↔ ∃ u, u < o.length ∧ F u = true := sB_iff
  clear hsn1 hms1 hmk1 hF1
  rw [Zck] at *
  refine Zbi 44 (.roB ((List.range o.length).map F)) (by simp only [Zar, Zaw, fzE, fzA, fzR, fzB, set1, nbeq, reduceEqDiff, decide_true, decide_false, ↓reduceIte, reduceIte, cond_true, cond_false, List.take_length, Option.some.injEq]; rfl) (by first | exact rfl | (refine ⟨?_, rfl⟩; first | rfl | (intros; rfl))) (by simp only [Zar, Zaw, fzE, fzA, fzR, fzB, set1, nbeq, reduceEqDiff, decide_true, decide_false, ↓reduceIte, reduceIte, cond_true, cond_false, List.take_length, Option.some.injEq]; rfl) (by simp only [Zar, Zaw, fzE, fzA, fzR, fzB, set1, nbeq, reduceEqDiff, decide_true, decide_false, ↓reduceIte, reduceIte, cond_true, cond_false, List.take_length, Option.some.injEq]; rfl) ?_
  generalize sB F o.length = any at *
  have hFl : ((List.range o.length).map F).length = o.length := by simp
  have hFo : ∀ v, o.length ≤ v → F v = false := fun v hv => by
    rw [hFi, show R.getD v false = false from Zf9 (by omega)]; rfl
  have hFf : bF ((List.range o.length).map F) = F := Ziv hFo
  generalize (List.range o.length).map F = L at *
  have hFw : (fun u => bF R u && decide (winG ⟨o, p, x⟩ k (bF R) u ≠ top % 2)) = F := by
    funext u
    rw [hFi]
    by_cases h : u < o.length
    · rw [hBg u h]; rfl
    · rw [Zf9 (by omega), show R.getD u false = false from Zf9 (by omega)]; rfl
  rw [hFw] at hwz
  repeat' first
    | with_reducible first | apply Zan | apply Zaj | apply Zab | apply Zac | apply Zag | apply Zal | apply Zaf | apply Zah | apply Zam | apply Zao | apply Zak
    | ((with_reducible refine Zap ?_); refine Zai rfl ?_ ?_ <;> intro hb <;> (try simp only [zH] at hb)) | ((with_reducible refine Zax ?_); (first | refine Zad htb hmz (Za4 ih) fF rfl rfl ?_ | refine Zae hmo htb hmz (Za4 ih) fF rfl rfl (by kernel_rfl) ?_); intro _ _ _ _ h; simp only [zE, evp, evx, ev1, evLoad, evStore, evBin, Zaa, forall_const, z38, tb, reduceAdd, reduceSub, reduceMul, reduceEqDiff, reduceLeDiff, reduceLT, Nat.reduceBEq, Nat.reduceBNe, ↓reduceIte, reduceIte, spWn, insS, Zbh] at h; obtain ⟨rfl, rfl, rfl, rfl⟩ := h; refine ⟨?_, ?_⟩) | ((with_reducible refine Ob.mk ?_); first | exact trivial | (intros; omega) | ((repeat' first | apply And.intro | (intro a; have b := a; try simp only [zH] at b)) <;> first | assumption | omega | (simp only [zH]; omega)))
  · have hall : ∀ u, u < o.length → bF R u = true → winG ⟨o, p, x⟩ k (bF R) u = top % 2 := fun u hu hR => by
      refine Classical.byContradiction fun hne => ?_
      have : F u = true := by
        rw [← hFw]
        show (bF R u && decide _) = true
        rw [hR, decide_eq_true hne]; rfl
      have := hsF.2 ⟨u, hu, this⟩
      rw [hb] at this; cases this
    have hzi : ∀ c : Int, List.replicate o.length (0 : Int) = mix (fun _ => c) (fun _ => 0) o.length 0 := fun c => List.ext_getElem (by simp [mix]) fun j h1 h2 => by simp [mix]
    refine Zat (τ := Nat) (fun i => i ≤ o.length) (fun i => ⟨56, [(134, .int .i64 i), (133, .int .i64 o.length), (10, .int .i64 (top % 2)), (6, .own 7)], [(7, some (.ints (mix (fun _ => top % 2) (fun _ => 0) o.length i)))], []⟩) (fun i => o.length - i) 0 [] ?_ (Nat.zero_le _) ?_
    · (refine ⟨rfl, ?_, ?_⟩ <;> simp only [zE, evp, evx, ev1, evLoad, evStore, evBin, Zaa, forall_const, z38, tb, reduceAdd, reduceSub, reduceMul, reduceEqDiff, reduceLeDiff, reduceLT, Nat.reduceBEq, Nat.reduceBNe, ↓reduceIte, reduceIte, spWn, insS, Zbh, zI])
      · rw [List.length_replicate]
      · exact hzi _
    intro i hi
    have hml2 : (mix (fun _ => top % 2) (fun _ => 0) o.length i).length = o.length := Zc5
    repeat' first
      | with_reducible first | apply Zan | apply Zaj | apply Zab | apply Zac | apply Zag | apply Zal | apply Zaf | apply Zah | apply Zam | apply Zao | apply Zak
      | ((with_reducible refine Zap ?_); refine Zai rfl ?_ ?_ <;> intro hb <;> (try simp only [zH] at hb)) | ((with_reducible refine Zaq 41 ?_ ?_); (· exact rfl); (first | refine Zad htb hmz (Za4 ih) fF rfl rfl ?_ | refine Zae hmo htb hmz (Za4 ih) fF rfl rfl (by kernel_rfl) ?_); intro _ _ _ _ h; simp only [zE, evp, evx, ev1, evLoad, evStore, evBin, Zaa, forall_const, z38, tb, reduceAdd, reduceSub, reduceMul, reduceEqDiff, reduceLeDiff, reduceLT, Nat.reduceBEq, Nat.reduceBNe, ↓reduceIte, reduceIte, spWn, insS, Zbh] at h; obtain ⟨rfl, rfl, rfl, rfl⟩ := h; refine ⟨?_, ?_⟩) | ((with_reducible refine Ob.mk ?_); first | exact trivial | (intros; omega) | ((repeat' first | apply And.intro | (intro a; have b := a; try simp only [zH] at b)) <;> first | assumption | omega | (simp only [zH]; omega)))
    · refine back (i + 1) [] ?_ (by omega) (by omega)
      (refine ⟨rfl, ?_, ?_⟩ <;> simp only [zE, evp, evx, ev1, evLoad, evStore, evBin, Zaa, forall_const, z38, tb, reduceAdd, reduceSub, reduceMul, reduceEqDiff, reduceLeDiff, reduceLT, Nat.reduceBEq, Nat.reduceBNe, ↓reduceIte, reduceIte, spWn, insS, Zbh, zI])
      exact Zcj
    have hie : i = o.length := by omega
    subst hie
    rw [Zck]
    refine Zbi 7 (.roI ((List.range o.length).map fun _ => top % 2)) (by simp only [Zar, Zaw, fzE, fzA, fzR, fzB, set1, nbeq, reduceEqDiff, decide_true, decide_false, ↓reduceIte, reduceIte, cond_true, cond_false, List.take_length, Option.some.injEq]; rfl) (by first | exact rfl | (refine ⟨?_, rfl⟩; first | rfl | (intros; rfl))) (by simp only [Zar, Zaw, fzE, fzA, fzR, fzB, set1, nbeq, reduceEqDiff, decide_true, decide_false, ↓reduceIte, reduceIte, cond_true, cond_false, List.take_length, Option.some.injEq]; rfl) (by simp only [Zar, Zaw, fzE, fzA, fzR, fzB, set1, nbeq, reduceEqDiff, decide_true, decide_false, ↓reduceIte, reduceIte, cond_true, cond_false, List.take_length, Option.some.injEq]; rfl) ?_
    repeat' first
      | with_reducible first | apply Zan | apply Zaj | apply Zab | apply Zac | apply Zag | apply Zal | apply Zaf | apply Zah | apply Zam | apply Zao | apply Zak
      | ((with_reducible refine Zap ?_); refine Zai rfl ?_ ?_ <;> intro hb <;> (try simp only [zH] at hb)) | ((with_reducible refine Zax ?_); (first | refine Zad htb hmz (Za4 ih) fF rfl rfl ?_ | refine Zae hmo htb hmz (Za4 ih) fF rfl rfl (by kernel_rfl) ?_); intro _ _ _ _ h; simp only [zE, evp, evx, ev1, evLoad, evStore, evBin, Zaa, forall_const, z38, tb, reduceAdd, reduceSub, reduceMul, reduceEqDiff, reduceLeDiff, reduceLT, Nat.reduceBEq, Nat.reduceBNe, ↓reduceIte, reduceIte, spWn, insS, Zbh] at h; obtain ⟨rfl, rfl, rfl, rfl⟩ := h; refine ⟨?_, ?_⟩) | ((with_reducible refine Ob.mk ?_); first | exact trivial | (intros; omega) | ((repeat' first | apply And.intro | (intro a; have b := a; try simp only [zH] at b)) <;> first | assumption | omega | (simp only [zH]; omega)))
    refine Zav rfl rfl (Zas rfl ?_ rfl)
    refine congrArg AV.roI ?_
    unfold winL
    refine List.map_congr_left fun v hv => ?_
    rw [hwz, if_neg (by omega), if_pos hall]
  obtain ⟨vf, hvf1, hvf2⟩ := hsF.1 hb
  have hIl : (insL ⟨o, p, x⟩ keep (1 - top % 2) L).length = o.length := insL_len
  have hIg : ∀ v, v < o.length → (insL ⟨o, p, x⟩ keep (1 - top % 2) L).getD v false = attB (fun v => o.getD v 0) (rws x) (bF keep) F (1 - top % 2) v := fun v hv => by rw [← hFf]; exact insL_getD hv
  generalize insL ⟨o, p, x⟩ keep (1 - top % 2) L = I at *
  refine Zat (τ := Nat) (fun i => i ≤ o.length) (fun i => ⟨66, [(153, .int .i64 i), (152, .int .i64 keep.length), (151, .roB keep), (25, .own 61), (24, .roB I), (10, .int .i64 (top % 2)), (6, .own 7), (5, .int .i64 o.length), (2, (.rop (.agg (.cons (.roI o) (.cons (.roI p) (.cons (.roII x) .nil)))))), (1, .roB keep)], [(7, some (.ints (List.replicate o.length 0))), (61, some (.bools (mix (fun v => bF keep v && !I.getD v false) (fun _ => false) o.length i)))], []⟩) (fun i => o.length - i) 0 [] ?_ (Nat.zero_le _) ?_
  · (refine ⟨rfl, ?_, ?_⟩ <;> simp only [zE, evp, evx, ev1, evLoad, evStore, evBin, Zaa, forall_const, z38, tb, reduceAdd, reduceSub, reduceMul, reduceEqDiff, reduceLeDiff, reduceLT, Nat.reduceBEq, Nat.reduceBNe, ↓reduceIte, reduceIte, spWn, insS, Zbh, zI])
    exact hz _
  intro i hi
  have hml1 := hml (fun v => bF keep v && !I.getD v false) i
  repeat' first
    | with_reducible first | apply Zan | apply Zaj | apply Zab | apply Zac | apply Zag | apply Zal | apply Zaf | apply Zah | apply Zam | apply Zao | apply Zak
    | ((with_reducible refine Zap ?_); refine Zai rfl ?_ ?_ <;> intro hb <;> (try simp only [zH] at hb)) | ((with_reducible refine Zaq 49 ?_ ?_); (· exact rfl); (first | refine Zad htb hmz (Za4 ih) fF rfl rfl ?_ | refine Zae hmo htb hmz (Za4 ih) fF rfl rfl (by kernel_rfl) ?_); intro _ _ _ _ h; simp only [zE, evp, evx, ev1, evLoad, evStore, evBin, Zaa, forall_const, z38, tb, reduceAdd, reduceSub, reduceMul, reduceEqDiff, reduceLeDiff, reduceLT, Nat.reduceBEq, Nat.reduceBNe, ↓reduceIte, reduceIte, spWn, insS, Zbh] at h; obtain ⟨rfl, rfl, rfl, rfl⟩ := h; refine ⟨?_, ?_⟩) | ((with_reducible refine Ob.mk ?_); first | exact trivial | (intros; omega) | ((repeat' first | apply And.intro | (intro a; have b := a; try simp only [zH] at b)) <;> first | assumption | omega | (simp only [zH]; omega)))
  · refine back (i + 1) [] ?_ (by omega) (by omega)
    (refine ⟨rfl, ?_, ?_⟩ <;> simp only [zE, evp, evx, ev1, evLoad, evStore, evBin, Zaa, forall_const, z38, tb, reduceAdd, reduceSub, reduceMul, reduceEqDiff, reduceLeDiff, reduceLT, Nat.reduceBEq, Nat.reduceBNe, ↓reduceIte, reduceIte, spWn, insS, Zbh, zI])
    exact Zcj
  have hie : i = o.length := by omega
  subst hie
  rw [Zck]
  refine Zbi 61 (.roB ((List.range o.length).map fun v => bF keep v && !I.getD v false)) (by simp only [Zar, Zaw, fzE, fzA, fzR, fzB, set1, nbeq, reduceEqDiff, decide_true, decide_false, ↓reduceIte, reduceIte, cond_true, cond_false, List.take_length, Option.some.injEq]; rfl) (by first | exact rfl | (refine ⟨?_, rfl⟩; first | rfl | (intros; rfl))) (by simp only [Zar, Zaw, fzE, fzA, fzR, fzB, set1, nbeq, reduceEqDiff, decide_true, decide_false, ↓reduceIte, reduceIte, cond_true, cond_false, List.take_length, Option.some.injEq]; rfl) (by simp only [Zar, Zaw, fzE, fzA, fzR, fzB, set1, nbeq, reduceEqDiff, decide_true, decide_false, ↓reduceIte, reduceIte, cond_true, cond_false, List.take_length, Option.some.injEq]; rfl) ?_
  have hQl : ((List.range o.length).map fun v => bF keep v && !I.getD v false).length = o.length := by simp
  have hQf : bF ((List.range o.length).map fun v => bF keep v && !I.getD v false) = fun u => bF keep u && !attB (fun v => o.getD v 0) (rws x) (bF keep) F (1 - top % 2) u := by
    rw [Ziv fun v hv => by rw [Zf9 (by omega)]; rfl]
    funext v
    by_cases h : v < o.length
    · rw [hIg v h]
    · rw [Zf9 (by omega)]; rfl
  rw [← hQf] at hwz
  have hcQ : cntZ o.length (bF ((List.range o.length).map fun v => bF keep v && !I.getD v false)) < k := by
    have hvk : bF keep vf = true := hRk vf (by
      rw [← hFw] at hvf2
      have hvf2 : (bF R vf && decide _) = true := hvf2
      rw [Bool.and_eq_true] at hvf2; exact hvf2.1)
    have := Zjq (n := o.length) (K := bF keep) (K' := bF ((List.range o.length).map fun v => bF keep v && !I.getD v false)) (fun u hu => by
      rw [hQf] at hu
      have hu : (bF keep u && !attB _ _ _ _ _ u) = true := hu
      rw [Bool.and_eq_true] at hu; exact hu.1) hvf1 hvk (by
      rw [hQf]
      show (bF keep vf && !attB _ _ _ _ _ vf) = false
      rw [attB_in hvf2]; simp)
    omega
  generalize (List.range o.length).map (fun v => bF keep v && !I.getD v false) = Q at *
  repeat' first
    | with_reducible first | apply Zan | apply Zaj | apply Zab | apply Zac | apply Zag | apply Zal | apply Zaf | apply Zah | apply Zam | apply Zao | apply Zak
    | ((with_reducible refine Zap ?_); refine Zai rfl ?_ ?_ <;> intro hb <;> (try simp only [zH] at hb)) | ((with_reducible refine Zaq 50 ?_ ?_); (· exact rfl); (first | refine Zad htb hmz (Za4 ih) fF rfl rfl ?_ | refine Zae hmo htb hmz (Za4 ih) fF rfl rfl (by kernel_rfl) ?_); intro _ _ _ _ h; simp only [zE, evp, evx, ev1, evLoad, evStore, evBin, Zaa, forall_const, z38, tb, reduceAdd, reduceSub, reduceMul, reduceEqDiff, reduceLeDiff, reduceLT, Nat.reduceBEq, Nat.reduceBNe, ↓reduceIte, reduceIte, spWn, insS, Zbh] at h; obtain ⟨rfl, rfl, rfl, rfl⟩ := h; refine ⟨?_, ?_⟩) | ((with_reducible refine Ob.mk ?_); first | exact trivial | (intros; omega) | ((repeat' first | apply And.intro | (intro a; have b := a; try simp only [zH] at b)) <;> first | assumption | omega | (simp only [zH]; omega)))
  have hWl : (winL ⟨o, p, x⟩ k (bF Q)).length = o.length := Zgb
  have hWg : ∀ v, v < o.length → (winL ⟨o, p, x⟩ k (bF Q)).getD v 0 = winG ⟨o, p, x⟩ k (bF Q) v := fun v hv => Zgs hv
  generalize winL ⟨o, p, x⟩ k (bF Q) = Wn at *
  have hzi : ∀ f : Nat → Int, List.replicate o.length (0 : Int) = mix f (fun _ => 0) o.length 0 := fun c => List.ext_getElem (by simp [mix]) fun j h1 h2 => by simp [mix]
  repeat' first
    | with_reducible first | apply Zan | apply Zaj | apply Zab | apply Zac | apply Zag | apply Zal | apply Zaf | apply Zah | apply Zam | apply Zao | apply Zak
    | ((with_reducible refine Zap ?_); refine Zai rfl ?_ ?_ <;> intro hb <;> (try simp only [zH] at hb)) | ((with_reducible refine Zax ?_); (first | refine Zad htb hmz (Za4 ih) fF rfl rfl ?_ | refine Zae hmo htb hmz (Za4 ih) fF rfl rfl (by kernel_rfl) ?_); intro _ _ _ _ h; simp only [zE, evp, evx, ev1, evLoad, evStore, evBin, Zaa, forall_const, z38, tb, reduceAdd, reduceSub, reduceMul, reduceEqDiff, reduceLeDiff, reduceLT, Nat.reduceBEq, Nat.reduceBNe, ↓reduceIte, reduceIte, spWn, insS, Zbh] at h; obtain ⟨rfl, rfl, rfl, rfl⟩ := h; refine ⟨?_, ?_⟩) | ((with_reducible refine Ob.mk ?_); first | exact trivial | (intros; omega) | ((repeat' first | apply And.intro | (intro a; have b := a; try simp only [zH] at b)) <;> first | assumption | omega | (simp only [zH]; omega)))
  obtain ⟨f, hf⟩ : ∃ f : Nat → Int, f = fun v => if I.getD v false = true then 1 - top % 2 else Wn.getD v 0 := ⟨_, rfl⟩
  have hfin : ∀ v, v < o.length → f v = winG ⟨o, p, x⟩ (k + 1) (bF keep) v := fun v hv => by
    rw [hwz, if_neg (by omega), if_neg (fun h => ?_), hf]
    · dsimp only
      rw [hIg v hv, hWg v hv]
    · rw [← hFw] at hvf2
      have hvf2 : (bF R vf && decide _) = true := hvf2
      rw [Bool.and_eq_true, decide_eq_true_eq] at hvf2
      exact hvf2.2 (h vf hvf1 hvf2.1)
  clear hWg hQf hcQ hwz hIg hFw hFo hFf hsF hvf1 hvf2 hF hFi hBg hRk hcR hml1 hml hz hve1 hve2 hve3 hT60 hpr hV hv hck hl
  refine Zat (τ := Nat) (fun i => i ≤ o.length) (fun i => ⟨74, [(175, .int .i64 i), (174, .int .i64 o.length), (28, .roI Wn), (24, .roB I), (10, .int .i64 (top % 2)), (6, .own 7)], [(7, some (.ints (mix f (fun _ => 0) o.length i)))], []⟩) (fun i => o.length - i) 0 [] ?_ (Nat.zero_le _) ?_
  · (refine ⟨rfl, ?_, ?_⟩ <;> simp only [zE, evp, evx, ev1, evLoad, evStore, evBin, Zaa, forall_const, z38, tb, reduceAdd, reduceSub, reduceMul, reduceEqDiff, reduceLeDiff, reduceLT, Nat.reduceBEq, Nat.reduceBNe, ↓reduceIte, reduceIte, spWn, insS, Zbh, zI])
    · rw [List.length_replicate]
    · exact hzi _
  intro i hi
  have hml2 : (mix f (fun _ => 0) o.length i).length = o.length := Zc5
  have hml3 : ((mix f (fun _ => 0) o.length i).set i (Wn.getD i 0)).length = o.length := by rw [List.length_set, hml2]
  have hms : (mix f (fun _ => 0) o.length i).set i (f i) = mix f (fun _ => 0) o.length (i + 1) := Zcj
  have hfi : f i = if I.getD i false = true then 1 - top % 2 else Wn.getD i 0 := by rw [hf]
  repeat' first
    | with_reducible first | apply Zan | apply Zaj | apply Zab | apply Zac | apply Zag | apply Zal | apply Zaf | apply Zah | apply Zam | apply Zao | apply Zak
    | ((with_reducible refine Zap ?_); refine Zai rfl ?_ ?_ <;> intro hb <;> (try simp only [zH] at hb)) | ((with_reducible refine Zaq 57 ?_ ?_); (· exact rfl); (first | refine Zad htb hmz (Za4 ih) fF rfl rfl ?_ | refine Zae hmo htb hmz (Za4 ih) fF rfl rfl (by kernel_rfl) ?_); intro _ _ _ _ h; simp only [zE, evp, evx, ev1, evLoad, evStore, evBin, Zaa, forall_const, z38, tb, reduceAdd, reduceSub, reduceMul, reduceEqDiff, reduceLeDiff, reduceLT, Nat.reduceBEq, Nat.reduceBNe, ↓reduceIte, reduceIte, spWn, insS, Zbh] at h; obtain ⟨rfl, rfl, rfl, rfl⟩ := h; refine ⟨?_, ?_⟩) | ((with_reducible refine Ob.mk ?_); first | exact trivial | (intros; omega) | ((repeat' first | apply And.intro | (intro a; have b := a; try simp only [zH] at b)) <;> first | assumption | omega | (simp only [zH]; omega)))
  · rw [if_pos hb] at hfi
    refine back (i + 1) [] ?_ (by omega) (by omega)
    (refine ⟨rfl, ?_, ?_⟩ <;> simp only [zE, evp, evx, ev1, evLoad, evStore, evBin, Zaa, forall_const, z38, tb, reduceAdd, reduceSub, reduceMul, reduceEqDiff, reduceLeDiff, reduceLT, Nat.reduceBEq, Nat.reduceBNe, ↓reduceIte, reduceIte, spWn, insS, Zbh, zI])
    rw [← hms, hfi, List.set_set]
  · rw [if_neg (by rw [hb]; decide)] at hfi
    refine back (i + 1) [] ?_ (by omega) (by omega)
    (refine ⟨rfl, ?_, ?_⟩ <;> simp only [zE, evp, evx, ev1, evLoad, evStore, evBin, Zaa, forall_const, z38, tb, reduceAdd, reduceSub, reduceMul, reduceEqDiff, reduceLeDiff, reduceLT, Nat.reduceBEq, Nat.reduceBNe, ↓reduceIte, reduceIte, spWn, insS, Zbh, zI])
    rw [← hms, hfi]
  have hie : i = o.length := by omega
  subst hie
  rw [Zck]
  refine Zbi 7 (.roI ((List.range o.length).map f)) (by simp only [Zar, Zaw, fzE, fzA, fzR, fzB, set1, nbeq, reduceEqDiff, decide_true, decide_false, ↓reduceIte, reduceIte, cond_true, cond_false, List.take_length, Option.some.injEq]; rfl) (by first | exact rfl | (refine ⟨?_, rfl⟩; first | rfl | (intros; rfl))) (by simp only [Zar, Zaw, fzE, fzA, fzR, fzB, set1, nbeq, reduceEqDiff, decide_true, decide_false, ↓reduceIte, reduceIte, cond_true, cond_false, List.take_length, Option.some.injEq]; rfl) (by simp only [Zar, Zaw, fzE, fzA, fzR, fzB, set1, nbeq, reduceEqDiff, decide_true, decide_false, ↓reduceIte, reduceIte, cond_true, cond_false, List.take_length, Option.some.injEq]; rfl) ?_
  repeat' first
    | with_reducible first | apply Zan | apply Zaj | apply Zab | apply Zac | apply Zag | apply Zal | apply Zaf | apply Zah | apply Zam | apply Zao | apply Zak
    | ((with_reducible refine Zap ?_); refine Zai rfl ?_ ?_ <;> intro hb <;> (try simp only [zH] at hb)) | ((with_reducible refine Zax ?_); (first | refine Zad htb hmz (Za4 ih) fF rfl rfl ?_ | refine Zae hmo htb hmz (Za4 ih) fF rfl rfl (by kernel_rfl) ?_); intro _ _ _ _ h; simp only [zE, evp, evx, ev1, evLoad, evStore, evBin, Zaa, forall_const, z38, tb, reduceAdd, reduceSub, reduceMul, reduceEqDiff, reduceLeDiff, reduceLT, Nat.reduceBEq, Nat.reduceBNe, ↓reduceIte, reduceIte, spWn, insS, Zbh] at h; obtain ⟨rfl, rfl, rfl, rfl⟩ := h; refine ⟨?_, ?_⟩) | ((with_reducible refine Ob.mk ?_); first | exact trivial | (intros; omega) | ((repeat' first | apply And.intro | (intro a; have b := a; try simp only [zH] at b)) <;> first | assumption | omega | (simp only [zH]; omega)))
  refine Zav rfl rfl (Zas rfl ?_ rfl)
  refine congrArg AV.roI ?_
  unfold winL
  refine List.map_congr_left fun v hv => ?_
  have hv := List.mem_range.1 hv
  exact hfin v hv
theorem wins_ok : ∀ k, Zb2 Try.prog 45 (Zbh k)
  | 0 => wins0_ok
  | k + 1 => wins_step (wins_ok k)
open Go Pl
noncomputable def Zcz : Spec
  | [.agg (.cons (.roI o) (.cons (.roI p) (.cons (.roII x) .nil))), .int .i64 q] => some ⟨Zbc ⟨o, p, x⟩ = true, .own 0, some (.bools (Zcl ⟨o, p, x⟩ q))⟩
  | _ => none
noncomputable def Zei : Nat → Option Spec
  | 51 => some Zct
  | _ => none
theorem Zbt : SpOK Try.prog Zei := by
  intro f S h
  unfold Zei at h
  split at h
  · cases h; exact reaches_ok
  · cases h
set_option maxRecDepth 4000 in
set_option maxHeartbeats 4000000 in
theorem aloneo_ok : Zb2 Try.prog 35 Zcz := by
  refine Za3 htb (fn := Try.f35) (by kernel_rfl) (by kernel_rfl) rfl (fun args r hS => ?_) (fun args r hS hob hl => ?_)
  · unfold Zcz at hS; split at hS <;> first | (cases hS; done) | (cases hS; exact Nat.le_of_ble_eq_true rfl)
  unfold Zcz at hS
  split at hS
  case h_2 => cases hS
  rename_i o p x pl
  simp only [Option.some.injEq] at hS
  subst hS
  simp only [lenP, mkL, lim] at hl
  dsimp only at hob
  have hv := hob
  have hV := validB_iff.1 hv
  obtain ⟨hn, hpl, hxl, hpos⟩ := id hV
  simp only [Gm.n] at hn hpl hxl
  have hrb : ∀ v, v < o.length → ∀ j, j < (x.getD v []).length → 0 ≤ (x.getD v []).getD j 0 ∧ (x.getD v []).getD j 0 < o.length := fun v h j hj => by
    obtain ⟨_, hr⟩ := hpos v (by simp only [Gm.n]; omega)
    exact ⟨(hr j hj).1, (hr j hj).2.1⟩
  have hpr : ∀ v, v < o.length → 0 ≤ p.getD v 0 ∧ p.getD v 0 ≤ 60 := fun v h => by
    obtain ⟨⟨a1, a2, a3, a4, _, a6⟩, _⟩ := hpos v (by simp only [Gm.n]; omega)
    exact ⟨a3, a4⟩
  have hrow : ∀ v, v < o.length → ∀ t, t ∈ rws x v → t < o.length := fun v hv t ht => by
    obtain ⟨j, hj, rfl⟩ := List.getElem_of_mem ht
    rw [Zf1] at hj
    have := hrb v hv j hj
    have e : (rws x v)[j] = (rws x v).getD j 0 := by rw [List.getD_eq_getElem?_getD, List.getElem?_eq_getElem (by rw [Zf1]; exact hj)]; rfl
    rw [e, Zhs]; omega
  have hRl : ∀ s top, (Zec ⟨o, p, x⟩ s top).length = o.length := fun s top => reachL_len
  have hz : ∀ f : Nat → Bool, List.replicate o.length false = mix f (fun _ => false) o.length 0 := fun f => List.ext_getElem (by simp [mix]) fun j h1 h2 => by simp [mix]
  repeat' first
    | with_reducible first | apply Zan | apply Zaj | apply Zab | apply Zac | apply Zag | apply Zal | apply Zaf | apply Zah | apply Zam | apply Zao | apply Zak
    | ((with_reducible refine Zap ?_); refine Zai rfl ?_ ?_ <;> intro hb <;> (try simp only [zH] at hb)) | ((with_reducible refine Zax ?_); (first | refine Zad htb hmz Zbt fF rfl rfl ?_ | refine Zae hmo htb hmz Zbt fF rfl rfl (by kernel_rfl) ?_); intro _ _ _ _ h; simp only [zE, evp, evx, ev1, evLoad, evStore, evBin, Zaa, forall_const, z38, tb, reduceAdd, reduceSub, reduceMul, reduceEqDiff, reduceLeDiff, reduceLT, Nat.reduceBEq, Nat.reduceBNe, ↓reduceIte, reduceIte, Zei, Zct] at h; obtain ⟨rfl, rfl, rfl, rfl⟩ := h; refine ⟨?_, ?_⟩) | ((with_reducible refine Ob.mk ?_); first | exact trivial | (intros; omega) | ((repeat' first | apply And.intro | (intro a; have b := a; try simp only [zH] at b)) <;> first | assumption | omega | (simp only [zH]; omega)))
  refine Zat (τ := Nat) (fun i => i ≤ o.length) (fun i => ⟨10, [(17, .int .i64 i), (16, .int .i64 o.length), (5, .own 5), (2, .rop (.agg (.cons (.roI o) (.cons (.roI p) (.cons (.roII x) .nil))))), (1, .int .i64 pl)],
    [(5, some (.bools (mix (Zfi ⟨o, p, x⟩ pl) (fun _ => false) o.length i)))], []⟩) (fun i => o.length - i) 0 [] ?_ (Nat.zero_le _) ?_
  · (refine ⟨rfl, ?_, ?_⟩ <;> simp only [zE, evp, evx, ev1, evLoad, evStore, evBin, Zaa, forall_const, z38, tb, reduceAdd, reduceSub, reduceMul, reduceEqDiff, reduceLeDiff, reduceLT, Nat.reduceBEq, Nat.reduceBNe, ↓reduceIte, reduceIte, Zei, Zct, zI])
    · rw [List.length_replicate]
    · exact hz _
  intro i hi
  have hm1 : (mix (Zfi ⟨o, p, x⟩ pl) (fun _ => false) o.length i).length = o.length := Zc5
  have hRl1 := hRl i (p.getD i 0)
  have hpr1 := hpr i
  repeat' first
    | with_reducible first | apply Zan | apply Zaj | apply Zab | apply Zac | apply Zag | apply Zal | apply Zaf | apply Zah | apply Zam | apply Zao | apply Zak
    | ((with_reducible refine Zap ?_); refine Zai rfl ?_ ?_ <;> intro hb <;> (try simp only [zH] at hb)) | ((with_reducible refine Zaq 5 ?_ ?_); (· exact rfl); (with_reducible refine Zaq 7 ?_ ?_); (· exact rfl); (first | refine Zad htb hmz Zbt fF rfl rfl ?_ | refine Zae hmo htb hmz Zbt fF rfl rfl (by kernel_rfl) ?_); intro _ _ _ _ h; simp only [zE, evp, evx, ev1, evLoad, evStore, evBin, Zaa, forall_const, z38, tb, reduceAdd, reduceSub, reduceMul, reduceEqDiff, reduceLeDiff, reduceLT, Nat.reduceBEq, Nat.reduceBNe, ↓reduceIte, reduceIte, Zei, Zct] at h; obtain ⟨rfl, rfl, rfl, rfl⟩ := h; refine ⟨?_, ?_⟩) | ((with_reducible refine Ob.mk ?_); first | exact trivial | (intros; omega) | ((repeat' first | apply And.intro | (intro a; have b := a; try simp only [zH] at b)) <;> first | assumption | omega | (simp only [zH]; omega)))
  · repeat' first
      | with_reducible first | apply Zan | apply Zaj | apply Zab | apply Zac | apply Zag | apply Zal | apply Zaf | apply Zah | apply Zam | apply Zao | apply Zak
      | ((with_reducible refine Zap ?_); refine Zai rfl ?_ ?_ <;> intro hb <;> (try simp only [zH] at hb)) | ((with_reducible refine Zax ?_); (first | refine Zad htb hmz Zbt fF rfl rfl ?_ | refine Zae hmo htb hmz Zbt fF rfl rfl (by kernel_rfl) ?_); intro _ _ _ _ h; simp only [zE, evp, evx, ev1, evLoad, evStore, evBin, Zaa, forall_const, z38, tb, reduceAdd, reduceSub, reduceMul, reduceEqDiff, reduceLeDiff, reduceLT, Nat.reduceBEq, Nat.reduceBNe, ↓reduceIte, reduceIte, Zei, Zct] at h; obtain ⟨rfl, rfl, rfl, rfl⟩ := h; refine ⟨?_, ?_⟩) | ((with_reducible refine Ob.mk ?_); first | exact trivial | (intros; omega) | ((repeat' first | apply And.intro | (intro a; have b := a; try simp only [zH] at b)) <;> first | assumption | omega | (simp only [zH]; omega)))
    refine back (i + 1) [] ?_ (by omega) (by omega)
    (refine ⟨rfl, ?_, ?_⟩ <;> simp only [zE, evp, evx, ev1, evLoad, evStore, evBin, Zaa, forall_const, z38, tb, reduceAdd, reduceSub, reduceMul, reduceEqDiff, reduceLeDiff, reduceLT, Nat.reduceBEq, Nat.reduceBNe, ↓reduceIte, reduceIte, Zei, Zct, zI])
    exact Zcj
  have hie : i = o.length := by omega
  subst hie
  rw [Zck]
  have hgg : ∀ w, w < o.length → ((List.range o.length).map (Zfi ⟨o, p, x⟩ pl)).getD w false = Zfi ⟨o, p, x⟩ pl w := fun w hw => by simp [List.getD_eq_getElem?_getD, hw]
  have hgl : ((List.range o.length).map (Zfi ⟨o, p, x⟩ pl)).length = o.length := by simp
  generalize (List.range o.length).map (Zfi ⟨o, p, x⟩ pl) = good at *
  clear hpr1
  repeat' first
    | with_reducible first | apply Zan | apply Zaj | apply Zab | apply Zac | apply Zag | apply Zal | apply Zaf | apply Zah | apply Zam | apply Zao | apply Zak
    | ((with_reducible refine Zap ?_); refine Zai rfl ?_ ?_ <;> intro hb <;> (try simp only [zH] at hb)) | ((with_reducible refine Zax ?_); (first | refine Zad htb hmz Zbt fF rfl rfl ?_ | refine Zae hmo htb hmz Zbt fF rfl rfl (by kernel_rfl) ?_); intro _ _ _ _ h; simp only [zE, evp, evx, ev1, evLoad, evStore, evBin, Zaa, forall_const, z38, tb, reduceAdd, reduceSub, reduceMul, reduceEqDiff, reduceLeDiff, reduceLT, Nat.reduceBEq, Nat.reduceBNe, ↓reduceIte, reduceIte, Zei, Zct] at h; obtain ⟨rfl, rfl, rfl, rfl⟩ := h; refine ⟨?_, ?_⟩) | ((with_reducible refine Ob.mk ?_); first | exact trivial | (intros; omega) | ((repeat' first | apply And.intro | (intro a; have b := a; try simp only [zH] at b)) <;> first | assumption | omega | (simp only [zH]; omega)))
  refine Zat (τ := Nat) (fun i => i ≤ o.length) (fun i => ⟨19, [(51, .int .i64 i), (50, .int .i64 o.length), (7, .own 14), (5, .own 5), (2, .rop (.agg (.cons (.roI o) (.cons (.roI p) (.cons (.roII x) .nil))))), (1, .int .i64 pl)],
    [(5, some (.bools good)), (14, some (.bools (mix (fun v => Zej ⟨o, p, x⟩ pl v o.length) (fun _ => false) o.length i)))], []⟩) (fun i => o.length - i) 0 [] ?_ (Nat.zero_le _) ?_
  · (refine ⟨rfl, ?_, ?_⟩ <;> simp only [zE, evp, evx, ev1, evLoad, evStore, evBin, Zaa, forall_const, z38, tb, reduceAdd, reduceSub, reduceMul, reduceEqDiff, reduceLeDiff, reduceLT, Nat.reduceBEq, Nat.reduceBNe, ↓reduceIte, reduceIte, Zei, Zct, zI])
    · rw [List.length_replicate]
    · exact hz _
  intro i hi
  have hm1 : (mix (fun v => Zej ⟨o, p, x⟩ pl v o.length) (fun _ => false) o.length i).length = o.length := Zc5
  have hRl1 := hRl i 60
  have hgg1 := hgg i
  repeat' first
    | with_reducible first | apply Zan | apply Zaj | apply Zab | apply Zac | apply Zag | apply Zal | apply Zaf | apply Zah | apply Zam | apply Zao | apply Zak
    | ((with_reducible refine Zap ?_); refine Zai rfl ?_ ?_ <;> intro hb <;> (try simp only [zH] at hb)) | ((with_reducible refine Zaq 13 ?_ ?_); (· exact rfl); (with_reducible refine Zaq 18 ?_ ?_); (· exact rfl); (first | refine Zad htb hmz Zbt fF rfl rfl ?_ | refine Zae hmo htb hmz Zbt fF rfl rfl (by kernel_rfl) ?_); intro _ _ _ _ h; simp only [zE, evp, evx, ev1, evLoad, evStore, evBin, Zaa, forall_const, z38, tb, reduceAdd, reduceSub, reduceMul, reduceEqDiff, reduceLeDiff, reduceLT, Nat.reduceBEq, Nat.reduceBNe, ↓reduceIte, reduceIte, Zei, Zct] at h; obtain ⟨rfl, rfl, rfl, rfl⟩ := h; refine ⟨?_, ?_⟩) | ((with_reducible refine Ob.mk ?_); first | exact trivial | (intros; omega) | ((repeat' first | apply And.intro | (intro a; have b := a; try simp only [zH] at b)) <;> first | assumption | omega | (simp only [zH]; omega)))
  · have hin : i < o.length := by omega
    rw [hgg1 hin]
    have hms : (mix (fun v => Zej ⟨o, p, x⟩ pl v o.length) (fun _ => false) o.length i).set i (Zej ⟨o, p, x⟩ pl i o.length) = mix (fun v => Zej ⟨o, p, x⟩ pl v o.length) (fun _ => false) o.length (i + 1) := Zcj
    generalize hM : mix (fun v => Zej ⟨o, p, x⟩ pl v o.length) (fun _ => false) o.length i = M at *
    have hj1 : ∀ j, Zej ⟨o, p, x⟩ pl i (j + 1) = (Zej ⟨o, p, x⟩ pl i j || (Zec ⟨o, p, x⟩ i 60).getD j false && Zfi ⟨o, p, x⟩ pl j) := fun j => rfl
    have hj0 : Zfi ⟨o, p, x⟩ pl i = Zej ⟨o, p, x⟩ pl i 0 := rfl
    rw [hj0]
    generalize hR : Zec ⟨o, p, x⟩ i 60 = R at *
    generalize hS : Zej ⟨o, p, x⟩ pl i = S at *
    refine Zat (τ := Nat) (fun j => j ≤ o.length) (fun j => ⟨35, [(65, .int .i64 j), (64, .int .i64 o.length), (63, .roB R), (8, .int .i64 i), (51, .int .i64 i), (50, .int .i64 o.length), (7, .own 14), (5, .own 5), (2, .rop (.agg (.cons (.roI o) (.cons (.roI p) (.cons (.roII x) .nil))))), (1, .int .i64 pl)],
      [(5, some (.bools good)), (14, some (.bools (M.set i (S j))))], []⟩) (fun j => o.length - j) 0 [] ?_ (Nat.zero_le _) ?_
    · (refine ⟨rfl, ?_, ?_⟩ <;> simp only [zE, evp, evx, ev1, evLoad, evStore, evBin, Zaa, forall_const, z38, tb, reduceAdd, reduceSub, reduceMul, reduceEqDiff, reduceLeDiff, reduceLT, Nat.reduceBEq, Nat.reduceBNe, ↓reduceIte, reduceIte, Zei, Zct, zI])
      rw [hRl1]
    intro j hj
    have hgg2 := hgg j
    have hml : (M.set i (S j)).length = o.length := by rw [List.length_set, hm1]
    have hMg : (M.set i (S j)).getD i false = S j := by rw [Zdl (by omega), if_pos rfl]
    have hj1 := hj1 j
    generalize hM2 : M.set i (S j) = M2 at *
    repeat' first
      | with_reducible first | apply Zan | apply Zaj | apply Zab | apply Zac | apply Zag | apply Zal | apply Zaf | apply Zah | apply Zam | apply Zao | apply Zak
      | ((with_reducible refine Zap ?_); refine Zai rfl ?_ ?_ <;> intro hb <;> (try simp only [zH] at hb)) | ((with_reducible refine Zaq 15 ?_ ?_); (· exact rfl); (with_reducible refine Zaq 17 ?_ ?_); (· exact rfl); (first | refine Zad htb hmz Zbt fF rfl rfl ?_ | refine Zae hmo htb hmz Zbt fF rfl rfl (by kernel_rfl) ?_); intro _ _ _ _ h; simp only [zE, evp, evx, ev1, evLoad, evStore, evBin, Zaa, forall_const, z38, tb, reduceAdd, reduceSub, reduceMul, reduceEqDiff, reduceLeDiff, reduceLT, Nat.reduceBEq, Nat.reduceBNe, ↓reduceIte, reduceIte, Zei, Zct] at h; obtain ⟨rfl, rfl, rfl, rfl⟩ := h; refine ⟨?_, ?_⟩) | ((with_reducible refine Ob.mk ?_); first | exact trivial | (intros; omega) | ((repeat' first | apply And.intro | (intro a; have b := a; try simp only [zH] at b)) <;> first | assumption | omega | (simp only [zH]; omega)))
    · have hjn : j < o.length := by omega
      rw [← hgg2 hjn] at hj1
      rw [← hMg] at hj1
      repeat' first
        | with_reducible first | apply Zan | apply Zaj | apply Zab | apply Zac | apply Zag | apply Zal | apply Zaf | apply Zah | apply Zam | apply Zao | apply Zak
        | ((with_reducible refine Zap ?_); refine Zai rfl ?_ ?_ <;> intro hb <;> (try simp only [zH] at hb)) | ((with_reducible refine Zax ?_); (first | refine Zad htb hmz Zbt fF rfl rfl ?_ | refine Zae hmo htb hmz Zbt fF rfl rfl (by kernel_rfl) ?_); intro _ _ _ _ h; simp only [zE, evp, evx, ev1, evLoad, evStore, evBin, Zaa, forall_const, z38, tb, reduceAdd, reduceSub, reduceMul, reduceEqDiff, reduceLeDiff, reduceLT, Nat.reduceBEq, Nat.reduceBNe, ↓reduceIte, reduceIte, Zei, Zct] at h; obtain ⟨rfl, rfl, rfl, rfl⟩ := h; refine ⟨?_, ?_⟩) | ((with_reducible refine Ob.mk ?_); first | exact trivial | (intros; omega) | ((repeat' first | apply And.intro | (intro a; have b := a; try simp only [zH] at b)) <;> first | assumption | omega | (simp only [zH]; omega)))
      · exact Ob.mk ⟨⟨⟨⟨⟨⟨⟨by omega, by omega⟩, by omega⟩, fun h => ⟨h, by omega, by omega⟩⟩, fun h => ⟨h, by omega⟩⟩, fun h => ⟨h, fun h2 => by rw [h, h2]; rfl⟩⟩, by omega, by omega⟩, by omega⟩
      refine back (j + 1) [] ?_ (by omega) (by omega)
      (refine ⟨rfl, ?_, ?_⟩ <;> simp only [zE, evp, evx, ev1, evLoad, evStore, evBin, Zaa, forall_const, z38, tb, reduceAdd, reduceSub, reduceMul, reduceEqDiff, reduceLeDiff, reduceLT, Nat.reduceBEq, Nat.reduceBNe, ↓reduceIte, reduceIte, Zei, Zct, zI])
      rw [← hj1, ← hM2, List.set_set]
    have hje : j = o.length := by omega
    subst hje
    repeat' first
      | with_reducible first | apply Zan | apply Zaj | apply Zab | apply Zac | apply Zag | apply Zal | apply Zaf | apply Zah | apply Zam | apply Zao | apply Zak
      | ((with_reducible refine Zap ?_); refine Zai rfl ?_ ?_ <;> intro hb <;> (try simp only [zH] at hb)) | ((with_reducible refine Zax ?_); (first | refine Zad htb hmz Zbt fF rfl rfl ?_ | refine Zae hmo htb hmz Zbt fF rfl rfl (by kernel_rfl) ?_); intro _ _ _ _ h; simp only [zE, evp, evx, ev1, evLoad, evStore, evBin, Zaa, forall_const, z38, tb, reduceAdd, reduceSub, reduceMul, reduceEqDiff, reduceLeDiff, reduceLT, Nat.reduceBEq, Nat.reduceBNe, ↓reduceIte, reduceIte, Zei, Zct] at h; obtain ⟨rfl, rfl, rfl, rfl⟩ := h; refine ⟨?_, ?_⟩) | ((with_reducible refine Ob.mk ?_); first | exact trivial | (intros; omega) | ((repeat' first | apply And.intro | (intro a; have b := a; try simp only [zH] at b)) <;> first | assumption | omega | (simp only [zH]; omega)))
    refine back (i + 1) [] ?_ (by omega) (by omega)
    (refine ⟨rfl, ?_, ?_⟩ <;> simp only [zE, evp, evx, ev1, evLoad, evStore, evBin, Zaa, forall_const, z38, tb, reduceAdd, reduceSub, reduceMul, reduceEqDiff, reduceLeDiff, reduceLT, Nat.reduceBEq, Nat.reduceBNe, ↓reduceIte, reduceIte, Zei, Zct, zI])
    rw [← hM2]; exact hms
  have hie : i = o.length := by omega
  subst hie
  rw [Zck]
  have hL : ((List.range o.length).map fun v => Zej ⟨o, p, x⟩ pl v o.length) = Zcl ⟨o, p, x⟩ pl := by
    refine aloneL_eq (by simp) fun v hv => ?_
    rw [← rsome_all (g := ⟨o, p, x⟩) (fun v hv => (hpr v hv).2) hrow hv]
    have : ((List.range o.length).map fun v => Zej ⟨o, p, x⟩ pl v o.length).getD v false = Zej ⟨o, p, x⟩ pl v o.length := by
      have : v < o.length := hv
      simp [List.getD_eq_getElem?_getD, this]
    rw [this]
  rw [hL]
  repeat' first
    | with_reducible first | apply Zan | apply Zaj | apply Zab | apply Zac | apply Zag | apply Zal | apply Zaf | apply Zah | apply Zam | apply Zao | apply Zak
    | ((with_reducible refine Zap ?_); refine Zai rfl ?_ ?_ <;> intro hb <;> (try simp only [zH] at hb)) | ((with_reducible refine Zax ?_); (first | refine Zad htb hmz Zbt fF rfl rfl ?_ | refine Zae hmo htb hmz Zbt fF rfl rfl (by kernel_rfl) ?_); intro _ _ _ _ h; simp only [zE, evp, evx, ev1, evLoad, evStore, evBin, Zaa, forall_const, z38, tb, reduceAdd, reduceSub, reduceMul, reduceEqDiff, reduceLeDiff, reduceLT, Nat.reduceBEq, Nat.reduceBNe, ↓reduceIte, reduceIte, Zei, Zct] at h; obtain ⟨rfl, rfl, rfl, rfl⟩ := h; refine ⟨?_, ?_⟩) | ((with_reducible refine Ob.mk ?_); first | exact trivial | (intros; omega) | ((repeat' first | apply And.intro | (intro a; have b := a; try simp only [zH] at b)) <;> first | assumption | omega | (simp only [zH]; omega)))
  refine Zav rfl rfl (spec_own 14 rfl rfl rfl rfl rfl (Nat.lt_of_lt_of_le (by decide : 14 < 22) (Nat.le_refl 22)))
open Go
section
variable {P : Program} {ro : Option Nat} {N κ : Nat} {tb : Nat → Option TI}
theorem Zcy {id : Nat} {ops : Array Oper} {σ : St} {Q : Exit → St → Prop} (l1 : List Oper) {o : Oper} (l2 : List Oper) (he : ops = (l1 ++ o :: l2).toArray) (hG : noG (l1 ++ o :: l2) = true)
    (h : awpL P ro N κ l1 σ (Zfe (fun s => awpL P ro N κ [o] s (Zfe (fun s => awpL P ro N κ l2 s Q) Q)) Q)) : awp P ro N κ (.region id ops false) σ Q := by
  subst he
  refine awp_list hG (awpL_app ?_)
  intro n K Z ν w a hg
  refine Zcn ?_ (h n K Z ν w a hg)
  rintro e a' w' ⟨Z', ν', s', h1, h2, h3, h4⟩
  refine ⟨Z', ν', s', h1, h2, h3, ?_⟩
  cases e with
  | normal => exact awpL_app (l1 := [o]) h4
  | _ => exact h4
def rinR (kk : List Nat) (m : Nat) (l : List (Nat × Option Blk)) : List (Nat × Option Blk) → Prop
  | [] => True
  | (k, some B) :: t => (Nat.blt k kk.length = true ∧ menB (ltK kk.length) B ∧ lkr l (rhoC kk m k) = some (renB (rhoC kk m) B)) ∧ rinR kk m l t
  | (_, none) :: t => rinR kk m l t
theorem Zgc {kk : List Nat} {m : Nat} {l : List (Nat × Option Blk)} {k : Nat} {B : Blk} : ∀ {g : List (Nat × Option Blk)}, rinR kk m l g → (k, some B) ∈ g → Nat.blt k kk.length = true ∧ menB (ltK kk.length) B ∧ lkr l (rhoC kk m k) = some (renB (rhoC kk m) B)
  | [], _, h => absurd h List.not_mem_nil
  | (j, none) :: t, hg, h => by
    rcases List.mem_cons.1 h with e | h
    · cases e
    · exact Zgc (g := t) hg h
  | (j, some B') :: t, hg, h => by
    rcases List.mem_cons.1 h with e | h
    · cases e; exact hg.1
    · exact Zgc (g := t) hg.2 h
theorem Zbg {o : Oper} {x : Operand} {xs : List Operand} {ts : Array TypeId} {f m : Nat} {caps : AV} {env : List (Nat × AV)} {l : List (Nat × Option Blk)} {ms : List Nat} (kk : List Nat) {args : List AV} {rin : List (Nat × Option Blk)} {Q0 : GR → Prop} {Q : Exit → St → Prop}
    (hS : FG P f args rin kk.length Q0)
    (ho : o.op = .call ⟨.value x, xs.toArray, ts⟩) (hgd : o.guard.isNone = true) (hd : Zef N [o] = true) (hf : opv (lke env) x = .fn f caps) (hpc : properL caps = true)
    (hargs : appL (ofL (opv (lke env)) xs) caps = ren (rhoC kk m) (mkL args)) (hmen : men (ltK kk.length) (mkL args) = true) (hkk : kkOK m kk = true) (hκ : Nat.ble κ m = true)
    (hrin : rinR kk m l rin)
    (next : ∀ gm gv gr, Q0 ⟨gm, gv, gr⟩ → ∀ m' e' l', (m + (gm - kk.length) = m' ∧ putE o.dst (ren (rhoC kk m) gv) env = e' ∧ outR kk m gr l = l') → Q .normal (CS.st ⟨m', e', l', ms⟩)) : awpL P ro N κ [o] (CS.st ⟨m, env, l, ms⟩) Q := by
  refine awpL_call (s := ⟨m, env, l, ms⟩) kk hS ho hgd hd hf hpc hargs hmen hkk hκ (fun j B hj => ?_) (fun g hg hle => next g.m g.val g.rs hg _ _ _ ⟨rfl, rfl, rfl⟩)
  obtain ⟨h1, h2, h3⟩ := Zgc hrin (Zdn hj).2
  rw [Nat.blt_eq] at h1
  exact ⟨h1, h2, h3⟩
theorem R_unfz {Z : Nat → Prop} {w : World} {ν : Nat → Value} {k : Nat} {v : Value} (hv : ν k = v) : ∀ {u : AV} {b : Bool} {cs : List Value}, R Z w (fzA k (.cst v) u) ν b cs → R Z w u ν b cs := by
  intro u
  induction u with
  | own j =>
    intro b cs h
    simp only [fzA] at h
    cases hb : Nat.beq j k with
    | true =>
      rw [hb] at h
      obtain rfl := Nat.eq_of_beq_eq_true hb
      rw [show cs = [v] from h]
      show [v] = [ν j]
      rw [hv]
    | false => rw [hb] at h; exact h
  | agg l ih =>
    intro b cs h
    cases b with
    | true => obtain ⟨es, e, r⟩ := h; exact ⟨es, e, ih r⟩
    | false => exact ih (b := true) h
  | tup l ih => intro b cs h; obtain ⟨es, e, r⟩ := h; exact ⟨es, e, ih r⟩
  | cons a t ih1 ih2 => intro b cs h; obtain ⟨x, vs, e, r1, r2⟩ := h; exact ⟨x, vs, e, ih1 r1, ih2 r2⟩
  | fn f c ih => intro b cs h; obtain ⟨vs, e, r⟩ := h; exact ⟨vs, e, ih r⟩
  | whn g u ih => intro b cs h; exact ⟨fun hg => ih (h.1 hg), h.2⟩
  | _ => intro b cs h; exact h
theorem awp_nilbox {c : Code} {m : Nat} {env : List (Nat × AV)} {rs : List (Nat × Option Blk)} {ms : List Nat} {Q : Exit → St → Prop} (k : Nat) (B : Blk) {u : AV} (u' : AV) (hk0 : lkr rs k = some (.box u)) (hu : fzA m (.cst (.slice none 0 0)) u' = u) (hm' : men (ltK (m + 1)) u' = true)
    (hB : B = .ints [] ∨ B = .bools [] ∨ B = .rowsR [] ∨ B = .rows []) {rs' : List (Nat × Option Blk)} (hrs : set1 k (.box u') ((m, some B) :: rs) = rs') (hκ : Nat.ble κ m = true)
    (h : awp P ro N κ c (CS.st ⟨m + 1, env, rs', ms⟩) Q) : awp P ro N κ c (CS.st ⟨m, env, rs, ms⟩) Q := by
  intro n K Z ν w a hg
  have hk : (CS.st ⟨m, env, rs, ms⟩).mu m = false := by show Nat.blt m m = false; rw [nblt]; simp
  have hsat : ∀ w ν, sat Z w ν (.slice none 0 0) (fun _ => False) B := by
    intro w ν
    rcases hB with rfl | rfl | rfl | rfl
    · exact .inl ⟨rfl, rfl, fun _ h => h⟩
    · exact .inl ⟨rfl, rfl, fun _ h => h⟩
    · exact .inl ⟨rfl, rfl, fun _ h => h⟩
    · exact ⟨fun _ => .slice none 0 0, fun _ _ => False, fun _ => False, .inl ⟨rfl, rfl, fun _ h => h⟩, fun j hj => by simp at hj, fun y => ⟨fun h => .inl h, fun h => h.elim id fun ⟨j, hj, _⟩ => by simp at hj⟩⟩
  have hmB : ∀ μ, menB μ B := by intro μ; rcases hB with rfl | rfl | rfl | rfl <;> exact trivial
  have hgr := Zfb (w' := w) (x := .slice none 0 0) (B := B) (F := fun _ => False) hg.rs hg.zk hg.kl hk (Nat.le_refl _) (fun _ _ => rfl) (hsat _ _) (hmB _) (fun y hy => hy.elim)
  have hν := Zca (ν := ν) (x := .slice none 0 0) hk
  have hmu : ∀ j, addK (CS.st ⟨m, env, rs, ms⟩).mu (some m) j = true → ltK (m + 1) j = true := by
    intro j hj
    simp only [addK, CS.st, ltK, nblt, nbeq, Bool.or_eq_true, decide_eq_true_eq] at hj ⊢
    omega
  have hkm : k ≠ m := by
    rintro rfl
    obtain ⟨Ft, hF⟩ := hg.rs
    have := (hF k _ hk0).1
    rw [hk] at this; cases this
  have hgr2 : GoodRs K Z w (upN ν m (.slice none 0 0)) (ltK (m + 1)) (lkr rs') := by
    have e : updL (CS.st ⟨m, env, rs, ms⟩).rs [(m, some B)] = lkr ((m, some B) :: rs) := by
      funext j
      rw [Zar]
      simp only [updL, lko]
      by_cases hj : j = m
      · subst hj; simp [Nat.beq_refl]
      · simp only [beqN hj, if_neg hj]; rfl
    have := hgr.nu (μ' := ltK (m + 1)) hmu (fun _ _ => rfl)
    rw [e] at this
    obtain ⟨Ft, hF⟩ := this
    have hl : ∀ j, lkr rs' j = if j = k then some (.box u') else lkr ((m, some B) :: rs) j := by
      intro j
      rw [← hrs]
      have : lkr (setW [(k, some (.box u'))] ((m, some B) :: rs)) j = _ := congrFun (Zgh) j
      rw [show setW [(k, some (Blk.box u'))] ((m, some B) :: rs) = set1 k (.box u') ((m, some B) :: rs) from rfl] at this
      rw [this]
      simp only [updL, lko]
      by_cases hj : j = k
      · subst hj; simp [Nat.beq_refl]
      · simp only [beqN hj, if_neg hj]
    have hk1 : lkr ((m, some B) :: rs) k = some (.box u) := by rw [Zar, if_neg hkm]; exact hk0
    refine ⟨Ft, fun j b hj => ?_⟩
    rw [hl j] at hj
    have hdis : ∀ k' b', j ≠ k' → lkr rs' k' = some b' → ∃ b'', lkr ((m, some B) :: rs) k' = some b'' := by
      intro k' b' _ hk'
      rw [hl k'] at hk'
      split at hk'
      · rename_i e; rw [e]; exact ⟨_, hk1⟩
      · exact ⟨_, hk'⟩
    by_cases hjk : j = k
    · rw [if_pos hjk] at hj
      cases hj
      subst hjk
      obtain ⟨g1, g2, g3, g4, g5⟩ := hF _ _ hk1
      refine ⟨g1, hm', ?_, g4, fun k' b' hne hk' => ?_⟩
      · obtain ⟨b, cells, T, s1, s2, s3, s4⟩ := g3
        exact ⟨b, cells, T, s1, s2, R_unfz (k := m) (v := .slice none 0 0) upN_same (by rw [hu]; exact s3), s4⟩
      · obtain ⟨b'', hb⟩ := hdis k' b' hne hk'
        exact g5 k' b'' hne hb
    · rw [if_neg hjk] at hj
      obtain ⟨g1, g2, g3, g4, g5⟩ := hF _ _ hj
      refine ⟨g1, g2, g3, g4, fun k' b' hne hk' => ?_⟩
      obtain ⟨b'', hb⟩ := hdis k' b' hne hk'
      exact g5 k' b'' hne hb
  have hgood : Good K Z N w (upN ν m (.slice none 0 0)) (CS.st ⟨m + 1, env, rs', ms⟩) a := by
    refine ⟨hg.size, Zdo hg.one rfl, fun s => ?_, hgr2, hg.zk, hg.kl, ?_, fun j hj => hmu j (Zb7 j (hg.ml j hj))⟩
    · have := hg.env s
      exact ⟨Zd5 (fun j hj => hmu j (Zb7 j hj)) this.1, R_nu hν this.1 this.2⟩
    · rw [hg.ds]
      exact fmC fun j hj => by rw [hν j (hg.ml j hj)]
  refine wpIn_mono (h n K Z _ w a hgood) ?_
  rintro e a' w' ⟨Z', ν', s', h1, h2, h3, h4⟩
  exact ⟨Z', ν', s', h1, fun j hj => (h2 j hj).trans (Zeg (by rintro rfl; have := Nat.le_of_ble_eq_true hκ; omega)), h3, h4⟩
end
end Go.Proofs.Ytbcghiagomkadaa.Cal
