/- Own texts, merged. -/
import Derived.Test.YtbcghiagomkadaaS11
set_option linter.unusedVariables false
set_option linter.unusedSimpArgs false
open Nat (reduceAdd reduceSub reduceMul reduceEqDiff reduceLeDiff reduceLT)
namespace Go.Proofs.Ytbcghiagomkadaa.Cal
open Go Pl
def selI (e : Int) (l : List Int) : List Int := if e = 0 then l else []
def Zku (e : Int) (l : List (List Int)) : List (List Int) := if e = 0 then l else []
def selN (e : Int) (k : Int) : Int := if e = 0 then k else 0
noncomputable def chkS : Spec
  | [.agg (.cons (.roI o) (.cons (.roI p) (.cons (.roII x) .nil))), .int .i64 pl, .roI c] => some ⟨True, .tup (.cons (.agg (.cons (.roI (selI (Zcp ⟨o, p, x⟩ pl c) o)) (.cons (.roI (selI (Zcp ⟨o, p, x⟩ pl c) p)) (.cons (.roII (Zku (Zcp ⟨o, p, x⟩ pl c) x)) (.cons (.int .i64 (selN (Zcp ⟨o, p, x⟩ pl c) pl)) (.cons (.roI (selI (Zcp ⟨o, p, x⟩ pl c) c)) .nil)))))) (.cons (.int .i64 (Zcp ⟨o, p, x⟩ pl c)) .nil)), none⟩
  | _ => none
theorem Zij {e e' : Int} {o p c : List Int} {x : List (List Int)} {pl : Int} (h : e = e') (h2 : e' ≠ 0) : Imp (.tup (.cons (.agg (.cons (.cst (.slice none 0 0)) (.cons (.cst (.slice none 0 0)) (.cons (.cst (.slice none 0 0)) (.cons (.int .i64 0) (.cons (.cst (.slice none 0 0)) .nil)))))) (.cons (.int .i64 e') .nil)))
    (.tup (.cons (.agg (.cons (.roI (selI e o)) (.cons (.roI (selI e p)) (.cons (.roII (Zku e x)) (.cons (.int .i64 (selN e pl)) (.cons (.roI (selI e c)) .nil)))))) (.cons (.int .i64 e) .nil))) := by
  subst h
  have e1 : ∀ l, selI e l = [] := fun l => if_neg h2
  have e2 : ∀ l, Zku e l = [] := fun l => if_neg h2
  have e3 : ∀ l, selN e l = 0 := fun l => if_neg h2
  rw [e1, e1, e1, e2, e3]
  exact Zi7 (Zds (imp_agg (Zds Zgj (Zds Zgj (Zds imp_nilII (Zds (Zcb rfl) (Zds Zgj (Zcb rfl))))))) (Zcb rfl))
noncomputable def spCk : Nat → Option Spec
  | 36 => some Zbx
  | 46 => some Zbm
  | _ => none
theorem Zbz : SpOK Try.prog spCk := by
  intro f S h
  unfold spCk at h
  split at h
  · cases h; exact valid_ok
  · cases h; exact contains_ok
  · cases h
set_option maxRecDepth 4000 in
set_option maxHeartbeats 4000000 in
theorem checked_ok : Zb2 Try.prog 29 chkS := by
  refine Za3 htb (fn := Try.f29) (by kernel_rfl) (by kernel_rfl) rfl (fun args r hS => ?_) (fun args r hS hob hl => ?_)
  · unfold chkS at hS; split at hS <;> first | (cases hS; done) | (cases hS; exact Nat.le_of_ble_eq_true rfl)
  unfold chkS at hS
  split at hS
  case h_2 => cases hS
  rename_i o p x pl c
  simp only [Option.some.injEq] at hS
  subst hS
  simp only [lenP, mkL, lim] at hl
  dsimp only at hob
  repeat' first
    | with_reducible first | apply Zan | apply Zaj | apply Zab | apply Zac | apply Zag | apply Zal | apply Zaf | apply Zah | apply Zam | apply Zao | apply Zak
    | ((with_reducible refine Zap ?_); refine Zai rfl ?_ ?_ <;> intro hb <;> (try simp only [zH] at hb)) | ((with_reducible refine Zaq 2 ?_ ?_); (· exact rfl); (with_reducible refine Zaq 3 ?_ ?_); (· exact rfl); (first | refine Zad htb hmz Zbz fF rfl rfl ?_ | refine Zae hmo htb hmz Zbz fF rfl rfl (by kernel_rfl) ?_); intro _ _ _ _ h; simp only [zE, evp, evx, ev1, evLoad, evStore, evBin, Zaa, forall_const, z38, tb, reduceAdd, reduceSub, reduceMul, reduceEqDiff, reduceLeDiff, reduceLT, Nat.reduceBEq, Nat.reduceBNe, ↓reduceIte, reduceIte, spCk, Zbx, Zbm] at h; obtain ⟨rfl, rfl, rfl, rfl⟩ := h; refine ⟨?_, ?_⟩) | ((with_reducible refine Ob.mk ?_); first | exact trivial | (intros; omega) | ((repeat' first | apply And.intro | (intro a; have b := a; try simp only [zH] at b)) <;> first | assumption | omega | (simp only [zH]; omega)))
  · repeat' first
      | with_reducible first | apply Zan | apply Zaj | apply Zab | apply Zac | apply Zag | apply Zal | apply Zaf | apply Zah | apply Zam | apply Zao | apply Zak
      | ((with_reducible refine Zap ?_); refine Zai rfl ?_ ?_ <;> intro hb <;> (try simp only [zH] at hb)) | ((with_reducible refine Zax ?_); (first | refine Zad htb hmz Zbz fF rfl rfl ?_ | refine Zae hmo htb hmz Zbz fF rfl rfl (by kernel_rfl) ?_); intro _ _ _ _ h; simp only [zE, evp, evx, ev1, evLoad, evStore, evBin, Zaa, forall_const, z38, tb, reduceAdd, reduceSub, reduceMul, reduceEqDiff, reduceLeDiff, reduceLT, Nat.reduceBEq, Nat.reduceBNe, ↓reduceIte, reduceIte, spCk, Zbx, Zbm] at h; obtain ⟨rfl, rfl, rfl, rfl⟩ := h; refine ⟨?_, ?_⟩) | ((with_reducible refine Ob.mk ?_); first | exact trivial | (intros; omega) | ((repeat' first | apply And.intro | (intro a; have b := a; try simp only [zH] at b)) <;> first | assumption | omega | (simp only [zH]; omega)))
    refine Zav rfl rfl (Zff rfl ?_ rfl)
    exact Zij (asks_1 hb) (by decide)
  have hv : Zbc ⟨o, p, x⟩ = true := by cases h : Zbc ⟨o, p, x⟩ with | true => rfl | false => rw [h] at hb; simp at hb
  clear hb
  repeat' first
    | with_reducible first | apply Zan | apply Zaj | apply Zab | apply Zac | apply Zag | apply Zal | apply Zaf | apply Zah | apply Zam | apply Zao | apply Zak
    | ((with_reducible refine Zap ?_); refine Zai rfl ?_ ?_ <;> intro hb <;> (try simp only [zH] at hb)) | ((with_reducible refine Zaq 4 ?_ ?_); (· exact rfl); (with_reducible refine Zaq 5 ?_ ?_); (· exact rfl); (first | refine Zad htb hmz Zbz fF rfl rfl ?_ | refine Zae hmo htb hmz Zbz fF rfl rfl (by kernel_rfl) ?_); intro _ _ _ _ h; simp only [zE, evp, evx, ev1, evLoad, evStore, evBin, Zaa, forall_const, z38, tb, reduceAdd, reduceSub, reduceMul, reduceEqDiff, reduceLeDiff, reduceLT, Nat.reduceBEq, Nat.reduceBNe, ↓reduceIte, reduceIte, spCk, Zbx, Zbm] at h; obtain ⟨rfl, rfl, rfl, rfl⟩ := h; refine ⟨?_, ?_⟩) | ((with_reducible refine Ob.mk ?_); first | exact trivial | (intros; omega) | ((repeat' first | apply And.intro | (intro a; have b := a; try simp only [zH] at b)) <;> first | assumption | omega | (simp only [zH]; omega)))
  · repeat' first
      | with_reducible first | apply Zan | apply Zaj | apply Zab | apply Zac | apply Zag | apply Zal | apply Zaf | apply Zah | apply Zam | apply Zao | apply Zak
      | ((with_reducible refine Zap ?_); refine Zai rfl ?_ ?_ <;> intro hb <;> (try simp only [zH] at hb)) | ((with_reducible refine Zax ?_); (first | refine Zad htb hmz Zbz fF rfl rfl ?_ | refine Zae hmo htb hmz Zbz fF rfl rfl (by kernel_rfl) ?_); intro _ _ _ _ h; simp only [zE, evp, evx, ev1, evLoad, evStore, evBin, Zaa, forall_const, z38, tb, reduceAdd, reduceSub, reduceMul, reduceEqDiff, reduceLeDiff, reduceLT, Nat.reduceBEq, Nat.reduceBNe, ↓reduceIte, reduceIte, spCk, Zbx, Zbm] at h; obtain ⟨rfl, rfl, rfl, rfl⟩ := h; refine ⟨?_, ?_⟩) | ((with_reducible refine Ob.mk ?_); first | exact trivial | (intros; omega) | ((repeat' first | apply And.intro | (intro a; have b := a; try simp only [zH] at b)) <;> first | assumption | omega | (simp only [zH]; omega)))
    refine Zav rfl rfl (Zff rfl ?_ rfl)
    exact Zij (asks_6 hv (by omega)) (by decide)
  have hp : ¬ (pl ≠ 0 ∧ pl ≠ 1) := by omega
  clear hb
  have hG := gok (validB_iff.1 hv)
  have hpl : p.length = o.length := hG.pl
  have hxl : x.length = o.length := hG.xl
  have hn : o.length ≤ 20000 := hG.n
  have hno : ∀ v, v < o.length → ¬ ((o.getD v 0 = pl → c.getD v 0 ∈ x.getD v []) ∧ (o.getD v 0 ≠ pl → c.getD v 0 = -1)) → Zcp ⟨o, p, x⟩ pl c = 4 := fun v hv2 h => Zkn hv hp (decide_eq_false fun h2 => h (h2.2 v hv2))
  repeat' first
    | with_reducible first | apply Zan | apply Zaj | apply Zab | apply Zac | apply Zag | apply Zal | apply Zaf | apply Zah | apply Zam | apply Zao | apply Zak
    | ((with_reducible refine Zap ?_); refine Zai rfl ?_ ?_ <;> intro hb <;> (try simp only [zH] at hb)) | ((with_reducible refine Zaq 6 ?_ ?_); (· exact rfl); (with_reducible refine Zaq 7 ?_ ?_); (· exact rfl); (first | refine Zad htb hmz Zbz fF rfl rfl ?_ | refine Zae hmo htb hmz Zbz fF rfl rfl (by kernel_rfl) ?_); intro _ _ _ _ h; simp only [zE, evp, evx, ev1, evLoad, evStore, evBin, Zaa, forall_const, z38, tb, reduceAdd, reduceSub, reduceMul, reduceEqDiff, reduceLeDiff, reduceLT, Nat.reduceBEq, Nat.reduceBNe, ↓reduceIte, reduceIte, spCk, Zbx, Zbm] at h; obtain ⟨rfl, rfl, rfl, rfl⟩ := h; refine ⟨?_, ?_⟩) | ((with_reducible refine Ob.mk ?_); first | exact trivial | (intros; omega) | ((repeat' first | apply And.intro | (intro a; have b := a; try simp only [zH] at b)) <;> first | assumption | omega | (simp only [zH]; omega)))
  · have hcb : Zcp ⟨o, p, x⟩ pl c = 4 := Zkn hv hp (decide_eq_false fun h => by
      have h1 : c.length = o.length := h.1
      omega)
    repeat' first
      | with_reducible first | apply Zan | apply Zaj | apply Zab | apply Zac | apply Zag | apply Zal | apply Zaf | apply Zah | apply Zam | apply Zao | apply Zak
      | ((with_reducible refine Zap ?_); refine Zai rfl ?_ ?_ <;> intro hb <;> (try simp only [zH] at hb)) | ((with_reducible refine Zax ?_); (first | refine Zad htb hmz Zbz fF rfl rfl ?_ | refine Zae hmo htb hmz Zbz fF rfl rfl (by kernel_rfl) ?_); intro _ _ _ _ h; simp only [zE, evp, evx, ev1, evLoad, evStore, evBin, Zaa, forall_const, z38, tb, reduceAdd, reduceSub, reduceMul, reduceEqDiff, reduceLeDiff, reduceLT, Nat.reduceBEq, Nat.reduceBNe, ↓reduceIte, reduceIte, spCk, Zbx, Zbm] at h; obtain ⟨rfl, rfl, rfl, rfl⟩ := h; refine ⟨?_, ?_⟩) | ((with_reducible refine Ob.mk ?_); first | exact trivial | (intros; omega) | ((repeat' first | apply And.intro | (intro a; have b := a; try simp only [zH] at b)) <;> first | assumption | omega | (simp only [zH]; omega)))
    refine Zav rfl rfl (Zff rfl ?_ rfl)
    exact Zij hcb (by decide)
  have hcl : c.length = o.length := by omega
  clear hb
  have hrl : ∀ v, v < o.length → (x.getD v []).length ≤ 64 := fun v h => (hG.len v h).2
  repeat' first
    | with_reducible first | apply Zan | apply Zaj | apply Zab | apply Zac | apply Zag | apply Zal | apply Zaf | apply Zah | apply Zam | apply Zao | apply Zak
    | ((with_reducible refine Zap ?_); refine Zai rfl ?_ ?_ <;> intro hb <;> (try simp only [zH] at hb)) | ((with_reducible refine Zax ?_); (first | refine Zad htb hmz Zbz fF rfl rfl ?_ | refine Zae hmo htb hmz Zbz fF rfl rfl (by kernel_rfl) ?_); intro _ _ _ _ h; simp only [zE, evp, evx, ev1, evLoad, evStore, evBin, Zaa, forall_const, z38, tb, reduceAdd, reduceSub, reduceMul, reduceEqDiff, reduceLeDiff, reduceLT, Nat.reduceBEq, Nat.reduceBNe, ↓reduceIte, reduceIte, spCk, Zbx, Zbm] at h; obtain ⟨rfl, rfl, rfl, rfl⟩ := h; refine ⟨?_, ?_⟩) | ((with_reducible refine Ob.mk ?_); first | exact trivial | (intros; omega) | ((repeat' first | apply And.intro | (intro a; have b := a; try simp only [zH] at b)) <;> first | assumption | omega | (simp only [zH]; omega)))
  refine Zat (τ := Nat) (fun i => i ≤ o.length ∧ ∀ v, v < i → (o.getD v 0 = pl → c.getD v 0 ∈ x.getD v []) ∧ (o.getD v 0 ≠ pl → c.getD v 0 = -1)) (fun i => ⟨21, [(30, .int .i64 i), (29, .int .i64 c.length), (28, .roI c), (7, .int .i64 0), (6, .own 1), (1, .int .i64 pl), (2, .roI c), (3, (.rop (.agg (.cons (.roI o) (.cons (.roI p) (.cons (.roII x) .nil))))))], [(1, some (.box (.agg (.cons (.cst (.slice none 0 0)) (.cons (.cst (.slice none 0 0)) (.cons (.cst (.slice none 0 0)) (.cons (.int .i64 0) (.cons (.cst (.slice none 0 0)) .nil))))))))], []⟩) (fun i => o.length - i) 0 [] ?_ ⟨Nat.zero_le _, fun v hv => absurd hv (Nat.not_lt_zero v)⟩ ?_
  · (refine ⟨rfl, ?_, ?_⟩ <;> simp only [zE, evp, evx, ev1, evLoad, evStore, evBin, Zaa, forall_const, z38, tb, reduceAdd, reduceSub, reduceMul, reduceEqDiff, reduceLeDiff, reduceLT, Nat.reduceBEq, Nat.reduceBNe, ↓reduceIte, reduceIte, spCk, Zbx, Zbm, zI])
  rintro i ⟨hi, hk⟩
  have hno1 := hno i
  have hrl1 := hrl i
  clear hno hrl
  repeat' first
    | with_reducible first | apply Zan | apply Zaj | apply Zab | apply Zac | apply Zag | apply Zal | apply Zaf | apply Zah | apply Zam | apply Zao | apply Zak
    | ((with_reducible refine Zap ?_); refine Zai rfl ?_ ?_ <;> intro hb <;> (try simp only [zH] at hb)) | ((with_reducible refine Zaq 11 ?_ ?_); (· exact rfl); (with_reducible refine Zaq 13 ?_ ?_); (· exact rfl); (first | refine Zad htb hmz Zbz fF rfl rfl ?_ | refine Zae hmo htb hmz Zbz fF rfl rfl (by kernel_rfl) ?_); intro _ _ _ _ h; simp only [zE, evp, evx, ev1, evLoad, evStore, evBin, Zaa, forall_const, z38, tb, reduceAdd, reduceSub, reduceMul, reduceEqDiff, reduceLeDiff, reduceLT, Nat.reduceBEq, Nat.reduceBNe, ↓reduceIte, reduceIte, spCk, Zbx, Zbm] at h; obtain ⟨rfl, rfl, rfl, rfl⟩ := h; refine ⟨?_, ?_⟩) | ((with_reducible refine Ob.mk ?_); first | exact trivial | (intros; omega) | ((repeat' first | apply And.intro | (intro a; have b := a; try simp only [zH] at b)) <;> first | assumption | omega | (simp only [zH]; omega)))
  · repeat' first
      | with_reducible first | apply Zan | apply Zaj | apply Zab | apply Zac | apply Zag | apply Zal | apply Zaf | apply Zah | apply Zam | apply Zao | apply Zak
      | ((with_reducible refine Zap ?_); refine Zai rfl ?_ ?_ <;> intro hb <;> (try simp only [zH] at hb)) | ((with_reducible refine Zax ?_); (first | refine Zad htb hmz Zbz fF rfl rfl ?_ | refine Zae hmo htb hmz Zbz fF rfl rfl (by kernel_rfl) ?_); intro _ _ _ _ h; simp only [zE, evp, evx, ev1, evLoad, evStore, evBin, Zaa, forall_const, z38, tb, reduceAdd, reduceSub, reduceMul, reduceEqDiff, reduceLeDiff, reduceLT, Nat.reduceBEq, Nat.reduceBNe, ↓reduceIte, reduceIte, spCk, Zbx, Zbm] at h; obtain ⟨rfl, rfl, rfl, rfl⟩ := h; refine ⟨?_, ?_⟩) | ((with_reducible refine Ob.mk ?_); first | exact trivial | (intros; omega) | ((repeat' first | apply And.intro | (intro a; have b := a; try simp only [zH] at b)) <;> first | assumption | omega | (simp only [zH]; omega)))
    refine Zav rfl rfl (Zff rfl ?_ rfl)
    refine Zij (hno1 (by omega) fun h => ?_) (by decide)
    rcases hb with ⟨h1, h2⟩ | ⟨h1, h2⟩
    · exact h2 (h.1 h1)
    · exact h2 (h.2 h1)
  · refine back (i + 1) [] ?_ ⟨by omega, fun v hv => ?_⟩ (by omega)
    · (refine ⟨rfl, ?_, ?_⟩ <;> simp only [zE, evp, evx, ev1, evLoad, evStore, evBin, Zaa, forall_const, z38, tb, reduceAdd, reduceSub, reduceMul, reduceEqDiff, reduceLeDiff, reduceLT, Nat.reduceBEq, Nat.reduceBNe, ↓reduceIte, reduceIte, spCk, Zbx, Zbm, zI])
    · rcases Nat.lt_succ_iff_lt_or_eq.1 hv with h | rfl
      · exact hk v h
      · refine ⟨fun h => ?_, fun h => ?_⟩
        · exact hb.1.resolve_left (fun h2 => h2 h)
        · exact hb.2.resolve_left h
  have hie : i = o.length := by omega
  subst hie
  have hcb : Zcp ⟨o, p, x⟩ pl c = 0 := Zjs hv hp (decide_eq_true ⟨hcl, hk⟩)
  repeat' first
    | with_reducible first | apply Zan | apply Zaj | apply Zab | apply Zac | apply Zag | apply Zal | apply Zaf | apply Zah | apply Zam | apply Zao | apply Zak
    | ((with_reducible refine Zap ?_); refine Zai rfl ?_ ?_ <;> intro hb <;> (try simp only [zH] at hb)) | ((with_reducible refine Zax ?_); (first | refine Zad htb hmz Zbz fF rfl rfl ?_ | refine Zae hmo htb hmz Zbz fF rfl rfl (by kernel_rfl) ?_); intro _ _ _ _ h; simp only [zE, evp, evx, ev1, evLoad, evStore, evBin, Zaa, forall_const, z38, tb, reduceAdd, reduceSub, reduceMul, reduceEqDiff, reduceLeDiff, reduceLT, Nat.reduceBEq, Nat.reduceBNe, ↓reduceIte, reduceIte, spCk, Zbx, Zbm] at h; obtain ⟨rfl, rfl, rfl, rfl⟩ := h; refine ⟨?_, ?_⟩) | ((with_reducible refine Ob.mk ?_); first | exact trivial | (intros; omega) | ((repeat' first | apply And.intro | (intro a; have b := a; try simp only [zH] at b)) <;> first | assumption | omega | (simp only [zH]; omega)))
  refine Zav rfl rfl (Zas rfl ?_ rfl)
  rw [hcb]
  rfl
def nxtS : Spec
  | [.agg (.cons (.roI o) (.cons (.roI p) (.cons (.roII x) (.cons (.int .i64 pl) (.cons (.roI c) .nil))))), .int .i64 v] => some ⟨0 ≤ v ∧ v < o.length ∧ x.length = o.length ∧ (o.getD v.toNat 0 = pl → v < c.length), .roI (nxF ⟨o, p, x⟩ c pl v.toNat), none⟩
  | _ => none
set_option maxRecDepth 4000 in
set_option maxHeartbeats 4000000 in
theorem next_ok : Zb2 Try.prog 47 nxtS := by
  refine Za3 htb (fn := Try.f47) (by kernel_rfl) (by kernel_rfl) rfl (fun args r hS => ?_) (fun args r hS hob hl => ?_)
  · unfold nxtS at hS; split at hS <;> first | (cases hS; done) | (cases hS; exact Nat.le_of_ble_eq_true rfl)
  unfold nxtS at hS
  split at hS
  case h_2 => cases hS
  rename_i o p x pl c v
  simp only [Option.some.injEq] at hS
  subst hS
  simp only [lenP, mkL, lim] at hl
  dsimp only at hob
  obtain ⟨h0, h1, h2, h3⟩ := hob
  obtain ⟨u, rfl⟩ := Int.eq_ofNat_of_zero_le h0
  rw [Int.toNat_natCast] at h3 ⊢
  have e : nxF ⟨o, p, x⟩ c pl u = if o.getD u 0 = pl then [c.getD u 0] else x.getD u [] := rfl
  repeat' first
    | with_reducible first | apply Zan | apply Zaj | apply Zab | apply Zac | apply Zag | apply Zal | apply Zaf | apply Zah | apply Zam | apply Zao | apply Zak
    | ((with_reducible refine Zap ?_); refine Zai rfl ?_ ?_ <;> intro hb <;> (try simp only [zH] at hb)) | ((with_reducible refine Zaq 2 ?_ ?_); (· exact rfl); (with_reducible refine Zaq 3 ?_ ?_); (· exact rfl); (first | refine Zad htb hmz noSp fF rfl rfl ?_ | refine Zae hmo htb hmz noSp fF rfl rfl (by kernel_rfl) ?_); intro _ _ _ _ h; simp only [zE, evp, evx, ev1, evLoad, evStore, evBin, Zaa, forall_const, z38, tb, reduceAdd, reduceSub, reduceMul, reduceEqDiff, reduceLeDiff, reduceLT, Nat.reduceBEq, Nat.reduceBNe, ↓reduceIte, reduceIte] at h; obtain ⟨rfl, rfl, rfl, rfl⟩ := h; refine ⟨?_, ?_⟩) | ((with_reducible refine Ob.mk ?_); first | exact trivial | (intros; omega) | ((repeat' first | apply And.intro | (intro a; have b := a; try simp only [zH] at b)) <;> first | assumption | omega | (simp only [zH]; omega)))
  · have h3 := h3 hb
    repeat' first
      | with_reducible first | apply Zan | apply Zaj | apply Zab | apply Zac | apply Zag | apply Zal | apply Zaf | apply Zah | apply Zam | apply Zao | apply Zak
      | ((with_reducible refine Zap ?_); refine Zai rfl ?_ ?_ <;> intro hb <;> (try simp only [zH] at hb)) | ((with_reducible refine Zax ?_); (first | refine Zad htb hmz noSp fF rfl rfl ?_ | refine Zae hmo htb hmz noSp fF rfl rfl (by kernel_rfl) ?_); intro _ _ _ _ h; simp only [zE, evp, evx, ev1, evLoad, evStore, evBin, Zaa, forall_const, z38, tb, reduceAdd, reduceSub, reduceMul, reduceEqDiff, reduceLeDiff, reduceLT, Nat.reduceBEq, Nat.reduceBNe, ↓reduceIte, reduceIte] at h; obtain ⟨rfl, rfl, rfl, rfl⟩ := h; refine ⟨?_, ?_⟩) | ((with_reducible refine Ob.mk ?_); first | exact trivial | (intros; omega) | ((repeat' first | apply And.intro | (intro a; have b := a; try simp only [zH] at b)) <;> first | assumption | omega | (simp only [zH]; omega)))
    refine Zav rfl rfl (Zas rfl ?_ rfl)
    rw [e, if_pos hb]
    rfl
  · repeat' first
      | with_reducible first | apply Zan | apply Zaj | apply Zab | apply Zac | apply Zag | apply Zal | apply Zaf | apply Zah | apply Zam | apply Zao | apply Zak
      | ((with_reducible refine Zap ?_); refine Zai rfl ?_ ?_ <;> intro hb <;> (try simp only [zH] at hb)) | ((with_reducible refine Zax ?_); (first | refine Zad htb hmz noSp fF rfl rfl ?_ | refine Zae hmo htb hmz noSp fF rfl rfl (by kernel_rfl) ?_); intro _ _ _ _ h; simp only [zE, evp, evx, ev1, evLoad, evStore, evBin, Zaa, forall_const, z38, tb, reduceAdd, reduceSub, reduceMul, reduceEqDiff, reduceLeDiff, reduceLT, Nat.reduceBEq, Nat.reduceBNe, ↓reduceIte, reduceIte] at h; obtain ⟨rfl, rfl, rfl, rfl⟩ := h; refine ⟨?_, ?_⟩) | ((with_reducible refine Ob.mk ?_); first | exact trivial | (intros; omega) | ((repeat' first | apply And.intro | (intro a; have b := a; try simp only [zH] at b)) <;> first | assumption | omega | (simp only [zH]; omega)))
    refine Zav rfl rfl (Zas rfl ?_ rfl)
    rw [e, if_neg hb]
    rfl
def rvI (l : List Int) (i : Nat) : List Int := (List.range l.length).map fun k => if k < i ∨ l.length - 1 - k < i then l.getD (l.length - 1 - k) 0 else l.getD k 0
theorem Zdy {l : List Int} {i : Nat} : (rvI l i).length = l.length := by simp [rvI]
theorem Zf2 {l : List Int} {i k : Nat} (h : k < l.length) : (rvI l i).getD k 0 = if k < i ∨ l.length - 1 - k < i then l.getD (l.length - 1 - k) 0 else l.getD k 0 := by
  simp [rvI, List.getD_eq_getElem?_getD, h]
theorem rvI_zero {l : List Int} : rvI l 0 = l := by
  refine ext0 Zdy fun j hj => ?_
  rw [Zdy] at hj
  rw [Zf2 hj, if_neg (by omega)]
theorem rvI_next {l : List Int} {i : Nat} (h : i < l.length - 1 - i) : ((rvI l i).set i ((rvI l i).getD (l.length - 1 - i) 0)).set (l.length - 1 - i) ((rvI l i).getD i 0) = rvI l (i + 1) := by
  refine ext0 (by rw [List.length_set, List.length_set, Zdy, Zdy]) fun j hj => ?_
  rw [List.length_set, List.length_set, Zdy] at hj
  rw [Zf2 (i := i + 1) hj, Zf2 (i := i) (k := i) (by omega), Zf2 (i := i) (k := l.length - 1 - i) (by omega), if_neg (by omega), if_neg (by omega)]
  have hs : ∀ {m : List Int} {a : Nat} {y : Int}, a < m.length → (m.set a y).getD j 0 = if j = a then y else m.getD j 0 := fun {m a y} ha => by
    simp only [List.getD_eq_getElem?_getD, List.getElem?_set]
    by_cases e : a = j
    · subst e; simp [ha]
    · rw [if_neg e, if_neg (fun h => e h.symm)]
  rw [hs (by rw [List.length_set, Zdy]; omega), hs (by rw [Zdy]; omega), Zf2 hj]
  by_cases e1 : j = l.length - 1 - i
  · subst e1
    rw [if_pos rfl, if_pos (by omega), show l.length - 1 - (l.length - 1 - i) = i by omega]
  · rw [if_neg e1]
    by_cases e2 : j = i
    · subst e2
      rw [if_pos rfl, if_pos (by omega)]
    · rw [if_neg e2]
      by_cases e3 : j < i ∨ l.length - 1 - j < i
      · rw [if_pos e3, if_pos (by omega)]
      · rw [if_neg e3, if_neg (by omega)]
theorem rvI_end {l : List Int} {i : Nat} (h : l.length - 1 - i ≤ i) : rvI l i = l.reverse := by
  refine ext0 (by rw [Zdy, List.length_reverse]) fun j hj => ?_
  rw [Zdy] at hj
  rw [Zf2 hj]
  have e : l.reverse.getD j 0 = l.getD (l.length - 1 - j) 0 := by
    rw [List.getD_eq_getElem?_getD, List.getD_eq_getElem?_getD, List.getElem?_reverse hj]
  rw [e]
  split
  · rfl
  · have : j = l.length - 1 - j := by omega
    rw [← this]
set_option maxRecDepth 4000 in
set_option maxHeartbeats 4000000 in
theorem reverse_fg {l : List Int} (hl9 : l.length ≤ 1000000000) : FG Try.prog 54 [.own 0] [(0, some (.ints l))] 1 fun g => g = ⟨1, resV [], [(0, some (.ints l.reverse))]⟩ := by
  refine Zf5 htb (fn := Try.f54) (by kernel_rfl) (by kernel_rfl) rfl (Nat.le_of_ble_eq_true rfl) fun hl => ?_
  simp only [lenP, mkL, lim] at hl
  repeat' first
    | with_reducible first | apply Zan | apply Zaj | apply Zab | apply Zac | apply Zag | apply Zal | apply Zaf | apply Zah | apply Zam | apply Zao | apply Zak
    | ((with_reducible refine Zap ?_); refine Zai rfl ?_ ?_ <;> intro hb <;> (try simp only [zH] at hb)) | ((with_reducible refine Zax ?_); (first | refine Zad htb hmz noSp fF rfl rfl ?_ | refine Zae hmo htb hmz noSp fF rfl rfl (by kernel_rfl) ?_); intro _ _ _ _ h; simp only [zE, evp, evx, ev1, evLoad, evStore, evBin, Zaa, forall_const, z38, tb, reduceAdd, reduceSub, reduceMul, reduceEqDiff, reduceLeDiff, reduceLT, Nat.reduceBEq, Nat.reduceBNe, ↓reduceIte, reduceIte] at h; obtain ⟨rfl, rfl, rfl, rfl⟩ := h; refine ⟨?_, ?_⟩) | ((with_reducible refine Ob.mk ?_); first | exact trivial | (intros; omega) | ((repeat' first | apply And.intro | (intro a; have b := a; try simp only [zH] at b)) <;> first | assumption | omega | (simp only [zH]; omega)))
  refine Zat (τ := Nat) (fun i => i ≤ l.length) (fun i => ⟨6, [(3, .int .i64 ((l.length : Int) - 1 - i)), (2, .int .i64 i), (0, .own 0)], [(0, some (.ints (rvI l i)))], []⟩) (fun i => l.length - i) 0 [] ?_ (Nat.zero_le _) ?_
  · (refine ⟨rfl, ?_, ?_⟩ <;> simp only [zE, evp, evx, ev1, evLoad, evStore, evBin, Zaa, forall_const, z38, tb, reduceAdd, reduceSub, reduceMul, reduceEqDiff, reduceLeDiff, reduceLT, Nat.reduceBEq, Nat.reduceBNe, ↓reduceIte, reduceIte, zI])
    · omega
    · exact rvI_zero.symm
  intro i hi
  have hrl := Zdy (l := l) (i := i)
  have hnx := @rvI_next l i
  have hen := @rvI_end l i
  repeat' first
    | with_reducible first | apply Zan | apply Zaj | apply Zab | apply Zac | apply Zag | apply Zal | apply Zaf | apply Zah | apply Zam | apply Zao | apply Zak
    | ((with_reducible refine Zap ?_); refine Zai rfl ?_ ?_ <;> intro hb <;> (try simp only [zH] at hb)) | ((with_reducible refine Zaq 3 ?_ ?_); (· exact rfl); (with_reducible refine Zaq 4 ?_ ?_); (· exact rfl); (first | refine Zad htb hmz noSp fF rfl rfl ?_ | refine Zae hmo htb hmz noSp fF rfl rfl (by kernel_rfl) ?_); intro _ _ _ _ h; simp only [zE, evp, evx, ev1, evLoad, evStore, evBin, Zaa, forall_const, z38, tb, reduceAdd, reduceSub, reduceMul, reduceEqDiff, reduceLeDiff, reduceLT, Nat.reduceBEq, Nat.reduceBNe, ↓reduceIte, reduceIte] at h; obtain ⟨rfl, rfl, rfl, rfl⟩ := h; refine ⟨?_, ?_⟩) | ((with_reducible refine Ob.mk ?_); first | exact trivial | (intros; omega) | ((repeat' first | apply And.intro | (intro a; have b := a; try simp only [zH] at b)) <;> first | assumption | omega | (simp only [zH]; omega)))
  · have h2 : i < l.length - 1 - i := by omega
    have hnx := hnx h2
    have ej : (l.length : Int) - 1 - i = ((l.length - 1 - i : Nat) : Int) := by omega
    rw [ej]
    clear hen
    repeat' first
      | with_reducible first | apply Zan | apply Zaj | apply Zab | apply Zac | apply Zag | apply Zal | apply Zaf | apply Zah | apply Zam | apply Zao | apply Zak
      | ((with_reducible refine Zap ?_); refine Zai rfl ?_ ?_ <;> intro hb <;> (try simp only [zH] at hb)) | ((with_reducible refine Zax ?_); (first | refine Zad htb hmz noSp fF rfl rfl ?_ | refine Zae hmo htb hmz noSp fF rfl rfl (by kernel_rfl) ?_); intro _ _ _ _ h; simp only [zE, evp, evx, ev1, evLoad, evStore, evBin, Zaa, forall_const, z38, tb, reduceAdd, reduceSub, reduceMul, reduceEqDiff, reduceLeDiff, reduceLT, Nat.reduceBEq, Nat.reduceBNe, ↓reduceIte, reduceIte] at h; obtain ⟨rfl, rfl, rfl, rfl⟩ := h; refine ⟨?_, ?_⟩) | ((with_reducible refine Ob.mk ?_); first | exact trivial | (intros; omega) | ((repeat' first | apply And.intro | (intro a; have b := a; try simp only [zH] at b)) <;> first | assumption | omega | (simp only [zH]; omega)))
    refine back (i + 1) [] ?_ (by omega) (by omega)
    (refine ⟨rfl, ?_, ?_⟩ <;> simp only [zE, evp, evx, ev1, evLoad, evStore, evBin, Zaa, forall_const, z38, tb, reduceAdd, reduceSub, reduceMul, reduceEqDiff, reduceLeDiff, reduceLT, Nat.reduceBEq, Nat.reduceBNe, ↓reduceIte, reduceIte, zI])
    · omega
    · exact hnx
  · rw [hen (by omega)]
    refine fin_normal rfl rfl (Zee (⟨1, resV [], [(0, some (.ints l.reverse))]⟩) ([]) rfl rfl (Zcb rfl) ?_)
    simp only [grR, zE, evp, evx, ev1, evLoad, evStore, evBin, Zaa, forall_const, z38, tb, reduceAdd, reduceSub, reduceMul, reduceEqDiff, reduceLeDiff, reduceLT, Nat.reduceBEq, Nat.reduceBNe, ↓reduceIte, reduceIte]
structure BkS where
  v : Nat
  o : List Nat
def Zb4 (l : List Nat) : List Int := l.map fun v : Nat => (v : Int)
structure BkR (nx : Nat → List Nat) (L : List (Nat × Nat)) (fr to : Nat) (r : List Nat) : Prop where
  ex : ∃ o v, r = o.reverse ∧ BkQ nx fr L to fr o ∧ v = fr
set_option maxRecDepth 4000 in
set_option maxHeartbeats 4000000 in
theorem back_fg {nx : Nat → List Nat} {thr : Nat → Prop} {n fr to i j clk : Nat} {L : List (Nat × Nat)} {es : List (Int × Int × Nat)} (hn : n ≤ 20000) (hR : RQ nx thr n fr L i j) (hM : MQ es L) (hto : to ∈ L.map Prod.fst) :
    FG Try.prog 40 [.own 0, .int .i64 fr, .int .i64 to] [(0, some (.mp es clk))] 1 fun g => ∃ r : List Nat, BkR nx L fr to r ∧ g = ⟨1, .roI (Zb4 r), [(0, some (.mp es clk))]⟩ := by
  refine Zf5 htb (fn := Try.f40) (by kernel_rfl) (by kernel_rfl) rfl (Nat.le_of_ble_eq_true rfl) fun hl => ?_
  simp only [lenP, mkL, lim] at hl
  have hLn := Zjw hR
  repeat' first
    | with_reducible first | apply Zan | apply Zaj | apply Zab | apply Zac | apply Zag | apply Zal | apply Zaf | apply Zah | apply Zam | apply Zao | apply Zak
    | ((with_reducible refine Zap ?_); refine Zai rfl ?_ ?_ <;> intro hb <;> (try simp only [zH] at hb)) | ((with_reducible refine Zaq 1 ?_ ?_); (· exact rfl); (first | refine Zad htb hmz noSp fF rfl rfl ?_ | refine Zae hmo htb hmz noSp fF rfl rfl (by kernel_rfl) ?_); intro _ _ _ _ h; simp only [zE, evp, evx, ev1, evLoad, evStore, evBin, Zaa, forall_const, z38, tb, reduceAdd, reduceSub, reduceMul, reduceEqDiff, reduceLeDiff, reduceLT, Nat.reduceBEq, Nat.reduceBNe, ↓reduceIte, reduceIte] at h; obtain ⟨rfl, rfl, rfl, rfl⟩ := h; refine ⟨?_, ?_⟩) | ((with_reducible refine Ob.mk ?_); first | exact trivial | (intros; omega) | ((repeat' first | apply And.intro | (intro a; have b := a; try simp only [zH] at b)) <;> first | assumption | omega | (simp only [zH]; omega)))
  (refine Zad htb hmz noSp (fun i => Nat.beq i 1) rfl rfl ?_; intro _ _ _ _ h; simp only [zE, evp, evx, ev1, evLoad, evStore, evBin, Zaa, forall_const, z38, tb, reduceAdd, reduceSub, reduceMul, reduceEqDiff, reduceLeDiff, reduceLT, Nat.reduceBEq, Nat.reduceBNe, ↓reduceIte, reduceIte] at h; obtain ⟨rfl, rfl, rfl, rfl⟩ := h; refine ⟨?_, ?_⟩)
  · first | ((with_reducible refine Ob.mk ?_); first | exact trivial | (intros; omega) | ((repeat' first | apply And.intro | (intro a; have b := a; try simp only [zH] at b)) <;> first | assumption | omega | (simp only [zH]; omega))) | skip
  refine Zab ?_
  obtain ⟨k0, u0, _, hu0, _⟩ := Zke hR hto
  have hg0 := hM.get to u0 hu0
  repeat' first
    | with_reducible first | apply Zan | apply Zaj | apply Zab | apply Zac | apply Zag | apply Zal | apply Zaf | apply Zah | apply Zam | apply Zao | apply Zak
    | ((with_reducible refine Zap ?_); refine Zai rfl ?_ ?_ <;> intro hb <;> (try simp only [zH] at hb)) | ((with_reducible refine Zaq 3 ?_ ?_); (· exact rfl); (first | refine Zad htb hmz noSp fF rfl rfl ?_ | refine Zae hmo htb hmz noSp fF rfl rfl (by kernel_rfl) ?_); intro _ _ _ _ h; simp only [zE, evp, evx, ev1, evLoad, evStore, evBin, Zaa, forall_const, z38, tb, reduceAdd, reduceSub, reduceMul, reduceEqDiff, reduceLeDiff, reduceLT, Nat.reduceBEq, Nat.reduceBNe, ↓reduceIte, reduceIte] at h; obtain ⟨rfl, rfl, rfl, rfl⟩ := h; refine ⟨?_, ?_⟩) | ((with_reducible refine Ob.mk ?_); first | exact trivial | (intros; omega) | ((repeat' first | apply And.intro | (intro a; have b := a; try simp only [zH] at b)) <;> first | assumption | omega | (simp only [zH]; omega)))
  rw [hg0]
  refine Zat (τ := BkS) (fun s => BkQ nx fr L to s.v s.o) (fun s => ⟨4, [(8, .int .i64 s.v), (7, .own 3), (0, .own 0), (1, .int .i64 fr)], [(3, some (.ints (Zb4 s.o))), (0, some (.mp es clk))], []⟩) (fun s => bkM fr L s.v) ⟨u0, [to]⟩ [] ?_ (Bk_first hR hu0) ?_
  · (refine ⟨rfl, ?_, ?_⟩ <;> simp only [zE, evp, evx, ev1, evLoad, evStore, evBin, Zaa, forall_const, z38, tb, reduceAdd, reduceSub, reduceMul, reduceEqDiff, reduceLeDiff, reduceLT, Nat.reduceBEq, Nat.reduceBNe, ↓reduceIte, reduceIte, zI])
    all_goals rfl
  rintro ⟨v, o⟩ hB
  dsimp only at hB ⊢
  have hol := Bk_len hB
  have hcl : (Zb4 o).length = o.length := List.length_map ..
  repeat' first
    | with_reducible first | apply Zan | apply Zaj | apply Zab | apply Zac | apply Zag | apply Zal | apply Zaf | apply Zah | apply Zam | apply Zao | apply Zak
    | ((with_reducible refine Zap ?_); refine Zai rfl ?_ ?_ <;> intro hb <;> (try simp only [zH] at hb)) | ((with_reducible refine Zaq 5 ?_ ?_); (· exact rfl); (with_reducible refine Zaq 6 ?_ ?_); (· exact rfl); (first | refine Zad htb hmz noSp fF rfl rfl ?_ | refine Zae hmo htb hmz noSp fF rfl rfl (by kernel_rfl) ?_); intro _ _ _ _ h; simp only [zE, evp, evx, ev1, evLoad, evStore, evBin, Zaa, forall_const, z38, tb, reduceAdd, reduceSub, reduceMul, reduceEqDiff, reduceLeDiff, reduceLT, Nat.reduceBEq, Nat.reduceBNe, ↓reduceIte, reduceIte] at h; obtain ⟨rfl, rfl, rfl, rfl⟩ := h; refine ⟨?_, ?_⟩) | ((with_reducible refine Ob.mk ?_); first | exact trivial | (intros; omega) | ((repeat' first | apply And.intro | (intro a; have b := a; try simp only [zH] at b)) <;> first | assumption | omega | (simp only [zH]; omega)))
  · have hvf : v ≠ fr := by omega
    obtain ⟨u, hu⟩ := Bk_key hB hvf
    obtain ⟨hB2, hmu⟩ := Bk_next hR hB hvf hu
    have hg := hM.get v u hu
    have hcs : Zb4 (o ++ [v]) = Zb4 o ++ [(v : Int)] := by unfold Zb4; rw [List.map_append]; rfl
    repeat' first
      | with_reducible first | apply Zan | apply Zaj | apply Zab | apply Zac | apply Zag | apply Zal | apply Zaf | apply Zah | apply Zam | apply Zao | apply Zak
      | ((with_reducible refine Zap ?_); refine Zai rfl ?_ ?_ <;> intro hb <;> (try simp only [zH] at hb)) | ((with_reducible refine Zax ?_); (first | refine Zad htb hmz noSp fF rfl rfl ?_ | refine Zae hmo htb hmz noSp fF rfl rfl (by kernel_rfl) ?_); intro _ _ _ _ h; simp only [zE, evp, evx, ev1, evLoad, evStore, evBin, Zaa, forall_const, z38, tb, reduceAdd, reduceSub, reduceMul, reduceEqDiff, reduceLeDiff, reduceLT, Nat.reduceBEq, Nat.reduceBNe, ↓reduceIte, reduceIte] at h; obtain ⟨rfl, rfl, rfl, rfl⟩ := h; refine ⟨?_, ?_⟩) | ((with_reducible refine Ob.mk ?_); first | exact trivial | (intros; omega) | ((repeat' first | apply And.intro | (intro a; have b := a; try simp only [zH] at b)) <;> first | assumption | omega | (simp only [zH]; omega)))
    rw [hg]
    refine back ⟨u, o ++ [v]⟩ [(3, 10)] ?_ hB2 hmu
    (refine ⟨rfl, ?_, ?_⟩ <;> simp only [zE, evp, evx, ev1, evLoad, evStore, evBin, Zaa, forall_const, z38, tb, reduceAdd, reduceSub, reduceMul, reduceEqDiff, reduceLeDiff, reduceLT, Nat.reduceBEq, Nat.reduceBNe, ↓reduceIte, reduceIte, zI])
    exact hcs.symm
  have hvf : v = fr := by omega
  subst hvf
  refine Zcy ([_]) ([]) rfl rfl ?_
  refine Zay htb hmz noSp fF rfl rfl rfl ?_; intro _ _ _ _ h; simp only [zE, evp, evx, ev1, evLoad, evStore, evBin, Zaa, forall_const, z38, tb, reduceAdd, reduceSub, reduceMul, reduceEqDiff, reduceLeDiff, reduceLT, Nat.reduceBEq, Nat.reduceBNe, ↓reduceIte, reduceIte] at h; obtain ⟨rfl, rfl, rfl, rfl⟩ := h; refine ⟨?_, Zab ?_⟩
  · first | ((with_reducible refine Ob.mk ?_); first | exact trivial | (intros; omega) | ((repeat' first | apply And.intro | (intro a; have b := a; try simp only [zH] at b)) <;> first | assumption | omega | (simp only [zH]; omega))) | skip
  refine Zbg ([3]) (reverse_fg (l := Zb4 o) (by omega)) rfl rfl rfl rfl rfl rfl rfl rfl rfl (by simp only [rinR, rhoC, zE, evp, evx, ev1, evLoad, evStore, evBin, Zaa, forall_const, z38, tb, reduceAdd, reduceSub, reduceMul, reduceEqDiff, reduceLeDiff, reduceLT, Nat.reduceBEq, Nat.reduceBNe, ↓reduceIte, reduceIte]) ?_; intro gm gv gr hq m' e' l' h; simp only [GR.mk.injEq] at hq; obtain ⟨rfl, rfl, rfl⟩ := hq; simp only [rhoC, outR, renR, dels, zE, evp, evx, ev1, evLoad, evStore, evBin, Zaa, forall_const, z38, tb, reduceAdd, reduceSub, reduceMul, reduceEqDiff, reduceLeDiff, reduceLT, Nat.reduceBEq, Nat.reduceBNe, ↓reduceIte, reduceIte] at h; obtain ⟨rfl, rfl, rfl⟩ := h; refine Zab ?_
  refine Zay htb hmz noSp fF rfl rfl rfl ?_; intro _ _ _ _ h; simp only [zE, evp, evx, ev1, evLoad, evStore, evBin, Zaa, forall_const, z38, tb, reduceAdd, reduceSub, reduceMul, reduceEqDiff, reduceLeDiff, reduceLT, Nat.reduceBEq, Nat.reduceBNe, ↓reduceIte, reduceIte] at h; obtain ⟨rfl, rfl, rfl, rfl⟩ := h; refine ⟨?_, ?_⟩
  · first | ((with_reducible refine Ob.mk ?_); first | exact trivial | (intros; omega) | ((repeat' first | apply And.intro | (intro a; have b := a; try simp only [zH] at b)) <;> first | assumption | omega | (simp only [zH]; omega))) | skip
  refine Zab ?_
  have hrv : (Zb4 o).reverse = Zb4 o.reverse := by unfold Zb4; rw [List.map_reverse]
  rw [hrv]
  refine Zbi 3 (.roI (Zb4 o.reverse)) (by simp only [Zar, Zaw, fzE, fzA, fzR, fzB, set1, nbeq, reduceEqDiff, decide_true, decide_false, ↓reduceIte, reduceIte, cond_true, cond_false, List.take_length, Option.some.injEq]; rfl) (by first | exact rfl | (refine ⟨?_, rfl⟩; first | rfl | (intros; rfl))) (by simp only [Zar, Zaw, fzE, fzA, fzR, fzB, set1, nbeq, reduceEqDiff, decide_true, decide_false, ↓reduceIte, reduceIte, cond_true, cond_false, List.take_length, Option.some.injEq]; rfl) (by simp only [Zar, Zaw, fzE, fzA, fzR, fzB, set1, nbeq, reduceEqDiff, decide_true, decide_false, ↓reduceIte, reduceIte, cond_true, cond_false, List.take_length, Option.some.injEq]; rfl) ?_
  repeat' first
    | with_reducible first | apply Zan | apply Zaj | apply Zab | apply Zac | apply Zag | apply Zal | apply Zaf | apply Zah | apply Zam | apply Zao | apply Zak
    | ((with_reducible refine Zap ?_); refine Zai rfl ?_ ?_ <;> intro hb <;> (try simp only [zH] at hb)) | ((with_reducible refine Zax ?_); (first | refine Zad htb hmz noSp fF rfl rfl ?_ | refine Zae hmo htb hmz noSp fF rfl rfl (by kernel_rfl) ?_); intro _ _ _ _ h; simp only [zE, evp, evx, ev1, evLoad, evStore, evBin, Zaa, forall_const, z38, tb, reduceAdd, reduceSub, reduceMul, reduceEqDiff, reduceLeDiff, reduceLT, Nat.reduceBEq, Nat.reduceBNe, ↓reduceIte, reduceIte] at h; obtain ⟨rfl, rfl, rfl, rfl⟩ := h; refine ⟨?_, ?_⟩) | ((with_reducible refine Ob.mk ?_); first | exact trivial | (intros; omega) | ((repeat' first | apply And.intro | (intro a; have b := a; try simp only [zH] at b)) <;> first | assumption | omega | (simp only [zH]; omega)))
  refine Zav rfl rfl (Zee ⟨1, .roI (Zb4 o.reverse), [(0, some (.mp es clk))]⟩ [] ⟨o.reverse, ⟨o, v, rfl, hB, rfl⟩, rfl⟩ rfl (Zcb rfl) ?_)
  simp only [grR, zE, evp, evx, ev1, evLoad, evStore, evBin, Zaa, forall_const, z38, tb, reduceAdd, reduceSub, reduceMul, reduceEqDiff, reduceLeDiff, reduceLT, Nat.reduceBEq, Nat.reduceBNe, ↓reduceIte, reduceIte]
open Go Pl
def nxN (o : List Int) (x : List (List Int)) (pl : Int) (c : List Int) (v : Nat) : List Nat := (nxF ⟨o, [], x⟩ c pl v).map Int.toNat
theorem Zkx {o p : List Int} {x : List (List Int)} {pl : Int} {c : List Int} {v : Nat} : nxF ⟨o, p, x⟩ c pl v = nxF ⟨o, [], x⟩ c pl v := rfl
structure RcS where
  L : List (Nat × Nat)
  i : Nat
  es : List (Int × Int × Nat)
  clk : Nat
structure RdS where
  L : List (Nat × Nat)
  j : Nat
  es : List (Int × Int × Nat)
  clk : Nat
noncomputable def spRc : Nat → Option Spec
  | 47 => some nxtS
  | _ => none
theorem Za8 : SpOK Try.prog spRc := by
  intro f S h
  unfold spRc at h
  split at h
  · cases h; exact next_ok
  · cases h
set_option maxRecDepth 4000 in
set_option maxHeartbeats 4000000 in
theorem reached_fg {o p c : List Int} {x : List (List Int)} {pl : Int} {fr fT : Nat} {X Y : AV} {th : Nat → Bool} (hn : o.length ≤ 20000) (hfr : fr < o.length) (hxl : x.length = o.length) (hcl : ∀ v, v < o.length → o.getD v 0 = pl → v < c.length)
    (hrow : ∀ v, v < o.length → (nxF ⟨o, p, x⟩ c pl v).length ≤ 64 ∧ ∀ j, j < (nxF ⟨o, p, x⟩ c pl v).length → 0 ≤ (nxF ⟨o, p, x⟩ c pl v).getD j 0 ∧ (nxF ⟨o, p, x⟩ c pl v).getD j 0 < (o.length : Int))
    (hT : ∀ w : Nat, w < o.length → FG Try.prog fT [.int .i64 w, .rop X, .rop Y] [] 0 (fun g => g = ⟨0, .bool (th w), []⟩)) :
    FG Try.prog 37 [.agg (.cons (.roI o) (.cons (.roI p) (.cons (.roII x) (.cons (.int .i64 pl) (.cons (.roI c) .nil))))), .int .i64 fr, .fn fT (.cons (.rop X) (.cons (.rop Y) .nil))] [] 0 fun g => ∃ (L : List (Nat × Nat)) (es : List (Int × Int × Nat)) (clk : Nat), (RE (nxN o x pl c) (fun w => th w = true) o.length fr L ∧ MQ es L) ∧ g = ⟨1, .own 0, [(0, some (.mp es clk))]⟩ := by
  refine Zf5 htb (fn := Try.f37) (by kernel_rfl) (by kernel_rfl) rfl (Nat.le_of_ble_eq_true rfl) fun hl => ?_
  simp only [lenP, mkL, lim] at hl
  repeat' first
    | with_reducible first | apply Zan | apply Zaj | apply Zab | apply Zac | apply Zag | apply Zal | apply Zaf | apply Zah | apply Zam | apply Zao | apply Zak
    | ((with_reducible refine Zap ?_); refine Zai rfl ?_ ?_ <;> intro hb <;> (try simp only [zH] at hb)) | ((with_reducible refine Zaq 2 ?_ ?_); (· exact rfl); (first | refine Zad htb hmz Za8 fF rfl rfl ?_ | refine Zae hmo htb hmz Za8 fF rfl rfl (by kernel_rfl) ?_); intro _ _ _ _ h; simp only [zE, evp, evx, ev1, evLoad, evStore, evBin, Zaa, forall_const, z38, tb, reduceAdd, reduceSub, reduceMul, reduceEqDiff, reduceLeDiff, reduceLT, Nat.reduceBEq, Nat.reduceBNe, ↓reduceIte, reduceIte, spRc, nxtS] at h; obtain ⟨rfl, rfl, rfl, rfl⟩ := h; refine ⟨?_, ?_⟩) | ((with_reducible refine Ob.mk ?_); first | exact trivial | (intros; omega) | ((repeat' first | apply And.intro | (intro a; have b := a; try simp only [zH] at b)) <;> first | assumption | omega | (simp only [zH]; omega)))
  (refine Zad htb hmz Za8 (fun i => Nat.beq i 1) rfl rfl ?_; intro _ _ _ _ h; simp only [zE, evp, evx, ev1, evLoad, evStore, evBin, Zaa, forall_const, z38, tb, reduceAdd, reduceSub, reduceMul, reduceEqDiff, reduceLeDiff, reduceLT, Nat.reduceBEq, Nat.reduceBNe, ↓reduceIte, reduceIte, spRc, nxtS] at h; obtain ⟨rfl, rfl, rfl, rfl⟩ := h; refine ⟨?_, ?_⟩)
  · first | ((with_reducible refine Ob.mk ?_); first | exact trivial | (intros; omega) | ((repeat' first | apply And.intro | (intro a; have b := a; try simp only [zH] at b)) <;> first | assumption | omega | (simp only [zH]; omega))) | skip
  refine Zab ?_
  repeat' first
    | with_reducible first | apply Zan | apply Zaj | apply Zab | apply Zac | apply Zag | apply Zal | apply Zaf | apply Zah | apply Zam | apply Zao | apply Zak
    | ((with_reducible refine Zap ?_); refine Zai rfl ?_ ?_ <;> intro hb <;> (try simp only [zH] at hb)) | ((with_reducible refine Zaq 3 ?_ ?_); (· exact rfl); (first | refine Zad htb hmz Za8 fF rfl rfl ?_ | refine Zae hmo htb hmz Za8 fF rfl rfl (by kernel_rfl) ?_); intro _ _ _ _ h; simp only [zE, evp, evx, ev1, evLoad, evStore, evBin, Zaa, forall_const, z38, tb, reduceAdd, reduceSub, reduceMul, reduceEqDiff, reduceLeDiff, reduceLT, Nat.reduceBEq, Nat.reduceBNe, ↓reduceIte, reduceIte, spRc, nxtS] at h; obtain ⟨rfl, rfl, rfl, rfl⟩ := h; refine ⟨?_, ?_⟩) | ((with_reducible refine Ob.mk ?_); first | exact trivial | (intros; omega) | ((repeat' first | apply And.intro | (intro a; have b := a; try simp only [zH] at b)) <;> first | assumption | omega | (simp only [zH]; omega)))
  refine Zat (τ := RcS) (fun s => RQ (nxN o x pl c) (fun w => th w = true) o.length fr s.L s.i 0 ∧ MQ s.es s.L) (fun s => ⟨7, [(8, .own 5), (7, .own 2), (2, .fn fT (.cons (.rop X) (.cons (.rop Y) .nil))), (3, .rop (.agg (.cons (.roI o) (.cons (.roI p) (.cons (.roII x) (.cons (.int .i64 pl) (.cons (.roI c) .nil)))))))], [(5, some (.ints (Zb4 ((qF fr s.L).drop s.i)))), (2, some (.mp s.es s.clk))], []⟩) (fun s => o.length + 1 - s.i) ⟨[], 0, [], 0⟩ [] ?_ ⟨RQ_first hfr, MQ_nil⟩ ?_
  · (refine ⟨rfl, ?_, ?_⟩ <;> simp only [zE, evp, evx, ev1, evLoad, evStore, evBin, Zaa, forall_const, z38, tb, reduceAdd, reduceSub, reduceMul, reduceEqDiff, reduceLeDiff, reduceLT, Nat.reduceBEq, Nat.reduceBNe, ↓reduceIte, reduceIte, spRc, nxtS, zI])
    rfl
  rintro ⟨L, i, es, clk⟩ ⟨hR, hM⟩
  dsimp only at hR hM ⊢
  have hLn := Zjw hR
  have hql := Zhf (fr := fr) (L := L)
  have hcl2 : (Zb4 ((qF fr L).drop i)).length = L.length + 1 - i := by unfold Zb4; rw [List.length_map, List.length_drop, hql]
  repeat' first
    | with_reducible first | apply Zan | apply Zaj | apply Zab | apply Zac | apply Zag | apply Zal | apply Zaf | apply Zah | apply Zam | apply Zao | apply Zak
    | ((with_reducible refine Zap ?_); refine Zai rfl ?_ ?_ <;> intro hb <;> (try simp only [zH] at hb)) | ((with_reducible refine Zaq 4 ?_ ?_); (· exact rfl); (with_reducible refine Zaq 14 ?_ ?_); (· exact rfl); (first | refine Zad htb hmz Za8 fF rfl rfl ?_ | refine Zae hmo htb hmz Za8 fF rfl rfl (by kernel_rfl) ?_); intro _ _ _ _ h; simp only [zE, evp, evx, ev1, evLoad, evStore, evBin, Zaa, forall_const, z38, tb, reduceAdd, reduceSub, reduceMul, reduceEqDiff, reduceLeDiff, reduceLT, Nat.reduceBEq, Nat.reduceBNe, ↓reduceIte, reduceIte, spRc, nxtS] at h; obtain ⟨rfl, rfl, rfl, rfl⟩ := h; refine ⟨?_, ?_⟩) | ((with_reducible refine Ob.mk ?_); first | exact trivial | (intros; omega) | ((repeat' first | apply And.intro | (intro a; have b := a; try simp only [zH] at b)) <;> first | assumption | omega | (simp only [zH]; omega)))
  · have hi : i < (qF fr L).length := by omega
    obtain ⟨u, hu⟩ : ∃ u, (qF fr L)[i]? = some u := ⟨_, List.getElem?_eq_getElem hi⟩
    have hun : u < o.length := hR.lt u (List.mem_of_getElem? hu)
    have hg : (Zb4 ((qF fr L).drop i)).getD 0 0 = (u : Int) := by
      unfold Zb4
      rw [List.getD_eq_getElem?_getD, List.getElem?_map, List.getElem?_drop, Nat.add_zero, hu]; rfl
    have hdr : List.drop 1 (Zb4 ((qF fr L).drop i)) = Zb4 ((qF fr L).drop (i + 1)) := by
      unfold Zb4
      rw [← List.map_drop, List.drop_drop]
    have hcu := hcl u hun
    obtain ⟨hr64, hrb⟩ := hrow u hun
    repeat' first
      | with_reducible first | apply Zan | apply Zaj | apply Zab | apply Zac | apply Zag | apply Zal | apply Zaf | apply Zah | apply Zam | apply Zao | apply Zak
      | ((with_reducible refine Zap ?_); refine Zai rfl ?_ ?_ <;> intro hb <;> (try simp only [zH] at hb)) | ((with_reducible refine Zaq 6 ?_ ?_); (· exact rfl); (first | refine Zad htb hmz Za8 fF rfl rfl ?_ | refine Zae hmo htb hmz Za8 fF rfl rfl (by kernel_rfl) ?_); intro _ _ _ _ h; simp only [zE, evp, evx, ev1, evLoad, evStore, evBin, Zaa, forall_const, z38, tb, reduceAdd, reduceSub, reduceMul, reduceEqDiff, reduceLeDiff, reduceLT, Nat.reduceBEq, Nat.reduceBNe, ↓reduceIte, reduceIte, spRc, nxtS] at h; obtain ⟨rfl, rfl, rfl, rfl⟩ := h; refine ⟨?_, ?_⟩) | ((with_reducible refine Ob.mk ?_); first | exact trivial | (intros; omega) | ((repeat' first | apply And.intro | (intro a; have b := a; try simp only [zH] at b)) <;> first | assumption | omega | (simp only [zH]; omega)))
    rw [hg, hdr]
    repeat' first
      | with_reducible first | apply Zan | apply Zaj | apply Zab | apply Zac | apply Zag | apply Zal | apply Zaf | apply Zah | apply Zam | apply Zao | apply Zak
      | ((with_reducible refine Zap ?_); refine Zai rfl ?_ ?_ <;> intro hb <;> (try simp only [zH] at hb)) | ((with_reducible refine Zaq 7 ?_ ?_); (· exact rfl); (first | refine Zad htb hmz Za8 fF rfl rfl ?_ | refine Zae hmo htb hmz Za8 fF rfl rfl (by kernel_rfl) ?_); intro _ _ _ _ h; simp only [zE, evp, evx, ev1, evLoad, evStore, evBin, Zaa, forall_const, z38, tb, reduceAdd, reduceSub, reduceMul, reduceEqDiff, reduceLeDiff, reduceLT, Nat.reduceBEq, Nat.reduceBNe, ↓reduceIte, reduceIte, spRc, nxtS] at h; obtain ⟨rfl, rfl, rfl, rfl⟩ := h; refine ⟨?_, ?_⟩) | ((with_reducible refine Ob.mk ?_); first | exact trivial | (intros; omega) | ((repeat' first | apply And.intro | (intro a; have b := a; try simp only [zH] at b)) <;> first | assumption | omega | (simp only [zH]; omega)))
    have hnx : nxN o x pl c u = (nxF ⟨o, p, x⟩ c pl u).map Int.toNat := rfl
    have hat : ∀ j, j < (nxF ⟨o, p, x⟩ c pl u).length → (nxN o x pl c u)[j]? = some ((nxF ⟨o, p, x⟩ c pl u).getD j 0).toNat := fun j hj => by
      rw [hnx, List.getElem?_map, List.getD_eq_getElem?_getD, List.getElem?_eq_getElem hj]; rfl
    have hxl2 : (nxN o x pl c u).length = (nxF ⟨o, p, x⟩ c pl u).length := by rw [hnx, List.length_map]
    clear hnx
    generalize nxF ⟨o, p, x⟩ c pl u = rw at *
    refine Zat (τ := RdS) (fun s => RQ (nxN o x pl c) (fun w => th w = true) o.length fr s.L i s.j ∧ MQ s.es s.L ∧ (∃ L', s.L = L ++ L') ∧ s.j ≤ rw.length) (fun s => ⟨22, [(29, .int .i64 s.j), (28, .int .i64 rw.length), (27, .roI rw), (8, .own 15), (9, .int .i64 u), (7, .own 2), (2, .fn fT (.cons (.rop X) (.cons (.rop Y) .nil))), (3, .rop (.agg (.cons (.roI o) (.cons (.roI p) (.cons (.roII x) (.cons (.int .i64 pl) (.cons (.roI c) .nil)))))))], [(15, some (.ints (Zb4 ((qF fr s.L).drop (i + 1))))), (2, some (.mp s.es s.clk))], []⟩) (fun s => rw.length - s.j) ⟨L, 0, es, clk⟩ [] ?_ ⟨hR, hM, ⟨[], by simp⟩, Nat.zero_le _⟩ ?_
    · (refine ⟨rfl, ?_, ?_⟩ <;> simp only [zE, evp, evx, ev1, evLoad, evStore, evBin, Zaa, forall_const, z38, tb, reduceAdd, reduceSub, reduceMul, reduceEqDiff, reduceLeDiff, reduceLT, Nat.reduceBEq, Nat.reduceBNe, ↓reduceIte, reduceIte, spRc, nxtS, zI])
    rintro ⟨L2, j, es2, clk2⟩ ⟨hR2, hM2, ⟨L', hLL⟩, hj⟩
    dsimp only at hR2 hM2 hLL hj ⊢
    subst hLL
    have hLn2 := Zjw hR2
    have hu2 : (qF fr (L ++ L'))[i]? = some u := by
      have : qF fr (L ++ L') = qF fr L ++ L'.map Prod.fst := by simp [qF]
      rw [this, List.getElem?_append_left hi, hu]
    have hlen2 : (Zb4 ((qF fr (L ++ L')).drop (i + 1))).length ≤ 20001 := by
      unfold Zb4
      rw [List.length_map, List.length_drop, Zhf]; omega
    repeat' first
      | with_reducible first | apply Zan | apply Zaj | apply Zab | apply Zac | apply Zag | apply Zal | apply Zaf | apply Zah | apply Zam | apply Zao | apply Zak
      | ((with_reducible refine Zap ?_); refine Zai rfl ?_ ?_ <;> intro hb <;> (try simp only [zH] at hb)) | ((with_reducible refine Zaq 8 ?_ ?_); (· exact rfl); (with_reducible refine Zaq 14 ?_ ?_); (· exact rfl); (first | refine Zad htb hmz Za8 fF rfl rfl ?_ | refine Zae hmo htb hmz Za8 fF rfl rfl (by kernel_rfl) ?_); intro _ _ _ _ h; simp only [zE, evp, evx, ev1, evLoad, evStore, evBin, Zaa, forall_const, z38, tb, reduceAdd, reduceSub, reduceMul, reduceEqDiff, reduceLeDiff, reduceLT, Nat.reduceBEq, Nat.reduceBNe, ↓reduceIte, reduceIte, spRc, nxtS] at h; obtain ⟨rfl, rfl, rfl, rfl⟩ := h; refine ⟨?_, ?_⟩) | ((with_reducible refine Ob.mk ?_); first | exact trivial | (intros; omega) | ((repeat' first | apply And.intro | (intro a; have b := a; try simp only [zH] at b)) <;> first | assumption | omega | (simp only [zH]; omega)))
    · have hjl : j < rw.length := by omega
      obtain ⟨b1, b2⟩ := hrb j hjl
      obtain ⟨w, hw⟩ := Int.eq_ofNat_of_zero_le b1
      have hjw := hat j hjl
      rw [hw] at hjw b2
      rw [Int.toNat_natCast] at hjw
      have hwn : w < o.length := by omega
      have hT1 := hT w hwn
      have hhas := hM2.has w
      repeat' first
        | with_reducible first | apply Zan | apply Zaj | apply Zab | apply Zac | apply Zag | apply Zal | apply Zaf | apply Zah | apply Zam | apply Zao | apply Zak
        | ((with_reducible refine Zap ?_); refine Zai rfl ?_ ?_ <;> intro hb <;> (try simp only [zH] at hb)) | ((with_reducible refine Zaq 9 ?_ ?_); (· exact rfl); (first | refine Zad htb hmz Za8 fF rfl rfl ?_ | refine Zae hmo htb hmz Za8 fF rfl rfl (by kernel_rfl) ?_); intro _ _ _ _ h; simp only [zE, evp, evx, ev1, evLoad, evStore, evBin, Zaa, forall_const, z38, tb, reduceAdd, reduceSub, reduceMul, reduceEqDiff, reduceLeDiff, reduceLT, Nat.reduceBEq, Nat.reduceBNe, ↓reduceIte, reduceIte, spRc, nxtS] at h; obtain ⟨rfl, rfl, rfl, rfl⟩ := h; refine ⟨?_, ?_⟩) | ((with_reducible refine Ob.mk ?_); first | exact trivial | (intros; omega) | ((repeat' first | apply And.intro | (intro a; have b := a; try simp only [zH] at b)) <;> first | assumption | omega | (simp only [zH]; omega)))
      rw [hw]
      repeat' first
        | with_reducible first | apply Zan | apply Zaj | apply Zab | apply Zac | apply Zag | apply Zal | apply Zaf | apply Zah | apply Zam | apply Zao | apply Zak
        | ((with_reducible refine Zap ?_); refine Zai rfl ?_ ?_ <;> intro hb <;> (try simp only [zH] at hb)) | ((with_reducible refine Zaq 10 ?_ ?_); (· exact rfl); (first | refine Zad htb hmz Za8 fF rfl rfl ?_ | refine Zae hmo htb hmz Za8 fF rfl rfl (by kernel_rfl) ?_); intro _ _ _ _ h; simp only [zE, evp, evx, ev1, evLoad, evStore, evBin, Zaa, forall_const, z38, tb, reduceAdd, reduceSub, reduceMul, reduceEqDiff, reduceLeDiff, reduceLT, Nat.reduceBEq, Nat.reduceBNe, ↓reduceIte, reduceIte, spRc, nxtS] at h; obtain ⟨rfl, rfl, rfl, rfl⟩ := h; refine ⟨?_, ?_⟩) | ((with_reducible refine Ob.mk ?_); first | exact trivial | (intros; omega) | ((repeat' first | apply And.intro | (intro a; have b := a; try simp only [zH] at b)) <;> first | assumption | omega | (simp only [zH]; omega)))
      cases hh : mhas (w : Int) es2 with
      | true =>
        rw [hh] at hhas
        have hin : w ∈ (L ++ L').map Prod.fst := of_decide_eq_true hhas.symm
        have hR3 := RQ_skip hR2 hu2 hjw (.inl hin)
        refine Zfu ?_
        refine Zb9 rfl ?_
        dsimp only [noGd]
        refine Zay htb hmz Za8 fF rfl rfl rfl ?_; intro _ _ _ _ h; simp only [zE, evp, evx, ev1, evLoad, evStore, evBin, Zaa, forall_const, z38, tb, reduceAdd, reduceSub, reduceMul, reduceEqDiff, reduceLeDiff, reduceLT, Nat.reduceBEq, Nat.reduceBNe, ↓reduceIte, reduceIte, spRc, nxtS] at h; obtain ⟨rfl, rfl, rfl, rfl⟩ := h; refine ⟨?_, Zab ?_⟩
        · first | ((with_reducible refine Ob.mk ?_); first | exact trivial | (intros; omega) | ((repeat' first | apply And.intro | (intro a; have b := a; try simp only [zH] at b)) <;> first | assumption | omega | (simp only [zH]; omega))) | skip
        refine Zb9 rfl ?_
        dsimp only [noGd]
        refine Zay htb hmz Za8 fF rfl rfl rfl ?_; intro _ _ _ _ h; simp only [zE, evp, evx, ev1, evLoad, evStore, evBin, Zaa, forall_const, z38, tb, reduceAdd, reduceSub, reduceMul, reduceEqDiff, reduceLeDiff, reduceLT, Nat.reduceBEq, Nat.reduceBNe, ↓reduceIte, reduceIte, spRc, nxtS] at h; obtain ⟨rfl, rfl, rfl, rfl⟩ := h; refine ⟨?_, Zab ?_⟩
        · first | ((with_reducible refine Ob.mk ?_); first | exact trivial | (intros; omega) | ((repeat' first | apply And.intro | (intro a; have b := a; try simp only [zH] at b)) <;> first | assumption | omega | (simp only [zH]; omega))) | skip
        refine Zdh rfl rfl rfl rfl rfl ?_
        refine Zdh rfl rfl rfl rfl rfl ?_
        refine Zdh rfl rfl rfl rfl rfl ?_
        refine Zdh rfl rfl rfl rfl rfl ?_
        refine Zb9 rfl ?_
        dsimp only [noGd, putE]
        refine Zay htb hmz Za8 fF rfl rfl rfl ?_; intro _ _ _ _ h; simp only [zE, evp, evx, ev1, evLoad, evStore, evBin, Zaa, forall_const, z38, tb, reduceAdd, reduceSub, reduceMul, reduceEqDiff, reduceLeDiff, reduceLT, Nat.reduceBEq, Nat.reduceBNe, ↓reduceIte, reduceIte, spRc, nxtS] at h; obtain ⟨rfl, rfl, rfl, rfl⟩ := h; refine ⟨?_, Zab ?_⟩
        · first | ((with_reducible refine Ob.mk ?_); first | exact trivial | (intros; omega) | ((repeat' first | apply And.intro | (intro a; have b := a; try simp only [zH] at b)) <;> first | assumption | omega | (simp only [zH]; omega))) | skip
        refine Zgo ?_
        repeat' first
          | with_reducible first | apply Zan | apply Zaj | apply Zab | apply Zac | apply Zag | apply Zal | apply Zaf | apply Zah | apply Zam | apply Zao | apply Zak
          | ((with_reducible refine Zap ?_); refine Zai rfl ?_ ?_ <;> intro hb <;> (try simp only [zH] at hb)) | ((with_reducible refine Zaq 11 ?_ ?_); (· exact rfl); (first | refine Zad htb hmz Za8 fF rfl rfl ?_ | refine Zae hmo htb hmz Za8 fF rfl rfl (by kernel_rfl) ?_); intro _ _ _ _ h; simp only [zE, evp, evx, ev1, evLoad, evStore, evBin, Zaa, forall_const, z38, tb, reduceAdd, reduceSub, reduceMul, reduceEqDiff, reduceLeDiff, reduceLT, Nat.reduceBEq, Nat.reduceBNe, ↓reduceIte, reduceIte, spRc, nxtS] at h; obtain ⟨rfl, rfl, rfl, rfl⟩ := h; refine ⟨?_, ?_⟩) | ((with_reducible refine Ob.mk ?_); first | exact trivial | (intros; omega) | ((repeat' first | apply And.intro | (intro a; have b := a; try simp only [zH] at b)) <;> first | assumption | omega | (simp only [zH]; omega)))
        · refine back ⟨L ++ L', j + 1, es2, clk2⟩ [] ?_ ⟨hR3, hM2, ⟨L', rfl⟩, by dsimp only; omega⟩ (by dsimp only; omega)
          (refine ⟨rfl, ?_, ?_⟩ <;> simp only [zE, evp, evx, ev1, evLoad, evStore, evBin, Zaa, forall_const, z38, tb, reduceAdd, reduceSub, reduceMul, reduceEqDiff, reduceLeDiff, reduceLT, Nat.reduceBEq, Nat.reduceBNe, ↓reduceIte, reduceIte, spRc, nxtS, zI])
        · cases hb
      | false =>
        rw [hh] at hhas
        have hni : w ∉ (L ++ L').map Prod.fst := of_decide_eq_false hhas.symm
        refine Zfu ?_
        refine Zb9 rfl ?_
        dsimp only [noGd]
        refine Zay htb hmz Za8 fF rfl rfl rfl ?_; intro _ _ _ _ h; simp only [zE, evp, evx, ev1, evLoad, evStore, evBin, Zaa, forall_const, z38, tb, reduceAdd, reduceSub, reduceMul, reduceEqDiff, reduceLeDiff, reduceLT, Nat.reduceBEq, Nat.reduceBNe, ↓reduceIte, reduceIte, spRc, nxtS] at h; obtain ⟨rfl, rfl, rfl, rfl⟩ := h; refine ⟨?_, Zab ?_⟩
        · first | ((with_reducible refine Ob.mk ?_); first | exact trivial | (intros; omega) | ((repeat' first | apply And.intro | (intro a; have b := a; try simp only [zH] at b)) <;> first | assumption | omega | (simp only [zH]; omega))) | skip
        refine Zb9 rfl ?_
        dsimp only [noGd]
        refine Zay htb hmz Za8 fF rfl rfl rfl ?_; intro _ _ _ _ h; simp only [zE, evp, evx, ev1, evLoad, evStore, evBin, Zaa, forall_const, z38, tb, reduceAdd, reduceSub, reduceMul, reduceEqDiff, reduceLeDiff, reduceLT, Nat.reduceBEq, Nat.reduceBNe, ↓reduceIte, reduceIte, spRc, nxtS] at h; obtain ⟨rfl, rfl, rfl, rfl⟩ := h; refine ⟨?_, Zab ?_⟩
        · first | ((with_reducible refine Ob.mk ?_); first | exact trivial | (intros; omega) | ((repeat' first | apply And.intro | (intro a; have b := a; try simp only [zH] at b)) <;> first | assumption | omega | (simp only [zH]; omega))) | skip
        refine Zcm rfl rfl rfl rfl ?_
        dsimp only [noGd]
        refine Zay htb hmz Za8 fF rfl rfl rfl ?_; intro _ _ _ _ h; simp only [zE, evp, evx, ev1, evLoad, evStore, evBin, Zaa, forall_const, z38, tb, reduceAdd, reduceSub, reduceMul, reduceEqDiff, reduceLeDiff, reduceLT, Nat.reduceBEq, Nat.reduceBNe, ↓reduceIte, reduceIte, spRc, nxtS] at h; obtain ⟨rfl, rfl, rfl, rfl⟩ := h; refine ⟨?_, Zab ?_⟩
        · first | ((with_reducible refine Ob.mk ?_); first | exact trivial | (intros; omega) | ((repeat' first | apply And.intro | (intro a; have b := a; try simp only [zH] at b)) <;> first | assumption | omega | (simp only [zH]; omega))) | skip
        refine Zcm rfl rfl rfl rfl ?_
        dsimp only [noGd]
        refine Zay htb hmz Za8 fF rfl rfl rfl ?_; intro _ _ _ _ h; simp only [zE, evp, evx, ev1, evLoad, evStore, evBin, Zaa, forall_const, z38, tb, reduceAdd, reduceSub, reduceMul, reduceEqDiff, reduceLeDiff, reduceLT, Nat.reduceBEq, Nat.reduceBNe, ↓reduceIte, reduceIte, spRc, nxtS] at h; obtain ⟨rfl, rfl, rfl, rfl⟩ := h; refine ⟨?_, Zab ?_⟩
        · first | ((with_reducible refine Ob.mk ?_); first | exact trivial | (intros; omega) | ((repeat' first | apply And.intro | (intro a; have b := a; try simp only [zH] at b)) <;> first | assumption | omega | (simp only [zH]; omega))) | skip
        refine Zcm rfl rfl rfl rfl ?_
        dsimp only [noGd]
        refine Zbg ([]) (hT1) rfl rfl rfl rfl rfl rfl rfl rfl rfl (by simp only [rinR, rhoC, zE, evp, evx, ev1, evLoad, evStore, evBin, Zaa, forall_const, z38, tb, reduceAdd, reduceSub, reduceMul, reduceEqDiff, reduceLeDiff, reduceLT, Nat.reduceBEq, Nat.reduceBNe, ↓reduceIte, reduceIte, spRc, nxtS]) ?_; intro gm gv gr hq m' e' l' h; simp only [GR.mk.injEq] at hq; obtain ⟨rfl, rfl, rfl⟩ := hq; simp only [rhoC, outR, renR, dels, zE, evp, evx, ev1, evLoad, evStore, evBin, Zaa, forall_const, z38, tb, reduceAdd, reduceSub, reduceMul, reduceEqDiff, reduceLeDiff, reduceLT, Nat.reduceBEq, Nat.reduceBNe, ↓reduceIte, reduceIte, spRc, nxtS] at h; obtain ⟨rfl, rfl, rfl⟩ := h; refine Zab ?_
        refine Zcm rfl rfl rfl rfl ?_
        dsimp only [noGd]
        refine Zay htb hmz Za8 fF rfl rfl rfl ?_; intro _ _ _ _ h; simp only [zE, evp, evx, ev1, evLoad, evStore, evBin, Zaa, forall_const, z38, tb, reduceAdd, reduceSub, reduceMul, reduceEqDiff, reduceLeDiff, reduceLT, Nat.reduceBEq, Nat.reduceBNe, ↓reduceIte, reduceIte, spRc, nxtS] at h; obtain ⟨rfl, rfl, rfl, rfl⟩ := h; refine ⟨?_, Zab ?_⟩
        · first | ((with_reducible refine Ob.mk ?_); first | exact trivial | (intros; omega) | ((repeat' first | apply And.intro | (intro a; have b := a; try simp only [zH] at b)) <;> first | assumption | omega | (simp only [zH]; omega))) | skip
        refine Zb9 rfl ?_
        dsimp only [noGd, putE]
        refine Zay htb hmz Za8 fF rfl rfl rfl ?_; intro _ _ _ _ h; simp only [zE, evp, evx, ev1, evLoad, evStore, evBin, Zaa, forall_const, z38, tb, reduceAdd, reduceSub, reduceMul, reduceEqDiff, reduceLeDiff, reduceLT, Nat.reduceBEq, Nat.reduceBNe, ↓reduceIte, reduceIte, spRc, nxtS] at h; obtain ⟨rfl, rfl, rfl, rfl⟩ := h; refine ⟨?_, Zab ?_⟩
        · first | ((with_reducible refine Ob.mk ?_); first | exact trivial | (intros; omega) | ((repeat' first | apply And.intro | (intro a; have b := a; try simp only [zH] at b)) <;> first | assumption | omega | (simp only [zH]; omega))) | skip
        refine Zgo ?_
        repeat' first
          | with_reducible first | apply Zan | apply Zaj | apply Zab | apply Zac | apply Zag | apply Zal | apply Zaf | apply Zah | apply Zam | apply Zao | apply Zak
          | ((with_reducible refine Zap ?_); refine Zai rfl ?_ ?_ <;> intro hb <;> (try simp only [zH] at hb)) | ((with_reducible refine Zaq 11 ?_ ?_); (· exact rfl); (first | refine Zad htb hmz Za8 fF rfl rfl ?_ | refine Zae hmo htb hmz Za8 fF rfl rfl (by kernel_rfl) ?_); intro _ _ _ _ h; simp only [zE, evp, evx, ev1, evLoad, evStore, evBin, Zaa, forall_const, z38, tb, reduceAdd, reduceSub, reduceMul, reduceEqDiff, reduceLeDiff, reduceLT, Nat.reduceBEq, Nat.reduceBNe, ↓reduceIte, reduceIte, spRc, nxtS] at h; obtain ⟨rfl, rfl, rfl, rfl⟩ := h; refine ⟨?_, ?_⟩) | ((with_reducible refine Ob.mk ?_); first | exact trivial | (intros; omega) | ((repeat' first | apply And.intro | (intro a; have b := a; try simp only [zH] at b)) <;> first | assumption | omega | (simp only [zH]; omega)))
        · have hth : ¬ th w = true := by rw [hb]; decide
          have hR3 := RQ_skip hR2 hu2 hjw (.inr hth)
          refine back ⟨L ++ L', j + 1, es2, clk2⟩ [] ?_ ⟨hR3, hM2, ⟨L', rfl⟩, by dsimp only; omega⟩ (by dsimp only; omega)
          (refine ⟨rfl, ?_, ?_⟩ <;> simp only [zE, evp, evx, ev1, evLoad, evStore, evBin, Zaa, forall_const, z38, tb, reduceAdd, reduceSub, reduceMul, reduceEqDiff, reduceLeDiff, reduceLT, Nat.reduceBEq, Nat.reduceBNe, ↓reduceIte, reduceIte, spRc, nxtS, zI])
        · have hth : th w = true := hb
          have hR3 := RQ_add hR2 hu2 hjw hwn hni hth
          have hM3 := MQ_put (u := u) (c := clk2) hM2 hni
          have hq3 : Zb4 ((qF fr (L ++ L')).drop (i + 1)) ++ [(w : Int)] = Zb4 ((qF fr (L ++ L' ++ [(w, u)])).drop (i + 1)) := by
            rw [Zf3, List.drop_append_of_le_length (by simp [qF]; simp [qF] at hi; omega)]
            unfold Zb4
            rw [List.map_append]; rfl
          repeat' first
            | with_reducible first | apply Zan | apply Zaj | apply Zab | apply Zac | apply Zag | apply Zal | apply Zaf | apply Zah | apply Zam | apply Zao | apply Zak
            | ((with_reducible refine Zap ?_); refine Zai rfl ?_ ?_ <;> intro hb <;> (try simp only [zH] at hb)) | ((with_reducible refine Zaq 12 ?_ ?_); (· exact rfl); (first | refine Zad htb hmz Za8 fF rfl rfl ?_ | refine Zae hmo htb hmz Za8 fF rfl rfl (by kernel_rfl) ?_); intro _ _ _ _ h; simp only [zE, evp, evx, ev1, evLoad, evStore, evBin, Zaa, forall_const, z38, tb, reduceAdd, reduceSub, reduceMul, reduceEqDiff, reduceLeDiff, reduceLT, Nat.reduceBEq, Nat.reduceBNe, ↓reduceIte, reduceIte, spRc, nxtS] at h; obtain ⟨rfl, rfl, rfl, rfl⟩ := h; refine ⟨?_, ?_⟩) | ((with_reducible refine Ob.mk ?_); first | exact trivial | (intros; omega) | ((repeat' first | apply And.intro | (intro a; have b := a; try simp only [zH] at b)) <;> first | assumption | omega | (simp only [zH]; omega)))
          repeat' first
            | with_reducible first | apply Zan | apply Zaj | apply Zab | apply Zac | apply Zag | apply Zal | apply Zaf | apply Zah | apply Zam | apply Zao | apply Zak
            | ((with_reducible refine Zap ?_); refine Zai rfl ?_ ?_ <;> intro hb <;> (try simp only [zH] at hb)) | ((with_reducible refine Zax ?_); (first | refine Zad htb hmz Za8 fF rfl rfl ?_ | refine Zae hmo htb hmz Za8 fF rfl rfl (by kernel_rfl) ?_); intro _ _ _ _ h; simp only [zE, evp, evx, ev1, evLoad, evStore, evBin, Zaa, forall_const, z38, tb, reduceAdd, reduceSub, reduceMul, reduceEqDiff, reduceLeDiff, reduceLT, Nat.reduceBEq, Nat.reduceBNe, ↓reduceIte, reduceIte, spRc, nxtS] at h; obtain ⟨rfl, rfl, rfl, rfl⟩ := h; refine ⟨?_, ?_⟩) | ((with_reducible refine Ob.mk ?_); first | exact trivial | (intros; omega) | ((repeat' first | apply And.intro | (intro a; have b := a; try simp only [zH] at b)) <;> first | assumption | omega | (simp only [zH]; omega)))
          refine back ⟨L ++ L' ++ [(w, u)], j + 1, mput w u clk2 es2, mclk w clk2 es2⟩ [(15, 47)] ?_ ⟨hR3, hM3, ⟨L' ++ [(w, u)], by simp⟩, by dsimp only; omega⟩ (by dsimp only; omega)
          (refine ⟨rfl, ?_, ?_⟩ <;> simp only [zE, evp, evx, ev1, evLoad, evStore, evBin, Zaa, forall_const, z38, tb, reduceAdd, reduceSub, reduceMul, reduceEqDiff, reduceLeDiff, reduceLT, Nat.reduceBEq, Nat.reduceBNe, ↓reduceIte, reduceIte, spRc, nxtS, zI])
          exact hq3
    have hje : j = rw.length := by omega
    subst hje
    have hR4 := RQ_next hR2 hu2 (by rw [hxl2]; exact Nat.le_refl _)
    have hLn3 := Zjw hR4
    have hi3 := hR4.hi
    rw [Zhf] at hi3
    refine back ⟨L ++ L', i + 1, es2, clk2⟩ [(5, 15)] ?_ ⟨hR4, hM2⟩ (by dsimp only; omega)
    (refine ⟨rfl, ?_, ?_⟩ <;> simp only [zE, evp, evx, ev1, evLoad, evStore, evBin, Zaa, forall_const, z38, tb, reduceAdd, reduceSub, reduceMul, reduceEqDiff, reduceLeDiff, reduceLT, Nat.reduceBEq, Nat.reduceBNe, ↓reduceIte, reduceIte, spRc, nxtS, zI])
  have hie : i = (qF fr L).length := by have := hR.hi; omega
  subst hie
  repeat' first
    | with_reducible first | apply Zan | apply Zaj | apply Zab | apply Zac | apply Zag | apply Zal | apply Zaf | apply Zah | apply Zam | apply Zao | apply Zak
    | ((with_reducible refine Zap ?_); refine Zai rfl ?_ ?_ <;> intro hb <;> (try simp only [zH] at hb)) | ((with_reducible refine Zax ?_); (first | refine Zad htb hmz Za8 fF rfl rfl ?_ | refine Zae hmo htb hmz Za8 fF rfl rfl (by kernel_rfl) ?_); intro _ _ _ _ h; simp only [zE, evp, evx, ev1, evLoad, evStore, evBin, Zaa, forall_const, z38, tb, reduceAdd, reduceSub, reduceMul, reduceEqDiff, reduceLeDiff, reduceLT, Nat.reduceBEq, Nat.reduceBNe, ↓reduceIte, reduceIte, spRc, nxtS] at h; obtain ⟨rfl, rfl, rfl, rfl⟩ := h; refine ⟨?_, ?_⟩) | ((with_reducible refine Ob.mk ?_); first | exact trivial | (intros; omega) | ((repeat' first | apply And.intro | (intro a; have b := a; try simp only [zH] at b)) <;> first | assumption | omega | (simp only [zH]; omega)))
  refine Zav rfl rfl (Zee ⟨1, .own 0, [(0, some (.mp es clk))]⟩ [(0, 2)] ⟨L, es, clk, ⟨hR, hM⟩, rfl⟩ rfl (Zcb rfl) ?_)
  simp only [grR, zE, evp, evx, ev1, evLoad, evStore, evBin, Zaa, forall_const, z38, tb, reduceAdd, reduceSub, reduceMul, reduceEqDiff, reduceLeDiff, reduceLT, Nat.reduceBEq, Nat.reduceBNe, ↓reduceIte, reduceIte, spRc, nxtS]
section
open Pl
def ctT (F : List Bool) : Nat := F.countP id
theorem Zjc : ∀ {F : List Bool} {v : Nat}, F.getD v false = true → ctT (F.set v false) + 1 = ctT F
  | [], v, h => by cases v <;> cases h
  | b :: F, 0, h => by
    have h : b = true := h
    subst h
    simp [ctT]
  | b :: F, v + 1, h => by
    have h : F.getD v false = true := h
    have := Zjc h
    simp only [ctT, List.set_cons_succ, List.countP_cons] at this ⊢
    omega
theorem Zkm {F : List Bool} : ctT F ≤ F.length := List.countP_le_length
theorem getT {F : List Bool} {v u : Nat} {b : Bool} : (F.set v b).getD u false = if u = v ∧ v < F.length then b else F.getD u false := by
  simp only [List.getD_eq_getElem?_getD, List.getElem?_set]
  by_cases h : v = u
  · subst h
    by_cases h2 : v < F.length
    · simp [h2]
    · simp [h2]
  · rw [if_neg h, if_neg (fun h2 => h h2.1.symm)]
variable {E : Nat → Nat → Prop} {n b w : Nat} {O0 O : List Bool} {Q : List Nat}
def BC (E : Nat → Nat → Prop) (n : Nat) (O : List Bool) : Prop := ∀ u, u < n → O.getD u false = false → ∀ t, t < n → E t u → O.getD t false = false
structure WQ (E : Nat → Nat → Prop) (n b : Nat) (O0 O : List Bool) (Q : List Nat) : Prop where
  len : O.length = n
  a : ∀ u, u < n → O.getD u false = false → O0.getD u false = false ∨ Rch E u b
  q : ∀ u, u ∈ Q → u < n ∧ Rch E u b
  p : ∀ u, u < n → O.getD u false = false → ∀ t, t < n → E t u → O.getD t false = false ∨ t ∈ Q
  b : O.getD b false = false ∨ b ∈ Q
  s : ∀ u, u < n → O0.getD u false = false → O.getD u false = false
  bd : Q.length + ctT O * (64 * n) ≤ 1 + n * (64 * n)
theorem WQ_first (hO : O0.length = n) (hb : b < n) (hc : BC E n O0) : WQ E n b O0 O0 [b] := by
  refine ⟨hO, fun u _ h => .inl h, fun u hu => ?_, fun u hu h t ht he => .inl (hc u hu h t ht he), .inr (by simp), fun u _ h => h, ?_⟩
  · rw [List.mem_singleton.1 hu]; exact ⟨hb, .refl _⟩
  · have h1 : ctT O0 ≤ n := hO ▸ Zkm
    have := Nat.mul_le_mul_right (64 * n) h1
    rw [List.length_singleton]
    omega
theorem WQ_pop (h : WQ E n b O0 O (w :: Q)) (hw : O.getD w false = false) : WQ E n b O0 O Q := by
  refine ⟨h.len, h.a, fun u hu => h.q u (List.mem_cons_of_mem _ hu), fun u hu hf t ht he => ?_, ?_, h.s, ?_⟩
  · rcases h.p u hu hf t ht he with h1 | h1
    · exact .inl h1
    · rcases List.mem_cons.1 h1 with rfl | h1
      · exact .inl hw
      · exact .inr h1
  · rcases h.b with h1 | h1
    · exact .inl h1
    · rcases List.mem_cons.1 h1 with rfl | h1
      · exact .inl hw
      · exact .inr h1
  · have := h.bd
    rw [List.length_cons] at this
    omega
theorem WQ_take {A : List Nat} (h : WQ E n b O0 O (w :: Q)) (hw : O.getD w false = true) (hA : ∀ t, t ∈ A ↔ t < n ∧ E t w) (hl : A.length ≤ 64 * n) : WQ E n b O0 (O.set w false) (Q ++ A) := by
  obtain ⟨hwn, hwb⟩ := h.q w List.mem_cons_self
  have hwl : w < O.length := by rw [h.len]; exact hwn
  have hg : ∀ u, (O.set w false).getD u false = if u = w then false else O.getD u false := fun u => by
    rw [getT]
    by_cases e : u = w
    · rw [if_pos ⟨e, hwl⟩, if_pos e]
    · rw [if_neg (fun h => e h.1), if_neg e]
  refine ⟨by rw [List.length_set, h.len], fun u hu hf => ?_, fun u hu => ?_, fun u hu hf t ht he => ?_, ?_, fun u hu hf => ?_, ?_⟩
  · rw [hg] at hf
    by_cases e : u = w
    · subst e; exact .inr hwb
    · rw [if_neg e] at hf; exact h.a u hu hf
  · rcases List.mem_append.1 hu with hu | hu
    · exact h.q u (List.mem_cons_of_mem _ hu)
    · obtain ⟨h1, h2⟩ := (hA u).1 hu
      exact ⟨h1, Rch.cons h2 hwb⟩
  · rw [hg] at hf ⊢
    by_cases e : t = w
    · rw [if_pos e]; exact .inl rfl
    rw [if_neg e]
    by_cases e2 : u = w
    · subst e2
      exact .inr (List.mem_append_right _ ((hA t).2 ⟨ht, he⟩))
    · rw [if_neg e2] at hf
      rcases h.p u hu hf t ht he with h1 | h1
      · exact .inl h1
      · rcases List.mem_cons.1 h1 with h1 | h1
        · exact absurd h1 e
        · exact .inr (List.mem_append_left _ h1)
  · rw [hg]
    by_cases e : b = w
    · rw [if_pos e]; exact .inl rfl
    · rw [if_neg e]
      rcases h.b with h1 | h1
      · exact .inl h1
      · rcases List.mem_cons.1 h1 with h1 | h1
        · exact absurd h1 e
        · exact .inr (List.mem_append_left _ h1)
  · rw [hg]
    by_cases e : u = w
    · rw [if_pos e]
    · rw [if_neg e]; exact h.s u hu hf
  · have h1 := h.bd
    have h2 := Zjc hw
    rw [← h2, Nat.succ_mul, List.length_cons] at h1
    rw [List.length_append]
    omega
theorem WQ_end (h : WQ E n b O0 O []) (hE : ∀ u t, u < n → E u t → t < n) (hb : b < n) (u : Nat) (hu : u < n) : O.getD u false = false ↔ O0.getD u false = false ∨ Rch E u b := by
  constructor
  · exact h.a u hu
  · rintro (h1 | h1)
    · exact h.s u hu h1
    · -- backwards from b
      have key : ∀ {s t : Nat}, Rch E s t → s < n → t < n ∧ (O.getD t false = false → O.getD s false = false) := by
        intro s t hr
        induction hr with
        | refl => exact fun hs => ⟨hs, fun h => h⟩
        | step hr e ih =>
          intro hs
          obtain ⟨i1, i2⟩ := ih hs
          have ht := hE _ _ i1 e
          refine ⟨ht, fun h2 => i2 ?_⟩
          rcases h.p _ ht h2 _ i1 e with h3 | h3
          · exact h3
          · cases h3
      have hb0 : O.getD b false = false := by
        rcases h.b with h2 | h2
        · exact h2
        · cases h2
      exact (key h1 hu).2 hb0
open Classical in
noncomputable def wnX (E : Nat → Nat → Prop) (n : Nat) (B : List Nat) (i : Nat) : List Bool := (List.range n).map fun v => decide (¬ ∃ j, j < i ∧ Rch E v (B.getD j 0))
theorem Zgp {B : List Nat} {i : Nat} : (wnX E n B i).length = n := by simp [wnX]
theorem Zgq {B : List Nat} {i v : Nat} (hv : v < n) : (wnX E n B i).getD v false = false ↔ ∃ j, j < i ∧ Rch E v (B.getD j 0) := by
  simp [wnX, List.getD_eq_getElem?_getD, hv]
theorem wnX_zero {B : List Nat} : wnX E n B 0 = List.replicate n true := by
  refine List.ext_getElem (by simp [wnX]) fun j h1 h2 => ?_
  simp [wnX]
theorem wnX_bc (hE : ∀ u t, u < n → E u t → t < n) {B : List Nat} {i : Nat} : BC E n (wnX E n B i) := by
  intro u hu hf t ht he
  obtain ⟨j, h1, h2⟩ := (Zgq hu).1 hf
  exact (Zgq ht).2 ⟨j, h1, Rch.cons he h2⟩
theorem wnX_next {B : List Nat} {i : Nat} (h : WQ E n (B.getD i 0) (wnX E n B i) O []) (hE : ∀ u t, u < n → E u t → t < n) (hb : B.getD i 0 < n) : O = wnX E n B (i + 1) := by
  refine List.ext_getElem (by rw [h.len, Zgp]) fun u h1 h2 => ?_
  rw [Zgp] at h2
  have g1 : ∀ {F : List Bool} (hj : u < F.length), F[u] = F.getD u false := fun hj => by rw [List.getD_eq_getElem?_getD, List.getElem?_eq_getElem hj]; rfl
  rw [g1 h1, g1 (by rw [Zgp]; exact h2)]
  have e1 := WQ_end h hE hb u h2
  rw [Zgq h2] at e1
  have e2 := Zgq (E := E) (B := B) (i := i + 1) h2
  have : O.getD u false = false ↔ (wnX E n B (i + 1)).getD u false = false := by
    rw [e1, e2]
    constructor
    · rintro (⟨j, h3, h4⟩ | h3)
      · exact ⟨j, by omega, h4⟩
      · exact ⟨i, by omega, h3⟩
    · rintro ⟨j, h3, h4⟩
      rcases Nat.lt_succ_iff_lt_or_eq.1 h3 with h5 | rfl
      · exact .inl ⟨j, h5, h4⟩
      · exact .inr h4
  cases e3 : O.getD u false with
  | false => exact (this.1 e3).symm
  | true =>
    cases e4 : (wnX E n B (i + 1)).getD u false with
    | true => rfl
    | false => rw [this.2 e4] at e3; cases e3
end
section
open Pl
theorem ctT_up : ∀ {F : List Bool} {v : Nat}, v < F.length → F.getD v false = false → ctT (F.set v true) = ctT F + 1
  | [], v, h, _ => by cases h
  | b :: F, 0, _, h => by
    have h : b = false := h
    subst h
    simp [ctT]
  | b :: F, v + 1, hl, h => by
    have h : F.getD v false = false := h
    have := ctT_up (by simpa using hl) h
    simp only [ctT, List.set_cons_succ, List.countP_cons] at this ⊢
    omega
def alR (o : List Int) (x : List (List Int)) (pl : Int) (v : Nat) : List Int := if o.getD v 0 = pl then [] else (x.getD v []).filter fun w => decide (o.getD w.toNat 0 ≠ pl)
def alY (o : List Int) (x : List (List Int)) (pl : Int) : List (List Int) := (List.range o.length).map (alR o x pl)
def alE (o : List Int) (x : List (List Int)) (pl : Int) (a b : Nat) : Prop := b ∈ (alR o x pl a).map Int.toNat
def alBs (o p : List Int) (x : List (List Int)) (pl : Int) (v : Nat) : Prop := (o.getD v 0 ≠ pl ∧ p.getD v 0 % 2 ≠ pl) ∧ Cyc (alE o x pl) (fun v => p.getD v 0) v
open Classical in
noncomputable def alLs (o p : List Int) (x : List (List Int)) (pl : Int) : List Bool := (List.range o.length).map fun v => decide (∃ u, u < o.length ∧ alBs o p x pl u ∧ Rch (alE o x pl) v u)
open Classical in
noncomputable def alO (o p : List Int) (x : List (List Int)) (pl : Int) : List Bool := (List.range o.length).map fun v => decide (alBs o p x pl v)
theorem Zji {o : List Int} {x : List (List Int)} {pl : Int} : (alY o x pl).length = o.length := by simp [alY]
theorem Zfv {o p : List Int} {x : List (List Int)} {pl : Int} : (alLs o p x pl).length = o.length := by simp [alLs]
theorem Zjk {o p : List Int} {x : List (List Int)} {pl : Int} : (alO o p x pl).length = o.length := by simp [alO]
theorem Zjj {o : List Int} {x : List (List Int)} {pl : Int} {v : Nat} (hv : v < o.length) : (alY o x pl).getD v [] = alR o x pl v := by simp [alY, List.getD_eq_getElem?_getD, hv]
theorem alO_iff {o p : List Int} {x : List (List Int)} {pl : Int} {v : Nat} (hv : v < o.length) : (alO o p x pl).getD v false = true ↔ alBs o p x pl v := by
  simp [alO, List.getD_eq_getElem?_getD, hv]
theorem Zez {o p : List Int} {x : List (List Int)} {pl : Int} {v : Nat} (hv : v < o.length) : (alLs o p x pl).getD v false = true ↔ ∃ u, u < o.length ∧ alBs o p x pl u ∧ Rch (alE o x pl) v u := by
  simp [alLs, List.getD_eq_getElem?_getD, hv]
theorem alR_len {o : List Int} {x : List (List Int)} {pl : Int} {v : Nat} : (alR o x pl v).length ≤ (x.getD v []).length := by
  unfold alR
  split
  · exact Nat.zero_le _
  · exact List.length_filter_le ..
theorem alR_mem {o : List Int} {x : List (List Int)} {pl : Int} {v : Nat} {w : Int} : w ∈ alR o x pl v ↔ o.getD v 0 ≠ pl ∧ w ∈ x.getD v [] ∧ o.getD w.toNat 0 ≠ pl := by
  unfold alR
  split
  · rename_i h
    constructor
    · intro h2; cases h2
    · rintro ⟨h2, _⟩; exact absurd h h2
  · rename_i h
    rw [List.mem_filter, decide_eq_true_eq]
    exact ⟨fun h2 => ⟨h, h2⟩, fun h2 => h2.2⟩
structure AlI (E : Nat → Nat → Prop) (n : Nat) (Bs : Nat → Prop) (O : List Bool) : Prop where
  len : O.length = n
  base : ∀ v, v < n → Bs v → O.getD v false = true
  snd : ∀ v, O.getD v false = true → ∃ u, u < n ∧ Bs u ∧ Rch E v u
variable {E : Nat → Nat → Prop} {n : Nat} {Bs : Nat → Prop} {O O0 : List Bool}
theorem AlI_set (h : AlI E n Bs O) {v w : Nat} (he : E v w) (hw : O.getD w false = true) : AlI E n Bs (O.set v true) := by
  refine ⟨by rw [List.length_set]; exact h.len, fun u hu hb => ?_, fun u hu => ?_⟩
  · rw [getT]
    split
    · rfl
    · exact h.base u hu hb
  · rw [getT] at hu
    split at hu
    · rename_i e
      obtain ⟨z, h1, h2, h3⟩ := h.snd w hw
      rw [e.1]
      exact ⟨z, h1, h2, (Rch.one he).trans h3⟩
    · exact h.snd u hu
theorem AlI_done {o p : List Int} {x : List (List Int)} {pl : Int} (h : AlI (alE o x pl) o.length (alBs o p x pl) O) (hc : ∀ v w, v < o.length → alE o x pl v w → O.getD w false = true → O.getD v false = true) (hE : ∀ v w, v < o.length → alE o x pl v w → w < o.length) : O = alLs o p x pl := by
  refine List.ext_getElem (by rw [h.len, Zfv]) fun v h1 h2 => ?_
  rw [h.len] at h1
  have e1 : O[v]'(by rw [h.len]; exact h1) = O.getD v false := by simp [List.getD_eq_getElem?_getD, h.len, h1]
  have e2 : (alLs o p x pl)[v]'h2 = (alLs o p x pl).getD v false := by simp only [List.getD_eq_getElem?_getD, List.getElem?_eq_getElem h2, Option.getD_some]
  rw [e1, e2]
  refine Bool.eq_iff_iff.2 ?_
  rw [Zez h1]
  constructor
  · exact h.snd v
  · rintro ⟨u, hu, hb, hr⟩
    have hlt : ∀ z, Rch (alE o x pl) v z → z < o.length := fun z hz => Rch.closed (C := fun a => a < o.length) (fun a b ha he => hE a b ha he) hz h1
    have : ∀ z, Rch (alE o x pl) v z → O.getD z false = true → O.getD v false = true := by
      intro z hz
      induction hz with
      | refl => exact fun h => h
      | step hz' he ih => exact fun ho => ih (hc _ _ (hlt _ hz') he ho)
    exact this u hr (h.base u hu hb)
structure AlP (D : Nat → Nat → Prop) (O0 O : List Bool) (c : Bool) : Prop where
  a : c = false → O = O0 ∧ ∀ v w, D v w → O.getD w false = true → O.getD v false = true
  b : c = true → ctT O0 < ctT O
def alD (y : List (List Int)) (i j : Nat) (v w : Nat) : Prop := (v < i ∧ (w : Int) ∈ y.getD v []) ∨ (v = i ∧ (w : Int) ∈ (y.getD i []).take j)
theorem AlP_first {y : List (List Int)} : AlP (alD y 0 0) O0 O0 false := by
  refine ⟨fun _ => ⟨rfl, ?_⟩, fun h => by cases h⟩
  rintro v w (⟨h, _⟩ | ⟨_, h⟩)
  · omega
  · rw [List.take_zero] at h; cases h
theorem AlP_skip {y : List (List Int)} {c : Bool} {i j : Nat} (h : AlP (alD y i j) O0 O c) (hj : j < (y.getD i []).length) (hw : O.getD ((y.getD i []).getD j 0).toNat false = true → O.getD i false = true) : AlP (alD y i (j + 1)) O0 O c := by
  refine ⟨fun hc => ⟨(h.a hc).1, ?_⟩, h.b⟩
  rintro v w (h1 | ⟨rfl, h1⟩) hO
  · exact (h.a hc).2 v w (.inl h1) hO
  · rw [Zhb (d := 0) hj, List.mem_append] at h1
    rcases h1 with h1 | h1
    · exact (h.a hc).2 _ w (.inr ⟨rfl, h1⟩) hO
    · rw [List.mem_singleton] at h1
      refine hw ?_
      rw [← h1, Int.toNat_natCast]; exact hO
theorem AlP_set {D D' : Nat → Nat → Prop} {c : Bool} {v : Nat} (h : AlP D O0 O c) (hv : v < O.length) (hf : O.getD v false = false) : AlP D' O0 (O.set v true) true := by
  refine ⟨(fun h => by cases h), fun _ => ?_⟩
  rw [ctT_up hv hf]
  cases c with
  | true => exact Nat.lt_succ_of_lt (h.b rfl)
  | false => rw [(h.a rfl).1]; exact Nat.lt_succ_self _
theorem AlP_next {y : List (List Int)} {c : Bool} {i j : Nat} (h : AlP (alD y i j) O0 O c) (hj : (y.getD i []).length ≤ j) : AlP (alD y (i + 1) 0) O0 O c := by
  refine ⟨fun hc => ⟨(h.a hc).1, ?_⟩, h.b⟩
  rintro v w (⟨h1, h2⟩ | ⟨_, h2⟩) hO
  · rcases Nat.lt_succ_iff_lt_or_eq.1 h1 with h3 | rfl
    · exact (h.a hc).2 v w (.inl ⟨h3, h2⟩) hO
    · exact (h.a hc).2 _ w (.inr ⟨rfl, by rw [List.take_of_length_le hj]; exact h2⟩) hO
  · rw [List.take_zero] at h2; cases h2
end
end Go.Proofs.Ytbcghiagomkadaa.Cal
