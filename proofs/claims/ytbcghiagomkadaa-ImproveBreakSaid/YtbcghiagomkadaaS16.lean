/- Own texts of the proof, merged, in order. -/
import Derived.Test.YtbcghiagomkadaaS15
set_option linter.unusedVariables false
set_option linter.unusedSimpArgs false
namespace Go.Proofs.Ytbcghiagomkadaa.Cal
open Go Pl
open Classical in
/-- Whether a list is a full strategy. -/
noncomputable def fullB (g : Gm) (pl : Int) (c : List Int) : Bool := decide (c.length = g.own.length ∧ ∀ v, v < g.own.length → (g.own.getD v 0 = pl → c.getD v 0 ∈ g.nxt.getD v []) ∧ (g.own.getD v 0 ≠ pl → c.getD v 0 = -1))
noncomputable def fullS : Spec
  | [.agg (.cons (.roI o) (.cons (.roI p) (.cons (.roII x) .nil))), .int .i64 pl, .roI c] => some ⟨validB ⟨o, p, x⟩ = true, .bool (fullB ⟨o, p, x⟩ pl c), none⟩
  | _ => none
noncomputable def spFu : Nat → Option Spec
  | 34 => some hasS
  | _ => none
theorem Zcn : SpOK Try.prog spFu := by
  intro f S h
  unfold spFu at h
  split at h
  · cases h; exact has13_ok
  · cases h
set_option maxRecDepth 4000 in
set_option maxHeartbeats 4000000 in
theorem full_ok : FSpec Try.prog 14 fullS := by
  refine Zba htb (fn := Try.f14) (by kernel_rfl) (by kernel_rfl) rfl (fun args r hS => ?_) (fun args r hS hob hl => ?_)
  · unfold fullS at hS; split at hS <;> first | (cases hS; done) | (cases hS; exact Nat.le_of_ble_eq_true rfl)
  unfold fullS at hS
  split at hS
  case h_2 => cases hS
  rename_i o p x pl c
  simp only [Option.some.injEq] at hS
  subst hS
  simp only [lenP, mkL, lim] at hl
  dsimp only at hob
  have hG := gok (validB_iff.1 hob)
  have hpl : p.length = o.length := hG.pl
  have hxl : x.length = o.length := hG.xl
  have hn : o.length ≤ 20000 := hG.n
  have hno : ∀ v, v < o.length → ¬ ((o.getD v 0 = pl → c.getD v 0 ∈ x.getD v []) ∧ (o.getD v 0 ≠ pl → c.getD v 0 = -1)) → fullB ⟨o, p, x⟩ pl c = false := fun v hv h => decide_eq_false fun h2 => h (h2.2 v hv)
  repeat' first
    | with_reducible first | refine Zas ?_ | refine Zao ?_ | refine Zac ?_ | refine Zad ?_ | refine Zai ?_ | refine Zaq ?_ | refine Zah ?_ | refine Zak ?_ | refine Zar ?_ | refine Zat ?_ | refine Zap ?_ | refine Zam ?_ | refine Zaa ?_ | refine Zae ?_ | refine Zab ?_ | refine Zal ?_
    | ((with_reducible refine Zaj ?_ ?_); exact rfl)
    | ((with_reducible refine Zau ?_); refine Zan rfl ?_ ?_ <;> intro hb <;> (try simp only [zH] at hb))
    | ((with_reducible refine Zav 2 ?_ ?_); (· exact rfl); (with_reducible refine Zav 3 ?_ ?_); (· exact rfl); (first | refine Zaf htb hmz Zcn (fun _ => false) rfl rfl ?_ | refine Zag hmo htb hmz Zcn (fun _ => false) rfl rfl (by kernel_rfl) ?_); intro m' e' l' ob h; simp only [zE0, zE1, zE2, zE3, zE4, zE5, evp, evx, ev1, evLoad, evStore, evBin, isBoolK, forall_const, z38, tb, Nat.reduceAdd, Nat.reduceSub, Nat.reduceMul, Nat.reduceEqDiff, Nat.reduceLeDiff, Nat.reduceLT, Nat.reduceBEq, Nat.reduceBNe, ↓reduceIte, reduceIte, spFu, hasS] at h; obtain ⟨rfl, rfl, rfl, rfl⟩ := h; refine ⟨?_, ?_⟩)
    | ((with_reducible refine Ob.mk ?_); first | exact trivial | (intros; omega) | ((repeat' first | apply And.intro | (intro hg; have hg' := hg; try simp only [zH] at hg')) <;> first | assumption | omega | (simp only [zH]; omega)))
  · have hcb : fullB ⟨o, p, x⟩ pl c = false := decide_eq_false fun h => by
      have h1 : c.length = o.length := h.1
      omega
    repeat' first
      | with_reducible first | refine Zas ?_ | refine Zao ?_ | refine Zac ?_ | refine Zad ?_ | refine Zai ?_ | refine Zaq ?_ | refine Zah ?_ | refine Zak ?_ | refine Zar ?_ | refine Zat ?_ | refine Zap ?_ | refine Zam ?_ | refine Zaa ?_ | refine Zae ?_ | refine Zab ?_ | refine Zal ?_
      | ((with_reducible refine Zaj ?_ ?_); exact rfl)
      | ((with_reducible refine Zau ?_); refine Zan rfl ?_ ?_ <;> intro hb <;> (try simp only [zH] at hb))
      | ((with_reducible refine Za0 ?_); (first | refine Zaf htb hmz Zcn (fun _ => false) rfl rfl ?_ | refine Zag hmo htb hmz Zcn (fun _ => false) rfl rfl (by kernel_rfl) ?_); intro m' e' l' ob h; simp only [zE0, zE1, zE2, zE3, zE4, zE5, evp, evx, ev1, evLoad, evStore, evBin, isBoolK, forall_const, z38, tb, Nat.reduceAdd, Nat.reduceSub, Nat.reduceMul, Nat.reduceEqDiff, Nat.reduceLeDiff, Nat.reduceLT, Nat.reduceBEq, Nat.reduceBNe, ↓reduceIte, reduceIte, spFu, hasS] at h; obtain ⟨rfl, rfl, rfl, rfl⟩ := h; refine ⟨?_, ?_⟩)
      | ((with_reducible refine Ob.mk ?_); first | exact trivial | (intros; omega) | ((repeat' first | apply And.intro | (intro hg; have hg' := hg; try simp only [zH] at hg')) <;> first | assumption | omega | (simp only [zH]; omega)))
    refine Zay rfl rfl (Zaw rfl ?_ rfl)
    rw [hcb]; rfl
  have hcl : c.length = o.length := by omega
  clear hb
  have hrl : ∀ v, v < o.length → (x.getD v []).length ≤ 64 := fun v h => (hG.len v h).2
  repeat' first
    | with_reducible first | refine Zas ?_ | refine Zao ?_ | refine Zac ?_ | refine Zad ?_ | refine Zai ?_ | refine Zaq ?_ | refine Zah ?_ | refine Zak ?_ | refine Zar ?_ | refine Zat ?_ | refine Zap ?_ | refine Zam ?_ | refine Zaa ?_ | refine Zae ?_ | refine Zab ?_ | refine Zal ?_
    | ((with_reducible refine Zaj ?_ ?_); exact rfl)
    | ((with_reducible refine Zau ?_); refine Zan rfl ?_ ?_ <;> intro hb <;> (try simp only [zH] at hb))
    | ((with_reducible refine Za0 ?_); (first | refine Zaf htb hmz Zcn (fun _ => false) rfl rfl ?_ | refine Zag hmo htb hmz Zcn (fun _ => false) rfl rfl (by kernel_rfl) ?_); intro m' e' l' ob h; simp only [zE0, zE1, zE2, zE3, zE4, zE5, evp, evx, ev1, evLoad, evStore, evBin, isBoolK, forall_const, z38, tb, Nat.reduceAdd, Nat.reduceSub, Nat.reduceMul, Nat.reduceEqDiff, Nat.reduceLeDiff, Nat.reduceLT, Nat.reduceBEq, Nat.reduceBNe, ↓reduceIte, reduceIte, spFu, hasS] at h; obtain ⟨rfl, rfl, rfl, rfl⟩ := h; refine ⟨?_, ?_⟩)
    | ((with_reducible refine Ob.mk ?_); first | exact trivial | (intros; omega) | ((repeat' first | apply And.intro | (intro hg; have hg' := hg; try simp only [zH] at hg')) <;> first | assumption | omega | (simp only [zH]; omega)))
  refine Za1 (τ := Nat) (fun i => i ≤ o.length ∧ ∀ v, v < i → (o.getD v 0 = pl → c.getD v 0 ∈ x.getD v []) ∧ (o.getD v 0 ≠ pl → c.getD v 0 = -1)) (fun i => ⟨18, [(17, .int .i64 i), (16, .int .i64 c.length), (15, .roI c), (1, .int .i64 pl), (3, (.rop (.agg (.cons (.roI o) (.cons (.roI p) (.cons (.roII x) .nil))))))], [], []⟩) (fun i => o.length - i) 0 [] ?_ ⟨Nat.zero_le _, fun v hv => absurd hv (Nat.not_lt_zero v)⟩ ?_
  · (refine ⟨rfl, ?_, ?_⟩ <;> simp only [zE0, zE1, zE2, zE3, zE4, zE5, evp, evx, ev1, evLoad, evStore, evBin, isBoolK, forall_const, z38, tb, Nat.reduceAdd, Nat.reduceSub, Nat.reduceMul, Nat.reduceEqDiff, Nat.reduceLeDiff, Nat.reduceLT, Nat.reduceBEq, Nat.reduceBNe, ↓reduceIte, reduceIte, spFu, hasS, zI])
  rintro i ⟨hi, hk⟩
  have hno1 := hno i
  have hrl1 := hrl i
  clear hno hrl
  repeat' first
    | with_reducible first | refine Zas ?_ | refine Zao ?_ | refine Zac ?_ | refine Zad ?_ | refine Zai ?_ | refine Zaq ?_ | refine Zah ?_ | refine Zak ?_ | refine Zar ?_ | refine Zat ?_ | refine Zap ?_ | refine Zam ?_ | refine Zaa ?_ | refine Zae ?_ | refine Zab ?_ | refine Zal ?_
    | ((with_reducible refine Zaj ?_ ?_); exact rfl)
    | ((with_reducible refine Zau ?_); refine Zan rfl ?_ ?_ <;> intro hb <;> (try simp only [zH] at hb))
    | ((with_reducible refine Zav 7 ?_ ?_); (· exact rfl); (with_reducible refine Zav 9 ?_ ?_); (· exact rfl); (first | refine Zaf htb hmz Zcn (fun _ => false) rfl rfl ?_ | refine Zag hmo htb hmz Zcn (fun _ => false) rfl rfl (by kernel_rfl) ?_); intro m' e' l' ob h; simp only [zE0, zE1, zE2, zE3, zE4, zE5, evp, evx, ev1, evLoad, evStore, evBin, isBoolK, forall_const, z38, tb, Nat.reduceAdd, Nat.reduceSub, Nat.reduceMul, Nat.reduceEqDiff, Nat.reduceLeDiff, Nat.reduceLT, Nat.reduceBEq, Nat.reduceBNe, ↓reduceIte, reduceIte, spFu, hasS] at h; obtain ⟨rfl, rfl, rfl, rfl⟩ := h; refine ⟨?_, ?_⟩)
    | ((with_reducible refine Ob.mk ?_); first | exact trivial | (intros; omega) | ((repeat' first | apply And.intro | (intro hg; have hg' := hg; try simp only [zH] at hg')) <;> first | assumption | omega | (simp only [zH]; omega)))
  · rw [hno1 (by omega) fun h => by
      rcases hb with ⟨h1, h2⟩ | ⟨h1, h2⟩
      · exact h2 (h.1 h1)
      · exact h2 (h.2 h1)]
    repeat' first
      | with_reducible first | refine Zas ?_ | refine Zao ?_ | refine Zac ?_ | refine Zad ?_ | refine Zai ?_ | refine Zaq ?_ | refine Zah ?_ | refine Zak ?_ | refine Zar ?_ | refine Zat ?_ | refine Zap ?_ | refine Zam ?_ | refine Zaa ?_ | refine Zae ?_ | refine Zab ?_ | refine Zal ?_
      | ((with_reducible refine Zaj ?_ ?_); exact rfl)
      | ((with_reducible refine Zau ?_); refine Zan rfl ?_ ?_ <;> intro hb <;> (try simp only [zH] at hb))
      | ((with_reducible refine Za0 ?_); (first | refine Zaf htb hmz Zcn (fun _ => false) rfl rfl ?_ | refine Zag hmo htb hmz Zcn (fun _ => false) rfl rfl (by kernel_rfl) ?_); intro m' e' l' ob h; simp only [zE0, zE1, zE2, zE3, zE4, zE5, evp, evx, ev1, evLoad, evStore, evBin, isBoolK, forall_const, z38, tb, Nat.reduceAdd, Nat.reduceSub, Nat.reduceMul, Nat.reduceEqDiff, Nat.reduceLeDiff, Nat.reduceLT, Nat.reduceBEq, Nat.reduceBNe, ↓reduceIte, reduceIte, spFu, hasS] at h; obtain ⟨rfl, rfl, rfl, rfl⟩ := h; refine ⟨?_, ?_⟩)
      | ((with_reducible refine Ob.mk ?_); first | exact trivial | (intros; omega) | ((repeat' first | apply And.intro | (intro hg; have hg' := hg; try simp only [zH] at hg')) <;> first | assumption | omega | (simp only [zH]; omega)))
    refine Zay rfl rfl (Zaw rfl ?_ rfl)
    rfl
  · refine back (i + 1) [] ?_ ⟨by omega, fun v hv => ?_⟩ (by omega)
    · (refine ⟨rfl, ?_, ?_⟩ <;> simp only [zE0, zE1, zE2, zE3, zE4, zE5, evp, evx, ev1, evLoad, evStore, evBin, isBoolK, forall_const, z38, tb, Nat.reduceAdd, Nat.reduceSub, Nat.reduceMul, Nat.reduceEqDiff, Nat.reduceLeDiff, Nat.reduceLT, Nat.reduceBEq, Nat.reduceBNe, ↓reduceIte, reduceIte, spFu, hasS, zI])
    · rcases Nat.lt_succ_iff_lt_or_eq.1 hv with h | rfl
      · exact hk v h
      · refine ⟨fun h => ?_, fun h => ?_⟩
        · exact hb.1.resolve_left (fun h2 => h2 h)
        · exact hb.2.resolve_left h
  have hie : i = o.length := by omega
  subst hie
  repeat' first
    | with_reducible first | refine Zas ?_ | refine Zao ?_ | refine Zac ?_ | refine Zad ?_ | refine Zai ?_ | refine Zaq ?_ | refine Zah ?_ | refine Zak ?_ | refine Zar ?_ | refine Zat ?_ | refine Zap ?_ | refine Zam ?_ | refine Zaa ?_ | refine Zae ?_ | refine Zab ?_ | refine Zal ?_
    | ((with_reducible refine Zaj ?_ ?_); exact rfl)
    | ((with_reducible refine Zau ?_); refine Zan rfl ?_ ?_ <;> intro hb <;> (try simp only [zH] at hb))
    | ((with_reducible refine Za0 ?_); (first | refine Zaf htb hmz Zcn (fun _ => false) rfl rfl ?_ | refine Zag hmo htb hmz Zcn (fun _ => false) rfl rfl (by kernel_rfl) ?_); intro m' e' l' ob h; simp only [zE0, zE1, zE2, zE3, zE4, zE5, evp, evx, ev1, evLoad, evStore, evBin, isBoolK, forall_const, z38, tb, Nat.reduceAdd, Nat.reduceSub, Nat.reduceMul, Nat.reduceEqDiff, Nat.reduceLeDiff, Nat.reduceLT, Nat.reduceBEq, Nat.reduceBNe, ↓reduceIte, reduceIte, spFu, hasS] at h; obtain ⟨rfl, rfl, rfl, rfl⟩ := h; refine ⟨?_, ?_⟩)
    | ((with_reducible refine Ob.mk ?_); first | exact trivial | (intros; omega) | ((repeat' first | apply And.intro | (intro hg; have hg' := hg; try simp only [zH] at hg')) <;> first | assumption | omega | (simp only [zH]; omega)))
  refine Zay rfl rfl (Zaw rfl ?_ rfl)
  have hcb : fullB ⟨o, p, x⟩ pl c = true := decide_eq_true ⟨hcl, hk⟩
  rw [hcb]
  rfl
/-- What is asked of a strategy: 0 if all is right. -/
noncomputable def asksR (g : Gm) (pl : Int) (c : List Int) : Int := if validB g = true then (if pl ≠ 0 ∧ pl ≠ 1 then 6 else if fullB g pl c = true then 0 else 4) else 1
theorem asks_1 {g : Gm} {pl : Int} {c : List Int} (h : validB g = false) : asksR g pl c = 1 := by unfold asksR; rw [if_neg (by rw [h]; decide)]
theorem asks_6 {g : Gm} {pl : Int} {c : List Int} (h : validB g = true) (h2 : pl ≠ 0 ∧ pl ≠ 1) : asksR g pl c = 6 := by unfold asksR; rw [if_pos h, if_pos h2]
theorem Zhx {g : Gm} {pl : Int} {c : List Int} (h : validB g = true) (h2 : ¬ (pl ≠ 0 ∧ pl ≠ 1)) (h3 : fullB g pl c = false) : asksR g pl c = 4 := by unfold asksR; rw [if_pos h, if_neg h2, if_neg (by rw [h3]; decide)]
theorem Zhy {g : Gm} {pl : Int} {c : List Int} (h : validB g = true) (h2 : ¬ (pl ≠ 0 ∧ pl ≠ 1)) (h3 : fullB g pl c = true) : asksR g pl c = 0 := by unfold asksR; rw [if_pos h, if_neg h2, if_pos h3]
theorem Zgt (g : Gm) (pl : Int) (c : List Int) : (validB g = true ∧ (0 ≤ pl ∧ pl ≤ 1) ∧ fullB g pl c = true ∧ asksR g pl c = 0) ∨ asksR g pl c ≠ 0 := by
  unfold asksR
  split
  · split
    · exact .inr (by decide)
    · split
      · rename_i h1 h2 h3
        exact .inl ⟨h1, by omega, h3, rfl⟩
      · exact .inr (by decide)
  · exact .inr (by decide)
noncomputable def asksS : Spec
  | [.agg (.cons (.roI o) (.cons (.roI p) (.cons (.roII x) .nil))), .int .i64 pl, .roI c] => some ⟨True, .int .i64 (asksR ⟨o, p, x⟩ pl c), none⟩
  | _ => none
noncomputable def spAs : Nat → Option Spec
  | 25 => some validS
  | 14 => some fullS
  | _ => none
theorem Zcb : SpOK Try.prog spAs := by
  intro f S h
  unfold spAs at h
  split at h
  · cases h; exact valid12_ok
  · cases h; exact full_ok
  · cases h
set_option maxRecDepth 4000 in
set_option maxHeartbeats 4000000 in
theorem asks_ok : FSpec Try.prog 10 asksS := by
  refine Zba htb (fn := Try.f10) (by kernel_rfl) (by kernel_rfl) rfl (fun args r hS => ?_) (fun args r hS hob hl => ?_)
  · unfold asksS at hS; split at hS <;> first | (cases hS; done) | (cases hS; exact Nat.le_of_ble_eq_true rfl)
  unfold asksS at hS
  split at hS
  case h_2 => cases hS
  rename_i o p x pl c
  simp only [Option.some.injEq] at hS
  subst hS
  simp only [lenP, mkL, lim] at hl
  dsimp only at hob
  repeat' first
    | with_reducible first | refine Zas ?_ | refine Zao ?_ | refine Zac ?_ | refine Zad ?_ | refine Zai ?_ | refine Zaq ?_ | refine Zah ?_ | refine Zak ?_ | refine Zar ?_ | refine Zat ?_ | refine Zap ?_ | refine Zam ?_ | refine Zaa ?_ | refine Zae ?_ | refine Zab ?_ | refine Zal ?_
    | ((with_reducible refine Zaj ?_ ?_); exact rfl)
    | ((with_reducible refine Zau ?_); refine Zan rfl ?_ ?_ <;> intro hb <;> (try simp only [zH] at hb))
    | ((with_reducible refine Zav 2 ?_ ?_); (· exact rfl); (with_reducible refine Zav 3 ?_ ?_); (· exact rfl); (first | refine Zaf htb hmz Zcb (fun _ => false) rfl rfl ?_ | refine Zag hmo htb hmz Zcb (fun _ => false) rfl rfl (by kernel_rfl) ?_); intro m' e' l' ob h; simp only [zE0, zE1, zE2, zE3, zE4, zE5, evp, evx, ev1, evLoad, evStore, evBin, isBoolK, forall_const, z38, tb, Nat.reduceAdd, Nat.reduceSub, Nat.reduceMul, Nat.reduceEqDiff, Nat.reduceLeDiff, Nat.reduceLT, Nat.reduceBEq, Nat.reduceBNe, ↓reduceIte, reduceIte, spAs, validS, fullS] at h; obtain ⟨rfl, rfl, rfl, rfl⟩ := h; refine ⟨?_, ?_⟩)
    | ((with_reducible refine Ob.mk ?_); first | exact trivial | (intros; omega) | ((repeat' first | apply And.intro | (intro hg; have hg' := hg; try simp only [zH] at hg')) <;> first | assumption | omega | (simp only [zH]; omega)))
  · repeat' first
      | with_reducible first | refine Zas ?_ | refine Zao ?_ | refine Zac ?_ | refine Zad ?_ | refine Zai ?_ | refine Zaq ?_ | refine Zah ?_ | refine Zak ?_ | refine Zar ?_ | refine Zat ?_ | refine Zap ?_ | refine Zam ?_ | refine Zaa ?_ | refine Zae ?_ | refine Zab ?_ | refine Zal ?_
      | ((with_reducible refine Zaj ?_ ?_); exact rfl)
      | ((with_reducible refine Zau ?_); refine Zan rfl ?_ ?_ <;> intro hb <;> (try simp only [zH] at hb))
      | ((with_reducible refine Za0 ?_); (first | refine Zaf htb hmz Zcb (fun _ => false) rfl rfl ?_ | refine Zag hmo htb hmz Zcb (fun _ => false) rfl rfl (by kernel_rfl) ?_); intro m' e' l' ob h; simp only [zE0, zE1, zE2, zE3, zE4, zE5, evp, evx, ev1, evLoad, evStore, evBin, isBoolK, forall_const, z38, tb, Nat.reduceAdd, Nat.reduceSub, Nat.reduceMul, Nat.reduceEqDiff, Nat.reduceLeDiff, Nat.reduceLT, Nat.reduceBEq, Nat.reduceBNe, ↓reduceIte, reduceIte, spAs, validS, fullS] at h; obtain ⟨rfl, rfl, rfl, rfl⟩ := h; refine ⟨?_, ?_⟩)
      | ((with_reducible refine Ob.mk ?_); first | exact trivial | (intros; omega) | ((repeat' first | apply And.intro | (intro hg; have hg' := hg; try simp only [zH] at hg')) <;> first | assumption | omega | (simp only [zH]; omega)))
    refine Zay rfl rfl (Zaw rfl ?_ rfl)
    rw [asks_1 hb]; rfl
  have hv : validB ⟨o, p, x⟩ = true := by cases h : validB ⟨o, p, x⟩ with | true => rfl | false => rw [h] at hb; simp at hb
  clear hb
  repeat' first
    | with_reducible first | refine Zas ?_ | refine Zao ?_ | refine Zac ?_ | refine Zad ?_ | refine Zai ?_ | refine Zaq ?_ | refine Zah ?_ | refine Zak ?_ | refine Zar ?_ | refine Zat ?_ | refine Zap ?_ | refine Zam ?_ | refine Zaa ?_ | refine Zae ?_ | refine Zab ?_ | refine Zal ?_
    | ((with_reducible refine Zaj ?_ ?_); exact rfl)
    | ((with_reducible refine Zau ?_); refine Zan rfl ?_ ?_ <;> intro hb <;> (try simp only [zH] at hb))
    | ((with_reducible refine Zav 4 ?_ ?_); (· exact rfl); (with_reducible refine Zav 5 ?_ ?_); (· exact rfl); (first | refine Zaf htb hmz Zcb (fun _ => false) rfl rfl ?_ | refine Zag hmo htb hmz Zcb (fun _ => false) rfl rfl (by kernel_rfl) ?_); intro m' e' l' ob h; simp only [zE0, zE1, zE2, zE3, zE4, zE5, evp, evx, ev1, evLoad, evStore, evBin, isBoolK, forall_const, z38, tb, Nat.reduceAdd, Nat.reduceSub, Nat.reduceMul, Nat.reduceEqDiff, Nat.reduceLeDiff, Nat.reduceLT, Nat.reduceBEq, Nat.reduceBNe, ↓reduceIte, reduceIte, spAs, validS, fullS] at h; obtain ⟨rfl, rfl, rfl, rfl⟩ := h; refine ⟨?_, ?_⟩)
    | ((with_reducible refine Ob.mk ?_); first | exact trivial | (intros; omega) | ((repeat' first | apply And.intro | (intro hg; have hg' := hg; try simp only [zH] at hg')) <;> first | assumption | omega | (simp only [zH]; omega)))
  · repeat' first
      | with_reducible first | refine Zas ?_ | refine Zao ?_ | refine Zac ?_ | refine Zad ?_ | refine Zai ?_ | refine Zaq ?_ | refine Zah ?_ | refine Zak ?_ | refine Zar ?_ | refine Zat ?_ | refine Zap ?_ | refine Zam ?_ | refine Zaa ?_ | refine Zae ?_ | refine Zab ?_ | refine Zal ?_
      | ((with_reducible refine Zaj ?_ ?_); exact rfl)
      | ((with_reducible refine Zau ?_); refine Zan rfl ?_ ?_ <;> intro hb <;> (try simp only [zH] at hb))
      | ((with_reducible refine Za0 ?_); (first | refine Zaf htb hmz Zcb (fun _ => false) rfl rfl ?_ | refine Zag hmo htb hmz Zcb (fun _ => false) rfl rfl (by kernel_rfl) ?_); intro m' e' l' ob h; simp only [zE0, zE1, zE2, zE3, zE4, zE5, evp, evx, ev1, evLoad, evStore, evBin, isBoolK, forall_const, z38, tb, Nat.reduceAdd, Nat.reduceSub, Nat.reduceMul, Nat.reduceEqDiff, Nat.reduceLeDiff, Nat.reduceLT, Nat.reduceBEq, Nat.reduceBNe, ↓reduceIte, reduceIte, spAs, validS, fullS] at h; obtain ⟨rfl, rfl, rfl, rfl⟩ := h; refine ⟨?_, ?_⟩)
      | ((with_reducible refine Ob.mk ?_); first | exact trivial | (intros; omega) | ((repeat' first | apply And.intro | (intro hg; have hg' := hg; try simp only [zH] at hg')) <;> first | assumption | omega | (simp only [zH]; omega)))
    refine Zay rfl rfl (Zaw rfl ?_ rfl)
    rw [asks_6 hv (by omega)]; rfl
  have hp : ¬ (pl ≠ 0 ∧ pl ≠ 1) := by omega
  clear hb
  repeat' first
    | with_reducible first | refine Zas ?_ | refine Zao ?_ | refine Zac ?_ | refine Zad ?_ | refine Zai ?_ | refine Zaq ?_ | refine Zah ?_ | refine Zak ?_ | refine Zar ?_ | refine Zat ?_ | refine Zap ?_ | refine Zam ?_ | refine Zaa ?_ | refine Zae ?_ | refine Zab ?_ | refine Zal ?_
    | ((with_reducible refine Zaj ?_ ?_); exact rfl)
    | ((with_reducible refine Zau ?_); refine Zan rfl ?_ ?_ <;> intro hb <;> (try simp only [zH] at hb))
    | ((with_reducible refine Zav 6 ?_ ?_); (· exact rfl); (with_reducible refine Zav 7 ?_ ?_); (· exact rfl); (first | refine Zaf htb hmz Zcb (fun _ => false) rfl rfl ?_ | refine Zag hmo htb hmz Zcb (fun _ => false) rfl rfl (by kernel_rfl) ?_); intro m' e' l' ob h; simp only [zE0, zE1, zE2, zE3, zE4, zE5, evp, evx, ev1, evLoad, evStore, evBin, isBoolK, forall_const, z38, tb, Nat.reduceAdd, Nat.reduceSub, Nat.reduceMul, Nat.reduceEqDiff, Nat.reduceLeDiff, Nat.reduceLT, Nat.reduceBEq, Nat.reduceBNe, ↓reduceIte, reduceIte, spAs, validS, fullS] at h; obtain ⟨rfl, rfl, rfl, rfl⟩ := h; refine ⟨?_, ?_⟩)
    | ((with_reducible refine Ob.mk ?_); first | exact trivial | (intros; omega) | ((repeat' first | apply And.intro | (intro hg; have hg' := hg; try simp only [zH] at hg')) <;> first | assumption | omega | (simp only [zH]; omega)))
  · repeat' first
      | with_reducible first | refine Zas ?_ | refine Zao ?_ | refine Zac ?_ | refine Zad ?_ | refine Zai ?_ | refine Zaq ?_ | refine Zah ?_ | refine Zak ?_ | refine Zar ?_ | refine Zat ?_ | refine Zap ?_ | refine Zam ?_ | refine Zaa ?_ | refine Zae ?_ | refine Zab ?_ | refine Zal ?_
      | ((with_reducible refine Zaj ?_ ?_); exact rfl)
      | ((with_reducible refine Zau ?_); refine Zan rfl ?_ ?_ <;> intro hb <;> (try simp only [zH] at hb))
      | ((with_reducible refine Za0 ?_); (first | refine Zaf htb hmz Zcb (fun _ => false) rfl rfl ?_ | refine Zag hmo htb hmz Zcb (fun _ => false) rfl rfl (by kernel_rfl) ?_); intro m' e' l' ob h; simp only [zE0, zE1, zE2, zE3, zE4, zE5, evp, evx, ev1, evLoad, evStore, evBin, isBoolK, forall_const, z38, tb, Nat.reduceAdd, Nat.reduceSub, Nat.reduceMul, Nat.reduceEqDiff, Nat.reduceLeDiff, Nat.reduceLT, Nat.reduceBEq, Nat.reduceBNe, ↓reduceIte, reduceIte, spAs, validS, fullS] at h; obtain ⟨rfl, rfl, rfl, rfl⟩ := h; refine ⟨?_, ?_⟩)
      | ((with_reducible refine Ob.mk ?_); first | exact trivial | (intros; omega) | ((repeat' first | apply And.intro | (intro hg; have hg' := hg; try simp only [zH] at hg')) <;> first | assumption | omega | (simp only [zH]; omega)))
    refine Zay rfl rfl (Zaw rfl ?_ rfl)
    rw [Zhx hv hp hb]; rfl
  repeat' first
    | with_reducible first | refine Zas ?_ | refine Zao ?_ | refine Zac ?_ | refine Zad ?_ | refine Zai ?_ | refine Zaq ?_ | refine Zah ?_ | refine Zak ?_ | refine Zar ?_ | refine Zat ?_ | refine Zap ?_ | refine Zam ?_ | refine Zaa ?_ | refine Zae ?_ | refine Zab ?_ | refine Zal ?_
    | ((with_reducible refine Zaj ?_ ?_); exact rfl)
    | ((with_reducible refine Zau ?_); refine Zan rfl ?_ ?_ <;> intro hb <;> (try simp only [zH] at hb))
    | ((with_reducible refine Za0 ?_); (first | refine Zaf htb hmz Zcb (fun _ => false) rfl rfl ?_ | refine Zag hmo htb hmz Zcb (fun _ => false) rfl rfl (by kernel_rfl) ?_); intro m' e' l' ob h; simp only [zE0, zE1, zE2, zE3, zE4, zE5, evp, evx, ev1, evLoad, evStore, evBin, isBoolK, forall_const, z38, tb, Nat.reduceAdd, Nat.reduceSub, Nat.reduceMul, Nat.reduceEqDiff, Nat.reduceLeDiff, Nat.reduceLT, Nat.reduceBEq, Nat.reduceBNe, ↓reduceIte, reduceIte, spAs, validS, fullS] at h; obtain ⟨rfl, rfl, rfl, rfl⟩ := h; refine ⟨?_, ?_⟩)
    | ((with_reducible refine Ob.mk ?_); first | exact trivial | (intros; omega) | ((repeat' first | apply And.intro | (intro hg; have hg' := hg; try simp only [zH] at hg')) <;> first | assumption | omega | (simp only [zH]; omega)))
  refine Zay rfl rfl (Zaw rfl ?_ rfl)
  rw [Zhy hv hp hb]; rfl
/-- What the reference's Wins answers. -/
noncomputable def rwinS : Spec
  | [.agg (.cons (.roI o) (.cons (.roI p) (.cons (.roII x) .nil))), .int .i64 pl, .roI c] => some ⟨True, .tup (.cons (.roB (if asksR ⟨o, p, x⟩ pl c = 0 then fromL ⟨o, p, x⟩ pl c else [])) (.cons (.int .i64 (asksR ⟨o, p, x⟩ pl c)) .nil)), none⟩
  | _ => none
theorem Zgj {g : Gm} {pl : Int} {c : List Int} (hv : validB g = true) (h : fullB g pl c = true) : c.length = g.own.length ∧ ∀ v, v < g.own.length → g.own.getD v 0 = pl → 0 ≤ c.getD v 0 ∧ c.getD v 0 < (g.own.length : Int) := by
  obtain ⟨h1, h2⟩ := of_decide_eq_true h
  refine ⟨h1, fun v hv2 ho => ?_⟩
  exact (row_of (validB_iff.1 hv) hv2).2 _ ((h2 v hv2).1 ho)
def bitsS : Spec
  | [.roB a, .roB b] => some ⟨True, .bool (decide (a = b)), none⟩
  | _ => none
theorem Zh6 {a b : List Bool} (h1 : a.length = b.length) (h2 : ∀ j, j < a.length → a.getD j false = b.getD j false) : a = b := by
  refine List.ext_getElem h1 fun j h3 h4 => ?_
  have := h2 j h3
  simpa [List.getD_eq_getElem?_getD, List.getElem?_eq_getElem h3, List.getElem?_eq_getElem h4] using this
set_option maxRecDepth 4000 in
set_option maxHeartbeats 4000000 in
theorem bits_ok : FSpec Try.prog 20 bitsS := by
  refine Zba htb (fn := Try.f20) (by kernel_rfl) (by kernel_rfl) rfl (fun args r hS => ?_) (fun args r hS hob hl => ?_)
  · unfold bitsS at hS; split at hS <;> first | (cases hS; done) | (cases hS; exact Nat.le_of_ble_eq_true rfl)
  unfold bitsS at hS
  split at hS
  case h_2 => cases hS
  rename_i a b
  simp only [Option.some.injEq] at hS
  subst hS
  simp only [lenP, mkL, lim] at hl
  dsimp only at hob
  repeat' first
    | with_reducible first | refine Zas ?_ | refine Zao ?_ | refine Zac ?_ | refine Zad ?_ | refine Zai ?_ | refine Zaq ?_ | refine Zah ?_ | refine Zak ?_ | refine Zar ?_ | refine Zat ?_ | refine Zap ?_ | refine Zam ?_ | refine Zaa ?_ | refine Zae ?_ | refine Zab ?_ | refine Zal ?_
    | ((with_reducible refine Zaj ?_ ?_); exact rfl)
    | ((with_reducible refine Zau ?_); refine Zan rfl ?_ ?_ <;> intro hb <;> (try simp only [zH] at hb))
    | ((with_reducible refine Zav 2 ?_ ?_); (· exact rfl); (with_reducible refine Zav 3 ?_ ?_); (· exact rfl); (first | refine Zaf htb hmz noSp (fun _ => false) rfl rfl ?_ | refine Zag hmo htb hmz noSp (fun _ => false) rfl rfl (by kernel_rfl) ?_); intro m' e' l' ob h; simp only [zE0, zE1, zE2, zE3, zE4, zE5, evp, evx, ev1, evLoad, evStore, evBin, isBoolK, forall_const, z38, tb, Nat.reduceAdd, Nat.reduceSub, Nat.reduceMul, Nat.reduceEqDiff, Nat.reduceLeDiff, Nat.reduceLT, Nat.reduceBEq, Nat.reduceBNe, ↓reduceIte, reduceIte] at h; obtain ⟨rfl, rfl, rfl, rfl⟩ := h; refine ⟨?_, ?_⟩)
    | ((with_reducible refine Ob.mk ?_); first | exact trivial | (intros; omega) | ((repeat' first | apply And.intro | (intro hg; have hg' := hg; try simp only [zH] at hg')) <;> first | assumption | omega | (simp only [zH]; omega)))
  · repeat' first
      | with_reducible first | refine Zas ?_ | refine Zao ?_ | refine Zac ?_ | refine Zad ?_ | refine Zai ?_ | refine Zaq ?_ | refine Zah ?_ | refine Zak ?_ | refine Zar ?_ | refine Zat ?_ | refine Zap ?_ | refine Zam ?_ | refine Zaa ?_ | refine Zae ?_ | refine Zab ?_ | refine Zal ?_
      | ((with_reducible refine Zaj ?_ ?_); exact rfl)
      | ((with_reducible refine Zau ?_); refine Zan rfl ?_ ?_ <;> intro hb <;> (try simp only [zH] at hb))
      | ((with_reducible refine Za0 ?_); (first | refine Zaf htb hmz noSp (fun _ => false) rfl rfl ?_ | refine Zag hmo htb hmz noSp (fun _ => false) rfl rfl (by kernel_rfl) ?_); intro m' e' l' ob h; simp only [zE0, zE1, zE2, zE3, zE4, zE5, evp, evx, ev1, evLoad, evStore, evBin, isBoolK, forall_const, z38, tb, Nat.reduceAdd, Nat.reduceSub, Nat.reduceMul, Nat.reduceEqDiff, Nat.reduceLeDiff, Nat.reduceLT, Nat.reduceBEq, Nat.reduceBNe, ↓reduceIte, reduceIte] at h; obtain ⟨rfl, rfl, rfl, rfl⟩ := h; refine ⟨?_, ?_⟩)
      | ((with_reducible refine Ob.mk ?_); first | exact trivial | (intros; omega) | ((repeat' first | apply And.intro | (intro hg; have hg' := hg; try simp only [zH] at hg')) <;> first | assumption | omega | (simp only [zH]; omega)))
    refine Zay rfl rfl (Zaw rfl ?_ rfl)
    have e : decide (a = b) = false := decide_eq_false fun h => by rw [h] at hb; exact hb rfl
    rw [e]; rfl
  have hl2 : a.length = b.length := by omega
  clear hb
  repeat' first
    | with_reducible first | refine Zas ?_ | refine Zao ?_ | refine Zac ?_ | refine Zad ?_ | refine Zai ?_ | refine Zaq ?_ | refine Zah ?_ | refine Zak ?_ | refine Zar ?_ | refine Zat ?_ | refine Zap ?_ | refine Zam ?_ | refine Zaa ?_ | refine Zae ?_ | refine Zab ?_ | refine Zal ?_
    | ((with_reducible refine Zaj ?_ ?_); exact rfl)
    | ((with_reducible refine Zau ?_); refine Zan rfl ?_ ?_ <;> intro hb <;> (try simp only [zH] at hb))
    | ((with_reducible refine Za0 ?_); (first | refine Zaf htb hmz noSp (fun _ => false) rfl rfl ?_ | refine Zag hmo htb hmz noSp (fun _ => false) rfl rfl (by kernel_rfl) ?_); intro m' e' l' ob h; simp only [zE0, zE1, zE2, zE3, zE4, zE5, evp, evx, ev1, evLoad, evStore, evBin, isBoolK, forall_const, z38, tb, Nat.reduceAdd, Nat.reduceSub, Nat.reduceMul, Nat.reduceEqDiff, Nat.reduceLeDiff, Nat.reduceLT, Nat.reduceBEq, Nat.reduceBNe, ↓reduceIte, reduceIte] at h; obtain ⟨rfl, rfl, rfl, rfl⟩ := h; refine ⟨?_, ?_⟩)
    | ((with_reducible refine Ob.mk ?_); first | exact trivial | (intros; omega) | ((repeat' first | apply And.intro | (intro hg; have hg' := hg; try simp only [zH] at hg')) <;> first | assumption | omega | (simp only [zH]; omega)))
  refine Za1 (τ := Nat) (fun i => i ≤ a.length ∧ ∀ j, j < i → a.getD j false = b.getD j false) (fun i => ⟨14, [(13, .int .i64 i), (12, .int .i64 a.length), (11, .roB a), (0, .roB a), (1, .roB b)], [], []⟩) (fun i => a.length - i) 0 [] ?_ ⟨Nat.zero_le _, fun j hj => absurd hj (Nat.not_lt_zero j)⟩ ?_
  · (refine ⟨rfl, ?_, ?_⟩ <;> simp only [zE0, zE1, zE2, zE3, zE4, zE5, evp, evx, ev1, evLoad, evStore, evBin, isBoolK, forall_const, z38, tb, Nat.reduceAdd, Nat.reduceSub, Nat.reduceMul, Nat.reduceEqDiff, Nat.reduceLeDiff, Nat.reduceLT, Nat.reduceBEq, Nat.reduceBNe, ↓reduceIte, reduceIte, zI])
  rintro i ⟨hi, hk⟩
  repeat' first
    | with_reducible first | refine Zas ?_ | refine Zao ?_ | refine Zac ?_ | refine Zad ?_ | refine Zai ?_ | refine Zaq ?_ | refine Zah ?_ | refine Zak ?_ | refine Zar ?_ | refine Zat ?_ | refine Zap ?_ | refine Zam ?_ | refine Zaa ?_ | refine Zae ?_ | refine Zab ?_ | refine Zal ?_
    | ((with_reducible refine Zaj ?_ ?_); exact rfl)
    | ((with_reducible refine Zau ?_); refine Zan rfl ?_ ?_ <;> intro hb <;> (try simp only [zH] at hb))
    | ((with_reducible refine Zav 7 ?_ ?_); (· exact rfl); (with_reducible refine Zav 9 ?_ ?_); (· exact rfl); (first | refine Zaf htb hmz noSp (fun _ => false) rfl rfl ?_ | refine Zag hmo htb hmz noSp (fun _ => false) rfl rfl (by kernel_rfl) ?_); intro m' e' l' ob h; simp only [zE0, zE1, zE2, zE3, zE4, zE5, evp, evx, ev1, evLoad, evStore, evBin, isBoolK, forall_const, z38, tb, Nat.reduceAdd, Nat.reduceSub, Nat.reduceMul, Nat.reduceEqDiff, Nat.reduceLeDiff, Nat.reduceLT, Nat.reduceBEq, Nat.reduceBNe, ↓reduceIte, reduceIte] at h; obtain ⟨rfl, rfl, rfl, rfl⟩ := h; refine ⟨?_, ?_⟩)
    | ((with_reducible refine Ob.mk ?_); first | exact trivial | (intros; omega) | ((repeat' first | apply And.intro | (intro hg; have hg' := hg; try simp only [zH] at hg')) <;> first | assumption | omega | (simp only [zH]; omega)))
  · repeat' first
      | with_reducible first | refine Zas ?_ | refine Zao ?_ | refine Zac ?_ | refine Zad ?_ | refine Zai ?_ | refine Zaq ?_ | refine Zah ?_ | refine Zak ?_ | refine Zar ?_ | refine Zat ?_ | refine Zap ?_ | refine Zam ?_ | refine Zaa ?_ | refine Zae ?_ | refine Zab ?_ | refine Zal ?_
      | ((with_reducible refine Zaj ?_ ?_); exact rfl)
      | ((with_reducible refine Zau ?_); refine Zan rfl ?_ ?_ <;> intro hb <;> (try simp only [zH] at hb))
      | ((with_reducible refine Za0 ?_); (first | refine Zaf htb hmz noSp (fun _ => false) rfl rfl ?_ | refine Zag hmo htb hmz noSp (fun _ => false) rfl rfl (by kernel_rfl) ?_); intro m' e' l' ob h; simp only [zE0, zE1, zE2, zE3, zE4, zE5, evp, evx, ev1, evLoad, evStore, evBin, isBoolK, forall_const, z38, tb, Nat.reduceAdd, Nat.reduceSub, Nat.reduceMul, Nat.reduceEqDiff, Nat.reduceLeDiff, Nat.reduceLT, Nat.reduceBEq, Nat.reduceBNe, ↓reduceIte, reduceIte] at h; obtain ⟨rfl, rfl, rfl, rfl⟩ := h; refine ⟨?_, ?_⟩)
      | ((with_reducible refine Ob.mk ?_); first | exact trivial | (intros; omega) | ((repeat' first | apply And.intro | (intro hg; have hg' := hg; try simp only [zH] at hg')) <;> first | assumption | omega | (simp only [zH]; omega)))
    refine Zay rfl rfl (Zaw rfl ?_ rfl)
    have e : decide (a = b) = false := decide_eq_false fun h => by rw [h] at hb; simp at hb
    rw [e]; rfl
  · refine back (i + 1) [] ?_ ⟨by omega, fun v hv => ?_⟩ (by omega)
    · (refine ⟨rfl, ?_, ?_⟩ <;> simp only [zE0, zE1, zE2, zE3, zE4, zE5, evp, evx, ev1, evLoad, evStore, evBin, isBoolK, forall_const, z38, tb, Nat.reduceAdd, Nat.reduceSub, Nat.reduceMul, Nat.reduceEqDiff, Nat.reduceLeDiff, Nat.reduceLT, Nat.reduceBEq, Nat.reduceBNe, ↓reduceIte, reduceIte, zI])
    · rcases Nat.lt_succ_iff_lt_or_eq.1 hv with h | rfl
      · exact hk v h
      · simpa using hb
  have hie : i = a.length := by omega
  subst hie
  repeat' first
    | with_reducible first | refine Zas ?_ | refine Zao ?_ | refine Zac ?_ | refine Zad ?_ | refine Zai ?_ | refine Zaq ?_ | refine Zah ?_ | refine Zak ?_ | refine Zar ?_ | refine Zat ?_ | refine Zap ?_ | refine Zam ?_ | refine Zaa ?_ | refine Zae ?_ | refine Zab ?_ | refine Zal ?_
    | ((with_reducible refine Zaj ?_ ?_); exact rfl)
    | ((with_reducible refine Zau ?_); refine Zan rfl ?_ ?_ <;> intro hb <;> (try simp only [zH] at hb))
    | ((with_reducible refine Za0 ?_); (first | refine Zaf htb hmz noSp (fun _ => false) rfl rfl ?_ | refine Zag hmo htb hmz noSp (fun _ => false) rfl rfl (by kernel_rfl) ?_); intro m' e' l' ob h; simp only [zE0, zE1, zE2, zE3, zE4, zE5, evp, evx, ev1, evLoad, evStore, evBin, isBoolK, forall_const, z38, tb, Nat.reduceAdd, Nat.reduceSub, Nat.reduceMul, Nat.reduceEqDiff, Nat.reduceLeDiff, Nat.reduceLT, Nat.reduceBEq, Nat.reduceBNe, ↓reduceIte, reduceIte] at h; obtain ⟨rfl, rfl, rfl, rfl⟩ := h; refine ⟨?_, ?_⟩)
    | ((with_reducible refine Ob.mk ?_); first | exact trivial | (intros; omega) | ((repeat' first | apply And.intro | (intro hg; have hg' := hg; try simp only [zH] at hg')) <;> first | assumption | omega | (simp only [zH]; omega)))
  refine Zay rfl rfl (Zaw rfl ?_ rfl)
  have e : decide (a = b) = true := decide_eq_true (Zh6 hl2 hk)
  rw [e]; rfl
end Go.Proofs.Ytbcghiagomkadaa.Cal
namespace Go.Proofs.Ytbcghiagomkadaa.Cal
open Go
/-- Nil slices seen as slices that nobody writes. -/
def nro : AV → AV
  | .cst v => match isNilS v with | true => .roI [] | false => .cst v
  | .agg l => .agg (nro l)
  | .cons a b => .cons (nro a) (nro b)
  | u => u
theorem Zhn {Z : Nat → Prop} {w : World} {ν : Nat → Value} : ∀ {u : AV} {m : Bool} {cs : List Value}, R Z w u ν m cs → R Z w (nro u) ν m cs
  | .cst v, m, cs, h => by
    unfold nro
    cases hv : isNilS v with
    | false => exact h
    | true =>
      have := Ze5 hv
      subst this
      have h : cs = [_] := h
      exact ⟨none, 0, h, Nat.le_refl _, Nat.zero_le _, fun h => absurd h (Nat.lt_irrefl _)⟩
  | .agg l, true, cs, h => by
    obtain ⟨es, e, r⟩ := h
    exact ⟨es, e, Zhn r⟩
  | .agg l, false, cs, h => Zhn (u := l) (m := true) h
  | .cons a b, m, cs, h => by
    obtain ⟨v, vs, e, r1, r2⟩ := h
    exact ⟨v, vs, e, Zhn r1, Zhn r2⟩
  | .any, _, _, h => h
  | .int _ _, _, _, h => h
  | .bool _, _, _, h => h
  | .own _, _, _, h => h
  | .adr _ _ _ _, _, _, h => h
  | .roI _, _, _, h => h
  | .roB _, _, _, h => h
  | .roII _, _, _, h => h
  | .ro _ _ _, _, _, h => h
  | .rop _, _, _, h => h
  | .tup _, _, _, h => h
  | .nil, _, _, h => h
  | .fn _ _, _, _, h => h
  | .yld _, _, _, h => h
  | .whn _ _, _, _, h => h
theorem Zfk {μ : Nat → Bool} : ∀ {u : AV}, men μ u = true → men μ (nro u) = true
  | .cst v, _ => by unfold nro; cases isNilS v <;> rfl
  | .agg l, h => Zfk (u := l) h
  | .cons a b, h => by
    simp only [men, Bool.and_eq_true] at h
    show (men μ (nro a) && men μ (nro b)) = true
    rw [Zfk h.1, Zfk h.2]; rfl
  | .any, h => h
  | .int _ _, h => h
  | .bool _, h => h
  | .own _, h => h
  | .adr _ _ _ _, h => h
  | .roI _, h => h
  | .roB _, h => h
  | .roII _, h => h
  | .ro _ _ _, h => h
  | .rop _, h => h
  | .tup _, h => h
  | .nil, h => h
  | .fn _ _, h => h
  | .yld _, h => h
  | .whn _ _, h => h
section
variable {P : Program} {ro : Option Nat} {N κ : Nat}
theorem Zgr {c : Code} {m : Nat} {env : List (Nat × AV)} {rs : List (Nat × Option Blk)} {ms : List Nat} {Q : Exit → St → Prop} (k : Nat) {u : AV} (hk : lkr rs k = some (.box u)) {rs' : List (Nat × Option Blk)} (hrs : set1 k (.box (nro u)) rs = rs')
    (h : awp P ro N κ c (CS.st ⟨m, env, rs', ms⟩) Q) : awp P ro N κ c (CS.st ⟨m, env, rs, ms⟩) Q := by
  intro n K Z ν w a hg
  refine h n K Z ν w a { hg with rs := ?_ }
  subst hrs
  obtain ⟨Ft, hF⟩ := hg.rs
  have e : (CS.st ⟨m, env, set1 k (.box (nro u)) rs, ms⟩).rs = fun j => if j = k then some (.box (nro u)) else lkr rs j := Zgf
  refine ⟨Ft, fun j b hj => ?_⟩
  rw [e] at hj
  have hold : ∀ j' b', (CS.st ⟨m, env, set1 k (.box (nro u)) rs, ms⟩).rs j' = some b' → ∃ b0, lkr rs j' = some b0 := fun j' b' h' => by
    rw [e] at h'
    dsimp only at h'
    by_cases h1 : j' = k
    · rw [h1]; exact ⟨_, hk⟩
    · rw [if_neg h1] at h'; exact ⟨_, h'⟩
  dsimp only at hj
  by_cases h1 : j = k
  · rw [if_pos h1] at hj
    cases hj
    subst h1
    obtain ⟨a1, a2, a3, a4, a5⟩ := hF j _ hk
    refine ⟨a1, Zfk a2, ?_, a4, fun j' b' hne hj' => ?_⟩
    · obtain ⟨b, cells, T, hx, hb, r, hFb⟩ := a3
      exact ⟨b, cells, T, hx, hb, Zhn r, hFb⟩
    · obtain ⟨b0, h0⟩ := hold j' b' hj'
      exact a5 j' b0 hne h0
  · rw [if_neg h1] at hj
    obtain ⟨a1, a2, a3, a4, a5⟩ := hF j b hj
    refine ⟨a1, a2, a3, a4, fun j' b' hne hj' => ?_⟩
    obtain ⟨b0, h0⟩ := hold j' b' hj'
    exact a5 j' b0 hne h0
end
section
variable {P : Program} {ro : Option Nat} {N κ : Nat}
/-- Nil fields of a slice's structs seen as slices that nobody writes. -/
theorem awp_nroA {c : Code} {m : Nat} {env : List (Nat × AV)} {rs : List (Nat × Option Blk)} {ms : List Nat} {Q : Exit → St → Prop} (k : Nat) {sz n : Nat} {f : Nat → AV} (f' : Nat → AV) (hk : lkr rs k = some (.avs sz n f)) (hf : ∀ j, j < n → nro (f j) = f' j) {rs' : List (Nat × Option Blk)} (hrs : set1 k (.avs sz n f') rs = rs')
    (h : awp P ro N κ c (CS.st ⟨m, env, rs', ms⟩) Q) : awp P ro N κ c (CS.st ⟨m, env, rs, ms⟩) Q := by
  intro n0 K Z ν w a hg
  refine h n0 K Z ν w a { hg with rs := ?_ }
  subst hrs
  obtain ⟨Ft, hF⟩ := hg.rs
  have e : (CS.st ⟨m, env, set1 k (.avs sz n f') rs, ms⟩).rs = fun j => if j = k then some (.avs sz n f') else lkr rs j := Zgf
  refine ⟨Ft, fun j b hj => ?_⟩
  rw [e] at hj
  have hold : ∀ j' b', (CS.st ⟨m, env, set1 k (.avs sz n f') rs, ms⟩).rs j' = some b' → ∃ b0, lkr rs j' = some b0 := fun j' b' h' => by
    rw [e] at h'
    dsimp only at h'
    by_cases h1 : j' = k
    · rw [h1]; exact ⟨_, hk⟩
    · rw [if_neg h1] at h'; exact ⟨_, h'⟩
  dsimp only at hj
  by_cases h1 : j = k
  · rw [if_pos h1] at hj
    cases hj
    subst h1
    obtain ⟨a1, a2, a3, a4, a5⟩ := hF j _ hk
    refine ⟨a1, fun i hi => ?_, ?_, a4, fun j' b' hne hj' => ?_⟩
    · rw [← hf i hi]; exact Zfk (a2 i hi)
    · exact Za8 (fun _ _ => rfl) (fun i es hi h => by rw [← hf i hi]; exact Zhn h) a3
    · obtain ⟨b0, h0⟩ := hold j' b' hj'
      exact a5 j' b0 hne h0
  · rw [if_neg h1] at hj
    obtain ⟨a1, a2, a3, a4, a5⟩ := hF j b hj
    refine ⟨a1, a2, a3, a4, fun j' b' hne hj' => ?_⟩
    obtain ⟨b0, h0⟩ := hold j' b' hj'
    exact a5 j' b0 hne h0
end
end Go.Proofs.Ytbcghiagomkadaa.Cal
