/- Own texts of the proof, merged, in order. -/
import Derived.Test.YtbcghiagomkadaaS11
set_option linter.unusedVariables false
set_option linter.unusedSimpArgs false
namespace Go.Proofs.Ytbcghiagomkadaa.Cal
open Go
def Gm.n (g : Gm) : Nat := g.own.length
def Gm.o (g : Gm) (v : Nat) : Int := g.own.getD v 0
def Gm.p (g : Gm) (v : Nat) : Int := g.pri.getD v 0
def Gm.x (g : Gm) (v : Nat) : List Int := g.nxt.getD v []
def rowOK (n : Nat) (l : List Int) (i : Nat) : Prop := 0 ≤ l.getD i 0 ∧ l.getD i 0 < n ∧ (0 < i → l.getD (i - 1) 0 < l.getD i 0)
def posOK (g : Gm) (v : Nat) : Prop := (0 ≤ g.o v ∧ g.o v ≤ 1 ∧ 0 ≤ g.p v ∧ g.p v ≤ 60 ∧ 1 ≤ (g.x v).length ∧ (g.x v).length ≤ 64) ∧ ∀ i, i < (g.x v).length → rowOK g.n (g.x v) i
def Valid (g : Gm) : Prop := g.n ≤ 20000 ∧ g.pri.length = g.n ∧ g.nxt.length = g.n ∧ ∀ v, v < g.n → posOK g v
open Classical in
noncomputable def validB (g : Gm) : Bool := decide (Valid g)
noncomputable def validS : Spec
  | [.agg (.cons (.roI o) (.cons (.roI p) (.cons (.roII x) .nil)))] => some ⟨True, .bool (validB ⟨o, p, x⟩), none⟩
  | _ => none
theorem Zd3 {g : Gm} (h : Valid g) : validB g = true := by simp [validB, h]
theorem Zca {g : Gm} (h : ¬ Valid g) : validB g = false := by simp [validB, h]
theorem validB_iff {g : Gm} : validB g = true ↔ Valid g := by simp [validB]
set_option maxRecDepth 4000 in
set_option maxHeartbeats 4000000 in
theorem valid_ok : FSpec Try.prog 36 validS := by
  refine Zba htb (fn := Try.f36) (by kernel_rfl) (by kernel_rfl) rfl (fun args r hS => ?_) (fun args r hS hob hl => ?_)
  · unfold validS at hS; split at hS <;> first | (cases hS; done) | (cases hS; exact Nat.le_of_ble_eq_true rfl)
  unfold validS at hS
  split at hS
  case h_2 => cases hS
  rename_i o p x
  simp only [Option.some.injEq] at hS
  subst hS
  simp only [lenP, mkL, lim] at hl
  dsimp only at hob
  repeat' first
    | with_reducible first | refine Zas ?_ | refine Zao ?_ | refine Zac ?_ | refine Zad ?_ | refine Zai ?_ | refine Zaq ?_ | refine Zah ?_ | refine Zak ?_ | refine Zar ?_ | refine Zat ?_ | refine Zap ?_ | refine Zam ?_ | refine Zaa ?_ | refine Zae ?_ | refine Zab ?_ | refine Zal ?_
    | ((with_reducible refine Zaj ?_ ?_); exact rfl)
    | ((with_reducible refine Zau ?_); refine Zan rfl ?_ ?_ <;> intro hb <;> (try simp only [zH] at hb))
    | ((with_reducible refine Za0 ?_); (first | refine Zaf htb hmz noSp (fun _ => false) rfl rfl ?_ | refine Zag hmo htb hmz noSp (fun _ => false) rfl rfl (by kernel_rfl) ?_); intro m' e' l' ob h; simp only [zE0, zE1, zE2, zE3, zE4, zE5, evp, evx, ev1, evLoad, evStore, evBin, isBoolK, forall_const, z38, tb, Nat.reduceAdd, Nat.reduceSub, Nat.reduceMul, Nat.reduceEqDiff, Nat.reduceLeDiff, Nat.reduceLT, Nat.reduceBEq, Nat.reduceBNe, ↓reduceIte, reduceIte] at h; obtain ⟨rfl, rfl, rfl, rfl⟩ := h; refine ⟨?_, ?_⟩)
    | ((with_reducible refine Ob.mk ?_); first | exact trivial | (intros; omega) | ((repeat' first | apply And.intro | (intro hg; have hg' := hg; try simp only [zH] at hg')) <;> first | assumption | omega | (simp only [zH]; omega)))
  · refine Zay rfl rfl (Zaw rfl ?_ rfl)
    show AV.bool false = AV.bool _
    rw [Zca]
    rintro ⟨h1, h2, h3, _⟩
    simp only [Gm.n] at h1 h2 h3
    omega
  · have ho : o.length ≤ 20000 := by omega
    have hp : p.length = o.length := by omega
    have hx : x.length = o.length := by omega
    clear hb
    refine Za1 (τ := Nat) (fun i => i ≤ o.length ∧ ∀ v, v < i → posOK ⟨o, p, x⟩ v) (fun i => ⟨24, [(27, .int .i64 i), (26, .int .i64 o.length), (3, .int .i64 o.length), (1, .rop (.agg (.cons (.roI o) (.cons (.roI p) (.cons (.roII x) .nil)))))], [], []⟩) (fun i => o.length - i) 0 [] ⟨rfl, by simp [zE0, zE1, zE2, zE3, zE4, zE5, evp, evx, ev1, evLoad, evStore, evBin, isBoolK, forall_const, z38, tb, Nat.reduceAdd, Nat.reduceSub, Nat.reduceMul, Nat.reduceEqDiff, Nat.reduceLeDiff, Nat.reduceLT, Nat.reduceBEq, Nat.reduceBNe, ↓reduceIte, reduceIte], by simp only [zE0, zE1, zE2, zE3, zE4, zE5, evp, evx, ev1, evLoad, evStore, evBin, isBoolK, forall_const, z38, tb, Nat.reduceAdd, Nat.reduceSub, Nat.reduceMul, Nat.reduceEqDiff, Nat.reduceLeDiff, Nat.reduceLT, Nat.reduceBEq, Nat.reduceBNe, ↓reduceIte, reduceIte]⟩ ⟨by omega, by omega⟩ ?_
    rintro v ⟨hv, hj⟩
    repeat' first
      | with_reducible first | refine Zas ?_ | refine Zao ?_ | refine Zac ?_ | refine Zad ?_ | refine Zai ?_ | refine Zaq ?_ | refine Zah ?_ | refine Zak ?_ | refine Zar ?_ | refine Zat ?_ | refine Zap ?_ | refine Zam ?_ | refine Zaa ?_ | refine Zae ?_ | refine Zab ?_ | refine Zal ?_
      | ((with_reducible refine Zaj ?_ ?_); exact rfl)
      | ((with_reducible refine Zau ?_); refine Zan rfl ?_ ?_ <;> intro hb <;> (try simp only [zH] at hb))
      | ((with_reducible refine Za0 ?_); (first | refine Zaf htb hmz noSp (fun _ => false) rfl rfl ?_ | refine Zag hmo htb hmz noSp (fun _ => false) rfl rfl (by kernel_rfl) ?_); intro m' e' l' ob h; simp only [zE0, zE1, zE2, zE3, zE4, zE5, evp, evx, ev1, evLoad, evStore, evBin, isBoolK, forall_const, z38, tb, Nat.reduceAdd, Nat.reduceSub, Nat.reduceMul, Nat.reduceEqDiff, Nat.reduceLeDiff, Nat.reduceLT, Nat.reduceBEq, Nat.reduceBNe, ↓reduceIte, reduceIte] at h; obtain ⟨rfl, rfl, rfl, rfl⟩ := h; refine ⟨?_, ?_⟩)
      | ((with_reducible refine Ob.mk ?_); first | exact trivial | (intros; omega) | ((repeat' first | apply And.intro | (intro hg; have hg' := hg; try simp only [zH] at hg')) <;> first | assumption | omega | (simp only [zH]; omega)))
    · refine Zay rfl rfl (Zaw rfl ?_ rfl)
      show AV.bool false = AV.bool _
      rw [Zca]
      rintro ⟨_, _, _, h4⟩
      obtain ⟨⟨a1, a2, a3, a4, a5, a6⟩, _⟩ := h4 v (by simp only [Gm.n]; omega)
      simp only [Gm.o, Gm.p, Gm.x] at a1 a2 a3 a4 a5 a6
      omega
    · rename_i hb1 hb2
      refine Za1 (τ := Nat) (fun i => i ≤ (x.getD v []).length ∧ ∀ k, k < i → rowOK o.length (x.getD v []) k) (fun i => ⟨82, [(84, .int .i64 i), (83, .int .i64 (x.getD v []).length), (82, .roI (x.getD v [])), (4, .int .i64 v), (27, .int .i64 v), (26, .int .i64 o.length), (3, .int .i64 o.length), (1, .rop (.agg (.cons (.roI o) (.cons (.roI p) (.cons (.roII x) .nil)))))], [], []⟩) (fun i => (x.getD v []).length - i) 0 [] ⟨rfl, by simp [zE0, zE1, zE2, zE3, zE4, zE5, evp, evx, ev1, evLoad, evStore, evBin, isBoolK, forall_const, z38, tb, Nat.reduceAdd, Nat.reduceSub, Nat.reduceMul, Nat.reduceEqDiff, Nat.reduceLeDiff, Nat.reduceLT, Nat.reduceBEq, Nat.reduceBNe, ↓reduceIte, reduceIte], by simp only [zE0, zE1, zE2, zE3, zE4, zE5, evp, evx, ev1, evLoad, evStore, evBin, isBoolK, forall_const, z38, tb, Nat.reduceAdd, Nat.reduceSub, Nat.reduceMul, Nat.reduceEqDiff, Nat.reduceLeDiff, Nat.reduceLT, Nat.reduceBEq, Nat.reduceBNe, ↓reduceIte, reduceIte]⟩ ⟨by omega, by omega⟩ ?_
      rintro i ⟨hi, hk⟩
      repeat' first
        | with_reducible first | refine Zas ?_ | refine Zao ?_ | refine Zac ?_ | refine Zad ?_ | refine Zai ?_ | refine Zaq ?_ | refine Zah ?_ | refine Zak ?_ | refine Zar ?_ | refine Zat ?_ | refine Zap ?_ | refine Zam ?_ | refine Zaa ?_ | refine Zae ?_ | refine Zab ?_ | refine Zal ?_
        | ((with_reducible refine Zaj ?_ ?_); exact rfl)
        | ((with_reducible refine Zau ?_); refine Zan rfl ?_ ?_ <;> intro hb <;> (try simp only [zH] at hb))
        | ((with_reducible refine Za0 ?_); (first | refine Zaf htb hmz noSp (fun _ => false) rfl rfl ?_ | refine Zag hmo htb hmz noSp (fun _ => false) rfl rfl (by kernel_rfl) ?_); intro m' e' l' ob h; simp only [zE0, zE1, zE2, zE3, zE4, zE5, evp, evx, ev1, evLoad, evStore, evBin, isBoolK, forall_const, z38, tb, Nat.reduceAdd, Nat.reduceSub, Nat.reduceMul, Nat.reduceEqDiff, Nat.reduceLeDiff, Nat.reduceLT, Nat.reduceBEq, Nat.reduceBNe, ↓reduceIte, reduceIte] at h; obtain ⟨rfl, rfl, rfl, rfl⟩ := h; refine ⟨?_, ?_⟩)
        | ((with_reducible refine Ob.mk ?_); first | exact trivial | (intros; omega) | ((repeat' first | apply And.intro | (intro hg; have hg' := hg; try simp only [zH] at hg')) <;> first | assumption | omega | (simp only [zH]; omega)))
      · refine Zay rfl rfl (Zaw rfl ?_ rfl)
        show AV.bool false = AV.bool _
        rw [Zca]
        rintro ⟨_, _, _, h4⟩
        obtain ⟨_, h5⟩ := h4 v (by simp only [Gm.n]; omega)
        obtain ⟨a1, a2, a3⟩ := h5 i (by simp only [Gm.x]; omega)
        simp only [Gm.x, Gm.n] at a1 a2 a3
        rcases hb with (h | h) | ⟨h, h'⟩
        · omega
        · omega
        · have := a3 (by omega)
          rw [show ((i : Int) - 1).toNat = i - 1 from by omega] at h'
          exact absurd this (Int.not_lt.2 h')
      · rename_i hb3
        refine back (i + 1) [] ?_ ⟨by omega, fun k hk' => ?_⟩ (by omega)
        · (refine ⟨rfl, ?_, ?_⟩ <;> simp only [zE0, zE1, zE2, zE3, zE4, zE5, evp, evx, ev1, evLoad, evStore, evBin, isBoolK, forall_const, z38, tb, Nat.reduceAdd, Nat.reduceSub, Nat.reduceMul, Nat.reduceEqDiff, Nat.reduceLeDiff, Nat.reduceLT, Nat.reduceBEq, Nat.reduceBNe, ↓reduceIte, reduceIte, zI])
        · rcases Nat.lt_succ_iff_lt_or_eq.1 hk' with h | rfl
          · exact hk k h
          · refine ⟨by omega, by omega, fun h0 => ?_⟩
            rw [show ((k : Int) - 1).toNat = k - 1 from by omega] at hb
            omega
      · refine back (v + 1) [] ?_ ⟨by omega, fun u hu => ?_⟩ (by omega)
        · (refine ⟨rfl, ?_, ?_⟩ <;> simp only [zE0, zE1, zE2, zE3, zE4, zE5, evp, evx, ev1, evLoad, evStore, evBin, isBoolK, forall_const, z38, tb, Nat.reduceAdd, Nat.reduceSub, Nat.reduceMul, Nat.reduceEqDiff, Nat.reduceLeDiff, Nat.reduceLT, Nat.reduceBEq, Nat.reduceBNe, ↓reduceIte, reduceIte, zI])
        · rcases Nat.lt_succ_iff_lt_or_eq.1 hu with h | rfl
          · exact hj u h
          · refine ⟨⟨?_, ?_, ?_, ?_, ?_, ?_⟩, fun k hk' => hk k (by simp only [Gm.x] at hk'; omega)⟩ <;> simp only [Gm.o, Gm.p, Gm.x] <;> omega
    · refine Zay rfl rfl (Zaw rfl ?_ rfl)
      show AV.bool true = AV.bool _
      rw [Zd3]
      exact ⟨ho, hp, hx, fun v hv' => hj v (by simp only [Gm.n] at hv'; omega)⟩
set_option maxRecDepth 4000 in
set_option maxHeartbeats 4000000 in
theorem valid12_ok : FSpec Try.prog 25 validS := by
  refine Zba htb (fn := Try.f25) (by kernel_rfl) (by kernel_rfl) rfl (fun args r hS => ?_) (fun args r hS hob hl => ?_)
  · unfold validS at hS; split at hS <;> first | (cases hS; done) | (cases hS; exact Nat.le_of_ble_eq_true rfl)
  unfold validS at hS
  split at hS
  case h_2 => cases hS
  rename_i o p x
  simp only [Option.some.injEq] at hS
  subst hS
  simp only [lenP, mkL, lim] at hl
  dsimp only at hob
  repeat' first
    | with_reducible first | refine Zas ?_ | refine Zao ?_ | refine Zac ?_ | refine Zad ?_ | refine Zai ?_ | refine Zaq ?_ | refine Zah ?_ | refine Zak ?_ | refine Zar ?_ | refine Zat ?_ | refine Zap ?_ | refine Zam ?_ | refine Zaa ?_ | refine Zae ?_ | refine Zab ?_ | refine Zal ?_
    | ((with_reducible refine Zaj ?_ ?_); exact rfl)
    | ((with_reducible refine Zau ?_); refine Zan rfl ?_ ?_ <;> intro hb <;> (try simp only [zH] at hb))
    | ((with_reducible refine Za0 ?_); (first | refine Zaf htb hmz noSp (fun _ => false) rfl rfl ?_ | refine Zag hmo htb hmz noSp (fun _ => false) rfl rfl (by kernel_rfl) ?_); intro m' e' l' ob h; simp only [zE0, zE1, zE2, zE3, zE4, zE5, evp, evx, ev1, evLoad, evStore, evBin, isBoolK, forall_const, z38, tb, Nat.reduceAdd, Nat.reduceSub, Nat.reduceMul, Nat.reduceEqDiff, Nat.reduceLeDiff, Nat.reduceLT, Nat.reduceBEq, Nat.reduceBNe, ↓reduceIte, reduceIte] at h; obtain ⟨rfl, rfl, rfl, rfl⟩ := h; refine ⟨?_, ?_⟩)
    | ((with_reducible refine Ob.mk ?_); first | exact trivial | (intros; omega) | ((repeat' first | apply And.intro | (intro hg; have hg' := hg; try simp only [zH] at hg')) <;> first | assumption | omega | (simp only [zH]; omega)))
  · refine Zay rfl rfl (Zaw rfl ?_ rfl)
    show AV.bool false = AV.bool _
    rw [Zca]
    rintro ⟨h1, h2, h3, _⟩
    simp only [Gm.n] at h1 h2 h3
    omega
  · have ho : o.length ≤ 20000 := by omega
    have hp : p.length = o.length := by omega
    have hx : x.length = o.length := by omega
    clear hb
    refine Za1 (τ := Nat) (fun i => i ≤ o.length ∧ ∀ v, v < i → posOK ⟨o, p, x⟩ v) (fun i => ⟨24, [(27, .int .i64 i), (26, .int .i64 o.length), (3, .int .i64 o.length), (1, .rop (.agg (.cons (.roI o) (.cons (.roI p) (.cons (.roII x) .nil)))))], [], []⟩) (fun i => o.length - i) 0 [] ⟨rfl, by simp [zE0, zE1, zE2, zE3, zE4, zE5, evp, evx, ev1, evLoad, evStore, evBin, isBoolK, forall_const, z38, tb, Nat.reduceAdd, Nat.reduceSub, Nat.reduceMul, Nat.reduceEqDiff, Nat.reduceLeDiff, Nat.reduceLT, Nat.reduceBEq, Nat.reduceBNe, ↓reduceIte, reduceIte], by simp only [zE0, zE1, zE2, zE3, zE4, zE5, evp, evx, ev1, evLoad, evStore, evBin, isBoolK, forall_const, z38, tb, Nat.reduceAdd, Nat.reduceSub, Nat.reduceMul, Nat.reduceEqDiff, Nat.reduceLeDiff, Nat.reduceLT, Nat.reduceBEq, Nat.reduceBNe, ↓reduceIte, reduceIte]⟩ ⟨by omega, by omega⟩ ?_
    rintro v ⟨hv, hj⟩
    repeat' first
      | with_reducible first | refine Zas ?_ | refine Zao ?_ | refine Zac ?_ | refine Zad ?_ | refine Zai ?_ | refine Zaq ?_ | refine Zah ?_ | refine Zak ?_ | refine Zar ?_ | refine Zat ?_ | refine Zap ?_ | refine Zam ?_ | refine Zaa ?_ | refine Zae ?_ | refine Zab ?_ | refine Zal ?_
      | ((with_reducible refine Zaj ?_ ?_); exact rfl)
      | ((with_reducible refine Zau ?_); refine Zan rfl ?_ ?_ <;> intro hb <;> (try simp only [zH] at hb))
      | ((with_reducible refine Za0 ?_); (first | refine Zaf htb hmz noSp (fun _ => false) rfl rfl ?_ | refine Zag hmo htb hmz noSp (fun _ => false) rfl rfl (by kernel_rfl) ?_); intro m' e' l' ob h; simp only [zE0, zE1, zE2, zE3, zE4, zE5, evp, evx, ev1, evLoad, evStore, evBin, isBoolK, forall_const, z38, tb, Nat.reduceAdd, Nat.reduceSub, Nat.reduceMul, Nat.reduceEqDiff, Nat.reduceLeDiff, Nat.reduceLT, Nat.reduceBEq, Nat.reduceBNe, ↓reduceIte, reduceIte] at h; obtain ⟨rfl, rfl, rfl, rfl⟩ := h; refine ⟨?_, ?_⟩)
      | ((with_reducible refine Ob.mk ?_); first | exact trivial | (intros; omega) | ((repeat' first | apply And.intro | (intro hg; have hg' := hg; try simp only [zH] at hg')) <;> first | assumption | omega | (simp only [zH]; omega)))
    · refine Zay rfl rfl (Zaw rfl ?_ rfl)
      show AV.bool false = AV.bool _
      rw [Zca]
      rintro ⟨_, _, _, h4⟩
      obtain ⟨⟨a1, a2, a3, a4, a5, a6⟩, _⟩ := h4 v (by simp only [Gm.n]; omega)
      simp only [Gm.o, Gm.p, Gm.x] at a1 a2 a3 a4 a5 a6
      omega
    · rename_i hb1 hb2
      refine Za1 (τ := Nat) (fun i => i ≤ (x.getD v []).length ∧ ∀ k, k < i → rowOK o.length (x.getD v []) k) (fun i => ⟨82, [(84, .int .i64 i), (83, .int .i64 (x.getD v []).length), (82, .roI (x.getD v [])), (4, .int .i64 v), (27, .int .i64 v), (26, .int .i64 o.length), (3, .int .i64 o.length), (1, .rop (.agg (.cons (.roI o) (.cons (.roI p) (.cons (.roII x) .nil)))))], [], []⟩) (fun i => (x.getD v []).length - i) 0 [] ⟨rfl, by simp [zE0, zE1, zE2, zE3, zE4, zE5, evp, evx, ev1, evLoad, evStore, evBin, isBoolK, forall_const, z38, tb, Nat.reduceAdd, Nat.reduceSub, Nat.reduceMul, Nat.reduceEqDiff, Nat.reduceLeDiff, Nat.reduceLT, Nat.reduceBEq, Nat.reduceBNe, ↓reduceIte, reduceIte], by simp only [zE0, zE1, zE2, zE3, zE4, zE5, evp, evx, ev1, evLoad, evStore, evBin, isBoolK, forall_const, z38, tb, Nat.reduceAdd, Nat.reduceSub, Nat.reduceMul, Nat.reduceEqDiff, Nat.reduceLeDiff, Nat.reduceLT, Nat.reduceBEq, Nat.reduceBNe, ↓reduceIte, reduceIte]⟩ ⟨by omega, by omega⟩ ?_
      rintro i ⟨hi, hk⟩
      repeat' first
        | with_reducible first | refine Zas ?_ | refine Zao ?_ | refine Zac ?_ | refine Zad ?_ | refine Zai ?_ | refine Zaq ?_ | refine Zah ?_ | refine Zak ?_ | refine Zar ?_ | refine Zat ?_ | refine Zap ?_ | refine Zam ?_ | refine Zaa ?_ | refine Zae ?_ | refine Zab ?_ | refine Zal ?_
        | ((with_reducible refine Zaj ?_ ?_); exact rfl)
        | ((with_reducible refine Zau ?_); refine Zan rfl ?_ ?_ <;> intro hb <;> (try simp only [zH] at hb))
        | ((with_reducible refine Za0 ?_); (first | refine Zaf htb hmz noSp (fun _ => false) rfl rfl ?_ | refine Zag hmo htb hmz noSp (fun _ => false) rfl rfl (by kernel_rfl) ?_); intro m' e' l' ob h; simp only [zE0, zE1, zE2, zE3, zE4, zE5, evp, evx, ev1, evLoad, evStore, evBin, isBoolK, forall_const, z38, tb, Nat.reduceAdd, Nat.reduceSub, Nat.reduceMul, Nat.reduceEqDiff, Nat.reduceLeDiff, Nat.reduceLT, Nat.reduceBEq, Nat.reduceBNe, ↓reduceIte, reduceIte] at h; obtain ⟨rfl, rfl, rfl, rfl⟩ := h; refine ⟨?_, ?_⟩)
        | ((with_reducible refine Ob.mk ?_); first | exact trivial | (intros; omega) | ((repeat' first | apply And.intro | (intro hg; have hg' := hg; try simp only [zH] at hg')) <;> first | assumption | omega | (simp only [zH]; omega)))
      · refine Zay rfl rfl (Zaw rfl ?_ rfl)
        show AV.bool false = AV.bool _
        rw [Zca]
        rintro ⟨_, _, _, h4⟩
        obtain ⟨_, h5⟩ := h4 v (by simp only [Gm.n]; omega)
        obtain ⟨a1, a2, a3⟩ := h5 i (by simp only [Gm.x]; omega)
        simp only [Gm.x, Gm.n] at a1 a2 a3
        rcases hb with (h | h) | ⟨h, h'⟩
        · omega
        · omega
        · have := a3 (by omega)
          rw [show ((i : Int) - 1).toNat = i - 1 from by omega] at h'
          exact absurd this (Int.not_lt.2 h')
      · rename_i hb3
        refine back (i + 1) [] ?_ ⟨by omega, fun k hk' => ?_⟩ (by omega)
        · (refine ⟨rfl, ?_, ?_⟩ <;> simp only [zE0, zE1, zE2, zE3, zE4, zE5, evp, evx, ev1, evLoad, evStore, evBin, isBoolK, forall_const, z38, tb, Nat.reduceAdd, Nat.reduceSub, Nat.reduceMul, Nat.reduceEqDiff, Nat.reduceLeDiff, Nat.reduceLT, Nat.reduceBEq, Nat.reduceBNe, ↓reduceIte, reduceIte, zI])
        · rcases Nat.lt_succ_iff_lt_or_eq.1 hk' with h | rfl
          · exact hk k h
          · refine ⟨by omega, by omega, fun h0 => ?_⟩
            rw [show ((k : Int) - 1).toNat = k - 1 from by omega] at hb
            omega
      · refine back (v + 1) [] ?_ ⟨by omega, fun u hu => ?_⟩ (by omega)
        · (refine ⟨rfl, ?_, ?_⟩ <;> simp only [zE0, zE1, zE2, zE3, zE4, zE5, evp, evx, ev1, evLoad, evStore, evBin, isBoolK, forall_const, z38, tb, Nat.reduceAdd, Nat.reduceSub, Nat.reduceMul, Nat.reduceEqDiff, Nat.reduceLeDiff, Nat.reduceLT, Nat.reduceBEq, Nat.reduceBNe, ↓reduceIte, reduceIte, zI])
        · rcases Nat.lt_succ_iff_lt_or_eq.1 hu with h | rfl
          · exact hj u h
          · refine ⟨⟨?_, ?_, ?_, ?_, ?_, ?_⟩, fun k hk' => hk k (by simp only [Gm.x] at hk'; omega)⟩ <;> simp only [Gm.o, Gm.p, Gm.x] <;> omega
    · refine Zay rfl rfl (Zaw rfl ?_ rfl)
      show AV.bool true = AV.bool _
      rw [Zd3]
      exact ⟨ho, hp, hx, fun v hv' => hj v (by simp only [Gm.n] at hv'; omega)⟩
end Go.Proofs.Ytbcghiagomkadaa.Cal
namespace Go.Proofs.Ytbcghiagomkadaa.Pl
theorem Zfl : ∀ (n : Nat) (l : List Nat), l.Nodup → (∀ x, x ∈ l → x < n) → l.length ≤ n := by
  intro n
  induction n with
  | zero => intro l _ h; cases l with
    | nil => simp
    | cons a t => exact absurd (h a List.mem_cons_self) (Nat.not_lt_zero _)
  | succ n ih =>
    intro l hn h
    have h1 := ih (l.filter fun x => x != n) (hn.filter _) (fun x hx => by
      rw [List.mem_filter] at hx
      have := h x hx.1
      have h2 : x ≠ n := by simpa using hx.2
      omega)
    have h2 : l.length ≤ (l.filter fun x => x != n).length + 1 := by
      clear ih h h1
      induction l with
      | nil => simp
      | cons a t ih =>
        rw [List.nodup_cons] at hn
        by_cases ha : a = n
        · subst ha
          have : (t.filter fun x => x != a) = t := List.filter_eq_self.2 fun x hx => by
            have : x ≠ a := fun e => hn.1 (e ▸ hx)
            simpa using this
          rw [List.filter_cons]
          simp [this]
        · rw [List.filter_cons]
          have : (a != n) = true := by simpa using ha
          rw [if_pos this]
          have := ih hn.2
          simp only [List.length_cons]
          omega
    omega
end Go.Proofs.Ytbcghiagomkadaa.Pl
namespace Go.Proofs.Ytbcghiagomkadaa.Cal
theorem Zf3 {α : Type} {x : List α} {i : Nat} {d : α} (h : i < x.length) : x.take (i + 1) = x.take i ++ [x.getD i d] := by
  rw [List.take_add_one, List.getD_eq_getElem?_getD, List.getElem?_eq_getElem h]; rfl
/-- The first i as f says, the others as h says. -/
def mix {β : Type} (f h : Nat → β) (n i : Nat) : List β := (List.range n).map fun v => if v < i then f v else h v
theorem Zdo {β : Type} {f h : Nat → β} {n i : Nat} : (mix f h n i).length = n := by simp [mix]
theorem Zdn {β : Type} {f h : Nat → β} {n i : Nat} : (mix f h n i).set i (f i) = mix f h n (i + 1) := by
  refine List.ext_getElem? fun j => ?_
  rw [List.getElem?_set]
  simp only [mix, List.getElem?_map, List.length_map, List.length_range]
  by_cases hj : j < n
  · rw [List.getElem?_range hj]
    by_cases hij : i = j
    · subst hij; simp [hj]
    · rw [if_neg hij]
      simp only [Option.map_some, Option.some.injEq]
      by_cases h1 : j < i
      · rw [if_pos h1, if_pos (by omega)]
      · rw [if_neg h1, if_neg (by omega)]
  · rw [List.getElem?_eq_none (by simpa using hj)]
    by_cases hij : i = j
    · subst hij; simp [hj]
    · rw [if_neg hij]; rfl
theorem mix_keep {β : Type} {f h : Nat → β} {n i : Nat} (e : f i = h i) : mix f h n i = mix f h n (i + 1) := by
  refine List.map_congr_left fun v hv => ?_
  by_cases h1 : v < i
  · rw [if_pos h1, if_pos (by omega)]
  · by_cases h2 : v = i
    · subst h2; rw [if_neg h1, if_pos (by omega), e]
    · rw [if_neg h1, if_neg (by omega)]
theorem Zgd {β : Type} {f : Nat → β} {x : List β} {d : β} : mix f (fun v => x.getD v d) x.length 0 = x := by
  refine List.ext_getElem (by simp [mix]) fun j h1 h2 => ?_
  simp [mix, List.getD_eq_getElem?_getD, h2]
theorem Zdp {β : Type} {f h : Nat → β} {n : Nat} : mix f h n n = (List.range n).map f := by
  refine List.map_congr_left fun v hv => ?_
  rw [if_pos (List.mem_range.1 hv)]
/-- The positions that are kept, below n. -/
def kp (k : List Bool) (n : Nat) : List Nat := (List.range n).filter fun v => k.getD v false
theorem kp_succ {k : List Bool} {n : Nat} : kp k (n + 1) = if k.getD n false = true then kp k n ++ [n] else kp k n := by
  unfold kp
  rw [List.range_succ, List.filter_append]
  cases h : k.getD n false with
  | true => rw [if_pos rfl]; congr 1; simp only [List.filter_cons, h, List.filter_nil]; rfl
  | false => rw [if_neg (by decide)]; simp only [List.filter_cons, h, List.filter_nil]; exact List.append_nil _
theorem kp_len {k : List Bool} {n : Nat} : (kp k n).length ≤ n := by
  have := List.length_filter_le (fun v => k.getD v false) (List.range n)
  rw [List.length_range] at this; exact this
end Go.Proofs.Ytbcghiagomkadaa.Cal
namespace Go.Proofs.Ytbcghiagomkadaa.Cal
open Go Pl
/-- The positions below i that have a move to t, in order, as often as they have it. -/
def bkI (x : List (List Int)) (t : Nat) : Nat → List Int
  | 0 => []
  | i + 1 => bkI x t i ++ List.replicate ((x.getD i []).count (t : Int)) (i : Int)
def bkJ (x : List (List Int)) (t i j : Nat) : List Int := bkI x t i ++ List.replicate (((x.getD i []).take j).count (t : Int)) (i : Int)
theorem bkI_len {x : List (List Int)} {t : Nat} (h : ∀ v, v < x.length → (x.getD v []).length ≤ 64) : ∀ i, i ≤ x.length → (bkI x t i).length ≤ 64 * i
  | 0, _ => by simp [bkI]
  | i + 1, hi => by
    have h1 := bkI_len (t := t) h i (by omega)
    have h2 : (x.getD i []).count (t : Int) ≤ (x.getD i []).length := List.count_le_length
    have h3 := h i (by omega)
    simp only [bkI, List.length_append, List.length_replicate]
    omega
theorem bkJ_zero {x : List (List Int)} {t i : Nat} : bkJ x t i 0 = bkI x t i := by simp [bkJ]
theorem bkJ_all {x : List (List Int)} {t i : Nat} : bkJ x t i (x.getD i []).length = bkI x t (i + 1) := by
  unfold bkJ; rw [List.take_length]; rfl
theorem bkJ_succ {x : List (List Int)} {t i j : Nat} (h : j < (x.getD i []).length) : bkJ x t i (j + 1) = if (x.getD i []).getD j 0 = (t : Int) then bkJ x t i j ++ [(i : Int)] else bkJ x t i j := by
  unfold bkJ
  rw [Zf3 (d := 0) h, List.count_append]
  by_cases he : (x.getD i []).getD j 0 = (t : Int)
  · rw [if_pos he, he, List.count_singleton_self, List.replicate_succ', List.append_assoc]
  · rw [if_neg he, List.count_singleton]
    have : ((x.getD i []).getD j 0 == (t : Int)) = false := by simpa using he
    rw [this]; simp
theorem map_set {β : Type} {f f' : Nat → β} {n t : Nat} {y : β} (h1 : t < n → f' t = y) (h2 : ∀ s, s ≠ t → f' s = f s) : ((List.range n).map f).set t y = (List.range n).map f' := by
  refine List.ext_getElem (by simp) fun j a b => ?_
  simp only [List.length_set, List.length_map, List.length_range] at a
  rw [List.getElem_set]
  split
  · rename_i e; subst e; simp [h1 a]
  · rename_i e; simp [h2 j (Ne.symm e)]
/-- A row of a game goes upwards. -/
theorem row_up {n : Nat} : ∀ {l : List Int}, (∀ i, i < l.length → rowOK n l i) → l.Pairwise (· < ·)
  | [], _ => List.Pairwise.nil
  | [a], _ => List.pairwise_singleton _ _
  | a :: b :: t, h => by
    have h1 : (b :: t).Pairwise (· < ·) := row_up (l := b :: t) fun i hi => by
      have := h (i + 1) (by simpa using hi)
      obtain ⟨r1, r2, r3⟩ := this
      refine ⟨r1, r2, fun h0 => ?_⟩
      obtain ⟨j, rfl⟩ : ∃ j, i = j + 1 := ⟨i - 1, by omega⟩
      exact r3 (Nat.succ_pos _)
    have hab : a < b := (h 1 (by simp)).2.2 (Nat.succ_pos _)
    refine List.pairwise_cons.2 ⟨fun c hc => ?_, h1⟩
    rcases List.mem_cons.1 hc with rfl | hc
    · exact hab
    · have := (List.pairwise_cons.1 h1).1 c hc
      omega
theorem row_of {g : Gm} (hV : Valid g) {u : Nat} (hu : u < g.own.length) : (g.nxt.getD u []).Pairwise (· < ·) ∧ ∀ a, a ∈ g.nxt.getD u [] → 0 ≤ a ∧ a < g.own.length := by
  obtain ⟨_, hr⟩ := hV.2.2.2 u hu
  refine ⟨row_up hr, fun a ha => ?_⟩
  obtain ⟨i, hi, rfl⟩ := List.getElem_of_mem ha
  have := hr i hi
  obtain ⟨r1, r2, _⟩ := this
  simp only [Gm.x, Gm.n] at r1 r2
  rw [List.getD_eq_getElem?_getD, List.getElem?_eq_getElem hi, Option.getD_some] at r1 r2
  exact ⟨r1, r2⟩
/-- A row's successors, as numbers. -/
def rws (x : List (List Int)) (v : Nat) : List Nat := (x.getD v []).map Int.toNat
theorem Zfd {x : List (List Int)} {v : Nat} : (rws x v).length = (x.getD v []).length := List.length_map ..
theorem Zf6 {x : List (List Int)} {v j : Nat} : (rws x v).getD j 0 = ((x.getD v []).getD j 0).toNat := by
  simp only [rws, List.getD_eq_getElem?_getD, List.getElem?_map]
  cases (x[v]?.getD [])[j]? <;> rfl
end Go.Proofs.Ytbcghiagomkadaa.Cal
namespace Go.Proofs.Ytbcghiagomkadaa.Cal
section
def up (f : Nat → Int) (v : Nat) (a : Int) : Nat → Int := fun w => if w = v then a else f w
theorem Zb8 {f : Nat → Int} {v : Nat} {a : Int} : up f v a v = a := if_pos rfl
theorem Zd4 {f : Nat → Int} {v w : Nat} {a : Int} (h : w ≠ v) : up f v a w = f w := if_neg h
inductive Rch (E : Nat → Nat → Prop) : Nat → Nat → Prop
  | refl (a : Nat) : Rch E a a
  | step {a b c : Nat} : Rch E a b → E b c → Rch E a c
theorem Rch.trans {E : Nat → Nat → Prop} {a b c : Nat} (h : Rch E a b) (h2 : Rch E b c) : Rch E a c := by
  induction h2 with
  | refl => exact h
  | step _ e ih => exact .step ih e
theorem Rch.one {E : Nat → Nat → Prop} {a b : Nat} (h : E a b) : Rch E a b := .step (.refl a) h
theorem Rch.closed {E : Nat → Nat → Prop} {C : Nat → Prop} (hC : ∀ a b, C a → E a b → C b) {a b : Nat} (h : Rch E a b) (ha : C a) : C b := by
  induction h with
  | refl => exact ha
  | step _ e ih => exact hC _ _ ih e
theorem Rch.mono {E E' : Nat → Nat → Prop} (hE : ∀ a b, E a b → E' a b) {a b : Nat} (h : Rch E a b) : Rch E' a b := by
  induction h with
  | refl => exact .refl _
  | step _ e ih => exact .step ih (hE _ _ e)
def Ed (row : Nat → List Nat) (ok : Nat → Prop) (v t : Nat) : Prop := t ∈ row v ∧ ok t
structure TJ (n : Nat) (row : Nat → List Nat) (ok : Nat → Prop) (num low nx of : Nat → Int) (path stack : List Nat) (cnt many : Int) : Prop where
  n0 : ∀ v, v < n → 0 ≤ num v ∧ num v ≤ cnt
  inj : ∀ v w, v < n → w < n → 0 < num v → num v = num w → v = w
  mok : ∀ v, v < n → 0 < num v → ok v
  stk : ∀ v, v ∈ stack ↔ v < n ∧ 0 < num v ∧ of v < 0
  srt : stack.Pairwise fun a b => num a < num b
  psub : path.Sublist stack
  nx0 : ∀ v, v < n → 0 ≤ nx v ∧ nx v ≤ (row v).length
  fin : ∀ v, v < n → 0 < num v → v ∉ path → nx v = (row v).length
  met : ∀ v, v < n → 0 < num v → ∀ j : Nat, (j : Int) < nx v → ok ((row v).getD j 0) → 0 < num ((row v).getD j 0)
  nun : ∀ v, v < n → num v = 0 → nx v = 0
  cls : ∀ v, v < n → 0 ≤ of v → ∀ t, Ed row ok v t → 0 ≤ of t
  ofr : ∀ v, v < n → of v < many ∧ (0 ≤ of v → 0 < num v)
  ofn : ∀ v, v < n → -1 ≤ of v
  scc : ∀ v w, v < n → w < n → 0 ≤ of v → 0 ≤ of w → (of v = of w ↔ Rch (Ed row ok) v w ∧ Rch (Ed row ok) w v)
  i8 : ∀ v, v ∈ path → ∀ w, w ∈ stack → num v ≤ num w → Rch (Ed row ok) v w
  lw : ∀ w, w ∈ stack → ∃ u, u ∈ stack ∧ low w = num u ∧ Rch (Ed row ok) w u
  ll : ∀ w, w ∈ stack → low w ≤ num w
  i10a : ∀ w, w ∈ stack → w ∉ path → low w < num w
  i10b : ∀ p, p ∈ path → ∀ w, w ∈ stack → num p ≤ num w → (∀ p', p' ∈ path → num p' ≤ num w → num p' ≤ num p) → low p ≤ low w
  i11 : ∀ w, w ∈ stack → ∀ j : Nat, (j : Int) < nx w → ok ((row w).getD j 0) → (row w).getD j 0 ∈ stack → low w ≤ num ((row w).getD j 0)
  i12 : ∀ w, w ∈ stack → ∃ p, p ∈ path ∧ num p ≤ num w
  m0 : 0 ≤ many
  mc : many + stack.length ≤ cnt
section
variable {n : Nat} {row : Nat → List Nat} {ok : Nat → Prop} {num low nx of : Nat → Int} {path stack : List Nat} {cnt many : Int}
theorem TJ.pn (H : TJ n row ok num low nx of path stack cnt many) {v : Nat} (h : v ∈ path) : v ∈ stack := H.psub.subset h
theorem TJ.psrt (H : TJ n row ok num low nx of path stack cnt many) : path.Pairwise fun a b => num a < num b := H.srt.sublist H.psub
theorem TJ.last (H : TJ n row ok num low nx of path stack cnt many) {p : List Nat} {v : Nat} (h : path = p ++ [v]) : ∀ w, w ∈ p → num w < num v := by
  intro w hw
  have := H.psrt
  rw [h, List.pairwise_append] at this
  exact this.2.2 w hw v List.mem_cons_self
theorem TJ.lastle (H : TJ n row ok num low nx of path stack cnt many) {p : List Nat} {v : Nat} (h : path = p ++ [v]) : ∀ w, w ∈ path → num w ≤ num v := by
  intro w hw
  rw [h] at hw
  rcases List.mem_append.1 hw with hw | hw
  · have := H.last h w hw; omega
  · rw [List.mem_singleton.1 hw]; exact Int.le_refl _
/-- A position is met. -/
theorem TJ.enter (H : TJ n row ok num low nx of path stack cnt many) (hrow : ∀ v, v < n → ∀ t, t ∈ row v → t < n) {t : Nat} (ht : t < n) (hok : ok t) (hn : num t = 0) (hof : of t < 0)
    (hm : path = [] ∨ ∃ p v, path = p ++ [v] ∧ Ed row ok v t) :
    TJ n row ok (up num t (cnt + 1)) (up low t (cnt + 1)) nx of (path ++ [t]) (stack ++ [t]) (cnt + 1) many := by
  have hts : t ∉ stack := fun h => by have := ((H.stk t).1 h).2.1; omega
  have htp : t ∉ path := fun h => hts (H.pn h)
  have hcn : 0 ≤ cnt := by have := (H.n0 t ht).1; have := (H.n0 t ht).2; omega
  have hsn : ∀ w, w ∈ stack → up num t (cnt + 1) w = num w := fun w h => Zd4 (fun e => hts (e ▸ h))
  have hsl : ∀ w, w ∈ stack → up low t (cnt + 1) w = low w := fun w h => Zd4 (fun e => hts (e ▸ h))
  have hpn : ∀ w, w ∈ path → up num t (cnt + 1) w = num w := fun w h => hsn w (H.pn h)
  have hsb : ∀ w, w ∈ stack → w < n ∧ num w ≤ cnt := fun w h => by have h1 := ((H.stk w).1 h).1; exact ⟨h1, (H.n0 w h1).2⟩
  have hgt : ∀ w, 0 < num w → 0 < up num t (cnt + 1) w := fun w h => by
    by_cases e : w = t
    · subst e; rw [Zb8]; omega
    · rw [Zd4 e]; exact h
  have hto : ∀ v w, v ∈ stack → w = t → Rch (Ed row ok) v w → True := fun _ _ _ _ _ => trivial
  have hps : path = [] → stack = [] := fun h => by
    cases hs : stack with
    | nil => rfl
    | cons a l =>
      obtain ⟨p, hp, _⟩ := H.i12 a (by rw [hs]; exact List.mem_cons_self)
      rw [h] at hp; exact absurd hp List.not_mem_nil
  refine { n0 := fun v hv => ?_, inj := fun v w hv hw h1 h2 => ?_, mok := fun v hv h => ?_, stk := fun v => ?_, srt := ?_, psub := H.psub.append (List.Sublist.refl _), nx0 := H.nx0, fin := fun v hv h1 h2 => ?_, met := fun v hv h1 j hj h2 => ?_, nun := fun v hv h => ?_, cls := H.cls, ofr := fun v hv => ?_, ofn := H.ofn, scc := H.scc, i8 := fun v hv w hw h => ?_, lw := fun w hw => ?_, ll := fun w hw => ?_, i10a := fun w hw h => ?_, i10b := fun p hp w hw h1 h2 => ?_, i11 := fun w hw j hj h1 h2 => ?_, i12 := fun w hw => ?_, m0 := H.m0, mc := ?_ }
  · by_cases e : v = t
    · subst e; rw [Zb8]; omega
    · rw [Zd4 e]; have := H.n0 v hv; omega
  · by_cases e : v = t
    · by_cases e2 : w = t
      · rw [e, e2]
      · rw [e, Zb8, Zd4 e2] at h2
        have := (H.n0 w hw).2; omega
    · rw [Zd4 e] at h1 h2
      by_cases e2 : w = t
      · rw [e2, Zb8] at h2
        have := (H.n0 v hv).2; omega
      · rw [Zd4 e2] at h2; exact H.inj v w hv hw h1 h2
  · by_cases e : v = t
    · rw [e]; exact hok
    · rw [Zd4 e] at h; exact H.mok v hv h
  · rw [List.mem_append, List.mem_singleton]
    by_cases e : v = t
    · subst e
      rw [Zb8]
      exact ⟨fun _ => ⟨ht, by omega, hof⟩, fun _ => .inr rfl⟩
    · rw [Zd4 e]
      exact ⟨fun h => h.elim (fun h => (H.stk v).1 h) (fun h => absurd h e), fun h => .inl ((H.stk v).2 h)⟩
  · rw [List.pairwise_append]
    refine ⟨H.srt.imp_of_mem fun {a b} ha hb h => ?_, List.pairwise_singleton _ _, fun a ha b hb => ?_⟩
    · rw [hsn a ha, hsn b hb]; exact h
    · rw [List.mem_singleton.1 hb, Zb8, hsn a ha]; have := (hsb a ha).2; omega
  · rw [List.mem_append, List.mem_singleton, not_or] at h2
    rw [Zd4 h2.2] at h1
    exact H.fin v hv h1 h2.1
  · by_cases e : v = t
    · subst e; have := H.nun v hv hn; omega
    · rw [Zd4 e] at h1
      exact hgt _ (H.met v hv h1 j hj h2)
  · by_cases e : v = t
    · subst e; rw [Zb8] at h; omega
    · rw [Zd4 e] at h; exact H.nun v hv h
  · refine ⟨(H.ofr v hv).1, fun h => hgt _ ((H.ofr v hv).2 h)⟩
  · rw [List.mem_append, List.mem_singleton] at hv hw
    rcases hv with hv | rfl
    · rcases hw with hw | rfl
      · rw [hpn v hv, hsn w hw] at h; exact H.i8 v hv w hw h
      · rcases hm with hm | ⟨p, u, hm, he⟩
        · rw [hm] at hv; exact absurd hv List.not_mem_nil
        · exact .step (H.i8 v hv u (H.pn (by rw [hm]; exact List.mem_append_right _ List.mem_cons_self)) (H.lastle hm v hv)) he
    · rcases hw with hw | rfl
      · rw [Zb8, hsn w hw] at h; have := (hsb w hw).2; omega
      · exact .refl _
  · rw [List.mem_append, List.mem_singleton] at hw
    rcases hw with hw | rfl
    · obtain ⟨u, h1, h2, h3⟩ := H.lw w hw
      exact ⟨u, List.mem_append_left _ h1, by rw [hsl w hw, hsn u h1]; exact h2, h3⟩
    · exact ⟨w, List.mem_append_right _ List.mem_cons_self, by rw [Zb8, Zb8], .refl _⟩
  · rw [List.mem_append, List.mem_singleton] at hw
    rcases hw with hw | rfl
    · rw [hsl w hw, hsn w hw]; exact H.ll w hw
    · rw [Zb8, Zb8]; exact Int.le_refl _
  · rw [List.mem_append, List.mem_singleton] at hw h
    rw [not_or] at h
    rcases hw with hw | rfl
    · rw [hsl w hw, hsn w hw]; exact H.i10a w hw h.1
    · exact absurd rfl h.2
  · rw [List.mem_append, List.mem_singleton] at hw hp
    rcases hw with hw | rfl
    · rcases hp with hp | rfl
      · rw [hpn p hp, hsn w hw] at h1
        rw [hsl w hw, hsl p (H.pn hp)]
        refine H.i10b p hp w hw h1 fun p' hp' h => ?_
        have := h2 p' (List.mem_append_left _ hp') (by rw [hpn p' hp', hsn w hw]; exact h)
        rw [hpn p' hp', hpn p hp] at this; exact this
      · rw [Zb8, hsn w hw] at h1; have := (hsb w hw).2; omega
    · rcases hp with hp | rfl
      · have := h2 w (List.mem_append_right _ List.mem_cons_self) (Int.le_refl _)
        rw [Zb8, hpn p hp] at this
        have := (hsb p (H.pn hp)).2; omega
      · exact Int.le_refl _
  · rw [List.mem_append, List.mem_singleton] at hw
    rcases hw with hw | rfl
    · obtain ⟨hwn, hwp, _⟩ := (H.stk w).1 hw
      have hm2 := H.met w hwn hwp j hj h1
      have hne : (row w).getD j 0 ≠ t := fun e => by rw [e] at hm2; omega
      rw [hsl w hw, Zd4 hne]
      rw [List.mem_append, List.mem_singleton] at h2
      exact H.i11 w hw j hj h1 (h2.elim id fun h => absurd h hne)
    · have := H.nun w ht hn; omega
  · rw [List.mem_append, List.mem_singleton] at hw
    rcases hw with hw | rfl
    · obtain ⟨p, hp, h⟩ := H.i12 w hw
      exact ⟨p, List.mem_append_left _ hp, by rw [hpn p hp, hsn w hw]; exact h⟩
    · exact ⟨w, List.mem_append_right _ List.mem_cons_self, Int.le_refl _⟩
  · have := H.mc
    rw [List.length_append, List.length_singleton]; omega
theorem TJ.first (H : TJ n row ok num low nx of path stack cnt many) {v : Nat} (hp : path = [v]) : low v = num v := by
  have hv : v ∈ path := by rw [hp]; exact List.mem_cons_self
  obtain ⟨u, h1, h2, _⟩ := H.lw v (H.pn hv)
  obtain ⟨a, ha, h⟩ := H.i12 u h1
  rw [hp, List.mem_singleton] at ha
  subst ha
  have := H.ll a (H.pn hv)
  omega
end
/-! Sums -/
def sm (f : Nat → Int) : Nat → Int
  | 0 => 0
  | n + 1 => sm f n + f n
theorem sm_same {f h : Nat → Int} : ∀ {n : Nat}, (∀ v, v < n → f v = h v) → sm f n = sm h n
  | 0, _ => rfl
  | n + 1, H => by rw [sm, sm, sm_same fun v hv => H v (by omega), H n (by omega)]
theorem sm_up {f : Nat → Int} {v : Nat} {a : Int} : ∀ {n : Nat}, v < n → sm (up f v a) n = sm f n - f v + a
  | 0, h => absurd h (Nat.not_lt_zero v)
  | n + 1, h => by
    rw [sm, sm]
    by_cases e : v = n
    · subst e
      rw [Zb8, sm_same (f := up f v a) (h := f) fun w hw => Zd4 (by omega)]
      omega
    · rw [sm_up (n := n) (by omega), Zd4 (by omega)]
      omega
theorem sm_nonneg {f : Nat → Int} : ∀ {n : Nat}, (∀ v, v < n → 0 ≤ f v) → 0 ≤ sm f n
  | 0, _ => by unfold sm; omega
  | n + 1, H => by rw [sm]; have := sm_nonneg (f := f) (n := n) fun v hv => H v (by omega); have := H n (by omega); omega
end
section
open Go Pl
/-- The rows of a game as numbers. -/
def okP (p : List Int) (top : Int) (v : Nat) : Prop := p.getD v 0 ≤ top
theorem upL {xs : List Int} {v : Nat} {a : Int} (h : v < xs.length) : (fun w => (xs.set v a).getD w 0) = up (fun w => xs.getD w 0) v a := by
  funext w
  rw [Zch h]; rfl
structure TS where
  num : List Int
  low : List Int
  nx : List Int
  of : List Int
  path : List Nat
  stack : List Nat
  cnt : Int
  many : Int
  i : Nat
def unm (num : List Int) (v : Nat) : Int := if num.getD v 0 = 0 then 1 else 0
structure TV (n : Nat) (p : List Int) (x : List (List Int)) (top : Int) (s : TS) : Prop where
  ln : s.num.length = n
  ll : s.low.length = n
  lx : s.nx.length = n
  lo : s.of.length = n
  tj : TJ n (rws x) (okP p top) (fun v => s.num.getD v 0) (fun v => s.low.getD v 0) (fun v => s.nx.getD v 0) (fun v => s.of.getD v 0) s.path s.stack s.cnt s.many
  cn : s.cnt + sm (unm s.num) n = n
  im : s.i ≤ n
  dn : ∀ v, v < s.i → okP p top v → 0 < s.num.getD v 0
theorem TV.facts {n : Nat} {p : List Int} {x : List (List Int)} {top : Int} {s : TS} (H : TV n p x top s) : 0 ≤ s.cnt ∧ s.cnt ≤ n ∧ 0 ≤ s.many ∧ s.many ≤ n ∧ s.path.length ≤ n ∧ s.stack.length ≤ n ∧ (∀ v, v ∈ s.path → v < n) ∧ (∀ v, v ∈ s.stack → v < n) := by
  have h1 : 0 ≤ sm (unm s.num) n := sm_nonneg fun v hv => by unfold unm; split <;> omega
  have h2 := H.cn
  have h3 := H.tj.mc
  have h4 := H.tj.m0
  have h5 : ∀ v, v ∈ s.stack → v < n := fun v h => ((H.tj.stk v).1 h).1
  have h6 := H.tj.psub.length_le
  refine ⟨by omega, by omega, h4, by omega, by omega, by omega, fun v h => h5 v (H.tj.pn h), h5⟩
section
variable {n : Nat} {p : List Int} {x : List (List Int)} {top : Int} {s : TS}
theorem TV.next (H : TV n p x top s) (hi : s.i < n) (hd : okP p top s.i → 0 < s.num.getD s.i 0) : TV n p x top { s with i := s.i + 1 } :=
  { H with
    im := hi
    dn := fun v hv ho => (Nat.lt_succ_iff_lt_or_eq.1 hv).elim (fun h => H.dn v h ho) (fun h => by subst h; exact hd ho) }
theorem TV.enter (H : TV n p x top s) (hrow : ∀ v, v < n → ∀ t, t ∈ rws x v → t < n) {t : Nat} (ht : t < n) (hok : okP p top t) (hn : s.num.getD t 0 = 0) (hm : s.path = [] ∨ ∃ q v, s.path = q ++ [v] ∧ Ed (rws x) (okP p top) v t) :
    TV n p x top { s with num := s.num.set t (s.cnt + 1), low := s.low.set t (s.cnt + 1), path := s.path ++ [t], stack := s.stack ++ [t], cnt := s.cnt + 1 } := by
  have h1 : t < s.num.length := by rw [H.ln]; exact ht
  have h2 : t < s.low.length := by rw [H.ll]; exact ht
  have hof : s.of.getD t 0 < 0 := by
    rcases Int.lt_or_le (s.of.getD t 0) 0 with h | h
    · exact h
    · have := (H.tj.ofr t ht).2 h
      have : 0 < s.num.getD t 0 := this
      omega
  have hc := H.facts.1
  have hj := H.tj.enter hrow ht hok hn hof hm
  refine { ln := by rw [List.length_set]; exact H.ln, ll := by rw [List.length_set]; exact H.ll, lx := H.lx, lo := H.lo, tj := by rw [upL h1, upL h2]; exact hj, cn := ?_, im := H.im, dn := fun v hv ho => ?_ }
  · have e : unm (s.num.set t (s.cnt + 1)) = up (unm s.num) t 0 := by
      funext w
      unfold unm up
      dsimp only
      rw [Zch h1]
      by_cases e : w = t
      · rw [if_pos e, if_pos e, if_neg (by omega)]
      · rw [if_neg e, if_neg e]
    have e2 : unm s.num t = 1 := if_pos hn
    have := H.cn
    dsimp only
    rw [e, sm_up ht, e2]; omega
  · have := H.dn v hv ho
    show 0 < (s.num.set t (s.cnt + 1)).getD v 0
    rw [Zch h1]
    split
    · omega
    · exact this
end
theorem map_last {p : List Nat} {v : Nat} : ((p ++ [v]).map fun v : Nat => (v : Int)).getD (((((p ++ [v]).map fun v : Nat => (v : Int)).length : Nat) : Int) - 1).toNat 0 = v := by
  have : (((((p ++ [v]).map fun v : Nat => (v : Int)).length : Nat) : Int) - 1).toNat = p.length := by
    rw [List.length_map, List.length_append, List.length_singleton]; omega
  rw [this, List.map_append, List.getD_eq_getElem?_getD, List.getElem?_append_right (by rw [List.length_map]; exact Nat.le_refl _), List.length_map, Nat.sub_self]; rfl
theorem map_cut {p : List Nat} {v : Nat} : ((p ++ [v]).map fun v : Nat => (v : Int)).take (((((p ++ [v]).map fun v : Nat => (v : Int)).length : Nat) : Int) - 1).toNat = p.map fun v : Nat => (v : Int) := by
  have : (((((p ++ [v]).map fun v : Nat => (v : Int)).length : Nat) : Int) - 1).toNat = (p.map fun v : Nat => (v : Int)).length := by
    rw [List.length_map, List.length_append, List.length_singleton, List.length_map]; omega
  rw [this, List.map_append, List.take_left']
  rfl
end
section
open Go Pl
/-- By at least one move, through positions up to a priority. -/
def Rch1 (g : Gm) (top : Int) (v w : Nat) : Prop := ∃ t, Ed (rws g.nxt) (okP g.pri top) v t ∧ Rch (Ed (rws g.nxt) (okP g.pri top)) t w
theorem Rch.head {E : Nat → Nat → Prop} {a b : Nat} (h : Rch E a b) : a = b ∨ ∃ t, E a t ∧ Rch E t b := by
  induction h with
  | refl => exact .inl rfl
  | step h e ih =>
    rcases ih with rfl | ⟨t, h1, h2⟩
    · exact .inr ⟨_, e, .refl _⟩
    · exact .inr ⟨t, h1, .step h2 e⟩
end
section
open Go Pl
def RchA (x : List (List Int)) : Nat → Nat → Prop := Rch fun a b => b ∈ rws x a
theorem RchA.cons {x : List (List Int)} {a b c : Nat} (h : b ∈ rws x a) (h2 : RchA x b c) : RchA x a c := Rch.trans (Rch.one h) h2
/-- A position that comes again by a way whose greatest priority is its own and the player's. -/
def again (g : Gm) (pl : Int) (v : Nat) : Prop := g.pri.getD v 0 % 2 = pl ∧ Rch1 g (g.pri.getD v 0) v v
/-- From where a player who chooses alone wins. -/
def alone (g : Gm) (pl : Int) (v : Nat) : Prop := ∃ w, w < g.own.length ∧ again g pl w ∧ RchA g.nxt v w
open Classical in
noncomputable def aloneL (g : Gm) (pl : Int) : List Bool := (List.range g.own.length).map fun v => decide (alone g pl v)
theorem Zcz {g : Gm} {pl : Int} {v : Nat} (hv : v < g.own.length) : (aloneL g pl).getD v false = true ↔ alone g pl v := by
  simp [aloneL, List.getD_eq_getElem?_getD, hv]
theorem aloneL_eq {g : Gm} {pl : Int} {l : List Bool} (hl : l.length = g.own.length) (h : ∀ v, v < g.own.length → (l.getD v false = true ↔ alone g pl v)) : l = aloneL g pl := by
  refine List.ext_getElem (by simp [aloneL, hl]) fun j h1 h2 => ?_
  have h3 := h j (by omega)
  have h4 := Zcz (g := g) (pl := pl) (v := j) (by omega)
  rw [List.getD_eq_getElem?_getD, List.getElem?_eq_getElem h1] at h3
  rw [List.getD_eq_getElem?_getD, List.getElem?_eq_getElem h2] at h4
  simp only [Option.getD_some] at h3 h4
  exact Bool.eq_iff_iff.2 (h3.trans h4.symm)
end
end Go.Proofs.Ytbcghiagomkadaa.Cal
