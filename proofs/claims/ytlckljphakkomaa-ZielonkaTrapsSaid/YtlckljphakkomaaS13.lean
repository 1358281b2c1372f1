/- Own texts of the proof, merged, in order. -/
import Derived.Test.YtlckljphakkomaaS12
set_option linter.unusedVariables false
set_option linter.unusedSimpArgs false
namespace Go.Proofs.Ytlckljphakkomaa.Cal
open Go
def Gm.n (g : Gm) : Nat := g.own.length
def Gm.o (g : Gm) (v : Nat) : Int := g.own.getD v 0
def Gm.p (g : Gm) (v : Nat) : Int := g.pri.getD v 0
def Gm.x (g : Gm) (v : Nat) : List Int := g.nxt.getD v []
def rowOK (n : Nat) (l : List Int) (i : Nat) : Prop := 0 ≤ l.getD i 0 ∧ l.getD i 0 < n ∧ (0 < i → l.getD (i - 1) 0 < l.getD i 0)
def posOK (g : Gm) (v : Nat) : Prop := (0 ≤ g.o v ∧ g.o v ≤ 1 ∧ 0 ≤ g.p v ∧ g.p v ≤ 60 ∧ 1 ≤ (g.x v).length ∧ (g.x v).length ≤ 64) ∧ ∀ i, i < (g.x v).length → rowOK g.n (g.x v) i
def Valid (g : Gm) : Prop := g.n ≤ 20000 ∧ g.pri.length = g.n ∧ g.nxt.length = g.n ∧ ∀ v, v < g.n → posOK g v
open Classical in
noncomputable def validB (g : Gm) : Bool := decide (Valid g)
noncomputable def validS : Spec
  | [.agg (.cons (.roI o) (.cons (.roI p) (.cons (.roII x) .nil)))] => some ⟨True, .bool (validB ⟨o, p, x⟩), none⟩
  | _ => none
theorem validB_true {g : Gm} (h : Valid g) : validB g = true := by simp [validB, h]
theorem validB_false {g : Gm} (h : ¬ Valid g) : validB g = false := by simp [validB, h]
theorem validB_iff {g : Gm} : validB g = true ↔ Valid g := by simp [validB]
set_option maxRecDepth 4000 in
set_option maxHeartbeats 4000000 in
theorem valid_ok : FSpec Try.prog 23 validS := by
  refine fspec_of htb (fn := Try.f23) (by kernel_rfl) (by kernel_rfl) rfl (fun args r hS => ?_) (fun args r hS hob hl => ?_)
  · unfold validS at hS; split at hS <;> first | (cases hS; done) | (cases hS; exact Nat.le_of_ble_eq_true rfl)
  unfold validS at hS
  split at hS
  case h_2 => cases hS
  rename_i o p x
  simp only [Option.some.injEq] at hS
  subst hS
  simp only [lenP, mkL, lim] at hl
  dsimp only at hob
  repeat' first
    | with_reducible first | refine awp_seq ?_ | refine awp_block ?_ | refine next_then ?_ | refine next_block ?_ | refine exit_then ?_ | refine ret_then ?_ | refine ret_block ?_ | refine exit_here ?_ | refine awp_exit ?_ | refine awp_ret ?_ | refine awp_skip ?_ | refine awp_label ?_ | refine next_noGoto ?_ | refine ret_noGoto ?_ | refine exit_noGoto ?_ | refine awp_scope ?_
    | ((with_reducible refine exit_past ?_ ?_); exact rfl)
    | ((with_reducible refine isCond ?_); refine awp_condO rfl ?_ ?_ <;> intro hb <;> (try simp only [zH] at hb))
    | ((with_reducible refine isReg ?_); (first | refine awp_textM htb hmz noSp (fun _ => false) rfl rfl ?_ | refine awp_drawM hmo htb hmz noSp (fun _ => false) rfl rfl (by kernel_rfl) ?_); intro m' e' l' ob h; simp only [zE0, zE1, zE2, zE3, zE4, zE5, evp, evx, ev1, evLoad, evStore, evBin, isBoolK, forall_const, z38, tb, Nat.reduceAdd, Nat.reduceSub, Nat.reduceMul, Nat.reduceEqDiff, Nat.reduceLeDiff, Nat.reduceLT, Nat.reduceBEq, Nat.reduceBNe, ↓reduceIte, reduceIte] at h; obtain ⟨rfl, rfl, rfl, rfl⟩ := h; refine ⟨?_, ?_⟩)
    | ((with_reducible refine Ob.mk ?_); first | exact trivial | (intros; omega) | ((repeat' first | apply And.intro | (intro hg; have hg' := hg; try simp only [zH] at hg')) <;> first | assumption | omega | (simp only [zH]; omega)))
  · refine fin_ret rfl rfl (spec_flat rfl ?_ rfl)
    show AV.bool false = AV.bool _
    rw [validB_false]
    rintro ⟨h1, h2, h3, _⟩
    simp only [Gm.n] at h1 h2 h3
    omega
  · have ho : o.length ≤ 20000 := by omega
    have hp : p.length = o.length := by omega
    have hx : x.length = o.length := by omega
    clear hb
    refine awp_loopC (τ := Nat) (fun i => i ≤ o.length ∧ ∀ v, v < i → posOK ⟨o, p, x⟩ v) (fun i => ⟨24, [(27, .int .i64 i), (26, .int .i64 o.length), (3, .int .i64 o.length), (1, .rop (.agg (.cons (.roI o) (.cons (.roI p) (.cons (.roII x) .nil)))))], [], []⟩) (fun i => o.length - i) 0 [] ⟨rfl, by simp [zE0, zE1, zE2, zE3, zE4, zE5, evp, evx, ev1, evLoad, evStore, evBin, isBoolK, forall_const, z38, tb, Nat.reduceAdd, Nat.reduceSub, Nat.reduceMul, Nat.reduceEqDiff, Nat.reduceLeDiff, Nat.reduceLT, Nat.reduceBEq, Nat.reduceBNe, ↓reduceIte, reduceIte], by simp only [zE0, zE1, zE2, zE3, zE4, zE5, evp, evx, ev1, evLoad, evStore, evBin, isBoolK, forall_const, z38, tb, Nat.reduceAdd, Nat.reduceSub, Nat.reduceMul, Nat.reduceEqDiff, Nat.reduceLeDiff, Nat.reduceLT, Nat.reduceBEq, Nat.reduceBNe, ↓reduceIte, reduceIte]⟩ ⟨by omega, by omega⟩ ?_
    rintro v ⟨hv, hj⟩
    repeat' first
      | with_reducible first | refine awp_seq ?_ | refine awp_block ?_ | refine next_then ?_ | refine next_block ?_ | refine exit_then ?_ | refine ret_then ?_ | refine ret_block ?_ | refine exit_here ?_ | refine awp_exit ?_ | refine awp_ret ?_ | refine awp_skip ?_ | refine awp_label ?_ | refine next_noGoto ?_ | refine ret_noGoto ?_ | refine exit_noGoto ?_ | refine awp_scope ?_
      | ((with_reducible refine exit_past ?_ ?_); exact rfl)
      | ((with_reducible refine isCond ?_); refine awp_condO rfl ?_ ?_ <;> intro hb <;> (try simp only [zH] at hb))
      | ((with_reducible refine isReg ?_); (first | refine awp_textM htb hmz noSp (fun _ => false) rfl rfl ?_ | refine awp_drawM hmo htb hmz noSp (fun _ => false) rfl rfl (by kernel_rfl) ?_); intro m' e' l' ob h; simp only [zE0, zE1, zE2, zE3, zE4, zE5, evp, evx, ev1, evLoad, evStore, evBin, isBoolK, forall_const, z38, tb, Nat.reduceAdd, Nat.reduceSub, Nat.reduceMul, Nat.reduceEqDiff, Nat.reduceLeDiff, Nat.reduceLT, Nat.reduceBEq, Nat.reduceBNe, ↓reduceIte, reduceIte] at h; obtain ⟨rfl, rfl, rfl, rfl⟩ := h; refine ⟨?_, ?_⟩)
      | ((with_reducible refine Ob.mk ?_); first | exact trivial | (intros; omega) | ((repeat' first | apply And.intro | (intro hg; have hg' := hg; try simp only [zH] at hg')) <;> first | assumption | omega | (simp only [zH]; omega)))
    · refine fin_ret rfl rfl (spec_flat rfl ?_ rfl)
      show AV.bool false = AV.bool _
      rw [validB_false]
      rintro ⟨_, _, _, h4⟩
      obtain ⟨⟨a1, a2, a3, a4, a5, a6⟩, _⟩ := h4 v (by simp only [Gm.n]; omega)
      simp only [Gm.o, Gm.p, Gm.x] at a1 a2 a3 a4 a5 a6
      omega
    · rename_i hb1 hb2
      refine awp_loopC (τ := Nat) (fun i => i ≤ (x.getD v []).length ∧ ∀ k, k < i → rowOK o.length (x.getD v []) k) (fun i => ⟨82, [(84, .int .i64 i), (83, .int .i64 (x.getD v []).length), (82, .roI (x.getD v [])), (4, .int .i64 v), (27, .int .i64 v), (26, .int .i64 o.length), (3, .int .i64 o.length), (1, .rop (.agg (.cons (.roI o) (.cons (.roI p) (.cons (.roII x) .nil)))))], [], []⟩) (fun i => (x.getD v []).length - i) 0 [] ⟨rfl, by simp [zE0, zE1, zE2, zE3, zE4, zE5, evp, evx, ev1, evLoad, evStore, evBin, isBoolK, forall_const, z38, tb, Nat.reduceAdd, Nat.reduceSub, Nat.reduceMul, Nat.reduceEqDiff, Nat.reduceLeDiff, Nat.reduceLT, Nat.reduceBEq, Nat.reduceBNe, ↓reduceIte, reduceIte], by simp only [zE0, zE1, zE2, zE3, zE4, zE5, evp, evx, ev1, evLoad, evStore, evBin, isBoolK, forall_const, z38, tb, Nat.reduceAdd, Nat.reduceSub, Nat.reduceMul, Nat.reduceEqDiff, Nat.reduceLeDiff, Nat.reduceLT, Nat.reduceBEq, Nat.reduceBNe, ↓reduceIte, reduceIte]⟩ ⟨by omega, by omega⟩ ?_
      rintro i ⟨hi, hk⟩
      repeat' first
        | with_reducible first | refine awp_seq ?_ | refine awp_block ?_ | refine next_then ?_ | refine next_block ?_ | refine exit_then ?_ | refine ret_then ?_ | refine ret_block ?_ | refine exit_here ?_ | refine awp_exit ?_ | refine awp_ret ?_ | refine awp_skip ?_ | refine awp_label ?_ | refine next_noGoto ?_ | refine ret_noGoto ?_ | refine exit_noGoto ?_ | refine awp_scope ?_
        | ((with_reducible refine exit_past ?_ ?_); exact rfl)
        | ((with_reducible refine isCond ?_); refine awp_condO rfl ?_ ?_ <;> intro hb <;> (try simp only [zH] at hb))
        | ((with_reducible refine isReg ?_); (first | refine awp_textM htb hmz noSp (fun _ => false) rfl rfl ?_ | refine awp_drawM hmo htb hmz noSp (fun _ => false) rfl rfl (by kernel_rfl) ?_); intro m' e' l' ob h; simp only [zE0, zE1, zE2, zE3, zE4, zE5, evp, evx, ev1, evLoad, evStore, evBin, isBoolK, forall_const, z38, tb, Nat.reduceAdd, Nat.reduceSub, Nat.reduceMul, Nat.reduceEqDiff, Nat.reduceLeDiff, Nat.reduceLT, Nat.reduceBEq, Nat.reduceBNe, ↓reduceIte, reduceIte] at h; obtain ⟨rfl, rfl, rfl, rfl⟩ := h; refine ⟨?_, ?_⟩)
        | ((with_reducible refine Ob.mk ?_); first | exact trivial | (intros; omega) | ((repeat' first | apply And.intro | (intro hg; have hg' := hg; try simp only [zH] at hg')) <;> first | assumption | omega | (simp only [zH]; omega)))
      · refine fin_ret rfl rfl (spec_flat rfl ?_ rfl)
        show AV.bool false = AV.bool _
        rw [validB_false]
        rintro ⟨_, _, _, h4⟩
        obtain ⟨_, h5⟩ := h4 v (by simp only [Gm.n]; omega)
        obtain ⟨a1, a2, a3⟩ := h5 i (by simp only [Gm.x]; omega)
        simp only [Gm.x, Gm.n] at a1 a2 a3
        rcases hb with (h | h) | ⟨h, h'⟩
        · omega
        · omega
        · have := a3 (by omega)
          rw [show ((i : Int) - 1).toNat = i - 1 from by omega] at h'
          exact absurd this (Int.not_lt.2 h')
      · rename_i hb3
        refine back (i + 1) [] ?_ ⟨by omega, fun k hk' => ?_⟩ (by omega)
        · (refine ⟨rfl, ?_, ?_⟩ <;> simp only [zE0, zE1, zE2, zE3, zE4, zE5, evp, evx, ev1, evLoad, evStore, evBin, isBoolK, forall_const, z38, tb, Nat.reduceAdd, Nat.reduceSub, Nat.reduceMul, Nat.reduceEqDiff, Nat.reduceLeDiff, Nat.reduceLT, Nat.reduceBEq, Nat.reduceBNe, ↓reduceIte, reduceIte, zI])
        · rcases Nat.lt_succ_iff_lt_or_eq.1 hk' with h | rfl
          · exact hk k h
          · refine ⟨by omega, by omega, fun h0 => ?_⟩
            rw [show ((k : Int) - 1).toNat = k - 1 from by omega] at hb
            omega
      · refine back (v + 1) [] ?_ ⟨by omega, fun u hu => ?_⟩ (by omega)
        · (refine ⟨rfl, ?_, ?_⟩ <;> simp only [zE0, zE1, zE2, zE3, zE4, zE5, evp, evx, ev1, evLoad, evStore, evBin, isBoolK, forall_const, z38, tb, Nat.reduceAdd, Nat.reduceSub, Nat.reduceMul, Nat.reduceEqDiff, Nat.reduceLeDiff, Nat.reduceLT, Nat.reduceBEq, Nat.reduceBNe, ↓reduceIte, reduceIte, zI])
        · rcases Nat.lt_succ_iff_lt_or_eq.1 hu with h | rfl
          · exact hj u h
          · refine ⟨⟨?_, ?_, ?_, ?_, ?_, ?_⟩, fun k hk' => hk k (by simp only [Gm.x] at hk'; omega)⟩ <;> simp only [Gm.o, Gm.p, Gm.x] <;> omega
    · refine fin_ret rfl rfl (spec_flat rfl ?_ rfl)
      show AV.bool true = AV.bool _
      rw [validB_true]
      exact ⟨ho, hp, hx, fun v hv' => hj v (by simp only [Gm.n] at hv'; omega)⟩
set_option maxRecDepth 4000 in
set_option maxHeartbeats 4000000 in
theorem valid12_ok : FSpec Try.prog 11 validS := by
  refine fspec_of htb (fn := Try.f11) (by kernel_rfl) (by kernel_rfl) rfl (fun args r hS => ?_) (fun args r hS hob hl => ?_)
  · unfold validS at hS; split at hS <;> first | (cases hS; done) | (cases hS; exact Nat.le_of_ble_eq_true rfl)
  unfold validS at hS
  split at hS
  case h_2 => cases hS
  rename_i o p x
  simp only [Option.some.injEq] at hS
  subst hS
  simp only [lenP, mkL, lim] at hl
  dsimp only at hob
  repeat' first
    | with_reducible first | refine awp_seq ?_ | refine awp_block ?_ | refine next_then ?_ | refine next_block ?_ | refine exit_then ?_ | refine ret_then ?_ | refine ret_block ?_ | refine exit_here ?_ | refine awp_exit ?_ | refine awp_ret ?_ | refine awp_skip ?_ | refine awp_label ?_ | refine next_noGoto ?_ | refine ret_noGoto ?_ | refine exit_noGoto ?_ | refine awp_scope ?_
    | ((with_reducible refine exit_past ?_ ?_); exact rfl)
    | ((with_reducible refine isCond ?_); refine awp_condO rfl ?_ ?_ <;> intro hb <;> (try simp only [zH] at hb))
    | ((with_reducible refine isReg ?_); (first | refine awp_textM htb hmz noSp (fun _ => false) rfl rfl ?_ | refine awp_drawM hmo htb hmz noSp (fun _ => false) rfl rfl (by kernel_rfl) ?_); intro m' e' l' ob h; simp only [zE0, zE1, zE2, zE3, zE4, zE5, evp, evx, ev1, evLoad, evStore, evBin, isBoolK, forall_const, z38, tb, Nat.reduceAdd, Nat.reduceSub, Nat.reduceMul, Nat.reduceEqDiff, Nat.reduceLeDiff, Nat.reduceLT, Nat.reduceBEq, Nat.reduceBNe, ↓reduceIte, reduceIte] at h; obtain ⟨rfl, rfl, rfl, rfl⟩ := h; refine ⟨?_, ?_⟩)
    | ((with_reducible refine Ob.mk ?_); first | exact trivial | (intros; omega) | ((repeat' first | apply And.intro | (intro hg; have hg' := hg; try simp only [zH] at hg')) <;> first | assumption | omega | (simp only [zH]; omega)))
  · refine fin_ret rfl rfl (spec_flat rfl ?_ rfl)
    show AV.bool false = AV.bool _
    rw [validB_false]
    rintro ⟨h1, h2, h3, _⟩
    simp only [Gm.n] at h1 h2 h3
    omega
  · have ho : o.length ≤ 20000 := by omega
    have hp : p.length = o.length := by omega
    have hx : x.length = o.length := by omega
    clear hb
    refine awp_loopC (τ := Nat) (fun i => i ≤ o.length ∧ ∀ v, v < i → posOK ⟨o, p, x⟩ v) (fun i => ⟨24, [(27, .int .i64 i), (26, .int .i64 o.length), (3, .int .i64 o.length), (1, .rop (.agg (.cons (.roI o) (.cons (.roI p) (.cons (.roII x) .nil)))))], [], []⟩) (fun i => o.length - i) 0 [] ⟨rfl, by simp [zE0, zE1, zE2, zE3, zE4, zE5, evp, evx, ev1, evLoad, evStore, evBin, isBoolK, forall_const, z38, tb, Nat.reduceAdd, Nat.reduceSub, Nat.reduceMul, Nat.reduceEqDiff, Nat.reduceLeDiff, Nat.reduceLT, Nat.reduceBEq, Nat.reduceBNe, ↓reduceIte, reduceIte], by simp only [zE0, zE1, zE2, zE3, zE4, zE5, evp, evx, ev1, evLoad, evStore, evBin, isBoolK, forall_const, z38, tb, Nat.reduceAdd, Nat.reduceSub, Nat.reduceMul, Nat.reduceEqDiff, Nat.reduceLeDiff, Nat.reduceLT, Nat.reduceBEq, Nat.reduceBNe, ↓reduceIte, reduceIte]⟩ ⟨by omega, by omega⟩ ?_
    rintro v ⟨hv, hj⟩
    repeat' first
      | with_reducible first | refine awp_seq ?_ | refine awp_block ?_ | refine next_then ?_ | refine next_block ?_ | refine exit_then ?_ | refine ret_then ?_ | refine ret_block ?_ | refine exit_here ?_ | refine awp_exit ?_ | refine awp_ret ?_ | refine awp_skip ?_ | refine awp_label ?_ | refine next_noGoto ?_ | refine ret_noGoto ?_ | refine exit_noGoto ?_ | refine awp_scope ?_
      | ((with_reducible refine exit_past ?_ ?_); exact rfl)
      | ((with_reducible refine isCond ?_); refine awp_condO rfl ?_ ?_ <;> intro hb <;> (try simp only [zH] at hb))
      | ((with_reducible refine isReg ?_); (first | refine awp_textM htb hmz noSp (fun _ => false) rfl rfl ?_ | refine awp_drawM hmo htb hmz noSp (fun _ => false) rfl rfl (by kernel_rfl) ?_); intro m' e' l' ob h; simp only [zE0, zE1, zE2, zE3, zE4, zE5, evp, evx, ev1, evLoad, evStore, evBin, isBoolK, forall_const, z38, tb, Nat.reduceAdd, Nat.reduceSub, Nat.reduceMul, Nat.reduceEqDiff, Nat.reduceLeDiff, Nat.reduceLT, Nat.reduceBEq, Nat.reduceBNe, ↓reduceIte, reduceIte] at h; obtain ⟨rfl, rfl, rfl, rfl⟩ := h; refine ⟨?_, ?_⟩)
      | ((with_reducible refine Ob.mk ?_); first | exact trivial | (intros; omega) | ((repeat' first | apply And.intro | (intro hg; have hg' := hg; try simp only [zH] at hg')) <;> first | assumption | omega | (simp only [zH]; omega)))
    · refine fin_ret rfl rfl (spec_flat rfl ?_ rfl)
      show AV.bool false = AV.bool _
      rw [validB_false]
      rintro ⟨_, _, _, h4⟩
      obtain ⟨⟨a1, a2, a3, a4, a5, a6⟩, _⟩ := h4 v (by simp only [Gm.n]; omega)
      simp only [Gm.o, Gm.p, Gm.x] at a1 a2 a3 a4 a5 a6
      omega
    · rename_i hb1 hb2
      refine awp_loopC (τ := Nat) (fun i => i ≤ (x.getD v []).length ∧ ∀ k, k < i → rowOK o.length (x.getD v []) k) (fun i => ⟨82, [(84, .int .i64 i), (83, .int .i64 (x.getD v []).length), (82, .roI (x.getD v [])), (4, .int .i64 v), (27, .int .i64 v), (26, .int .i64 o.length), (3, .int .i64 o.length), (1, .rop (.agg (.cons (.roI o) (.cons (.roI p) (.cons (.roII x) .nil)))))], [], []⟩) (fun i => (x.getD v []).length - i) 0 [] ⟨rfl, by simp [zE0, zE1, zE2, zE3, zE4, zE5, evp, evx, ev1, evLoad, evStore, evBin, isBoolK, forall_const, z38, tb, Nat.reduceAdd, Nat.reduceSub, Nat.reduceMul, Nat.reduceEqDiff, Nat.reduceLeDiff, Nat.reduceLT, Nat.reduceBEq, Nat.reduceBNe, ↓reduceIte, reduceIte], by simp only [zE0, zE1, zE2, zE3, zE4, zE5, evp, evx, ev1, evLoad, evStore, evBin, isBoolK, forall_const, z38, tb, Nat.reduceAdd, Nat.reduceSub, Nat.reduceMul, Nat.reduceEqDiff, Nat.reduceLeDiff, Nat.reduceLT, Nat.reduceBEq, Nat.reduceBNe, ↓reduceIte, reduceIte]⟩ ⟨by omega, by omega⟩ ?_
      rintro i ⟨hi, hk⟩
      repeat' first
        | with_reducible first | refine awp_seq ?_ | refine awp_block ?_ | refine next_then ?_ | refine next_block ?_ | refine exit_then ?_ | refine ret_then ?_ | refine ret_block ?_ | refine exit_here ?_ | refine awp_exit ?_ | refine awp_ret ?_ | refine awp_skip ?_ | refine awp_label ?_ | refine next_noGoto ?_ | refine ret_noGoto ?_ | refine exit_noGoto ?_ | refine awp_scope ?_
        | ((with_reducible refine exit_past ?_ ?_); exact rfl)
        | ((with_reducible refine isCond ?_); refine awp_condO rfl ?_ ?_ <;> intro hb <;> (try simp only [zH] at hb))
        | ((with_reducible refine isReg ?_); (first | refine awp_textM htb hmz noSp (fun _ => false) rfl rfl ?_ | refine awp_drawM hmo htb hmz noSp (fun _ => false) rfl rfl (by kernel_rfl) ?_); intro m' e' l' ob h; simp only [zE0, zE1, zE2, zE3, zE4, zE5, evp, evx, ev1, evLoad, evStore, evBin, isBoolK, forall_const, z38, tb, Nat.reduceAdd, Nat.reduceSub, Nat.reduceMul, Nat.reduceEqDiff, Nat.reduceLeDiff, Nat.reduceLT, Nat.reduceBEq, Nat.reduceBNe, ↓reduceIte, reduceIte] at h; obtain ⟨rfl, rfl, rfl, rfl⟩ := h; refine ⟨?_, ?_⟩)
        | ((with_reducible refine Ob.mk ?_); first | exact trivial | (intros; omega) | ((repeat' first | apply And.intro | (intro hg; have hg' := hg; try simp only [zH] at hg')) <;> first | assumption | omega | (simp only [zH]; omega)))
      · refine fin_ret rfl rfl (spec_flat rfl ?_ rfl)
        show AV.bool false = AV.bool _
        rw [validB_false]
        rintro ⟨_, _, _, h4⟩
        obtain ⟨_, h5⟩ := h4 v (by simp only [Gm.n]; omega)
        obtain ⟨a1, a2, a3⟩ := h5 i (by simp only [Gm.x]; omega)
        simp only [Gm.x, Gm.n] at a1 a2 a3
        rcases hb with (h | h) | ⟨h, h'⟩
        · omega
        · omega
        · have := a3 (by omega)
          rw [show ((i : Int) - 1).toNat = i - 1 from by omega] at h'
          exact absurd this (Int.not_lt.2 h')
      · rename_i hb3
        refine back (i + 1) [] ?_ ⟨by omega, fun k hk' => ?_⟩ (by omega)
        · (refine ⟨rfl, ?_, ?_⟩ <;> simp only [zE0, zE1, zE2, zE3, zE4, zE5, evp, evx, ev1, evLoad, evStore, evBin, isBoolK, forall_const, z38, tb, Nat.reduceAdd, Nat.reduceSub, Nat.reduceMul, Nat.reduceEqDiff, Nat.reduceLeDiff, Nat.reduceLT, Nat.reduceBEq, Nat.reduceBNe, ↓reduceIte, reduceIte, zI])
        · rcases Nat.lt_succ_iff_lt_or_eq.1 hk' with h | rfl
          · exact hk k h
          · refine ⟨by omega, by omega, fun h0 => ?_⟩
            rw [show ((k : Int) - 1).toNat = k - 1 from by omega] at hb
            omega
      · refine back (v + 1) [] ?_ ⟨by omega, fun u hu => ?_⟩ (by omega)
        · (refine ⟨rfl, ?_, ?_⟩ <;> simp only [zE0, zE1, zE2, zE3, zE4, zE5, evp, evx, ev1, evLoad, evStore, evBin, isBoolK, forall_const, z38, tb, Nat.reduceAdd, Nat.reduceSub, Nat.reduceMul, Nat.reduceEqDiff, Nat.reduceLeDiff, Nat.reduceLT, Nat.reduceBEq, Nat.reduceBNe, ↓reduceIte, reduceIte, zI])
        · rcases Nat.lt_succ_iff_lt_or_eq.1 hu with h | rfl
          · exact hj u h
          · refine ⟨⟨?_, ?_, ?_, ?_, ?_, ?_⟩, fun k hk' => hk k (by simp only [Gm.x] at hk'; omega)⟩ <;> simp only [Gm.o, Gm.p, Gm.x] <;> omega
    · refine fin_ret rfl rfl (spec_flat rfl ?_ rfl)
      show AV.bool true = AV.bool _
      rw [validB_true]
      exact ⟨ho, hp, hx, fun v hv' => hj v (by simp only [Gm.n] at hv'; omega)⟩
end Go.Proofs.Ytlckljphakkomaa.Cal
namespace Go.Proofs.Ytlckljphakkomaa.Cal
open Go Pl
/-- members: the positions of a set in order. -/
def membersS : Spec
  | [.roB l] => some ⟨True, .fn 41 (.cons (.rop (.roB l)) .nil), none⟩
  | _ => none
set_option maxRecDepth 4000 in
set_option maxHeartbeats 4000000 in
theorem members_ok : FSpec Try.prog 32 membersS := by
  refine fspec_of htb (fn := Try.f32) (by kernel_rfl) (by kernel_rfl) rfl (fun args r hS => ?_) (fun args r hS hob hl => ?_)
  · unfold membersS at hS; split at hS <;> first | (cases hS; done) | (cases hS; exact Nat.le_of_ble_eq_true rfl)
  unfold membersS at hS
  split at hS
  case h_2 => cases hS
  rename_i l
  simp only [Option.some.injEq] at hS
  subst hS
  simp only [lenP, mkL, lim] at hl
  dsimp only at hob
  repeat' first
    | with_reducible first | refine awp_seq ?_ | refine awp_block ?_ | refine next_then ?_ | refine next_block ?_ | refine exit_then ?_ | refine ret_then ?_ | refine ret_block ?_ | refine exit_here ?_ | refine awp_exit ?_ | refine awp_ret ?_ | refine awp_skip ?_ | refine awp_label ?_ | refine next_noGoto ?_ | refine ret_noGoto ?_ | refine exit_noGoto ?_ | refine awp_scope ?_
    | ((with_reducible refine exit_past ?_ ?_); exact rfl)
    | ((with_reducible refine isCond ?_); refine awp_condO rfl ?_ ?_ <;> intro hb <;> (try simp only [zH] at hb))
    | ((with_reducible refine isReg ?_); (first | refine awp_textM htb hmz noSp (fun _ => false) rfl rfl ?_ | refine awp_drawM hmo htb hmz noSp (fun _ => false) rfl rfl (by kernel_rfl) ?_); intro m' e' l' ob h; simp only [zE0, zE1, zE2, zE3, zE4, zE5, evp, evx, ev1, evLoad, evStore, evBin, isBoolK, forall_const, z38, tb, Nat.reduceAdd, Nat.reduceSub, Nat.reduceMul, Nat.reduceEqDiff, Nat.reduceLeDiff, Nat.reduceLT, Nat.reduceBEq, Nat.reduceBNe, ↓reduceIte, reduceIte] at h; obtain ⟨rfl, rfl, rfl, rfl⟩ := h; refine ⟨?_, ?_⟩)
    | ((with_reducible refine Ob.mk ?_); first | exact trivial | (intros; omega) | ((repeat' first | apply And.intro | (intro hg; have hg' := hg; try simp only [zH] at hg')) <;> first | assumption | omega | (simp only [zH]; omega)))
  refine fin_ret rfl rfl (spec_flat rfl ?_ rfl)
  rfl
theorem kp_get' {k : List Bool} {v : Nat} (h : k.getD v false = true) : ∀ {n : Nat}, v < n → (kp k v).length < (kp k n).length ∧ (kp k n).getD (kp k v).length 0 = v
  | 0, hv => absurd hv (Nat.not_lt_zero v)
  | n + 1, hv => by
    rw [kp_succ]
    by_cases e : v = n
    · subst e
      rw [if_pos h]
      refine ⟨by simp, ?_⟩
      rw [List.getD_eq_getElem?_getD, List.getElem?_append_right (Nat.le_refl _), Nat.sub_self]; rfl
    · obtain ⟨h1, h2⟩ := kp_get' h (n := n) (by omega)
      split
      · refine ⟨by rw [List.length_append, List.length_singleton]; omega, ?_⟩
        rw [List.getD_eq_getElem?_getD, List.getElem?_append_left h1, ← List.getD_eq_getElem?_getD]; exact h2
      · exact ⟨h1, h2⟩
structure MbS (τ : Type) where
  i : Nat
  t : τ
set_option maxRecDepth 4000 in
set_option maxHeartbeats 4000000 in
theorem members1_iter (l : List Bool) {τ : Type} (I X : τ → Prop) (ix : τ → Nat) (hI : ∀ t, I t → ix t ≤ (kp l l.length).length) :
    IterV Try.prog 41 (.rop (.roB l)) I X (fun t => (((kp l l.length).getD (ix t) 0 : Nat) : Int)) (fun t => ix t < (kp l l.length).length) (fun t t' => ix t' = ix t + 1) (fun t => ix t = 0) (fun t => ix t = (kp l l.length).length) := by
  intro A hY t0 h0 hi0
  refine fg_of htb (fn := Try.f41) (by kernel_rfl) (by kernel_rfl) rfl (Nat.le_of_ble_eq_true rfl) fun hl => ?_
  simp only [lenP, mkL, lim] at hl
  have hkl := kp_len (k := l) (n := l.length)
  repeat' first
    | with_reducible first | refine awp_seq ?_ | refine awp_block ?_ | refine next_then ?_ | refine next_block ?_ | refine exit_then ?_ | refine ret_then ?_ | refine ret_block ?_ | refine exit_here ?_ | refine awp_exit ?_ | refine awp_ret ?_ | refine awp_skip ?_ | refine awp_label ?_ | refine next_noGoto ?_ | refine ret_noGoto ?_ | refine exit_noGoto ?_ | refine awp_scope ?_
    | ((with_reducible refine exit_past ?_ ?_); exact rfl)
    | ((with_reducible refine isCond ?_); refine awp_condO rfl ?_ ?_ <;> intro hb <;> (try simp only [zH] at hb))
    | ((with_reducible refine isReg ?_); (first | refine awp_textM htb hmz noSp (fun _ => false) rfl rfl ?_ | refine awp_drawM hmo htb hmz noSp (fun _ => false) rfl rfl (by kernel_rfl) ?_); intro m' e' l' ob h; simp only [zE0, zE1, zE2, zE3, zE4, zE5, evp, evx, ev1, evLoad, evStore, evBin, isBoolK, forall_const, z38, tb, Nat.reduceAdd, Nat.reduceSub, Nat.reduceMul, Nat.reduceEqDiff, Nat.reduceLeDiff, Nat.reduceLT, Nat.reduceBEq, Nat.reduceBNe, ↓reduceIte, reduceIte] at h; obtain ⟨rfl, rfl, rfl, rfl⟩ := h; refine ⟨?_, ?_⟩)
    | ((with_reducible refine Ob.mk ?_); first | exact trivial | (intros; omega) | ((repeat' first | apply And.intro | (intro hg; have hg' := hg; try simp only [zH] at hg')) <;> first | assumption | omega | (simp only [zH]; omega)))
  refine awp_loopC (τ := MbS τ) (fun s => s.i ≤ l.length ∧ I s.t ∧ ix s.t = (kp l s.i).length) (fun s => ⟨5, [(7, .int .i64 s.i), (6, .int .i64 l.length), (5, .roB l), (0, .yld 0)], [(1, some (.sem [0] (A true s.t)))], []⟩) (fun s => l.length - s.i) ⟨0, t0⟩ [] ?_ ⟨Nat.zero_le _, h0, hi0⟩ ?_
  · refine ⟨rfl, ?_, ?_⟩ <;> simp only [zE0, zE1, zE2, zE3, zE4, zE5, evp, evx, ev1, evLoad, evStore, evBin, isBoolK, forall_const, z38, tb, Nat.reduceAdd, Nat.reduceSub, Nat.reduceMul, Nat.reduceEqDiff, Nat.reduceLeDiff, Nat.reduceLT, Nat.reduceBEq, Nat.reduceBNe, ↓reduceIte, reduceIte, zI]
    intro k hk
    rw [List.mem_singleton.1 hk]; rfl
  rintro ⟨i, t⟩ ⟨hi, ht, hit⟩
  dsimp only at hi ht hit ⊢
  have hkn : kp l (i + 1) = if l.getD i false = true then kp l i ++ [i] else kp l i := kp_succ
  have hI1 := hI t ht
  repeat' first
    | with_reducible first | refine awp_seq ?_ | refine awp_block ?_ | refine next_then ?_ | refine next_block ?_ | refine exit_then ?_ | refine ret_then ?_ | refine ret_block ?_ | refine exit_here ?_ | refine awp_exit ?_ | refine awp_ret ?_ | refine awp_skip ?_ | refine awp_label ?_ | refine next_noGoto ?_ | refine ret_noGoto ?_ | refine exit_noGoto ?_ | refine awp_scope ?_
    | ((with_reducible refine exit_past ?_ ?_); exact rfl)
    | ((with_reducible refine isCond ?_); refine awp_condO rfl ?_ ?_ <;> intro hb <;> (try simp only [zH] at hb))
    | ((with_reducible refine isRegS 3 ?_ ?_); (· exact rfl); (first | refine awp_textM htb hmz noSp (fun _ => false) rfl rfl ?_ | refine awp_drawM hmo htb hmz noSp (fun _ => false) rfl rfl (by kernel_rfl) ?_); intro m' e' l' ob h; simp only [zE0, zE1, zE2, zE3, zE4, zE5, evp, evx, ev1, evLoad, evStore, evBin, isBoolK, forall_const, z38, tb, Nat.reduceAdd, Nat.reduceSub, Nat.reduceMul, Nat.reduceEqDiff, Nat.reduceLeDiff, Nat.reduceLT, Nat.reduceBEq, Nat.reduceBNe, ↓reduceIte, reduceIte] at h; obtain ⟨rfl, rfl, rfl, rfl⟩ := h; refine ⟨?_, ?_⟩)
    | ((with_reducible refine Ob.mk ?_); first | exact trivial | (intros; omega) | ((repeat' first | apply And.intro | (intro hg; have hg' := hg; try simp only [zH] at hg')) <;> first | assumption | omega | (simp only [zH]; omega)))
  · have hil : i < l.length := by omega
    cases hbb : l.getD i false with
    | true =>
      obtain ⟨hk1, hk2⟩ := kp_get' hbb hil
      refine awp_listG ?_
      refine awpG_free rfl ?_
      dsimp only [noGd]
      refine awpL_text htb hmz noSp (fun _ => false) rfl rfl rfl ?_; intro m' e' l' ob h; simp only [zE0, zE1, zE2, zE3, zE4, zE5, evp, evx, ev1, evLoad, evStore, evBin, isBoolK, forall_const, z38, tb, Nat.reduceAdd, Nat.reduceSub, Nat.reduceMul, Nat.reduceEqDiff, Nat.reduceLeDiff, Nat.reduceLT, Nat.reduceBEq, Nat.reduceBNe, ↓reduceIte, reduceIte] at h; obtain ⟨rfl, rfl, rfl, rfl⟩ := h; refine ⟨?_, next_then ?_⟩
      · first | ((with_reducible refine Ob.mk ?_); first | exact trivial | (intros; omega) | ((repeat' first | apply And.intro | (intro hg; have hg' := hg; try simp only [zH] at hg')) <;> first | assumption | omega | (simp only [zH]; omega))) | skip
      refine awpG_free rfl ?_
      dsimp only [noGd]
      refine awpL_text htb hmz noSp (fun _ => false) rfl rfl rfl ?_; intro m' e' l' ob h; simp only [zE0, zE1, zE2, zE3, zE4, zE5, evp, evx, ev1, evLoad, evStore, evBin, isBoolK, forall_const, z38, tb, Nat.reduceAdd, Nat.reduceSub, Nat.reduceMul, Nat.reduceEqDiff, Nat.reduceLeDiff, Nat.reduceLT, Nat.reduceBEq, Nat.reduceBNe, ↓reduceIte, reduceIte] at h; obtain ⟨rfl, rfl, rfl, rfl⟩ := h; refine ⟨?_, next_then ?_⟩
      · first | ((with_reducible refine Ob.mk ?_); first | exact trivial | (intros; omega) | ((repeat' first | apply And.intro | (intro hg; have hg' := hg; try simp only [zH] at hg')) <;> first | assumption | omega | (simp only [zH]; omega))) | skip
      refine awpG_yes rfl rfl rfl rfl ?_
      dsimp only [noGd]
      refine awpL_text htb hmz noSp (fun _ => false) rfl rfl rfl ?_; intro m' e' l' ob h; simp only [zE0, zE1, zE2, zE3, zE4, zE5, evp, evx, ev1, evLoad, evStore, evBin, isBoolK, forall_const, z38, tb, Nat.reduceAdd, Nat.reduceSub, Nat.reduceMul, Nat.reduceEqDiff, Nat.reduceLeDiff, Nat.reduceLT, Nat.reduceBEq, Nat.reduceBNe, ↓reduceIte, reduceIte] at h; obtain ⟨rfl, rfl, rfl, rfl⟩ := h; refine ⟨?_, next_then ?_⟩
      · first | ((with_reducible refine Ob.mk ?_); first | exact trivial | (intros; omega) | ((repeat' first | apply And.intro | (intro hg; have hg' := hg; try simp only [zH] at hg')) <;> first | assumption | omega | (simp only [zH]; omega))) | skip
      refine awpG_yes rfl rfl rfl rfl ?_
      dsimp only [noGd]
      refine awpL_text htb hmz noSp (fun _ => false) rfl rfl rfl ?_; intro m' e' l' ob h; simp only [zE0, zE1, zE2, zE3, zE4, zE5, evp, evx, ev1, evLoad, evStore, evBin, isBoolK, forall_const, z38, tb, Nat.reduceAdd, Nat.reduceSub, Nat.reduceMul, Nat.reduceEqDiff, Nat.reduceLeDiff, Nat.reduceLT, Nat.reduceBEq, Nat.reduceBNe, ↓reduceIte, reduceIte] at h; obtain ⟨rfl, rfl, rfl, rfl⟩ := h; refine ⟨?_, next_then ?_⟩
      · first | ((with_reducible refine Ob.mk ?_); first | exact trivial | (intros; omega) | ((repeat' first | apply And.intro | (intro hg; have hg' := hg; try simp only [zH] at hg')) <;> first | assumption | omega | (simp only [zH]; omega))) | skip
      refine awpG_yes rfl rfl rfl rfl ?_
      dsimp only [noGd]
      have hYt := hY t ht (by show ix t < _; omega)
      dsimp only at hYt
      rw [hit, hk2] at hYt
      refine awpL_yield [0, 1] hYt rfl rfl rfl rfl rfl rfl rfl rfl ?_ ?_
      · simp only [rinR, rhoC, zE0, zE1, zE2, zE3, zE4, zE5, evp, evx, ev1, evLoad, evStore, evBin, isBoolK, forall_const, z38, tb, Nat.reduceAdd, Nat.reduceSub, Nat.reduceMul, Nat.reduceEqDiff, Nat.reduceLeDiff, Nat.reduceLT, Nat.reduceBEq, Nat.reduceBNe, ↓reduceIte, reduceIte]
        intro k hk
        rw [List.mem_singleton.1 hk]; rfl
      intro gm gv gr hq' m' e' l' h
      obtain ⟨b, t', hbt, hbf, hge⟩ := hq'
      simp only [GR.mk.injEq] at hge
      obtain ⟨rfl, rfl, rfl⟩ := hge
      simp only [rhoC, outR, renR, dels, zE0, zE1, zE2, zE3, zE4, zE5, evp, evx, ev1, evLoad, evStore, evBin, isBoolK, forall_const, z38, tb, Nat.reduceAdd, Nat.reduceSub, Nat.reduceMul, Nat.reduceEqDiff, Nat.reduceLeDiff, Nat.reduceLT, Nat.reduceBEq, Nat.reduceBNe, ↓reduceIte, reduceIte] at h
      obtain ⟨rfl, rfl, rfl⟩ := h
      refine next_then ?_
      refine awpG_yes rfl rfl rfl rfl ?_
      dsimp only [noGd]
      refine awpL_text htb hmz noSp (fun _ => false) rfl rfl rfl ?_; intro m' e' l' ob h; simp only [zE0, zE1, zE2, zE3, zE4, zE5, evp, evx, ev1, evLoad, evStore, evBin, isBoolK, forall_const, z38, tb, Nat.reduceAdd, Nat.reduceSub, Nat.reduceMul, Nat.reduceEqDiff, Nat.reduceLeDiff, Nat.reduceLT, Nat.reduceBEq, Nat.reduceBNe, ↓reduceIte, reduceIte] at h; obtain ⟨rfl, rfl, rfl, rfl⟩ := h; refine ⟨?_, next_then ?_⟩
      · first | ((with_reducible refine Ob.mk ?_); first | exact trivial | (intros; omega) | ((repeat' first | apply And.intro | (intro hg; have hg' := hg; try simp only [zH] at hg')) <;> first | assumption | omega | (simp only [zH]; omega))) | skip
      refine awpG_free rfl ?_
      dsimp only [noGd]
      refine awpL_text htb hmz noSp (fun _ => false) rfl rfl rfl ?_; intro m' e' l' ob h; simp only [zE0, zE1, zE2, zE3, zE4, zE5, evp, evx, ev1, evLoad, evStore, evBin, isBoolK, forall_const, z38, tb, Nat.reduceAdd, Nat.reduceSub, Nat.reduceMul, Nat.reduceEqDiff, Nat.reduceLeDiff, Nat.reduceLT, Nat.reduceBEq, Nat.reduceBNe, ↓reduceIte, reduceIte] at h; obtain ⟨rfl, rfl, rfl, rfl⟩ := h; refine ⟨?_, next_then ?_⟩
      · first | ((with_reducible refine Ob.mk ?_); first | exact trivial | (intros; omega) | ((repeat' first | apply And.intro | (intro hg; have hg' := hg; try simp only [zH] at hg')) <;> first | assumption | omega | (simp only [zH]; omega))) | skip
      refine awpG_nil ?_
      cases b with
      | true =>
        obtain ⟨hI2, hix⟩ := hbt rfl
        repeat' first
          | with_reducible first | refine awp_seq ?_ | refine awp_block ?_ | refine next_then ?_ | refine next_block ?_ | refine exit_then ?_ | refine ret_then ?_ | refine ret_block ?_ | refine exit_here ?_ | refine awp_exit ?_ | refine awp_ret ?_ | refine awp_skip ?_ | refine awp_label ?_ | refine next_noGoto ?_ | refine ret_noGoto ?_ | refine exit_noGoto ?_ | refine awp_scope ?_
          | ((with_reducible refine exit_past ?_ ?_); exact rfl)
          | ((with_reducible refine isCond ?_); refine awp_condO rfl ?_ ?_ <;> intro hb <;> (try simp only [zH] at hb))
          | ((with_reducible refine isReg ?_); (first | refine awp_textM htb hmz noSp (fun _ => false) rfl rfl ?_ | refine awp_drawM hmo htb hmz noSp (fun _ => false) rfl rfl (by kernel_rfl) ?_); intro m' e' l' ob h; simp only [zE0, zE1, zE2, zE3, zE4, zE5, evp, evx, ev1, evLoad, evStore, evBin, isBoolK, forall_const, z38, tb, Nat.reduceAdd, Nat.reduceSub, Nat.reduceMul, Nat.reduceEqDiff, Nat.reduceLeDiff, Nat.reduceLT, Nat.reduceBEq, Nat.reduceBNe, ↓reduceIte, reduceIte] at h; obtain ⟨rfl, rfl, rfl, rfl⟩ := h; refine ⟨?_, ?_⟩)
          | ((with_reducible refine Ob.mk ?_); first | exact trivial | (intros; omega) | ((repeat' first | apply And.intro | (intro hg; have hg' := hg; try simp only [zH] at hg')) <;> first | assumption | omega | (simp only [zH]; omega)))
        · cases hb
        rw [hbb] at hkn
        refine back ⟨i + 1, t'⟩ [] ?_ ⟨by dsimp only; omega, hI2, ?_⟩ (by dsimp only; omega)
        · refine ⟨rfl, ?_, ?_⟩ <;> simp only [zE0, zE1, zE2, zE3, zE4, zE5, evp, evx, ev1, evLoad, evStore, evBin, isBoolK, forall_const, z38, tb, Nat.reduceAdd, Nat.reduceSub, Nat.reduceMul, Nat.reduceEqDiff, Nat.reduceLeDiff, Nat.reduceLT, Nat.reduceBEq, Nat.reduceBNe, ↓reduceIte, reduceIte, zI]
          intro k hk
          rw [List.mem_singleton.1 hk]; rfl
        · dsimp only
          have : (kp l (i + 1)).length = (kp l i).length + 1 := by rw [hkn, if_pos rfl, List.length_append]; rfl
          have hix : ix t' = (kp l i).length + 1 := hix
          omega
      | false =>
        repeat' first
          | with_reducible first | refine awp_seq ?_ | refine awp_block ?_ | refine next_then ?_ | refine next_block ?_ | refine exit_then ?_ | refine ret_then ?_ | refine ret_block ?_ | refine exit_here ?_ | refine awp_exit ?_ | refine awp_ret ?_ | refine awp_skip ?_ | refine awp_label ?_ | refine next_noGoto ?_ | refine ret_noGoto ?_ | refine exit_noGoto ?_ | refine awp_scope ?_
          | ((with_reducible refine exit_past ?_ ?_); exact rfl)
          | ((with_reducible refine isCond ?_); refine awp_condO rfl ?_ ?_ <;> intro hb <;> (try simp only [zH] at hb))
          | ((with_reducible refine isReg ?_); (first | refine awp_textM htb hmz noSp (fun _ => false) rfl rfl ?_ | refine awp_drawM hmo htb hmz noSp (fun _ => false) rfl rfl (by kernel_rfl) ?_); intro m' e' l' ob h; simp only [zE0, zE1, zE2, zE3, zE4, zE5, evp, evx, ev1, evLoad, evStore, evBin, isBoolK, forall_const, z38, tb, Nat.reduceAdd, Nat.reduceSub, Nat.reduceMul, Nat.reduceEqDiff, Nat.reduceLeDiff, Nat.reduceLT, Nat.reduceBEq, Nat.reduceBNe, ↓reduceIte, reduceIte] at h; obtain ⟨rfl, rfl, rfl, rfl⟩ := h; refine ⟨?_, ?_⟩)
          | ((with_reducible refine Ob.mk ?_); first | exact trivial | (intros; omega) | ((repeat' first | apply And.intro | (intro hg; have hg' := hg; try simp only [zH] at hg')) <;> first | assumption | omega | (simp only [zH]; omega)))
        · refine fin_ret rfl rfl (gq_of ⟨2, resV [], [(1, some (.sem [0] (A false t')))]⟩ [] ⟨false, t', (fun h => by cases h), hbf, rfl⟩ rfl (imp_eq rfl) ?_)
          simp only [grR, zE0, zE1, zE2, zE3, zE4, zE5, evp, evx, ev1, evLoad, evStore, evBin, isBoolK, forall_const, z38, tb, Nat.reduceAdd, Nat.reduceSub, Nat.reduceMul, Nat.reduceEqDiff, Nat.reduceLeDiff, Nat.reduceLT, Nat.reduceBEq, Nat.reduceBNe, ↓reduceIte, reduceIte]
          intro k hk
          rw [List.mem_singleton.1 hk]; rfl
        · cases hb
    | false =>
      rw [hbb] at hkn
      refine awp_listG ?_
      refine awpG_free rfl ?_
      dsimp only [noGd]
      refine awpL_text htb hmz noSp (fun _ => false) rfl rfl rfl ?_; intro m' e' l' ob h; simp only [zE0, zE1, zE2, zE3, zE4, zE5, evp, evx, ev1, evLoad, evStore, evBin, isBoolK, forall_const, z38, tb, Nat.reduceAdd, Nat.reduceSub, Nat.reduceMul, Nat.reduceEqDiff, Nat.reduceLeDiff, Nat.reduceLT, Nat.reduceBEq, Nat.reduceBNe, ↓reduceIte, reduceIte] at h; obtain ⟨rfl, rfl, rfl, rfl⟩ := h; refine ⟨?_, next_then ?_⟩
      · first | ((with_reducible refine Ob.mk ?_); first | exact trivial | (intros; omega) | ((repeat' first | apply And.intro | (intro hg; have hg' := hg; try simp only [zH] at hg')) <;> first | assumption | omega | (simp only [zH]; omega))) | skip
      refine awpG_free rfl ?_
      dsimp only [noGd]
      refine awpL_text htb hmz noSp (fun _ => false) rfl rfl rfl ?_; intro m' e' l' ob h; simp only [zE0, zE1, zE2, zE3, zE4, zE5, evp, evx, ev1, evLoad, evStore, evBin, isBoolK, forall_const, z38, tb, Nat.reduceAdd, Nat.reduceSub, Nat.reduceMul, Nat.reduceEqDiff, Nat.reduceLeDiff, Nat.reduceLT, Nat.reduceBEq, Nat.reduceBNe, ↓reduceIte, reduceIte] at h; obtain ⟨rfl, rfl, rfl, rfl⟩ := h; refine ⟨?_, next_then ?_⟩
      · first | ((with_reducible refine Ob.mk ?_); first | exact trivial | (intros; omega) | ((repeat' first | apply And.intro | (intro hg; have hg' := hg; try simp only [zH] at hg')) <;> first | assumption | omega | (simp only [zH]; omega))) | skip
      refine awpG_no rfl rfl rfl rfl rfl ?_
      refine awpG_no rfl rfl rfl rfl rfl ?_
      refine awpG_no rfl rfl rfl rfl rfl ?_
      refine awpG_no rfl rfl rfl rfl rfl ?_
      refine awpG_free rfl ?_
      dsimp only [noGd, putE]
      refine awpL_text htb hmz noSp (fun _ => false) rfl rfl rfl ?_; intro m' e' l' ob h; simp only [zE0, zE1, zE2, zE3, zE4, zE5, evp, evx, ev1, evLoad, evStore, evBin, isBoolK, forall_const, z38, tb, Nat.reduceAdd, Nat.reduceSub, Nat.reduceMul, Nat.reduceEqDiff, Nat.reduceLeDiff, Nat.reduceLT, Nat.reduceBEq, Nat.reduceBNe, ↓reduceIte, reduceIte] at h; obtain ⟨rfl, rfl, rfl, rfl⟩ := h; refine ⟨?_, next_then ?_⟩
      · first | ((with_reducible refine Ob.mk ?_); first | exact trivial | (intros; omega) | ((repeat' first | apply And.intro | (intro hg; have hg' := hg; try simp only [zH] at hg')) <;> first | assumption | omega | (simp only [zH]; omega))) | skip
      refine awpG_nil ?_
      repeat' first
        | with_reducible first | refine awp_seq ?_ | refine awp_block ?_ | refine next_then ?_ | refine next_block ?_ | refine exit_then ?_ | refine ret_then ?_ | refine ret_block ?_ | refine exit_here ?_ | refine awp_exit ?_ | refine awp_ret ?_ | refine awp_skip ?_ | refine awp_label ?_ | refine next_noGoto ?_ | refine ret_noGoto ?_ | refine exit_noGoto ?_ | refine awp_scope ?_
        | ((with_reducible refine exit_past ?_ ?_); exact rfl)
        | ((with_reducible refine isCond ?_); refine awp_condO rfl ?_ ?_ <;> intro hb <;> (try simp only [zH] at hb))
        | ((with_reducible refine isReg ?_); (first | refine awp_textM htb hmz noSp (fun _ => false) rfl rfl ?_ | refine awp_drawM hmo htb hmz noSp (fun _ => false) rfl rfl (by kernel_rfl) ?_); intro m' e' l' ob h; simp only [zE0, zE1, zE2, zE3, zE4, zE5, evp, evx, ev1, evLoad, evStore, evBin, isBoolK, forall_const, z38, tb, Nat.reduceAdd, Nat.reduceSub, Nat.reduceMul, Nat.reduceEqDiff, Nat.reduceLeDiff, Nat.reduceLT, Nat.reduceBEq, Nat.reduceBNe, ↓reduceIte, reduceIte] at h; obtain ⟨rfl, rfl, rfl, rfl⟩ := h; refine ⟨?_, ?_⟩)
        | ((with_reducible refine Ob.mk ?_); first | exact trivial | (intros; omega) | ((repeat' first | apply And.intro | (intro hg; have hg' := hg; try simp only [zH] at hg')) <;> first | assumption | omega | (simp only [zH]; omega)))
      · cases hb
      refine back ⟨i + 1, t⟩ [] ?_ ⟨by dsimp only; omega, ht, ?_⟩ (by dsimp only; omega)
      · refine ⟨rfl, ?_, ?_⟩ <;> simp only [zE0, zE1, zE2, zE3, zE4, zE5, evp, evx, ev1, evLoad, evStore, evBin, isBoolK, forall_const, z38, tb, Nat.reduceAdd, Nat.reduceSub, Nat.reduceMul, Nat.reduceEqDiff, Nat.reduceLeDiff, Nat.reduceLT, Nat.reduceBEq, Nat.reduceBNe, ↓reduceIte, reduceIte, zI]
        intro k hk
        rw [List.mem_singleton.1 hk]; rfl
      · dsimp only
        rw [hit, hkn]; rfl
  · have hil : i = l.length := by omega
    subst hil
    refine fin_normal rfl rfl (gq_of ⟨2, resV [], [(1, some (.sem [0] (A true t)))]⟩ [] ⟨true, t, (fun _ => ⟨ht, hit⟩), (fun h => by cases h), rfl⟩ rfl (imp_eq rfl) ?_)
    simp only [grR, zE0, zE1, zE2, zE3, zE4, zE5, evp, evx, ev1, evLoad, evStore, evBin, isBoolK, forall_const, z38, tb, Nat.reduceAdd, Nat.reduceSub, Nat.reduceMul, Nat.reduceEqDiff, Nat.reduceLeDiff, Nat.reduceLT, Nat.reduceBEq, Nat.reduceBNe, ↓reduceIte, reduceIte]
    intro k hk
    rw [List.mem_singleton.1 hk]; rfl
end Go.Proofs.Ytlckljphakkomaa.Cal
namespace Go.Proofs.Ytlckljphakkomaa.Cal
open Go Pl
/-- The positions below i that have a move to t, in order, as often as they have it. -/
def bkI (x : List (List Int)) (t : Nat) : Nat → List Int
  | 0 => []
  | i + 1 => bkI x t i ++ List.replicate ((x.getD i []).count (t : Int)) (i : Int)
def bkJ (x : List (List Int)) (t i j : Nat) : List Int := bkI x t i ++ List.replicate (((x.getD i []).take j).count (t : Int)) (i : Int)
def backL (x : List (List Int)) : List (List Int) := (List.range x.length).map fun t => bkI x t x.length
theorem bkI_len {x : List (List Int)} {t : Nat} (h : ∀ v, v < x.length → (x.getD v []).length ≤ 64) : ∀ i, i ≤ x.length → (bkI x t i).length ≤ 64 * i
  | 0, _ => by simp [bkI]
  | i + 1, hi => by
    have h1 := bkI_len (t := t) h i (by omega)
    have h2 : (x.getD i []).count (t : Int) ≤ (x.getD i []).length := List.count_le_length
    have h3 := h i (by omega)
    simp only [bkI, List.length_append, List.length_replicate]
    omega
theorem bkJ_zero {x : List (List Int)} {t i : Nat} : bkJ x t i 0 = bkI x t i := by simp [bkJ]
theorem bkJ_all {x : List (List Int)} {t i : Nat} : bkJ x t i (x.getD i []).length = bkI x t (i + 1) := by
  unfold bkJ; rw [List.take_length]; rfl
theorem bkJ_succ {x : List (List Int)} {t i j : Nat} (h : j < (x.getD i []).length) : bkJ x t i (j + 1) = if (x.getD i []).getD j 0 = (t : Int) then bkJ x t i j ++ [(i : Int)] else bkJ x t i j := by
  unfold bkJ
  rw [take1 (d := 0) h, List.count_append]
  by_cases he : (x.getD i []).getD j 0 = (t : Int)
  · rw [if_pos he, he, List.count_singleton_self, List.replicate_succ', List.append_assoc]
  · rw [if_neg he, List.count_singleton]
    have : ((x.getD i []).getD j 0 == (t : Int)) = false := by simpa using he
    rw [this]; simp
theorem map_set {β : Type} {f f' : Nat → β} {n t : Nat} {y : β} (h1 : t < n → f' t = y) (h2 : ∀ s, s ≠ t → f' s = f s) : ((List.range n).map f).set t y = (List.range n).map f' := by
  refine List.ext_getElem (by simp) fun j a b => ?_
  simp only [List.length_set, List.length_map, List.length_range] at a
  rw [List.getElem_set]
  split
  · rename_i e; subst e; simp [h1 a]
  · rename_i e; simp [h2 j (Ne.symm e)]
def sc (x : List (List Int)) (u : Nat) : List Nat := (x.getD u []).map Int.toNat
/-- Whether the move from u to t has been looked at: the first i of the queue, and those in 'dn' for the next one. -/
def pe (q : List Nat) (i : Nat) (dn : List Nat) (u t : Nat) : Prop := t ∈ q.take i ∨ (q[i]? = some t ∧ u ∈ dn)
open Classical in
noncomputable def peB (q : List Nat) (i : Nat) (dn : List Nat) (u t : Nat) : Bool := decide (pe q i dn u t)
theorem cnt_drop {P P' : Nat → Bool} {v : Nat} (h : ∀ t, P' t = (P t || t == v)) (hP : P v = false) : ∀ {l : List Nat}, l.Nodup → v ∈ l → ((l.filter fun t => !(P' t)).length : Int) = (l.filter fun t => !(P t)).length - 1
  | [], _, hv => absurd hv List.not_mem_nil
  | a :: t, hn, hv => by
    rw [List.nodup_cons] at hn
    by_cases ha : a = v
    · subst ha
      have ht : ∀ x, x ∈ t → (!(P' x)) = !(P x) := fun x hx => by
        have : x ≠ a := fun e => hn.1 (e ▸ hx)
        rw [h x]; simp [this]
      rw [List.filter_cons, List.filter_cons, hP, h a]
      simp only [beq_self_eq_true, Bool.or_true, Bool.not_true, Bool.false_eq_true, if_false, Bool.not_false, if_true, List.length_cons, List.filter_congr ht]
      omega
    · have hv' : v ∈ t := (List.mem_cons.1 hv).resolve_left (fun e => ha e.symm)
      have ih := cnt_drop h hP hn.2 hv'
      have hPa : P' a = P a := by rw [h a]; simp [ha]
      rw [List.filter_cons, List.filter_cons, hPa]
      cases hb : P a with
      | true => simpa [hb] using ih
      | false => simp only [Bool.not_false, if_true, List.length_cons]; omega
theorem pe_iff {q : List Nat} {i : Nat} {dn : List Nat} {u t : Nat} : peB q i dn u t = true ↔ pe q i dn u t := by
  classical
  unfold peB; exact decide_eq_true_iff
theorem peB_false {q : List Nat} {i : Nat} {dn : List Nat} {u t : Nat} (h : ¬ pe q i dn u t) : peB q i dn u t = false := by
  cases hb : peB q i dn u t with
  | false => rfl
  | true => exact absurd (pe_iff.1 hb) h
theorem peB_congr {q q' : List Nat} {i i' : Nat} {dn dn' : List Nat} {u t : Nat} (h : pe q i dn u t ↔ pe q' i' dn' u t) : peB q i dn u t = peB q' i' dn' u t := by
  rw [Bool.eq_iff_iff, pe_iff, pe_iff]; exact h
/-- The move from u to v has been looked at. -/
theorem pe_upd {q q' : List Nat} {i v u : Nat} {dn : List Nat} (h1 : q'.take i = q.take i) (h2 : q'[i]? = some v) (h3 : q[i]? = some v) (u' t : Nat) : pe q' i (dn ++ [u]) u' t ↔ pe q i dn u' t ∨ (u' = u ∧ t = v) := by
  unfold pe
  rw [h1, h2, h3]
  simp only [Option.some.injEq, List.mem_append, List.mem_singleton]
  constructor
  · rintro (h | ⟨h, h4 | h4⟩)
    · exact .inl (.inl h)
    · exact .inl (.inr ⟨h, h4⟩)
    · exact .inr ⟨h4, h.symm⟩
  · rintro ((h | ⟨h, h4⟩) | ⟨h4, h⟩)
    · exact .inl h
    · exact .inr ⟨h, .inl h4⟩
    · exact .inr ⟨h.symm, .inr h4⟩
theorem not_take {q : List Nat} {i v : Nat} (hn : q.Nodup) (h : q[i]? = some v) : v ∉ q.take i := by
  intro hm
  obtain ⟨j, hj, e⟩ := List.getElem_of_mem hm
  rw [List.length_take] at hj
  rw [List.getElem_take] at e
  obtain ⟨hi, e2⟩ := List.getElem?_eq_some_iff.1 h
  exact List.pairwise_iff_getElem.1 hn j i (by omega) hi (by omega) (e.trans e2.symm)
/-- A row of a game goes upwards. -/
theorem row_up {n : Nat} : ∀ {l : List Int}, (∀ i, i < l.length → rowOK n l i) → l.Pairwise (· < ·)
  | [], _ => List.Pairwise.nil
  | [a], _ => List.pairwise_singleton _ _
  | a :: b :: t, h => by
    have h1 : (b :: t).Pairwise (· < ·) := row_up (l := b :: t) fun i hi => by
      have := h (i + 1) (by simpa using hi)
      obtain ⟨r1, r2, r3⟩ := this
      refine ⟨r1, r2, fun h0 => ?_⟩
      obtain ⟨j, rfl⟩ : ∃ j, i = j + 1 := ⟨i - 1, by omega⟩
      exact r3 (Nat.succ_pos _)
    have hab : a < b := (h 1 (by simp)).2.2 (Nat.succ_pos _)
    refine List.pairwise_cons.2 ⟨fun c hc => ?_, h1⟩
    rcases List.mem_cons.1 hc with rfl | hc
    · exact hab
    · have := (List.pairwise_cons.1 h1).1 c hc
      omega
theorem row_of {g : Gm} (hV : Valid g) {u : Nat} (hu : u < g.own.length) : (g.nxt.getD u []).Pairwise (· < ·) ∧ ∀ a, a ∈ g.nxt.getD u [] → 0 ≤ a ∧ a < g.own.length := by
  obtain ⟨_, hr⟩ := hV.2.2.2 u hu
  refine ⟨row_up hr, fun a ha => ?_⟩
  obtain ⟨i, hi, rfl⟩ := List.getElem_of_mem ha
  have := hr i hi
  obtain ⟨r1, r2, _⟩ := this
  simp only [Gm.x, Gm.n] at r1 r2
  rw [List.getD_eq_getElem?_getD, List.getElem?_eq_getElem hi, Option.getD_some] at r1 r2
  exact ⟨r1, r2⟩
theorem sc_mem {g : Gm} (hV : Valid g) {u v : Nat} (hu : u < g.own.length) : v ∈ sc g.nxt u ↔ (v : Int) ∈ g.nxt.getD u [] := by
  constructor
  · intro h
    obtain ⟨a, ha, rfl⟩ := List.mem_map.1 h
    have := (row_of hV hu).2 a ha
    rwa [Int.toNat_of_nonneg this.1]
  · intro h
    exact List.mem_map.2 ⟨v, h, Int.toNat_natCast v⟩
theorem cnt_one {a : Int} : ∀ {l : List Int}, l.Pairwise (· < ·) → l.count a ≤ 1
  | [], _ => Nat.zero_le _
  | b :: t, h => by
    obtain ⟨h1, h2⟩ := List.pairwise_cons.1 h
    rw [List.count_cons]
    by_cases he : b = a
    · subst he
      have : t.count b = 0 := List.count_eq_zero.2 fun hm => by have := h1 b hm; omega
      rw [this]; simp
    · have := cnt_one (a := a) h2
      have hf : (b == a) = false := by simpa using he
      rw [hf]; simpa using this
theorem bkI_up {g : Gm} (hV : Valid g) {t : Nat} : ∀ i, i ≤ g.own.length → (bkI g.nxt t i).Pairwise (· < ·) ∧ (∀ a, a ∈ bkI g.nxt t i → 0 ≤ a ∧ a < i) ∧ (∀ v : Nat, (v : Int) ∈ bkI g.nxt t i ↔ v < i ∧ (t : Int) ∈ g.nxt.getD v [])
  | 0, _ => ⟨List.Pairwise.nil, fun a h => absurd h List.not_mem_nil, fun v => ⟨fun h => absurd h List.not_mem_nil, fun h => absurd h.1 (Nat.not_lt_zero v)⟩⟩
  | i + 1, hi => by
    obtain ⟨h1, h2, h3⟩ := bkI_up hV i (by omega) (t := t)
    have hrow := (row_of hV (u := i) (by omega)).1
    have hc : (g.nxt.getD i []).count (t : Int) ≤ 1 := cnt_one hrow
    have hcm : 0 < (g.nxt.getD i []).count (t : Int) ↔ (t : Int) ∈ g.nxt.getD i [] := List.count_pos_iff
    simp only [bkI]
    have hrep : ∀ a, a ∈ List.replicate ((g.nxt.getD i []).count (t : Int)) (i : Int) → a = i := fun a ha => (List.mem_replicate.1 ha).2
    refine ⟨List.pairwise_append.2 ⟨h1, ?_, fun a ha b hb => ?_⟩, fun a ha => ?_, fun v => ?_⟩
    · rcases Nat.eq_zero_or_pos ((g.nxt.getD i []).count (t : Int)) with h0 | h0
      · rw [h0]; exact List.Pairwise.nil
      · rw [show (g.nxt.getD i []).count (t : Int) = 1 by omega]; exact List.pairwise_singleton _ _
    · rw [hrep b hb]; exact (h2 a ha).2
    · rcases List.mem_append.1 ha with ha | ha
      · have := h2 a ha; omega
      · rw [hrep a ha]; omega
    · rw [List.mem_append, h3 v]
      constructor
      · rintro (⟨h4, h5⟩ | h4)
        · exact ⟨by omega, h5⟩
        · have e := hrep _ h4
          obtain rfl : v = i := by omega
          have := (List.mem_replicate.1 h4).1
          exact ⟨by omega, hcm.1 (by omega)⟩
      · rintro ⟨h4, h5⟩
        rcases Nat.lt_succ_iff_lt_or_eq.1 h4 with h6 | rfl
        · exact .inl ⟨h6, h5⟩
        · exact .inr (List.mem_replicate.2 ⟨by have := hcm.2 h5; omega, rfl⟩)
theorem back_is {g : Gm} (hV : Valid g) {v : Nat} (hv : v < g.own.length) : (backL g.nxt).getD v [] = bkI g.nxt v g.own.length := by
  have hx : g.nxt.length = g.own.length := hV.2.2.1
  have hv2 : v < g.nxt.length := by omega
  unfold backL
  rw [List.getD_eq_getElem?_getD, List.getElem?_map, List.getElem?_range hv2, hx]; rfl
/-- The positions ahead of one. -/
theorem back_fact {g : Gm} (hV : Valid g) {v : Nat} (hv : v < g.own.length) : ∀ r, r < ((backL g.nxt).getD v []).length → ((backL g.nxt).getD v []).getD r 0 = (((((backL g.nxt).getD v []).getD r 0).toNat : Nat) : Int) ∧ (((backL g.nxt).getD v []).getD r 0).toNat < g.own.length ∧ v ∈ sc g.nxt (((backL g.nxt).getD v []).getD r 0).toNat ∧ (((backL g.nxt).getD v []).getD r 0).toNat ∉ (((backL g.nxt).getD v []).take r).map Int.toNat := by
  rw [back_is hV hv]
  obtain ⟨h1, h2, h3⟩ := bkI_up hV g.own.length (Nat.le_refl _) (t := v)
  intro r hr
  have hm : (bkI g.nxt v g.own.length).getD r 0 ∈ bkI g.nxt v g.own.length := by
    rw [List.getD_eq_getElem?_getD, List.getElem?_eq_getElem hr]; exact List.getElem_mem hr
  obtain ⟨a1, a2⟩ := h2 _ hm
  have e : (((bkI g.nxt v g.own.length).getD r 0).toNat : Int) = (bkI g.nxt v g.own.length).getD r 0 := Int.toNat_of_nonneg a1
  have hn : ((bkI g.nxt v g.own.length).getD r 0).toNat < g.own.length := by omega
  refine ⟨e.symm, hn, ?_, fun hm2 => ?_⟩
  · rw [sc_mem hV hn]
    exact ((h3 _).1 (by rw [e]; exact hm)).2
  · obtain ⟨b, hb, e2⟩ := List.mem_map.1 hm2
    obtain ⟨j, hj, rfl⟩ := List.getElem_of_mem hb
    rw [List.length_take] at hj
    rw [List.getElem_take] at e2
    have hlt := List.pairwise_iff_getElem.1 h1 j r (by omega) hr (by omega)
    have hb0 := h2 _ (List.getElem_mem (l := bkI g.nxt v g.own.length) (n := j) (by omega))
    rw [List.getD_eq_getElem?_getD, List.getElem?_eq_getElem hr, Option.getD_some] at e2 a1
    omega
theorem back_all {g : Gm} (hV : Valid g) {v : Nat} (hv : v < g.own.length) : ∀ u, u < g.own.length → v ∈ sc g.nxt u → u ∈ ((backL g.nxt).getD v []).map Int.toNat := by
  rw [back_is hV hv]
  obtain ⟨h1, h2, h3⟩ := bkI_up hV g.own.length (Nat.le_refl _) (t := v)
  intro u hu hs
  exact List.mem_map.2 ⟨(u : Int), (h3 u).2 ⟨hu, (sc_mem hV hu).1 hs⟩, Int.toNat_natCast u⟩
theorem sc_nodup {g : Gm} (hV : Valid g) {u : Nat} (hu : u < g.own.length) : (sc g.nxt u).Nodup := by
  obtain ⟨h1, h2⟩ := row_of hV hu
  unfold sc
  rw [List.nodup_iff_pairwise_ne, List.pairwise_map]
  refine List.Pairwise.imp_of_mem (fun {a b} ha hb hab => ?_) h1
  have := h2 a ha
  have := h2 b hb
  omega
/-- A row's successors, as numbers. -/
def rws (x : List (List Int)) (v : Nat) : List Nat := (x.getD v []).map Int.toNat
theorem rws_len {x : List (List Int)} {v : Nat} : (rws x v).length = (x.getD v []).length := List.length_map ..
end Go.Proofs.Ytlckljphakkomaa.Cal
