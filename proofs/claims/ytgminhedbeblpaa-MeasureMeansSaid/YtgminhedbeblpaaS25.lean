/- Own texts of the proof, merged, in order. -/
import Derived.Test.YtgminhedbeblpaaS24
set_option linter.unusedVariables false
set_option linter.unusedSimpArgs false
namespace Go.Proofs.Ytgminhedbeblpaa.Cal
open Go Pl
theorem wfL_of : ∀ {ms l : List Int}, l.length = ms.length → (∀ i, i < l.length → 0 ≤ l.getD i 0 ∧ l.getD i 0 ≤ ms.getD i 0) → wfL ms l
  | [], [], _, _ => trivial
  | [], _ :: _, h, _ => by cases h
  | _ :: _, [], h, _ => by cases h
  | m :: ms, d :: ds, h, hi => ⟨hi 0 (by simp), wfL_of (by simpa using h) fun i h2 => hi (i + 1) (by simpa using h2)⟩
open Classical in
/-- Whether a measure fits a scale. -/
noncomputable def fitB (many : List Int) (m : Bool × List Int) : Bool := decide (okM many m)
theorem fitB_iff {many : List Int} {m : Bool × List Int} : fitB many m = true ↔ okM many m := by simp [fitB]
theorem fit_top {many xs : List Int} : fitB many (true, xs) = decide (xs = []) := by
  rw [Bool.eq_iff_iff, fitB_iff, decide_eq_true_eq]
  exact ⟨fun h => h.elim (fun h => h.2) (fun h => by cases h.1), fun h => .inl ⟨rfl, h⟩⟩
theorem fit_yes {many xs : List Int} (h1 : xs.length = many.length) (h2 : ∀ i, i < xs.length → 0 ≤ xs.getD i 0 ∧ xs.getD i 0 ≤ many.getD i 0) : fitB many (false, xs) = true := fitB_iff.2 (.inr ⟨rfl, wfL_of h1 h2⟩)
theorem fit_len {many xs : List Int} (h : xs.length ≠ many.length) : fitB many (false, xs) = false := by
  rw [Bool.eq_false_iff]
  intro hf
  rcases fitB_iff.1 hf with h1 | h1
  · cases h1.1
  · exact h (wfL_len h1.2)
theorem fit_no {many xs : List Int} {i : Nat} (hi : i < xs.length) (h : xs.getD i 0 < 0 ∨ many.getD i 0 < xs.getD i 0) : fitB many (false, xs) = false := by
  rw [Bool.eq_false_iff]
  intro hf
  rcases fitB_iff.1 hf with h1 | h1
  · cases h1.1
  · have h3 := wfL_len h1.2
    have h2 := wfL_get h1.2 (i := i) (by dsimp only at h3; omega)
    dsimp only at h2
    omega
noncomputable def fitsS : Spec
  | [.agg (.cons (.roI odd) (.cons (.roI many) .nil)), .agg (.cons (.bool t) (.cons (.roI xs) .nil))] => some ⟨odd.length = many.length, .bool (fitB many (t, xs)), none⟩
  | _ => none
set_option maxRecDepth 4000 in
set_option maxHeartbeats 4000000 in
theorem fits_ok : FSpec Try.prog 41 fitsS := by
  refine fspec_of htb (fn := Try.f41) (by kernel_rfl) (by kernel_rfl) rfl (fun args r hS => ?_) (fun args r hS hob hl => ?_)
  · unfold fitsS at hS; split at hS <;> first | (cases hS; done) | (cases hS; exact Nat.le_of_ble_eq_true rfl)
  unfold fitsS at hS
  split at hS
  case h_2 => cases hS
  rename_i odd many t xs
  simp only [Option.some.injEq] at hS
  subst hS
  simp only [lenP, mkL, lim] at hl
  dsimp only at hob
  repeat' first
    | with_reducible first | refine awp_seq ?_ | refine awp_block ?_ | refine next_then ?_ | refine next_block ?_ | refine exit_then ?_ | refine ret_then ?_ | refine ret_block ?_ | refine exit_here ?_ | refine awp_exit ?_ | refine awp_ret ?_ | refine awp_skip ?_ | refine awp_label ?_ | refine next_noGoto ?_ | refine ret_noGoto ?_ | refine exit_noGoto ?_ | refine awp_scope ?_
    | ((with_reducible refine exit_past ?_ ?_); exact rfl)
    | ((with_reducible refine isCond ?_); refine awp_condO rfl ?_ ?_ <;> intro hb <;> (try simp only [zH] at hb))
    | ((with_reducible refine isReg ?_); (first | refine awp_textM htb hmz noSp (fun _ => false) rfl rfl ?_ | refine awp_drawM hmo htb hmz noSp (fun _ => false) rfl rfl (by kernel_rfl) ?_); intro m' e' l' ob h; simp only [zE0, zE1, zE2, zE3, zE4, zE5, evp, evx, ev1, evLoad, evStore, evBin, isBoolK, forall_const, z38, tb, Nat.reduceAdd, Nat.reduceSub, Nat.reduceMul, Nat.reduceEqDiff, Nat.reduceLeDiff, Nat.reduceLT, Nat.reduceBEq, Nat.reduceBNe, ↓reduceIte, reduceIte] at h; obtain ⟨rfl, rfl, rfl, rfl⟩ := h; refine ⟨?_, ?_⟩)
    | ((with_reducible refine Ob.mk ?_); first | exact trivial | (intros; omega) | ((repeat' first | apply And.intro | (intro hg; have hg' := hg; try simp only [zH] at hg')) <;> first | assumption | omega | (simp only [zH]; omega)))
  · subst hb
    refine fin_ret rfl rfl (spec_flat rfl ?_ rfl)
    show AV.bool (decide ((xs.length : Int) = 0)) = AV.bool _
    rw [fit_top]
    congr 1
    rw [decide_eq_decide]
    exact ⟨fun h => List.eq_nil_of_length_eq_zero (by omega), fun h => by rw [h]; rfl⟩
  · have ht : t = false := by simpa using ‹_›
    subst ht
    refine fin_ret rfl rfl (spec_flat rfl ?_ rfl)
    rw [fit_len (by omega)]
    rfl
  have ht : t = false := by simpa using ‹_›
  subst ht
  refine awp_loopC (τ := Nat) (fun i => i ≤ xs.length ∧ ∀ j, j < i → 0 ≤ xs.getD j 0 ∧ xs.getD j 0 ≤ many.getD j 0) (fun i => ⟨5, [(23, .int .i64 i), (22, .int .i64 xs.length), (21, .roI xs), (3, .rop (.agg (.cons (.bool false) (.cons (.roI xs) .nil)))), (2, .rop (.agg (.cons (.roI odd) (.cons (.roI many) .nil))))], [], []⟩) (fun i => xs.length - i) 0 [] ?_ ⟨Nat.zero_le _, fun j hj => absurd hj (Nat.not_lt_zero j)⟩ ?_
  · (refine ⟨rfl, ?_, ?_⟩ <;> simp only [zE0, zE1, zE2, zE3, zE4, zE5, evp, evx, ev1, evLoad, evStore, evBin, isBoolK, forall_const, z38, tb, Nat.reduceAdd, Nat.reduceSub, Nat.reduceMul, Nat.reduceEqDiff, Nat.reduceLeDiff, Nat.reduceLT, Nat.reduceBEq, Nat.reduceBNe, ↓reduceIte, reduceIte, zI])
  rintro i ⟨hi, hj⟩
  repeat' first
    | with_reducible first | refine awp_seq ?_ | refine awp_block ?_ | refine next_then ?_ | refine next_block ?_ | refine exit_then ?_ | refine ret_then ?_ | refine ret_block ?_ | refine exit_here ?_ | refine awp_exit ?_ | refine awp_ret ?_ | refine awp_skip ?_ | refine awp_label ?_ | refine next_noGoto ?_ | refine ret_noGoto ?_ | refine exit_noGoto ?_ | refine awp_scope ?_
    | ((with_reducible refine exit_past ?_ ?_); exact rfl)
    | ((with_reducible refine isCond ?_); refine awp_condO rfl ?_ ?_ <;> intro hb <;> (try simp only [zH] at hb))
    | ((with_reducible refine isReg ?_); (first | refine awp_textM htb hmz noSp (fun _ => false) rfl rfl ?_ | refine awp_drawM hmo htb hmz noSp (fun _ => false) rfl rfl (by kernel_rfl) ?_); intro m' e' l' ob h; simp only [zE0, zE1, zE2, zE3, zE4, zE5, evp, evx, ev1, evLoad, evStore, evBin, isBoolK, forall_const, z38, tb, Nat.reduceAdd, Nat.reduceSub, Nat.reduceMul, Nat.reduceEqDiff, Nat.reduceLeDiff, Nat.reduceLT, Nat.reduceBEq, Nat.reduceBNe, ↓reduceIte, reduceIte] at h; obtain ⟨rfl, rfl, rfl, rfl⟩ := h; refine ⟨?_, ?_⟩)
    | ((with_reducible refine Ob.mk ?_); first | exact trivial | (intros; omega) | ((repeat' first | apply And.intro | (intro hg; have hg' := hg; try simp only [zH] at hg')) <;> first | assumption | omega | (simp only [zH]; omega)))
  · refine fin_ret rfl rfl (spec_flat rfl ?_ rfl)
    rw [fit_no (i := i) (by omega) (by omega)]
    rfl
  · refine back (i + 1) [] ?_ ⟨by omega, fun j hj' => ?_⟩ (by omega)
    · (refine ⟨rfl, ?_, ?_⟩ <;> simp only [zE0, zE1, zE2, zE3, zE4, zE5, evp, evx, ev1, evLoad, evStore, evBin, isBoolK, forall_const, z38, tb, Nat.reduceAdd, Nat.reduceSub, Nat.reduceMul, Nat.reduceEqDiff, Nat.reduceLeDiff, Nat.reduceLT, Nat.reduceBEq, Nat.reduceBNe, ↓reduceIte, reduceIte, zI])
    · rcases Nat.lt_succ_iff_lt_or_eq.1 hj' with h | rfl
      · exact hj j h
      · omega
  · refine fin_ret rfl rfl (spec_flat rfl ?_ rfl)
    rw [fit_yes (by omega) fun j hj' => hj j (by omega)]
    rfl
set_option maxRecDepth 4000 in
set_option maxHeartbeats 4000000 in
theorem given_ok : FSpec Try.prog 21 gotS := by
  refine fspec_of htb (fn := Try.f21) (by kernel_rfl) (by kernel_rfl) rfl (fun args r hS => ?_) (fun args r hS hob hl => ?_)
  · unfold gotS at hS; split at hS <;> first | (cases hS; done) | (cases hS; exact Nat.le_of_ble_eq_true rfl)
  unfold gotS at hS
  split at hS
  case h_2 => cases hS
  rename_i t xs
  simp only [Option.some.injEq] at hS
  subst hS
  simp only [lenP, mkL, lim] at hl
  dsimp only at hob
  repeat' first
    | with_reducible first | refine awp_seq ?_ | refine awp_block ?_ | refine next_then ?_ | refine next_block ?_ | refine exit_then ?_ | refine ret_then ?_ | refine ret_block ?_ | refine exit_here ?_ | refine awp_exit ?_ | refine awp_ret ?_ | refine awp_skip ?_ | refine awp_label ?_ | refine next_noGoto ?_ | refine ret_noGoto ?_ | refine exit_noGoto ?_ | refine awp_scope ?_
    | ((with_reducible refine exit_past ?_ ?_); exact rfl)
    | ((with_reducible refine isCond ?_); refine awp_condO rfl ?_ ?_ <;> intro hb <;> (try simp only [zH] at hb))
    | ((with_reducible refine isReg ?_); (first | refine awp_textM htb hmz noSp (fun _ => false) rfl rfl ?_ | refine awp_drawM hmo htb hmz noSp (fun _ => false) rfl rfl (by kernel_rfl) ?_); intro m' e' l' ob h; simp only [zE0, zE1, zE2, zE3, zE4, zE5, evp, evx, ev1, evLoad, evStore, evBin, isBoolK, forall_const, z38, tb, Nat.reduceAdd, Nat.reduceSub, Nat.reduceMul, Nat.reduceEqDiff, Nat.reduceLeDiff, Nat.reduceLT, Nat.reduceBEq, Nat.reduceBNe, ↓reduceIte, reduceIte] at h; obtain ⟨rfl, rfl, rfl, rfl⟩ := h; refine ⟨?_, ?_⟩)
    | ((with_reducible refine Ob.mk ?_); first | exact trivial | (intros; omega) | ((repeat' first | apply And.intro | (intro hg; have hg' := hg; try simp only [zH] at hg')) <;> first | assumption | omega | (simp only [zH]; omega)))
  refine fin_ret rfl rfl (spec_flat rfl ?_ rfl)
  rfl
/-- Measures, few and short. -/
def shortB (n : Nat) (F : Nat → Bool × List Int) : Bool := decide (n ≤ 400 ∧ ∀ j, j < n → (F j).2.length ≤ 400)
def shortS : Spec
  | [.ro 2 n f] => some ⟨f = fun j => msA (mOf (f j)), .bool (shortB n fun j => mOf (f j)), none⟩
  | _ => none
set_option maxRecDepth 4000 in
set_option maxHeartbeats 4000000 in
theorem short_ok : FSpec Try.prog 19 shortS := by
  refine fspec_of htb (fn := Try.f19) (by kernel_rfl) (by kernel_rfl) rfl (fun args r hS => ?_) (fun args r hS hob hl => ?_)
  · unfold shortS at hS; split at hS <;> first | (cases hS; done) | (cases hS; exact Nat.le_of_ble_eq_true rfl)
  unfold shortS at hS
  split at hS
  case h_2 => cases hS
  rename_i n f
  simp only [Option.some.injEq] at hS
  subst hS
  simp only [lenP, mkL, lim] at hl
  dsimp only at hob
  obtain ⟨F, hF⟩ : ∃ F : Nat → Bool × List Int, ∀ j, mOf (f j) = F j := ⟨_, fun _ => rfl⟩
  have hf : f = fun j => msA (F j) := by rw [hob]; funext j; rw [hF]
  have hF' : (fun j => mOf (f j)) = F := funext hF
  rw [hF']
  clear hob hF hF'
  subst hf
  repeat' first
    | with_reducible first | refine awp_seq ?_ | refine awp_block ?_ | refine next_then ?_ | refine next_block ?_ | refine exit_then ?_ | refine ret_then ?_ | refine ret_block ?_ | refine exit_here ?_ | refine awp_exit ?_ | refine awp_ret ?_ | refine awp_skip ?_ | refine awp_label ?_ | refine next_noGoto ?_ | refine ret_noGoto ?_ | refine exit_noGoto ?_ | refine awp_scope ?_
    | ((with_reducible refine exit_past ?_ ?_); exact rfl)
    | ((with_reducible refine isCond ?_); refine awp_condO rfl ?_ ?_ <;> intro hb <;> (try simp only [zH] at hb))
    | ((with_reducible refine isReg ?_); (first | refine awp_textM htb hmz noSp (fun _ => false) rfl rfl ?_ | refine awp_drawM hmo htb hmz noSp (fun _ => false) rfl rfl (by kernel_rfl) ?_); intro m' e' l' ob h; simp only [zE0, zE1, zE2, zE3, zE4, zE5, evp, evx, ev1, evLoad, evStore, evBin, isBoolK, forall_const, z38, tb, Nat.reduceAdd, Nat.reduceSub, Nat.reduceMul, Nat.reduceEqDiff, Nat.reduceLeDiff, Nat.reduceLT, Nat.reduceBEq, Nat.reduceBNe, ↓reduceIte, reduceIte, msA] at h; obtain ⟨rfl, rfl, rfl, rfl⟩ := h; refine ⟨?_, ?_⟩)
    | ((with_reducible refine Ob.mk ?_); first | exact trivial | (intros; omega) | ((repeat' first | apply And.intro | (intro hg; have hg' := hg; try simp only [zH] at hg')) <;> first | assumption | omega | (simp only [zH]; omega)))
  refine awp_loopC (τ := Nat) (fun i => i ≤ n ∧ ∀ j, j < i → (F j).2.length ≤ 400) (fun i => ⟨4, [(7, .int .i64 i), (6, .int .i64 n), (5, .ro 2 n (fun j => msA (F j))), (0, .ro 2 n (fun j => msA (F j)))], [], []⟩) (fun i => n - i) 0 [] ?_ ⟨Nat.zero_le _, fun j hj => absurd hj (Nat.not_lt_zero j)⟩ ?_
  · (refine ⟨rfl, ?_, ?_⟩ <;> simp only [zE0, zE1, zE2, zE3, zE4, zE5, evp, evx, ev1, evLoad, evStore, evBin, isBoolK, forall_const, z38, tb, Nat.reduceAdd, Nat.reduceSub, Nat.reduceMul, Nat.reduceEqDiff, Nat.reduceLeDiff, Nat.reduceLT, Nat.reduceBEq, Nat.reduceBNe, ↓reduceIte, reduceIte, msA, zI])
  rintro i ⟨hi, hj⟩
  repeat' first
    | with_reducible first | refine awp_seq ?_ | refine awp_block ?_ | refine next_then ?_ | refine next_block ?_ | refine exit_then ?_ | refine ret_then ?_ | refine ret_block ?_ | refine exit_here ?_ | refine awp_exit ?_ | refine awp_ret ?_ | refine awp_skip ?_ | refine awp_label ?_ | refine next_noGoto ?_ | refine ret_noGoto ?_ | refine exit_noGoto ?_ | refine awp_scope ?_
    | ((with_reducible refine exit_past ?_ ?_); exact rfl)
    | ((with_reducible refine isCond ?_); refine awp_condO rfl ?_ ?_ <;> intro hb <;> (try simp only [zH] at hb))
    | ((with_reducible refine isReg ?_); (first | refine awp_textM htb hmz noSp (fun _ => false) rfl rfl ?_ | refine awp_drawM hmo htb hmz noSp (fun _ => false) rfl rfl (by kernel_rfl) ?_); intro m' e' l' ob h; simp only [zE0, zE1, zE2, zE3, zE4, zE5, evp, evx, ev1, evLoad, evStore, evBin, isBoolK, forall_const, z38, tb, Nat.reduceAdd, Nat.reduceSub, Nat.reduceMul, Nat.reduceEqDiff, Nat.reduceLeDiff, Nat.reduceLT, Nat.reduceBEq, Nat.reduceBNe, ↓reduceIte, reduceIte, msA] at h; obtain ⟨rfl, rfl, rfl, rfl⟩ := h; refine ⟨?_, ?_⟩)
    | ((with_reducible refine Ob.mk ?_); first | exact trivial | (intros; omega) | ((repeat' first | apply And.intro | (intro hg; have hg' := hg; try simp only [zH] at hg')) <;> first | assumption | omega | (simp only [zH]; omega)))
  · refine fin_ret rfl rfl (spec_flat rfl ?_ rfl)
    show AV.bool false = AV.bool (shortB n F)
    unfold shortB
    rw [decide_eq_false]
    rintro ⟨_, h⟩
    have := h i (by omega)
    omega
  · refine back (i + 1) [] ?_ ⟨by omega, fun j hj' => ?_⟩ (by omega)
    · (refine ⟨rfl, ?_, ?_⟩ <;> simp only [zE0, zE1, zE2, zE3, zE4, zE5, evp, evx, ev1, evLoad, evStore, evBin, isBoolK, forall_const, z38, tb, Nat.reduceAdd, Nat.reduceSub, Nat.reduceMul, Nat.reduceEqDiff, Nat.reduceLeDiff, Nat.reduceLT, Nat.reduceBEq, Nat.reduceBNe, ↓reduceIte, reduceIte, msA, zI])
    · rcases Nat.lt_succ_iff_lt_or_eq.1 hj' with h | rfl
      · exact hj j h
      · omega
  · refine fin_ret rfl rfl (spec_flat rfl ?_ rfl)
    have hin : i = n := by omega
    subst hin
    show AV.bool (decide ((i : Int) ≤ 400)) = AV.bool (shortB i F)
    unfold shortB
    congr 1
    rw [decide_eq_decide]
    exact ⟨fun h => ⟨by omega, hj⟩, fun h => by omega⟩
section
variable {P : Program} {ro : Option Nat} {N κ : Nat}
/-- A variable that is nil, seen as a slice of the call's own. -/
theorem awp_nilslotB {c : Code} {m : Nat} {env : List (Nat × AV)} {rs : List (Nat × Option Blk)} {ms : List Nat} {Q : Exit → St → Prop} (s : Nat) (B : Blk) (hB : ∀ Z w ν, sat Z w ν (.slice none 0 0) (fun _ => False) B) (hmB : ∀ μ, menB μ B) (hs : lke env s = .cst (.slice none 0 0)) (hκ : Nat.ble κ m = true)
    (h : awp P ro N κ c (CS.st ⟨m + 1, (s, .own m) :: env, (m, some B) :: rs, ms⟩) Q) : awp P ro N κ c (CS.st ⟨m, env, rs, ms⟩) Q := by
  intro n K Z ν w a hg
  have hk : (CS.st ⟨m, env, rs, ms⟩).mu m = false := by show Nat.blt m m = false; rw [nblt]; simp
  have hgr := grs_new (w' := w) (x := .slice none 0 0) (B := B) (F := fun _ => False) hg.rs hg.zk hg.kl hk (Nat.le_refl _) (fun _ _ => rfl) (hB _ _ _) (hmB _) (fun y hy => hy.elim)
  have hν := upN_ext (ν := ν) (x := .slice none 0 0) hk
  have hmu : ∀ j, addK (CS.st ⟨m, env, rs, ms⟩).mu (some m) j = true → ltK (m + 1) j = true := by
    intro j hj
    simp only [addK, CS.st, ltK, nblt, nbeq, Bool.or_eq_true, decide_eq_true_eq] at hj ⊢
    omega
  have e : updL (CS.st ⟨m, env, rs, ms⟩).rs [(m, some B)] = lkr ((m, some B) :: rs) := by
    funext j
    rw [lkr_cons]
    simp only [updL, lko]
    by_cases hj : j = m
    · subst hj; simp [Nat.beq_refl]
    · simp only [beqN hj, if_neg hj]; rfl
  have hgr2 := hgr.nu (μ' := ltK (m + 1)) hmu (fun _ _ => rfl)
  rw [e] at hgr2
  have hgood : Good K Z N w (upN ν m (.slice none 0 0)) (CS.st ⟨m + 1, (s, .own m) :: env, (m, some B) :: rs, ms⟩) a := by
    refine ⟨hg.size, upN_one hg.one rfl, fun t => ?_, hgr2, hg.zk, hg.kl, ?_, fun j hj => hmu j (addK_le j (hg.ml j hj))⟩
    · have := hg.env t
      show men (ltK (m + 1)) (lke ((s, .own m) :: env) t) = true ∧ R Z w (lke ((s, .own m) :: env) t) _ true _
      rw [lke_cons]
      by_cases ht : t = s
      · subst ht
        rw [if_pos rfl]
        refine ⟨by show Nat.blt m (m + 1) = true; rw [Nat.blt_eq]; omega, ?_⟩
        have h2 := this.2
        rw [show (CS.st ⟨m, env, rs, ms⟩).env t = lke env t from rfl, hs] at h2
        show [a.tmps.getD t undef] = [upN ν m (.slice none 0 0) m]
        rw [upN_same]; exact h2
      · rw [if_neg ht]
        exact ⟨men_le (fun j hj => hmu j (addK_le j hj)) this.1, R_nu hν this.1 this.2⟩
    · rw [hg.ds]
      exact List.map_congr_left fun j hj => by rw [hν j (hg.ml j hj)]
  refine wpIn_mono (h n K Z _ w a hgood) ?_
  rintro e a' w' ⟨Z', ν', s', h1, h2, h3, h4⟩
  exact ⟨Z', ν', s', h1, fun j hj => (h2 j hj).trans (upN_other (by rintro rfl; have := Nat.le_of_ble_eq_true hκ; omega)), h3, h4⟩
end
def allS : Spec
  | [.ro 2 n f] => some ⟨(f = fun j => msA (mOf (f j))) ∧ n ≤ 1000000, .own 0, some (.avs 2 n fun j => msA (mOf (f j)))⟩
  | _ => none
def spAl : Nat → Option Spec
  | 21 => some gotS
  | _ => none
theorem spAl_ok : SpOK Try.prog spAl := by
  intro f S h
  unfold spAl at h
  split at h
  · cases h; exact given_ok
  · cases h
set_option maxRecDepth 4000 in
set_option maxHeartbeats 4000000 in
theorem all_ok : FSpec Try.prog 24 allS := by
  refine fspec_of htb (fn := Try.f24) (by kernel_rfl) (by kernel_rfl) rfl (fun args r hS => ?_) (fun args r hS hob hl => ?_)
  · unfold allS at hS; split at hS <;> first | (cases hS; done) | (cases hS; exact Nat.le_of_ble_eq_true rfl)
  unfold allS at hS
  split at hS
  case h_2 => cases hS
  rename_i n f
  simp only [Option.some.injEq] at hS
  subst hS
  simp only [lenP, mkL, lim] at hl
  dsimp only at hob
  obtain ⟨F, hF⟩ : ∃ F : Nat → Bool × List Int, ∀ j, mOf (f j) = F j := ⟨_, fun _ => rfl⟩
  have hf : f = fun j => msA (F j) := by rw [hob.1]; funext j; rw [hF]
  have hF' : (fun j => msA (mOf (f j))) = fun j => msA (F j) := by funext j; rw [hF]
  rw [hF']
  have hn := hob.2
  clear hob hF hF'
  subst hf
  repeat' first
    | with_reducible first | refine awp_seq ?_ | refine awp_block ?_ | refine next_then ?_ | refine next_block ?_ | refine exit_then ?_ | refine ret_then ?_ | refine ret_block ?_ | refine exit_here ?_ | refine awp_exit ?_ | refine awp_ret ?_ | refine awp_skip ?_ | refine awp_label ?_ | refine next_noGoto ?_ | refine ret_noGoto ?_ | refine exit_noGoto ?_ | refine awp_scope ?_
    | ((with_reducible refine exit_past ?_ ?_); exact rfl)
    | ((with_reducible refine isCond ?_); refine awp_condO rfl ?_ ?_ <;> intro hb <;> (try simp only [zH] at hb))
    | ((with_reducible refine isReg ?_); (first | refine awp_textM htb hmz spAl_ok (fun _ => false) rfl rfl ?_ | refine awp_drawM hmo htb hmz spAl_ok (fun _ => false) rfl rfl (by kernel_rfl) ?_); intro m' e' l' ob h; simp only [zE0, zE1, zE2, zE3, zE4, zE5, evp, evx, ev1, evLoad, evStore, evBin, isBoolK, forall_const, z38, tb, Nat.reduceAdd, Nat.reduceSub, Nat.reduceMul, Nat.reduceEqDiff, Nat.reduceLeDiff, Nat.reduceLT, Nat.reduceBEq, Nat.reduceBNe, ↓reduceIte, reduceIte, spAl, gotS, msA] at h; obtain ⟨rfl, rfl, rfl, rfl⟩ := h; refine ⟨?_, ?_⟩)
    | ((with_reducible refine Ob.mk ?_); first | exact trivial | (intros; omega) | ((repeat' first | apply And.intro | (intro hg; have hg' := hg; try simp only [zH] at hg')) <;> first | assumption | omega | (simp only [zH]; omega)))
  refine awp_nilslotB 3 (.avs 2 0 fun j => msA (F j)) (fun _ _ _ => .inl ⟨rfl, rfl, fun _ h => h⟩) (fun _ j hj => absurd hj (Nat.not_lt_zero j)) rfl rfl ?_
  refine awp_loopC (τ := Nat) (fun i => i ≤ n) (fun i => ⟨6, [(8, .int .i64 i), (7, .int .i64 n), (6, .ro 2 n (fun j => msA (F j))), (3, .own 5)], [(5, some (.avs 2 i fun j => msA (F j)))], []⟩) (fun i => n - i) 0 [] ?_ (Nat.zero_le _) ?_
  · (refine ⟨rfl, ?_, ?_⟩ <;> simp only [zE0, zE1, zE2, zE3, zE4, zE5, evp, evx, ev1, evLoad, evStore, evBin, isBoolK, forall_const, z38, tb, Nat.reduceAdd, Nat.reduceSub, Nat.reduceMul, Nat.reduceEqDiff, Nat.reduceLeDiff, Nat.reduceLT, Nat.reduceBEq, Nat.reduceBNe, ↓reduceIte, reduceIte, spAl, gotS, msA, zI])
  intro i hi
  repeat' first
    | with_reducible first | refine awp_seq ?_ | refine awp_block ?_ | refine next_then ?_ | refine next_block ?_ | refine exit_then ?_ | refine ret_then ?_ | refine ret_block ?_ | refine exit_here ?_ | refine awp_exit ?_ | refine awp_ret ?_ | refine awp_skip ?_ | refine awp_label ?_ | refine next_noGoto ?_ | refine ret_noGoto ?_ | refine exit_noGoto ?_ | refine awp_scope ?_
    | ((with_reducible refine exit_past ?_ ?_); exact rfl)
    | ((with_reducible refine isCond ?_); refine awp_condO rfl ?_ ?_ <;> intro hb <;> (try simp only [zH] at hb))
    | ((with_reducible refine isRegS 5 ?_ ?_); (· exact rfl); (first | refine awp_textM htb hmz spAl_ok (fun _ => false) rfl rfl ?_ | refine awp_drawM hmo htb hmz spAl_ok (fun _ => false) rfl rfl (by kernel_rfl) ?_); intro m' e' l' ob h; simp only [zE0, zE1, zE2, zE3, zE4, zE5, evp, evx, ev1, evLoad, evStore, evBin, isBoolK, forall_const, z38, tb, Nat.reduceAdd, Nat.reduceSub, Nat.reduceMul, Nat.reduceEqDiff, Nat.reduceLeDiff, Nat.reduceLT, Nat.reduceBEq, Nat.reduceBNe, ↓reduceIte, reduceIte, spAl, gotS, msA] at h; obtain ⟨rfl, rfl, rfl, rfl⟩ := h; refine ⟨?_, ?_⟩)
    | ((with_reducible refine Ob.mk ?_); first | exact trivial | (intros; omega) | ((repeat' first | apply And.intro | (intro hg; have hg' := hg; try simp only [zH] at hg')) <;> first | assumption | omega | (simp only [zH]; omega)))
  · first | (refine awp_textM htb hmz spAl_ok (fun _ => false) rfl rfl ?_; intro m' e' l' ob h; simp only [zE0, zE1, zE2, zE3, zE4, zE5, evp, evx, ev1, evLoad, evStore, evBin, isBoolK, forall_const, z38, tb, Nat.reduceAdd, Nat.reduceSub, Nat.reduceMul, Nat.reduceEqDiff, Nat.reduceLeDiff, Nat.reduceLT, Nat.reduceBEq, Nat.reduceBNe, ↓reduceIte, reduceIte, spAl, gotS, msA] at h; obtain ⟨rfl, rfl, rfl, rfl⟩ := h; refine ⟨?_, ?_⟩)
          | (refine awp_drawM hmo htb hmz spAl_ok (fun _ => false) rfl rfl (by kernel_rfl) ?_; intro m' e' l' ob h; simp only [zE0, zE1, zE2, zE3, zE4, zE5, evp, evx, ev1, evLoad, evStore, evBin, isBoolK, forall_const, z38, tb, Nat.reduceAdd, Nat.reduceSub, Nat.reduceMul, Nat.reduceEqDiff, Nat.reduceLeDiff, Nat.reduceLT, Nat.reduceBEq, Nat.reduceBNe, ↓reduceIte, reduceIte, spAl, gotS, msA] at h; obtain ⟨rfl, rfl, rfl, rfl⟩ := h; refine ⟨?_, ?_⟩)
    · first | ((with_reducible refine Ob.mk ?_); first | exact trivial | (intros; omega) | ((repeat' first | apply And.intro | (intro hg; have hg' := hg; try simp only [zH] at hg')) <;> first | assumption | omega | (simp only [zH]; omega))) | skip
    refine awp_avs 15 (fun j => msA (F j)) rfl (fun j hj => ?_) rfl ?_
    · split
      · rfl
      · rw [show j = i by omega]; rfl
    repeat' first
      | with_reducible first | refine awp_seq ?_ | refine awp_block ?_ | refine next_then ?_ | refine next_block ?_ | refine exit_then ?_ | refine ret_then ?_ | refine ret_block ?_ | refine exit_here ?_ | refine awp_exit ?_ | refine awp_ret ?_ | refine awp_skip ?_ | refine awp_label ?_ | refine next_noGoto ?_ | refine ret_noGoto ?_ | refine exit_noGoto ?_ | refine awp_scope ?_
      | ((with_reducible refine exit_past ?_ ?_); exact rfl)
      | ((with_reducible refine isCond ?_); refine awp_condO rfl ?_ ?_ <;> intro hb <;> (try simp only [zH] at hb))
      | ((with_reducible refine isReg ?_); (first | refine awp_textM htb hmz spAl_ok (fun _ => false) rfl rfl ?_ | refine awp_drawM hmo htb hmz spAl_ok (fun _ => false) rfl rfl (by kernel_rfl) ?_); intro m' e' l' ob h; simp only [zE0, zE1, zE2, zE3, zE4, zE5, evp, evx, ev1, evLoad, evStore, evBin, isBoolK, forall_const, z38, tb, Nat.reduceAdd, Nat.reduceSub, Nat.reduceMul, Nat.reduceEqDiff, Nat.reduceLeDiff, Nat.reduceLT, Nat.reduceBEq, Nat.reduceBNe, ↓reduceIte, reduceIte, spAl, gotS, msA] at h; obtain ⟨rfl, rfl, rfl, rfl⟩ := h; refine ⟨?_, ?_⟩)
      | ((with_reducible refine Ob.mk ?_); first | exact trivial | (intros; omega) | ((repeat' first | apply And.intro | (intro hg; have hg' := hg; try simp only [zH] at hg')) <;> first | assumption | omega | (simp only [zH]; omega)))
    refine back (i + 1) [(5, 15)] ?_ (by omega) (by omega)
    (refine ⟨rfl, ?_, ?_⟩ <;> simp only [zE0, zE1, zE2, zE3, zE4, zE5, evp, evx, ev1, evLoad, evStore, evBin, isBoolK, forall_const, z38, tb, Nat.reduceAdd, Nat.reduceSub, Nat.reduceMul, Nat.reduceEqDiff, Nat.reduceLeDiff, Nat.reduceLT, Nat.reduceBEq, Nat.reduceBNe, ↓reduceIte, reduceIte, spAl, gotS, msA, zI])
  have hin : i = n := by omega
  subst hin
  repeat' first
    | with_reducible first | refine awp_seq ?_ | refine awp_block ?_ | refine next_then ?_ | refine next_block ?_ | refine exit_then ?_ | refine ret_then ?_ | refine ret_block ?_ | refine exit_here ?_ | refine awp_exit ?_ | refine awp_ret ?_ | refine awp_skip ?_ | refine awp_label ?_ | refine next_noGoto ?_ | refine ret_noGoto ?_ | refine exit_noGoto ?_ | refine awp_scope ?_
    | ((with_reducible refine exit_past ?_ ?_); exact rfl)
    | ((with_reducible refine isCond ?_); refine awp_condO rfl ?_ ?_ <;> intro hb <;> (try simp only [zH] at hb))
    | ((with_reducible refine isReg ?_); (first | refine awp_textM htb hmz spAl_ok (fun _ => false) rfl rfl ?_ | refine awp_drawM hmo htb hmz spAl_ok (fun _ => false) rfl rfl (by kernel_rfl) ?_); intro m' e' l' ob h; simp only [zE0, zE1, zE2, zE3, zE4, zE5, evp, evx, ev1, evLoad, evStore, evBin, isBoolK, forall_const, z38, tb, Nat.reduceAdd, Nat.reduceSub, Nat.reduceMul, Nat.reduceEqDiff, Nat.reduceLeDiff, Nat.reduceLT, Nat.reduceBEq, Nat.reduceBNe, ↓reduceIte, reduceIte, spAl, gotS, msA] at h; obtain ⟨rfl, rfl, rfl, rfl⟩ := h; refine ⟨?_, ?_⟩)
    | ((with_reducible refine Ob.mk ?_); first | exact trivial | (intros; omega) | ((repeat' first | apply And.intro | (intro hg; have hg' := hg; try simp only [zH] at hg')) <;> first | assumption | omega | (simp only [zH]; omega)))
  refine fin_ret rfl rfl (spec_own 5 rfl rfl rfl rfl rfl (Nat.lt_of_lt_of_le (by decide : 5 < 9) (Nat.le_refl 9)) (fun j hj => rfl))
end Go.Proofs.Ytgminhedbeblpaa.Cal
namespace Go.Proofs.Ytgminhedbeblpaa.Cal
open Go Pl
/-- What Prog answers. -/
noncomputable def prgF (g : Gm) (m : Bool × List Int) (q : Int) : (Bool × List Int) × Int :=
  if validB g = false then ((false, []), 1) else if fitB (mnN g.pri 61) m = false then ((false, []), 4) else if q < 0 ∨ 60 < q then ((false, []), 6) else if q % 2 = 1 ∧ q ∉ odN g.pri 61 then ((false, []), 5)
  else (deM (mnN g.pri 61) (progV (odN g.pri 61) (mnN g.pri 61) (enM (mnN g.pri 61) m) q), 0)
noncomputable def prgS : Spec
  | [.agg (.cons (.roI o) (.cons (.roI p) (.cons (.roII x) .nil))), .agg (.cons (.bool t) (.cons (.roI xs) .nil)), .int .i64 q] =>
    some ⟨True, .tup (.cons (.agg (.cons (.bool (prgF ⟨o, p, x⟩ (t, xs) q).1.1) (.cons (.roI (prgF ⟨o, p, x⟩ (t, xs) q).1.2) .nil))) (.cons (.int .i64 (prgF ⟨o, p, x⟩ (t, xs) q).2) .nil)), none⟩
  | _ => none
theorem imp_no {e : Int} {r : (Bool × List Int) × Int} (h : r = ((false, []), e)) : Imp (.tup (.cons (.agg (.cons (.bool false) (.cons (.cst (.slice none 0 0)) .nil))) (.cons (.int .i64 e) .nil))) (.tup (.cons (.agg (.cons (.bool r.1.1) (.cons (.roI r.1.2) .nil))) (.cons (.int .i64 r.2) .nil))) := by
  subst h
  exact imp_tup (imp_cons (imp_agg (imp_cons (imp_eq rfl) (imp_cons imp_nilI (imp_eq rfl)))) (imp_eq rfl))
noncomputable def spPg : Nat → Option Spec
  | 29 => some validS
  | 30 => some scaleS
  | 41 => some fitsS
  | 42 => some containsS
  | 43 => some progS
  | _ => none
theorem spPg_ok : SpOK Try.prog spPg := by
  intro f S h
  unfold spPg at h
  split at h
  · cases h; exact valid_ok
  · cases h; exact scale_ok
  · cases h; exact fits_ok
  · cases h; exact contains_ok
  · cases h; exact prog_ok
  · cases h
set_option maxRecDepth 4000 in
set_option maxHeartbeats 4000000 in
theorem prg_ok : FSpec Try.prog 20 prgS := by
  refine fspec_of htb (fn := Try.f20) (by kernel_rfl) (by kernel_rfl) rfl (fun args r hS => ?_) (fun args r hS hob hl => ?_)
  · unfold prgS at hS; split at hS <;> first | (cases hS; done) | (cases hS; exact Nat.le_of_ble_eq_true rfl)
  unfold prgS at hS
  split at hS
  case h_2 => cases hS
  rename_i o p x t xs q
  simp only [Option.some.injEq] at hS
  subst hS
  simp only [lenP, mkL, lim] at hl
  dsimp only at hob
  repeat' first
    | with_reducible first | refine awp_seq ?_ | refine awp_block ?_ | refine next_then ?_ | refine next_block ?_ | refine exit_then ?_ | refine ret_then ?_ | refine ret_block ?_ | refine exit_here ?_ | refine awp_exit ?_ | refine awp_ret ?_ | refine awp_skip ?_ | refine awp_label ?_ | refine next_noGoto ?_ | refine ret_noGoto ?_ | refine exit_noGoto ?_ | refine awp_scope ?_
    | ((with_reducible refine exit_past ?_ ?_); exact rfl)
    | ((with_reducible refine isCond ?_); refine awp_condO rfl ?_ ?_ <;> intro hb <;> (try simp only [zH] at hb))
    | ((with_reducible refine isRegS 3 ?_ ?_); (· exact rfl); (first | refine awp_textM htb hmz spPg_ok (fun _ => false) rfl rfl ?_ | refine awp_drawM hmo htb hmz spPg_ok (fun _ => false) rfl rfl (by kernel_rfl) ?_); intro m' e' l' ob h; simp only [zE0, zE1, zE2, zE3, zE4, zE5, evp, evx, ev1, evLoad, evStore, evBin, isBoolK, forall_const, z38, tb, Nat.reduceAdd, Nat.reduceSub, Nat.reduceMul, Nat.reduceEqDiff, Nat.reduceLeDiff, Nat.reduceLT, Nat.reduceBEq, Nat.reduceBNe, ↓reduceIte, reduceIte, spPg, validS, scaleS, fitsS, containsS, progS] at h; obtain ⟨rfl, rfl, rfl, rfl⟩ := h; refine ⟨?_, ?_⟩)
    | ((with_reducible refine Ob.mk ?_); first | exact trivial | (intros; omega) | ((repeat' first | apply And.intro | (intro hg; have hg' := hg; try simp only [zH] at hg')) <;> first | assumption | omega | (simp only [zH]; omega)))
  · refine fin_ret rfl rfl (spec_imp rfl ?_ rfl)
    exact imp_no (if_pos hb)
  have hv := hb
  have hV := validB_iff.1 hv
  obtain ⟨hn, hpl, hxl, hpos⟩ := id hV
  simp only [Gm.n] at hn hpl hxl
  have hS := scale_sok (p := p) (by omega)
  have hS1 := hS.len
  have hS2 := hS.l100
  have hS3 := hS.bd
  have hS4 := hS.ps
  have e0 : ¬ validB ⟨o, p, x⟩ = false := by rw [hv]; decide
  repeat' first
    | with_reducible first | refine awp_seq ?_ | refine awp_block ?_ | refine next_then ?_ | refine next_block ?_ | refine exit_then ?_ | refine ret_then ?_ | refine ret_block ?_ | refine exit_here ?_ | refine awp_exit ?_ | refine awp_ret ?_ | refine awp_skip ?_ | refine awp_label ?_ | refine next_noGoto ?_ | refine ret_noGoto ?_ | refine exit_noGoto ?_ | refine awp_scope ?_
    | ((with_reducible refine exit_past ?_ ?_); exact rfl)
    | ((with_reducible refine isCond ?_); refine awp_condO rfl ?_ ?_ <;> intro hb <;> (try simp only [zH] at hb))
    | ((with_reducible refine isReg ?_); (first | refine awp_textM htb hmz spPg_ok (fun _ => false) rfl rfl ?_ | refine awp_drawM hmo htb hmz spPg_ok (fun _ => false) rfl rfl (by kernel_rfl) ?_); intro m' e' l' ob h; simp only [zE0, zE1, zE2, zE3, zE4, zE5, evp, evx, ev1, evLoad, evStore, evBin, isBoolK, forall_const, z38, tb, Nat.reduceAdd, Nat.reduceSub, Nat.reduceMul, Nat.reduceEqDiff, Nat.reduceLeDiff, Nat.reduceLT, Nat.reduceBEq, Nat.reduceBNe, ↓reduceIte, reduceIte, spPg, validS, scaleS, fitsS, containsS, progS] at h; obtain ⟨rfl, rfl, rfl, rfl⟩ := h; refine ⟨?_, ?_⟩)
    | ((with_reducible refine Ob.mk ?_); first | exact trivial | (intros; omega) | ((repeat' first | apply And.intro | (intro hg; have hg' := hg; try simp only [zH] at hg')) <;> first | assumption | omega | (simp only [zH]; omega)))
  · refine fin_ret rfl rfl (spec_imp rfl ?_ rfl)
    refine imp_no ?_
    unfold prgF
    rw [if_neg e0, if_pos hb]
  · rename_i h1
    refine fin_ret rfl rfl (spec_imp rfl ?_ rfl)
    refine imp_no ?_
    unfold prgF
    rw [if_neg e0, if_neg (fun h => by rw [show fitB (mnN p 61) (t, xs) = true from h1] at h; cases h), if_pos hb]
  · rename_i h1 h2
    refine fin_ret rfl rfl (spec_imp rfl ?_ rfl)
    refine imp_no ?_
    unfold prgF
    rw [if_neg e0, if_neg (fun h => by rw [show fitB (mnN p 61) (t, xs) = true from h1] at h; cases h), if_neg (by omega), if_pos hb]
  · rename_i h1 h2
    exact Ob.mk ⟨hS1, hS2, hS3, hS4, fitB_iff.1 h1, h2.1⟩
  rename_i h1 h2
  have hr : prgF ⟨o, p, x⟩ (t, xs) q = (deM (mnN p 61) (progV (odN p 61) (mnN p 61) (enM (mnN p 61) (t, xs)) q), 0) := by
    unfold prgF
    rw [if_neg e0, if_neg (fun h => by rw [show fitB (mnN p 61) (t, xs) = true from h1] at h; cases h), if_neg (by omega), if_neg]
    rintro ⟨h3, h4⟩
    rcases hb with h | h
    · exact h h3
    · exact h4 (by simpa using h)
  refine fin_ret rfl rfl (spec_flat rfl ?_ rfl)
  rw [hr]
  rfl
end Go.Proofs.Ytgminhedbeblpaa.Cal
namespace Go.Proofs.Ytgminhedbeblpaa.Cal
open Go Pl
noncomputable def sm1S : Spec
  | [.agg (.cons (.bool t) (.cons (.roI xs) .nil)), .rop (.agg (.cons (.roI odd) (.cons (.roI many) .nil)))] => some ⟨odd.length = many.length, .bool (!fitB many (t, xs)), none⟩
  | _ => none
noncomputable def spS1 : Nat → Option Spec
  | 41 => some fitsS
  | _ => none
theorem spS1_ok : SpOK Try.prog spS1 := by
  intro f S h
  unfold spS1 at h
  split at h
  · cases h; exact fits_ok
  · cases h
set_option maxRecDepth 4000 in
set_option maxHeartbeats 4000000 in
theorem sm1_ok : FSpec Try.prog 48 sm1S := by
  refine fspec_of htb (fn := Try.f48) (by kernel_rfl) (by kernel_rfl) rfl (fun args r hS => ?_) (fun args r hS hob hl => ?_)
  · unfold sm1S at hS; split at hS <;> first | (cases hS; done) | (cases hS; exact Nat.le_of_ble_eq_true rfl)
  unfold sm1S at hS
  split at hS
  case h_2 => cases hS
  rename_i t xs odd many
  simp only [Option.some.injEq] at hS
  subst hS
  simp only [lenP, mkL, lim] at hl
  dsimp only at hob
  repeat' first
    | with_reducible first | refine awp_seq ?_ | refine awp_block ?_ | refine next_then ?_ | refine next_block ?_ | refine exit_then ?_ | refine ret_then ?_ | refine ret_block ?_ | refine exit_here ?_ | refine awp_exit ?_ | refine awp_ret ?_ | refine awp_skip ?_ | refine awp_label ?_ | refine next_noGoto ?_ | refine ret_noGoto ?_ | refine exit_noGoto ?_ | refine awp_scope ?_
    | ((with_reducible refine exit_past ?_ ?_); exact rfl)
    | ((with_reducible refine isCond ?_); refine awp_condO rfl ?_ ?_ <;> intro hb <;> (try simp only [zH] at hb))
    | ((with_reducible refine isReg ?_); (first | refine awp_textM htb hmz spS1_ok (fun _ => false) rfl rfl ?_ | refine awp_drawM hmo htb hmz spS1_ok (fun _ => false) rfl rfl (by kernel_rfl) ?_); intro m' e' l' ob h; simp only [zE0, zE1, zE2, zE3, zE4, zE5, evp, evx, ev1, evLoad, evStore, evBin, isBoolK, forall_const, z38, tb, Nat.reduceAdd, Nat.reduceSub, Nat.reduceMul, Nat.reduceEqDiff, Nat.reduceLeDiff, Nat.reduceLT, Nat.reduceBEq, Nat.reduceBNe, ↓reduceIte, reduceIte, spS1, fitsS] at h; obtain ⟨rfl, rfl, rfl, rfl⟩ := h; refine ⟨?_, ?_⟩)
    | ((with_reducible refine Ob.mk ?_); first | exact trivial | (intros; omega) | ((repeat' first | apply And.intro | (intro hg; have hg' := hg; try simp only [zH] at hg')) <;> first | assumption | omega | (simp only [zH]; omega)))
  refine fin_ret rfl rfl (spec_flat rfl ?_ rfl)
  rfl
/-- The first measure from the i-th on that does not fit, or -1. -/
noncomputable def nfF (many : List Int) (F : Nat → Bool × List Int) : Nat → Nat → Int
  | _, 0 => -1
  | i, k + 1 => if fitB many (F i) = false then i else nfF many F (i + 1) k
theorem nfF_iff {many : List Int} {F : Nat → Bool × List Int} : ∀ {k i : Nat}, 0 ≤ nfF many F i k ↔ ∃ j, i ≤ j ∧ j < i + k ∧ fitB many (F j) = false
  | 0, i => ⟨fun h => absurd h (by unfold nfF; decide), fun ⟨j, h1, h2, _⟩ => by omega⟩
  | k + 1, i => by
    unfold nfF
    split
    · rename_i h
      exact ⟨fun _ => ⟨i, Nat.le_refl _, by omega, h⟩, fun _ => by omega⟩
    · rename_i h
      rw [nfF_iff]
      constructor
      · rintro ⟨j, h1, h2, h3⟩; exact ⟨j, by omega, by omega, h3⟩
      · rintro ⟨j, h1, h2, h3⟩
        refine ⟨j, ?_, by omega, h3⟩
        rcases Nat.lt_or_eq_of_le h1 with h4 | h4
        · exact h4
        · subst h4; exact absurd h3 h
noncomputable def idxfS : Spec
  | [.ro 2 n f, .fn 48 (.cons (.rop (.agg (.cons (.roI odd) (.cons (.roI many) .nil)))) .nil)] => some ⟨odd.length = many.length ∧ f = fun j => msA (mOf (f j)), .int .i64 (nfF many (fun j => mOf (f j)) 0 n), none⟩
  | _ => none
noncomputable def spIf : Nat → Option Spec
  | 48 => some sm1S
  | _ => none
theorem spIf_ok : SpOK Try.prog spIf := by
  intro f S h
  unfold spIf at h
  split at h
  · cases h; exact sm1_ok
  · cases h
set_option maxRecDepth 4000 in
set_option maxHeartbeats 4000000 in
theorem idxf_ok : FSpec Try.prog 56 idxfS := by
  refine fspec_of htb (fn := Try.f56) (by kernel_rfl) (by kernel_rfl) rfl (fun args r hS => ?_) (fun args r hS hob hl => ?_)
  · unfold idxfS at hS; split at hS <;> first | (cases hS; done) | (cases hS; exact Nat.le_of_ble_eq_true rfl)
  unfold idxfS at hS
  split at hS
  case h_2 => cases hS
  rename_i n f odd many
  simp only [Option.some.injEq] at hS
  subst hS
  simp only [lenP, mkL, lim] at hl
  dsimp only at hob
  obtain ⟨F, hF⟩ : ∃ F : Nat → Bool × List Int, ∀ j, mOf (f j) = F j := ⟨_, fun _ => rfl⟩
  have hf : f = fun j => msA (F j) := by rw [hob.2]; funext j; rw [hF]
  have hF' : (fun j => mOf (f j)) = F := funext hF
  rw [hF']
  have hlen := hob.1
  clear hob hF hF'
  subst hf
  repeat' first
    | with_reducible first | refine awp_seq ?_ | refine awp_block ?_ | refine next_then ?_ | refine next_block ?_ | refine exit_then ?_ | refine ret_then ?_ | refine ret_block ?_ | refine exit_here ?_ | refine awp_exit ?_ | refine awp_ret ?_ | refine awp_skip ?_ | refine awp_label ?_ | refine next_noGoto ?_ | refine ret_noGoto ?_ | refine exit_noGoto ?_ | refine awp_scope ?_
    | ((with_reducible refine exit_past ?_ ?_); exact rfl)
    | ((with_reducible refine isCond ?_); refine awp_condO rfl ?_ ?_ <;> intro hb <;> (try simp only [zH] at hb))
    | ((with_reducible refine isReg ?_); (first | refine awp_textM htb hmz spIf_ok (fun _ => false) rfl rfl ?_ | refine awp_drawM hmo htb hmz spIf_ok (fun _ => false) rfl rfl (by kernel_rfl) ?_); intro m' e' l' ob h; simp only [zE0, zE1, zE2, zE3, zE4, zE5, evp, evx, ev1, evLoad, evStore, evBin, isBoolK, forall_const, z38, tb, Nat.reduceAdd, Nat.reduceSub, Nat.reduceMul, Nat.reduceEqDiff, Nat.reduceLeDiff, Nat.reduceLT, Nat.reduceBEq, Nat.reduceBNe, ↓reduceIte, reduceIte, spIf, sm1S, msA] at h; obtain ⟨rfl, rfl, rfl, rfl⟩ := h; refine ⟨?_, ?_⟩)
    | ((with_reducible refine Ob.mk ?_); first | exact trivial | (intros; omega) | ((repeat' first | apply And.intro | (intro hg; have hg' := hg; try simp only [zH] at hg')) <;> first | assumption | omega | (simp only [zH]; omega)))
  refine awp_loopC (τ := Nat) (fun i => i ≤ n ∧ nfF many F i (n - i) = nfF many F 0 n) (fun i => ⟨4, [(8, .int .i64 i), (7, .int .i64 n), (0, .ro 2 n (fun j => msA (F j))), (1, .fn 48 (.cons (.rop (.agg (.cons (.roI odd) (.cons (.roI many) .nil)))) .nil))], [], []⟩) (fun i => n - i) 0 [] ?_ ⟨Nat.zero_le _, rfl⟩ ?_
  · (refine ⟨rfl, ?_, ?_⟩ <;> simp only [zE0, zE1, zE2, zE3, zE4, zE5, evp, evx, ev1, evLoad, evStore, evBin, isBoolK, forall_const, z38, tb, Nat.reduceAdd, Nat.reduceSub, Nat.reduceMul, Nat.reduceEqDiff, Nat.reduceLeDiff, Nat.reduceLT, Nat.reduceBEq, Nat.reduceBNe, ↓reduceIte, reduceIte, spIf, sm1S, msA, zI])
  rintro i ⟨hi, hj⟩
  have hst : i < n → nfF many F i (n - i) = if fitB many (F i) = false then (i : Int) else nfF many F (i + 1) (n - (i + 1)) := fun h => by
    rw [show n - i = n - (i + 1) + 1 by omega]; rfl
  repeat' first
    | with_reducible first | refine awp_seq ?_ | refine awp_block ?_ | refine next_then ?_ | refine next_block ?_ | refine exit_then ?_ | refine ret_then ?_ | refine ret_block ?_ | refine exit_here ?_ | refine awp_exit ?_ | refine awp_ret ?_ | refine awp_skip ?_ | refine awp_label ?_ | refine next_noGoto ?_ | refine ret_noGoto ?_ | refine exit_noGoto ?_ | refine awp_scope ?_
    | ((with_reducible refine exit_past ?_ ?_); exact rfl)
    | ((with_reducible refine isCond ?_); refine awp_condO rfl ?_ ?_ <;> intro hb <;> (try simp only [zH] at hb))
    | ((with_reducible refine isReg ?_); (first | refine awp_textM htb hmz spIf_ok (fun _ => false) rfl rfl ?_ | refine awp_drawM hmo htb hmz spIf_ok (fun _ => false) rfl rfl (by kernel_rfl) ?_); intro m' e' l' ob h; simp only [zE0, zE1, zE2, zE3, zE4, zE5, evp, evx, ev1, evLoad, evStore, evBin, isBoolK, forall_const, z38, tb, Nat.reduceAdd, Nat.reduceSub, Nat.reduceMul, Nat.reduceEqDiff, Nat.reduceLeDiff, Nat.reduceLT, Nat.reduceBEq, Nat.reduceBNe, ↓reduceIte, reduceIte, spIf, sm1S, msA] at h; obtain ⟨rfl, rfl, rfl, rfl⟩ := h; refine ⟨?_, ?_⟩)
    | ((with_reducible refine Ob.mk ?_); first | exact trivial | (intros; omega) | ((repeat' first | apply And.intro | (intro hg; have hg' := hg; try simp only [zH] at hg')) <;> first | assumption | omega | (simp only [zH]; omega)))
  · refine fin_ret rfl rfl (spec_flat rfl ?_ rfl)
    rw [← hj, hst (by omega), if_pos hb]
    rfl
  · refine back (i + 1) [] ?_ ⟨by omega, ?_⟩ (by omega)
    · (refine ⟨rfl, ?_, ?_⟩ <;> simp only [zE0, zE1, zE2, zE3, zE4, zE5, evp, evx, ev1, evLoad, evStore, evBin, isBoolK, forall_const, z38, tb, Nat.reduceAdd, Nat.reduceSub, Nat.reduceMul, Nat.reduceEqDiff, Nat.reduceLeDiff, Nat.reduceLT, Nat.reduceBEq, Nat.reduceBNe, ↓reduceIte, reduceIte, spIf, sm1S, msA, zI])
    · rw [← hj, hst (by omega), if_neg]
      intro h
      rw [show fitB many (F i) = true from hb] at h; cases h
  · refine fin_ret rfl rfl (spec_flat rfl ?_ rfl)
    have hin : i = n := by omega
    rw [← hj, hin, Nat.sub_self]
    rfl
noncomputable def ctfS : Spec
  | [.ro 2 n f, .fn 48 (.cons (.rop (.agg (.cons (.roI odd) (.cons (.roI many) .nil)))) .nil)] => some ⟨odd.length = many.length ∧ f = fun j => msA (mOf (f j)), .bool (decide (0 ≤ nfF many (fun j => mOf (f j)) 0 n)), none⟩
  | _ => none
noncomputable def spCf : Nat → Option Spec
  | 56 => some idxfS
  | _ => none
theorem spCf_ok : SpOK Try.prog spCf := by
  intro f S h
  unfold spCf at h
  split at h
  · cases h; exact idxf_ok
  · cases h
set_option maxRecDepth 4000 in
set_option maxHeartbeats 4000000 in
theorem ctf_ok : FSpec Try.prog 47 ctfS := by
  refine fspec_of htb (fn := Try.f47) (by kernel_rfl) (by kernel_rfl) rfl (fun args r hS => ?_) (fun args r hS hob hl => ?_)
  · unfold ctfS at hS; split at hS <;> first | (cases hS; done) | (cases hS; exact Nat.le_of_ble_eq_true rfl)
  unfold ctfS at hS
  split at hS
  case h_2 => cases hS
  rename_i n f odd many
  simp only [Option.some.injEq] at hS
  subst hS
  simp only [lenP, mkL, lim] at hl
  dsimp only at hob
  repeat' first
    | with_reducible first | refine awp_seq ?_ | refine awp_block ?_ | refine next_then ?_ | refine next_block ?_ | refine exit_then ?_ | refine ret_then ?_ | refine ret_block ?_ | refine exit_here ?_ | refine awp_exit ?_ | refine awp_ret ?_ | refine awp_skip ?_ | refine awp_label ?_ | refine next_noGoto ?_ | refine ret_noGoto ?_ | refine exit_noGoto ?_ | refine awp_scope ?_
    | ((with_reducible refine exit_past ?_ ?_); exact rfl)
    | ((with_reducible refine isCond ?_); refine awp_condO rfl ?_ ?_ <;> intro hb <;> (try simp only [zH] at hb))
    | ((with_reducible refine isReg ?_); (first | refine awp_textM htb hmz spCf_ok (fun _ => false) rfl rfl ?_ | refine awp_drawM hmo htb hmz spCf_ok (fun _ => false) rfl rfl (by kernel_rfl) ?_); intro m' e' l' ob h; simp only [zE0, zE1, zE2, zE3, zE4, zE5, evp, evx, ev1, evLoad, evStore, evBin, isBoolK, forall_const, z38, tb, Nat.reduceAdd, Nat.reduceSub, Nat.reduceMul, Nat.reduceEqDiff, Nat.reduceLeDiff, Nat.reduceLT, Nat.reduceBEq, Nat.reduceBNe, ↓reduceIte, reduceIte, spCf, idxfS] at h; obtain ⟨rfl, rfl, rfl, rfl⟩ := h; refine ⟨?_, ?_⟩)
    | ((with_reducible refine Ob.mk ?_); first | exact trivial | (intros; omega) | ((repeat' first | apply And.intro | (intro hg; have hg' := hg; try simp only [zH] at hg')) <;> first | assumption | omega | (simp only [zH]; omega)))
  refine fin_ret rfl rfl (spec_flat rfl ?_ rfl)
  rfl
/-- What Small answers. -/
noncomputable def smlF (g : Gm) (n : Nat) (F : Nat → Bool × List Int) : Bool × Int :=
  if validB g = false then (false, 1) else if n ≠ g.own.length then (false, 2) else if ∃ j, j < n ∧ fitB (mnN g.pri 61) (F j) = false then (false, 4)
  else (decide (∀ v, v < n → bestV g (odN g.pri 61) (mnN g.pri 61) (mlF (mnN g.pri 61) n F) v ≤ enM (mnN g.pri 61) (F v)), 0)
noncomputable def smlS : Spec
  | [.agg (.cons (.roI o) (.cons (.roI p) (.cons (.roII x) .nil))), .ro 2 n f] =>
    some ⟨f = fun j => msA (mOf (f j)), .tup (.cons (.bool (smlF ⟨o, p, x⟩ n fun j => mOf (f j)).1) (.cons (.int .i64 (smlF ⟨o, p, x⟩ n fun j => mOf (f j)).2) .nil)), none⟩
  | _ => none
theorem sml_eq {r : Bool × Int} {b : Bool} {e : Int} (h : r = (b, e)) : AV.tup (.cons (.bool b) (.cons (.int .i64 e) .nil)) = AV.tup (.cons (.bool r.1) (.cons (.int .i64 r.2) .nil)) := by rw [h]
noncomputable def spSm : Nat → Option Spec
  | 29 => some validS
  | 30 => some scaleS
  | 47 => some ctfS
  | 49 => some bestS
  | 50 => some lessS
  | _ => none
theorem spSm_ok : SpOK Try.prog spSm := by
  intro f S h
  unfold spSm at h
  split at h
  · cases h; exact valid_ok
  · cases h; exact scale_ok
  · cases h; exact ctf_ok
  · cases h; exact best_ok
  · cases h; exact less_ok
  · cases h
set_option maxRecDepth 4000 in
set_option maxHeartbeats 4000000 in
theorem sml_ok : FSpec Try.prog 23 smlS := by
  refine fspec_of htb (fn := Try.f23) (by kernel_rfl) (by kernel_rfl) rfl (fun args r hS => ?_) (fun args r hS hob hl => ?_)
  · unfold smlS at hS; split at hS <;> first | (cases hS; done) | (cases hS; exact Nat.le_of_ble_eq_true rfl)
  unfold smlS at hS
  split at hS
  case h_2 => cases hS
  rename_i o p x n f
  simp only [Option.some.injEq] at hS
  subst hS
  simp only [lenP, mkL, lim] at hl
  dsimp only at hob
  obtain ⟨F, hF⟩ : ∃ F : Nat → Bool × List Int, ∀ j, mOf (f j) = F j := ⟨_, fun _ => rfl⟩
  have hf : f = fun j => msA (F j) := by rw [hob]; funext j; rw [hF]
  have hF' : (fun j => mOf (f j)) = F := funext hF
  rw [hF']
  clear hob hF hF'
  subst hf
  repeat' first
    | with_reducible first | refine awp_seq ?_ | refine awp_block ?_ | refine next_then ?_ | refine next_block ?_ | refine exit_then ?_ | refine ret_then ?_ | refine ret_block ?_ | refine exit_here ?_ | refine awp_exit ?_ | refine awp_ret ?_ | refine awp_skip ?_ | refine awp_label ?_ | refine next_noGoto ?_ | refine ret_noGoto ?_ | refine exit_noGoto ?_ | refine awp_scope ?_
    | ((with_reducible refine exit_past ?_ ?_); exact rfl)
    | ((with_reducible refine isCond ?_); refine awp_condO rfl ?_ ?_ <;> intro hb <;> (try simp only [zH] at hb))
    | ((with_reducible refine isRegS 3 ?_ ?_); (· exact rfl); (first | refine awp_textM htb hmz spSm_ok (fun _ => false) rfl rfl ?_ | refine awp_drawM hmo htb hmz spSm_ok (fun _ => false) rfl rfl (by kernel_rfl) ?_); intro m' e' l' ob h; simp only [zE0, zE1, zE2, zE3, zE4, zE5, evp, evx, ev1, evLoad, evStore, evBin, isBoolK, forall_const, z38, tb, Nat.reduceAdd, Nat.reduceSub, Nat.reduceMul, Nat.reduceEqDiff, Nat.reduceLeDiff, Nat.reduceLT, Nat.reduceBEq, Nat.reduceBNe, ↓reduceIte, reduceIte, spSm, validS, scaleS, ctfS, bestS, lessS, msA, mOf, peta] at h; obtain ⟨rfl, rfl, rfl, rfl⟩ := h; refine ⟨?_, ?_⟩)
    | ((with_reducible refine Ob.mk ?_); first | exact trivial | (intros; omega) | ((repeat' first | apply And.intro | (intro hg; have hg' := hg; try simp only [zH] at hg')) <;> first | assumption | omega | (simp only [zH]; omega)))
  · refine fin_ret rfl rfl (spec_flat rfl ?_ rfl)
    exact sml_eq (if_pos hb)
  have hv := hb
  have hV := validB_iff.1 hv
  obtain ⟨hn, hpl, hxl, hpos⟩ := id hV
  simp only [Gm.n] at hn hpl hxl
  have hS := scale_sok (p := p) (by omega)
  have hS1 := hS.len
  have e0 : ¬ validB ⟨o, p, x⟩ = false := by rw [hv]; decide
  repeat' first
    | with_reducible first | refine awp_seq ?_ | refine awp_block ?_ | refine next_then ?_ | refine next_block ?_ | refine exit_then ?_ | refine ret_then ?_ | refine ret_block ?_ | refine exit_here ?_ | refine awp_exit ?_ | refine awp_ret ?_ | refine awp_skip ?_ | refine awp_label ?_ | refine next_noGoto ?_ | refine ret_noGoto ?_ | refine exit_noGoto ?_ | refine awp_scope ?_
    | ((with_reducible refine exit_past ?_ ?_); exact rfl)
    | ((with_reducible refine isCond ?_); refine awp_condO rfl ?_ ?_ <;> intro hb <;> (try simp only [zH] at hb))
    | ((with_reducible refine isRegS 6 ?_ ?_); (· exact rfl); (first | refine awp_textM htb hmz spSm_ok (fun _ => false) rfl rfl ?_ | refine awp_drawM hmo htb hmz spSm_ok (fun _ => false) rfl rfl (by kernel_rfl) ?_); intro m' e' l' ob h; simp only [zE0, zE1, zE2, zE3, zE4, zE5, evp, evx, ev1, evLoad, evStore, evBin, isBoolK, forall_const, z38, tb, Nat.reduceAdd, Nat.reduceSub, Nat.reduceMul, Nat.reduceEqDiff, Nat.reduceLeDiff, Nat.reduceLT, Nat.reduceBEq, Nat.reduceBNe, ↓reduceIte, reduceIte, spSm, validS, scaleS, ctfS, bestS, lessS, msA, mOf, peta] at h; obtain ⟨rfl, rfl, rfl, rfl⟩ := h; refine ⟨?_, ?_⟩)
    | ((with_reducible refine Ob.mk ?_); first | exact trivial | (intros; omega) | ((repeat' first | apply And.intro | (intro hg; have hg' := hg; try simp only [zH] at hg')) <;> first | assumption | omega | (simp only [zH]; omega)))
  · refine fin_ret rfl rfl (spec_flat rfl ?_ rfl)
    refine sml_eq ?_
    unfold smlF
    rw [if_neg e0, if_pos (by dsimp only; omega)]
  have hno : n = o.length := by omega
  subst hno
  have hsm : smlF ⟨o, p, x⟩ o.length F = if ∃ j, j < o.length ∧ fitB (mnN p 61) (F j) = false then (false, 4) else (decide (∀ v, v < o.length → bestV ⟨o, p, x⟩ (odN p 61) (mnN p 61) (mlF (mnN p 61) o.length F) v ≤ enM (mnN p 61) (F v)), 0) := by
    unfold smlF
    rw [if_neg e0, if_neg (fun h => h rfl)]
  rw [hsm]
  have hrb : ∀ v, v < o.length → ∀ j, j < (x.getD v []).length → 0 ≤ (x.getD v []).getD j 0 ∧ (x.getD v []).getD j 0 < o.length := fun v h j hj => by
    obtain ⟨_, hr⟩ := hpos v (by simp only [Gm.n]; omega)
    exact ⟨(hr j hj).1, (hr j hj).2.1⟩
  have hG : GOK ⟨o, p, x⟩ (mnN p 61) := ⟨hS.ps, fun v hv => by
    obtain ⟨⟨a1, a2, a3, a4, a5, a6⟩, _⟩ := hpos v (by simp only [Gm.n]; exact hv)
    exact a5, fun v hv t ht => by
    obtain ⟨j, hj, rfl⟩ := List.getElem_of_mem ht
    rw [rws_len] at hj
    have := hrb v hv j hj
    have e : (rws x v)[j] = (rws x v).getD j 0 := by rw [List.getD_eq_getElem?_getD, List.getElem?_eq_getElem (by rw [rws_len]; exact hj)]; rfl
    show (rws x v)[j] < o.length
    rw [e, rws_getD]; omega⟩
  generalize odN p 61 = odd at *
  generalize mnN p 61 = many at *
  refine awp_fzN 14 (.rop (.agg (.cons (.roI odd) (.cons (.roI many) .nil)))) (by simp only [lkr_cons, lkr_nil, fzE, fzA, fzR, fzB, set1, nbeq, Nat.reduceEqDiff, decide_true, decide_false, ↓reduceIte, reduceIte, cond_true, cond_false, List.take_length, Option.some.injEq]; rfl) (by first | exact rfl | (refine ⟨?_, rfl⟩; first | rfl | (intros; rfl))) (by simp only [lkr_cons, lkr_nil, fzE, fzA, fzR, fzB, set1, nbeq, Nat.reduceEqDiff, decide_true, decide_false, ↓reduceIte, reduceIte, cond_true, cond_false, List.take_length, Option.some.injEq]; rfl) (by simp only [lkr_cons, lkr_nil, fzE, fzA, fzR, fzB, set1, nbeq, Nat.reduceEqDiff, decide_true, decide_false, ↓reduceIte, reduceIte, cond_true, cond_false, List.take_length, Option.some.injEq]; rfl) ?_
  repeat' first
    | with_reducible first | refine awp_seq ?_ | refine awp_block ?_ | refine next_then ?_ | refine next_block ?_ | refine exit_then ?_ | refine ret_then ?_ | refine ret_block ?_ | refine exit_here ?_ | refine awp_exit ?_ | refine awp_ret ?_ | refine awp_skip ?_ | refine awp_label ?_ | refine next_noGoto ?_ | refine ret_noGoto ?_ | refine exit_noGoto ?_ | refine awp_scope ?_
    | ((with_reducible refine exit_past ?_ ?_); exact rfl)
    | ((with_reducible refine isCond ?_); refine awp_condO rfl ?_ ?_ <;> intro hb <;> (try simp only [zH] at hb))
    | ((with_reducible refine isReg ?_); (first | refine awp_textM htb hmz spSm_ok (fun _ => false) rfl rfl ?_ | refine awp_drawM hmo htb hmz spSm_ok (fun _ => false) rfl rfl (by kernel_rfl) ?_); intro m' e' l' ob h; simp only [zE0, zE1, zE2, zE3, zE4, zE5, evp, evx, ev1, evLoad, evStore, evBin, isBoolK, forall_const, z38, tb, Nat.reduceAdd, Nat.reduceSub, Nat.reduceMul, Nat.reduceEqDiff, Nat.reduceLeDiff, Nat.reduceLT, Nat.reduceBEq, Nat.reduceBNe, ↓reduceIte, reduceIte, spSm, validS, scaleS, ctfS, bestS, lessS, msA, mOf, peta] at h; obtain ⟨rfl, rfl, rfl, rfl⟩ := h; refine ⟨?_, ?_⟩)
    | ((with_reducible refine Ob.mk ?_); first | exact trivial | (intros; omega) | ((repeat' first | apply And.intro | (intro hg; have hg' := hg; try simp only [zH] at hg')) <;> first | assumption | omega | (simp only [zH]; omega)))
  · refine fin_ret rfl rfl (spec_flat rfl ?_ rfl)
    refine sml_eq ?_
    obtain ⟨j, _, h1, h2⟩ := nfF_iff.1 (of_decide_eq_true hb)
    rw [if_pos ⟨j, by rw [Nat.zero_add] at h1; exact h1, h2⟩]
  have hok : ∀ j, j < o.length → okM many (F j) := fun j hj => by
    rw [← fitB_iff]
    cases h : fitB many (F j) with
    | true => rfl
    | false =>
      have := nfF_iff.2 ⟨j, Nat.zero_le _, by rw [Nat.zero_add]; exact hj, h⟩
      exact absurd this (of_decide_eq_false hb)
  have hif : ¬ ∃ j, j < o.length ∧ fitB many (F j) = false := fun ⟨j, h1, h2⟩ => by rw [fitB_iff.2 (hok j h1)] at h2; cases h2
  rw [if_neg hif]
  have hmg : ∀ v, v < o.length → (mlF many o.length F).getD v 0 = enM many (F v) := fun v hv => mlF_get hv
  have hLR : LR ⟨o, p, x⟩ many (mlF many o.length F) := ⟨by simp [mlF], fun v hv => by rw [hmg v hv]; exact okM_bd hS.ps (hok v hv)⟩
  have hls : ∀ v, v < o.length → lessM (F v) (deM many (bestV ⟨o, p, x⟩ odd many (mlF many o.length F) v)) = decide (enM many (F v) < bestV ⟨o, p, x⟩ odd many (mlF many o.length F) v) := fun v hv => by
    have h1 := okM_bd hS.ps (hok v hv)
    have h2 := best_bd (odd := odd) hG.hp hLR (hG.hr v hv) (hG.hw v hv)
    have := lessM_V hS.ps h1.1 h1.2 h2.1 h2.2
    rw [de_en (hok v hv)] at this
    exact this
  generalize hB : bestV ⟨o, p, x⟩ odd many (mlF many o.length F) = B at *
  refine awp_loopC (τ := Nat) (fun v => v ≤ o.length ∧ ∀ u, u < v → B u ≤ enM many (F u)) (fun v => ⟨22, [(26, .int .i64 v), (25, .int .i64 o.length), (6, .rop (.agg (.cons (.roI odd) (.cons (.roI many) .nil)))), (2, .rop (.agg (.cons (.roI o) (.cons (.roI p) (.cons (.roII x) .nil))))), (1, .ro 2 o.length (fun j => msA (F j)))], [], []⟩) (fun v => o.length - v) 0 [] ?_ ⟨Nat.zero_le _, fun u hu => absurd hu (Nat.not_lt_zero u)⟩ ?_
  · (refine ⟨rfl, ?_, ?_⟩ <;> simp only [zE0, zE1, zE2, zE3, zE4, zE5, evp, evx, ev1, evLoad, evStore, evBin, isBoolK, forall_const, z38, tb, Nat.reduceAdd, Nat.reduceSub, Nat.reduceMul, Nat.reduceEqDiff, Nat.reduceLeDiff, Nat.reduceLT, Nat.reduceBEq, Nat.reduceBNe, ↓reduceIte, reduceIte, spSm, validS, scaleS, ctfS, bestS, lessS, msA, mOf, peta, zI])
  rintro v ⟨hv1, hv2⟩
  repeat' first
    | with_reducible first | refine awp_seq ?_ | refine awp_block ?_ | refine next_then ?_ | refine next_block ?_ | refine exit_then ?_ | refine ret_then ?_ | refine ret_block ?_ | refine exit_here ?_ | refine awp_exit ?_ | refine awp_ret ?_ | refine awp_skip ?_ | refine awp_label ?_ | refine next_noGoto ?_ | refine ret_noGoto ?_ | refine exit_noGoto ?_ | refine awp_scope ?_
    | ((with_reducible refine exit_past ?_ ?_); exact rfl)
    | ((with_reducible refine isCond ?_); refine awp_condO rfl ?_ ?_ <;> intro hb <;> (try simp only [zH] at hb))
    | ((with_reducible refine isRegS 12 ?_ ?_); (· exact rfl); (first | refine awp_textM htb hmz spSm_ok (fun _ => false) rfl rfl ?_ | refine awp_drawM hmo htb hmz spSm_ok (fun _ => false) rfl rfl (by kernel_rfl) ?_); intro m' e' l' ob h; simp only [zE0, zE1, zE2, zE3, zE4, zE5, evp, evx, ev1, evLoad, evStore, evBin, isBoolK, forall_const, z38, tb, Nat.reduceAdd, Nat.reduceSub, Nat.reduceMul, Nat.reduceEqDiff, Nat.reduceLeDiff, Nat.reduceLT, Nat.reduceBEq, Nat.reduceBNe, ↓reduceIte, reduceIte, spSm, validS, scaleS, ctfS, bestS, lessS, msA, mOf, peta] at h; obtain ⟨rfl, rfl, rfl, rfl⟩ := h; refine ⟨?_, ?_⟩)
    | ((with_reducible refine Ob.mk ?_); first | exact trivial | (intros; omega) | ((repeat' first | apply And.intro | (intro hg; have hg' := hg; try simp only [zH] at hg')) <;> first | assumption | omega | (simp only [zH]; omega)))
  · exact Ob.mk ⟨hS, hv, hok, by omega, by omega⟩
  have hl2 : v < o.length → lessM (F v) (deM many (bestV ⟨o, p, x⟩ odd many (mlF many o.length F) v)) = decide (enM many (F v) < B v) := fun h => by rw [hB]; exact hls v h
  repeat' first
    | with_reducible first | refine awp_seq ?_ | refine awp_block ?_ | refine next_then ?_ | refine next_block ?_ | refine exit_then ?_ | refine ret_then ?_ | refine ret_block ?_ | refine exit_here ?_ | refine awp_exit ?_ | refine awp_ret ?_ | refine awp_skip ?_ | refine awp_label ?_ | refine next_noGoto ?_ | refine ret_noGoto ?_ | refine exit_noGoto ?_ | refine awp_scope ?_
    | ((with_reducible refine exit_past ?_ ?_); exact rfl)
    | ((with_reducible refine isCond ?_); refine awp_condO rfl ?_ ?_ <;> intro hb <;> (try simp only [zH] at hb))
    | ((with_reducible refine isReg ?_); (first | refine awp_textM htb hmz spSm_ok (fun _ => false) rfl rfl ?_ | refine awp_drawM hmo htb hmz spSm_ok (fun _ => false) rfl rfl (by kernel_rfl) ?_); intro m' e' l' ob h; simp only [zE0, zE1, zE2, zE3, zE4, zE5, evp, evx, ev1, evLoad, evStore, evBin, isBoolK, forall_const, z38, tb, Nat.reduceAdd, Nat.reduceSub, Nat.reduceMul, Nat.reduceEqDiff, Nat.reduceLeDiff, Nat.reduceLT, Nat.reduceBEq, Nat.reduceBNe, ↓reduceIte, reduceIte, spSm, validS, scaleS, ctfS, bestS, lessS, msA, mOf, peta] at h; obtain ⟨rfl, rfl, rfl, rfl⟩ := h; refine ⟨?_, ?_⟩)
    | ((with_reducible refine Ob.mk ?_); first | exact trivial | (intros; omega) | ((repeat' first | apply And.intro | (intro hg; have hg' := hg; try simp only [zH] at hg')) <;> first | assumption | omega | (simp only [zH]; omega)))
  · have hb2 := (hl2 (by omega)).symm.trans hb
    have hb3 := of_decide_eq_true hb2
    refine fin_ret rfl rfl (spec_flat rfl ?_ rfl)
    refine sml_eq ?_
    rw [decide_eq_false]
    intro h
    have := h v (by omega)
    omega
  · have hb2 := (hl2 (by omega)).symm.trans hb
    have hb3 := of_decide_eq_false hb2
    refine back (v + 1) [] ?_ ⟨by omega, fun u hu => ?_⟩ (by omega)
    · (refine ⟨rfl, ?_, ?_⟩ <;> simp only [zE0, zE1, zE2, zE3, zE4, zE5, evp, evx, ev1, evLoad, evStore, evBin, isBoolK, forall_const, z38, tb, Nat.reduceAdd, Nat.reduceSub, Nat.reduceMul, Nat.reduceEqDiff, Nat.reduceLeDiff, Nat.reduceLT, Nat.reduceBEq, Nat.reduceBNe, ↓reduceIte, reduceIte, spSm, validS, scaleS, ctfS, bestS, lessS, msA, mOf, peta, zI])
    · rcases Nat.lt_succ_iff_lt_or_eq.1 hu with h | rfl
      · exact hv2 u h
      · omega
  · refine fin_ret rfl rfl (spec_flat rfl ?_ rfl)
    refine sml_eq ?_
    have hvo : v = o.length := by omega
    subst hvo
    rw [decide_eq_true hv2]
end Go.Proofs.Ytgminhedbeblpaa.Cal
