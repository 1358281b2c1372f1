/- More rules: what is no longer written; a scope; a slice that may be nil. -/
import Derived.Test.YtgminhedbeblpaaCal24
import Derived.Scope
set_option linter.unusedVariables false
set_option linter.unusedSimpArgs false
namespace Go.Proofs.Ytgminhedbeblpaa.Cal
open Go

section
variable {P : Program} {ro : Option Nat} {N κ : Nat} {tb : Nat → Option TI} {sp : Nat → Option Spec} {Q : Exit → St → Prop}

def noGotoQ (Q : Exit → St → Prop) : Exit → St → Prop
  | .goto _, _ => False
  | e, s => Q e s

theorem awp_scope {c : Code} {σ : St} (h : awp P none N κ c σ (noGotoQ Q)) : awp P none N κ (.scope c) σ Q := by
  intro n K Z ν w a hg
  refine (wpIn_wide (n := n)).2 (wp_scope_straight ((wpIn_wide (n := n)).1 (wpIn_mono (h n K Z ν w a hg) ?_)))
  rintro e a' w' ⟨Z', ν', σ', h1, h2, h3, h4⟩
  cases e with
  | goto l => exact h4.elim
  | _ => exact ⟨Z', ν', σ', h1, h2, h3, h4⟩
theorem next_noGoto {σ : St} (h : Q .normal σ) : noGotoQ Q .normal σ := h
theorem ret_noGoto {σ : St} (h : Q .ret σ) : noGotoQ Q .ret σ := h
theorem exit_noGoto {σ : St} {i : Nat} (h : Q (.exit i) σ) : noGotoQ Q (.exit i) σ := h

/-- One temporary, seen otherwise. -/
theorem awp_see {c : Code} {m : Nat} {env : List (Nat × AV)} {rs : List (Nat × Option Blk)} {ms : List Nat} (t : Nat) (u : AV) (hm : men (ltK m) u = true) (hR : ∀ (Z : Nat → Prop) (w : World) (ν : Nat → Value) (y : Value), R Z w (lke env t) ν true [y] → R Z w u ν true [y])
    (h : awp P ro N κ c (CS.st ⟨m, (t, u) :: env, rs, ms⟩) Q) : awp P ro N κ c (CS.st ⟨m, env, rs, ms⟩) Q := by
  intro n K Z ν w a hg
  refine h n K Z ν w a ⟨hg.size, hg.one, fun s => ?_, hg.rs, hg.zk, hg.kl, hg.ds, hg.ml⟩
  show men (ltK m) (lke ((t, u) :: env) s) = true ∧ R Z w (lke ((t, u) :: env) s) ν true _
  rw [lke_cons]
  split
  · rename_i hs
    subst hs
    exact ⟨hm, hR _ _ _ _ (hg.env s).2⟩
  · exact hg.env s

theorem see_nil {Z : Nat → Prop} {w : World} {ν : Nat → Value} {y : Value} (h : R Z w (.cst (.slice none 0 0)) ν true [y]) : R Z w (.roI []) ν true [y] := by rw [one1 h]; exact nil_roI
theorem see_nilII {Z : Nat → Prop} {w : World} {ν : Nat → Value} {y : Value} (h : R Z w (.cst (.slice none 0 0)) ν true [y]) : R Z w (.roII []) ν true [y] := by
  rw [one1 h]; exact ⟨none, 0, rfl, Nat.le_refl _, Nat.zero_le _, fun h => absurd h (by simp)⟩
theorem see_nilB {Z : Nat → Prop} {w : World} {ν : Nat → Value} {y : Value} (h : R Z w (.cst (.slice none 0 0)) ν true [y]) : R Z w (.roB []) ν true [y] := by
  rw [one1 h]; exact ⟨none, 0, rfl, Nat.le_refl _, Nat.zero_le _, fun h => absurd h (by simp)⟩

theorem fzA_R {Z Z' : Nat → Prop} {w : World} {ν : Nat → Value} {k : Nat} {u : AV} (hZ : ∀ b, Z b → Z' b) (hu : ∀ m, R Z' w u ν m [ν k]) : ∀ {v : AV} {m : Bool} {cs : List Value}, R Z w v ν m cs → R Z' w (fzA k u v) ν m cs := by
  intro v
  induction v with
  | own j =>
    intro m cs h
    have h : cs = [ν j] := h
    simp only [fzA]
    by_cases hj : j = k
    · subst hj; rw [Nat.beq_refl, h]; exact hu m
    · rw [beqN hj]; exact h
  | agg l ih => intro m cs h; cases m with
    | true => obtain ⟨es, e, r⟩ := h; exact ⟨es, e, ih r⟩
    | false => exact ih (m := true) h
  | tup l ih => intro m cs h; obtain ⟨es, e, r⟩ := h; exact ⟨es, e, ih r⟩
  | cons a b ih1 ih2 => intro m cs h; obtain ⟨x, xs, e, r1, r2⟩ := h; exact ⟨x, xs, e, ih1 r1, ih2 r2⟩
  | fn f c ih => intro m cs h; obtain ⟨vs, e, r⟩ := h; exact ⟨vs, e, ih r⟩
  | whn g v ih => intro m cs h; exact ⟨fun hg => ih (h.1 hg), h.2⟩
  | _ => intro m cs h; exact R_mono hZ (fun _ _ => rfl) h

theorem fzA_men {μ : Nat → Bool} {k : Nat} {u : AV} (hu : men noK u = true) : ∀ {v : AV}, men μ v = true → men μ (fzA k u v) = true := by
  intro v
  induction v with
  | own j =>
    intro h
    simp only [fzA]
    by_cases hj : j = k
    · subst hj; rw [Nat.beq_refl]; exact men_free hu
    · rw [beqN hj]; exact h
  | agg l ih => exact ih
  | tup l ih => exact ih
  | fn f c ih => exact ih
  | cons a b ih1 ih2 => intro h; simp only [men, Bool.and_eq_true] at h; simp only [men, fzA, ih1 h.1, ih2 h.2]; rfl
  | whn g v ih => intro h; cases g with
    | true => exact ih h
    | false => rfl
  | _ => intro h; exact h

theorem fzE_lke {k : Nat} {u : AV} : ∀ {env : List (Nat × AV)} {s : Nat}, lke (fzE k u env) s = fzA k u (lke env s) := by
  intro env
  induction env with
  | nil => intro s; rfl
  | cons p t ih =>
    intro s
    obtain ⟨j, v⟩ := p
    simp only [fzE, lke_cons]
    split
    · rfl
    · exact ih

theorem fzR_lkr {k : Nat} {u : AV} : ∀ {rs : List (Nat × Option Blk)} {j : Nat}, lkr (fzR k u rs) j = if j = k then none else (lkr rs j).map (fzB k u) := by
  intro rs
  induction rs with
  | nil => intro j; split <;> rfl
  | cons p t ih =>
    intro j
    obtain ⟨i, b⟩ := p
    simp only [fzR]
    by_cases hi : i = k
    · subst hi
      rw [Nat.beq_refl]
      dsimp only
      rw [ih, lkr_cons]
      split
      · rfl
      · rfl
    · rw [beqN hi]
      dsimp only
      rw [lkr_cons, lkr_cons, ih]
      by_cases hji : j = i
      · subst hji
        rw [if_pos rfl, if_pos rfl, if_neg hi]
        cases b <;> rfl
      · rw [if_neg hji, if_neg hji]

def fzVP : Blk → AV → Prop
  | .ints xs, u => u = .roI xs
  | .bools xs, u => u = .roB xs
  | .rowsR xs, u => u = .roII xs
  | .rows xs, u => u = .roII xs
  | .box v, u => men noK v = true ∧ u = .rop v
  | .avs sz n f, u => (∀ j, j < n → men noK (f j) = true) ∧ u = .ro sz n f
  | _, _ => False

theorem fz_val {Z Z' : Nat → Prop} {w : World} {ν : Nat → Value} {x : Value} {F : Nat → Prop} {B : Blk} {u : AV} (hB : fzVP B u) (hs : sat Z w ν x F B) (hZ : ∀ b, Z b → Z' b) (hF : ∀ b, F b → Z' b) : (∀ m, R Z' w u ν m [x]) ∧ men noK u = true := by
  cases B with
  | ints xs => obtain rfl := hB; exact ⟨fun m => row_ro hs hF, rfl⟩
  | bools xs => obtain rfl := hB; exact ⟨fun m => row_ro hs hF, rfl⟩
  | rowsR xs =>
    obtain rfl := hB
    exact ⟨fun m => roRow_mono (fun _ h => h) (fun _ _ => rfl) (fun _ _ _ h => roRow_mono hZ (fun _ _ => rfl) (fun _ _ _ h => h) h) (row_ro hs hF), rfl⟩
  | rows xs =>
    obtain rfl := hB
    obtain ⟨ys, G, F0, h0, h1, h2⟩ := hs
    refine ⟨fun m => roRow_mono (fun _ h => h) (fun _ _ => rfl) (fun j es hj h => ?_) (row_ro h0 fun b hb => hF b ((h2 b).2 (.inl hb))), rfl⟩
    rw [h]
    exact row_ro (h1 j hj trivial).1 fun b hb => hF b ((h2 b).2 (.inr ⟨j, hj, hb⟩))
  | box v =>
    obtain ⟨hm, rfl⟩ := hB
    obtain ⟨b, cells, T, hx, hb, r, hFb⟩ := hs
    exact ⟨fun m => ⟨b, 0, by rw [hx], hF b ((hFb b).2 rfl), hm, cells.toList, R_free hm (R_mono hZ (fun _ _ => rfl) r), box_cells hb⟩, rfl⟩
  | avs sz n f =>
    obtain ⟨hm, rfl⟩ := hB
    exact ⟨fun m => roRow_mono (fun _ h => h) (fun _ _ => rfl) (fun j es hj h => ⟨hm j hj, R_free (hm j hj) (R_mono hZ (fun _ _ => rfl) h)⟩) (row_ro hs hF), rfl⟩
  | _ => exact hB.elim

/-- Nobody writes it any more. -/
theorem awp_fz {c : Code} {m : Nat} {env : List (Nat × AV)} {rs : List (Nat × Option Blk)} {ms : List Nat} (k : Nat) {B : Blk} (u : AV) (hk : lkr rs k = some B) (hu : fzVP B u)
    (h : awp P ro N κ c (CS.st ⟨m, fzE k u env, fzR k u rs, ms⟩) Q) : awp P ro N κ c (CS.st ⟨m, env, rs, ms⟩) Q := by
  intro n K Z ν w a hg
  obtain ⟨Ft, hF⟩ := id hg.rs
  obtain ⟨a1, a2, a3, a4, a5⟩ := hF k B hk
  let Z' : Nat → Prop := fun b => Z b ∨ Ft k b
  obtain ⟨hv, hm⟩ := fz_val (Z' := Z') hu a3 (fun b hb => .inl hb) (fun b hb => .inr hb)
  have hst : Step K Z w Z' w := ⟨Ext.refl K w, fun b hb => .inl hb, fun b hb => hb.imp id fun h => (a4 b h).1⟩
  have hgood : Good (un K Z') Z' N w ν (CS.st ⟨m, fzE k u env, fzR k u rs, ms⟩) a := by
    refine ⟨hg.size, hg.one, fun s => ?_, ⟨Ft, fun j b hj => ?_⟩, fun b hb => .inr hb, fun b hb => ?_, hg.ds, hg.ml⟩
    · have := hg.env s
      show men (ltK m) (lke (fzE k u env) s) = true ∧ R Z' w (lke (fzE k u env) s) ν true _
      rw [fzE_lke]
      exact ⟨fzA_men hm this.1, fzA_R (fun b hb => .inl hb) hv this.2⟩
    · have hj : lkr (fzR k u rs) j = some b := hj
      rw [fzR_lkr] at hj
      split at hj
      · cases hj
      · rename_i hjk
        cases hjb : lkr rs j with
        | none => rw [hjb] at hj; cases hj
        | some b0 =>
          rw [hjb] at hj
          simp only [Option.map_some, Option.some.injEq] at hj
          subst hj
          obtain ⟨g1, g2, g3, g4, g5⟩ := hF j b0 hjb
          refine ⟨g1, ?_, ?_, fun y hy => ⟨?_, (g4 y hy).2⟩, fun k' b' hne hk' y hy => ?_⟩
          · cases b0 <;> first | exact g2 | exact fzA_men hm g2
          · have g3' := sat_mono (Z' := Z') (w' := w) (fun b hb => .inl hb) (fun _ _ => rfl) (fun _ _ => rfl) g3
            cases b0 <;> first
              | exact g3'
              | (obtain ⟨bb, cells, T, hx, hb, r, hFb⟩ := g3; exact ⟨bb, cells, T, hx, hb, fzA_R (fun b hb => .inl hb) hv r, hFb⟩)
          · rintro (h | h | h)
            · exact (g4 y hy).1 h
            · exact (g4 y hy).1 (hg.zk y h)
            · exact g5 k B hjk hk y hy h
          · have hk' : lkr (fzR k u rs) k' = some b' := hk'
            rw [fzR_lkr] at hk'
            split at hk'
            · cases hk'
            · cases hkb : lkr rs k' with
              | none => rw [hkb] at hk'; cases hk'
              | some b1 => exact g5 k' b1 hne hkb y hy
    · rcases hb with h | h | h
      · exact hg.kl b h
      · exact hg.kl b (hg.zk b h)
      · exact (a4 b h).2
  exact wpIn_mono (h n _ _ ν w a hgood) fun e a' w' hp => hp.trans hst (fun _ _ => rfl)

theorem awp_fzN {c : Code} {m : Nat} {env env' : List (Nat × AV)} {rs rs' : List (Nat × Option Blk)} {ms : List Nat} (k : Nat) {B : Blk} (u : AV) (hk : lkr rs k = some B) (hu : fzVP B u) (he : fzE k u env = env') (hr : fzR k u rs = rs')
    (h : awp P ro N κ c (CS.st ⟨m, env', rs', ms⟩) Q) : awp P ro N κ c (CS.st ⟨m, env, rs, ms⟩) Q := awp_fz k u hk hu (by rw [he, hr]; exact h)

/-- No slice at all, as a slice of the call's own. -/
theorem awp_nilown {c : Code} {m : Nat} {env : List (Nat × AV)} {rs : List (Nat × Option Blk)} {ms : List Nat} (t : Nat) (B : Blk) (ht : lke env t = .cst (.slice none 0 0)) (hB : B = .ints [] ∨ B = .bools [] ∨ B = .rowsR [] ∨ B = .rows []) (hκ : Nat.ble κ m = true)
    (h : awp P ro N κ c (CS.st ⟨m + 1, (t, .own m) :: env, (m, some B) :: rs, ms⟩) Q) : awp P ro N κ c (CS.st ⟨m, env, rs, ms⟩) Q := by
  intro n K Z ν w a hg
  have hk : (CS.st ⟨m, env, rs, ms⟩).mu m = false := by show Nat.blt m m = false; rw [nblt]; simp
  have hsat : ∀ w ν, sat Z w ν (.slice none 0 0) (fun _ => False) B := by
    intro w ν
    rcases hB with rfl | rfl | rfl | rfl
    · exact .inl ⟨rfl, rfl, fun _ h => h⟩
    · exact .inl ⟨rfl, rfl, fun _ h => h⟩
    · exact .inl ⟨rfl, rfl, fun _ h => h⟩
    · exact ⟨fun _ => .slice none 0 0, fun _ _ => False, fun _ => False, .inl ⟨rfl, rfl, fun _ h => h⟩, fun j hj => by simp at hj, fun y => ⟨fun h => .inl h, fun h => h.elim id fun ⟨j, hj, _⟩ => by simp at hj⟩⟩
  have hmB : ∀ μ, menB μ B := by intro μ; rcases hB with rfl | rfl | rfl | rfl <;> exact trivial
  have hgr := grs_new (w' := w) (x := .slice none 0 0) (B := B) (F := fun _ => False) hg.rs hg.zk hg.kl hk (Nat.le_refl _) (fun _ _ => rfl) (hsat _ _) (hmB _) (fun y hy => hy.elim)
  have hν := upN_ext (ν := ν) (x := .slice none 0 0) hk
  have hmu : ∀ j, addK (CS.st ⟨m, env, rs, ms⟩).mu (some m) j = true → ltK (m + 1) j = true := by
    intro j hj
    simp only [addK, CS.st, ltK, nblt, nbeq, Bool.or_eq_true, decide_eq_true_eq] at hj ⊢
    omega
  have hgood : Good K Z N w (upN ν m (.slice none 0 0)) (CS.st ⟨m + 1, (t, .own m) :: env, (m, some B) :: rs, ms⟩) a := by
    refine ⟨hg.size, upN_one hg.one rfl, fun s => ?_, ?_, hg.zk, hg.kl, ?_, fun j hj => hmu j (addK_le j (hg.ml j hj))⟩
    · show men (ltK (m + 1)) (lke ((t, .own m) :: env) s) = true ∧ R Z w (lke ((t, .own m) :: env) s) _ true _
      rw [lke_cons]
      split
      · rename_i hs
        subst hs
        have hv := (hg.env s).2
        rw [show (CS.st ⟨m, env, rs, ms⟩).env s = .cst (.slice none 0 0) from ht] at hv
        refine ⟨by show Nat.blt m (m + 1) = true; rw [nblt]; simp, ?_⟩
        show [_] = [_]
        rw [one1 hv, upN_same]
      · have := hg.env s
        exact ⟨men_le (fun j hj => hmu j (addK_le j hj)) this.1, R_nu hν this.1 this.2⟩
    · have e : updL (CS.st ⟨m, env, rs, ms⟩).rs [(m, some B)] = lkr ((m, some B) :: rs) := by
        funext j
        rw [lkr_cons]
        simp only [updL, lko]
        by_cases hj : j = m
        · subst hj; simp [Nat.beq_refl]
        · simp only [beqN hj, if_neg hj]; rfl
      have := hgr.nu (μ' := ltK (m + 1)) hmu (fun _ _ => rfl)
      rw [e] at this
      exact this
    · rw [hg.ds]
      exact List.map_congr_left fun j hj => by rw [hν j (hg.ml j hj)]
  refine wpIn_mono (h n K Z _ w a hgood) ?_
  rintro e a' w' ⟨Z', ν', s', h1, h2, h3, h4⟩
  exact ⟨Z', ν', s', h1, fun j hj => by
    rw [h2 j hj, upN_other]
    have := Nat.le_of_ble_eq_true hκ
    omega, h3, h4⟩

theorem equalIn_nil {t e : Nat} (h : P.underlying t = some (.slice e)) (d : Nat) (A : Option Addr) (n c : Nat) (w : World) : (Op.equalIn (d + 1) t (.slice A n c) (.slice none 0 0)).run P w = .ok A.isNone w := by
  cases A <;> simp [Op.equalIn, run_underlying h]
theorem eql_nil {t e : Nat} (h : P.underlying t = some (.slice e)) (A : Option Addr) (n c : Nat) (w : World) : (binOp .eql t (.slice A n c) (.slice none 0 0)).run P w = .ok (.bool A.isNone) w := by
  simp only [binOp]
  simp [Op.equal, Op.maxDepth, equalIn_nil h 9999 A n c w]

/-- A slice that may be nil is asked whether it is. -/
theorem awp_nilq {id d1 d2 t0 ty ty' e tt1 tt2 : Nat} {p1 p2 : String} {af1 af2 : Array Edge} {xs : List Int} {x y : Code} {m : Nat} {env : List (Nat × AV)} {rs : List (Nat × Option Blk)} {ms : List Nat} (hu : P.underlying ty = some (.slice e)) (he : lke env t0 = .roI xs) (hd1 : Nat.blt d1 N = true) (hd2 : Nat.blt d2 N = true) (hne : Nat.beq d1 d2 = false) (hκ : Nat.ble κ m = true)
    (hx : xs = [] → awp P ro N κ x (CS.st ⟨m, (d2, .any) :: (d1, .roI xs) :: env, rs, ms⟩) Q) (hy : awp P ro N κ y (CS.st ⟨m, (d2, .any) :: (d1, .roI xs) :: env, rs, ms⟩) Q) :
    awp P ro N κ (.seq (.region id #[⟨some d1, .move (.tmp t0), tt1, p1, af1, none⟩, ⟨some d2, .binOp .eql ty (.tmp d1) (.const (.slice none 0 0)) ty', tt2, p2, af2, none⟩] false) (.cond (.tmp d2) x y)) (CS.st ⟨m, env, rs, ms⟩) Q := by
  intro n K Z ν w a hg
  rw [Nat.blt_eq] at hd1 hd2
  have h0 := hg.env t0
  have he' : (CS.st ⟨m, env, rs, ms⟩).env t0 = .roI xs := he
  rw [he'] at h0
  obtain ⟨A, cap, ev, h1, h2, h3⟩ := h0.2
  have ev := one1 ev
  have g1 : Good K Z N w ν _ (a.put (some d1) (a.tmps.getD t0 undef)) := hg.setd (v := .roI xs) (fun d hd => by cases hd; exact hd1) h0.2 rfl
  have g2 : Good K Z N w ν _ ((a.put (some d1) (a.tmps.getD t0 undef)).put (some d2) (.bool A.isNone)) := g1.setd (o := some d2) (v := .any) (fun d hd => by cases hd; exact hd2) ⟨_, rfl⟩ rfl
  have e1 : (a.put (some d1) (a.tmps.getD t0 undef)).eval (.tmp d1) = .slice A xs.length cap := by
    simp only [Act.put, Act.eval]
    rw [← ev]
    simp [Array.getD_eq_getD_getElem?, hg.size, hd1]
  have e2 : ((a.put (some d1) (a.tmps.getD t0 undef)).put (some d2) (.bool A.isNone)).eval (.tmp d2) = .bool A.isNone := by
    have hsz := g1.size
    simp only [Act.put] at hsz
    simp only [Act.put, Act.eval]
    simp [Array.getD_eq_getD_getElem?, hsz, hd2, hg.size]
  refine wpIn_seq (wpIn_region ?_)
  have hl : List.range 2 = [0, 1] := rfl
  show wpOpsIn _ _ _ _ _ (List.range 2) _ _
  rw [hl]
  simp only [wpOpsIn, List.getElem?_toArray, List.getElem?_cons_zero, List.getElem?_cons_succ, Region.wanted, if_true]
  refine ⟨fun _ _ => trivial, ?_⟩
  rw [semAt_plain (by intro c hc; cases hc)]
  show Oper.wpIn (FF ro) n P _ (a.put (some d1) (a.tmps.getD t0 undef)) w _ _
  refine ⟨fun _ _ => trivial, ?_⟩
  rw [semAt_plain (by intro c hc; cases hc)]
  have hrun : (execOp (a.put (some d1) (a.tmps.getD t0 undef)).eval ⟨some d2, .binOp .eql ty (.tmp d1) (.const (.slice none 0 0)) ty', tt2, p2, af2, none⟩).run P w = .ok (.value (.bool A.isNone)) w := by
    have hu' : (underlying ty).run P w = .ok (.slice e) w := run_underlying hu w
    have hc : (a.put (some d1) (a.tmps.getD t0 undef)).eval (.const (.slice none 0 0)) = .slice none 0 0 := rfl
    simp only [execOp, e1, hc]
    simp [eqGuard, Sem.run_bind, eql_nil hu, Result.andThen, Sem.run]
  rw [hrun]
  show Code.wpIn (FF ro) n P _ _ ((a.put (some d1) (a.tmps.getD t0 undef)).put (some d2) (.bool A.isNone)) w
  refine wpIn_cond_split e2 (fun hb => ?_) (fun hb => ?_)
  · have hn : xs = [] := by
      cases A with
      | none =>
        rcases Nat.eq_zero_or_pos xs.length with h | h
        · exact List.eq_nil_of_length_eq_zero h
        · obtain ⟨b, o, hA, _⟩ := h3 h; cases hA
      | some _ => cases hb
    exact hx hn n K Z ν w _ g2
  · exact hy n K Z ν w _ g2

/-! ### Marks for the steps -/
def Ob (p : Prop) : Prop := p
theorem Ob.mk {p : Prop} (h : p) : Ob p := h
theorem isCond {c : Operand} {x y : Code} {σ : St} (h : awp P ro N κ (.cond c x y) σ Q) : awp P ro N κ (.cond c x y) σ Q := h
theorem isReg {id : Nat} {ops : Array Oper} {d : Bool} {σ : St} (h : awp P ro N κ (.region id ops d) σ Q) : awp P ro N κ (.region id ops d) σ Q := h

theorem isRegS {id : Nat} {ops : Array Oper} {d : Bool} {σ : St} (s : Nat) (hs : Nat.beq id s = false) (h : awp P ro N κ (.region id ops d) σ Q) : awp P ro N κ (.region id ops d) σ Q := h

theorem awp_textM (htb : TabOK P tb) (hmz : ∀ t i, tb t = some i → men noK i.zero = true) (hsp : SpOK P sp) (ch : Nat → Bool) {id m : Nat} {ops : List Oper} {env : List (Nat × AV)} {l : List (Nat × Option Blk)} {ms : List Nat} {Q : Exit → St → Prop} (hN : dstOK N ops = true) (hκ : Nat.ble κ m = true)
    (h : ∀ m' e' l' ob, evOut tb sp ch m ops ops 0 ⟨m, env, l, True⟩ = ⟨m', e', l', ob⟩ → Ob ob ∧ Q .normal (CS.st ⟨m', e', l', ms⟩)) : awp P ro N κ (.region id ops.toArray false) (CS.st ⟨m, env, l, ms⟩) Q := awp_textO htb hmz hsp ch hN hκ h
theorem awp_drawM (hmo : P.follows .mixedOrders = true) (htb : TabOK P tb) (hmz : ∀ t i, tb t = some i → men noK i.zero = true) (hsp : SpOK P sp) (ch : Nat → Bool) {id m : Nat} {ops : List Oper} {env : List (Nat × AV)} {l : List (Nat × Option Blk)} {ms : List Nat} {Q : Exit → St → Prop} (hN : dstOK N ops = true) (hκ : Nat.ble κ m = true)
    (hd : drawOK ops (evOps tb sp ch m ops ops 0 env l).its = true)
    (h : ∀ m' e' l' ob, evOut tb sp ch m ops ops 0 ⟨m, env, l, True⟩ = ⟨m', e', l', ob⟩ → Ob ob ∧ Q .normal (CS.st ⟨m', e', l', ms⟩)) : awp P ro N κ (.region id ops.toArray true) (CS.st ⟨m, env, l, ms⟩) Q := awp_drawO hmo htb hmz hsp ch hN hκ hd h
end

end Go.Proofs.Ytgminhedbeblpaa.Cal
