/- Own texts of the proof, merged, in order. -/
import Derived.RangeFuncIn
import Derived.RangeFuncRecord
import Derived.Below
import Derived.Test.YtbcghiagomkadaaS13
set_option linter.unusedVariables false
set_option linter.unusedSimpArgs false
namespace Go.Proofs.Ytbcghiagomkadaa.Cal
open Go
section
variable {P : Program} {ro : Option Nat} {N κ : Nat} {tb : Nat → Option TI}
theorem Zcg {id : Nat} {ops : Array Oper} {σ : St} {Q : Exit → St → Prop} (l1 : List Oper) {o : Oper} (l2 : List Oper) (he : ops = (l1 ++ o :: l2).toArray) (hG : noG (l1 ++ o :: l2) = true)
    (h : awpL P ro N κ l1 σ (thenQ (fun s => awpL P ro N κ [o] s (thenQ (fun s => awpL P ro N κ l2 s Q) Q)) Q)) : awp P ro N κ (.region id ops false) σ Q := by
  subst he
  refine awp_list hG (awpL_app ?_)
  intro n K Z ν w a hg
  refine Zb6 ?_ (h n K Z ν w a hg)
  rintro e a' w' ⟨Z', ν', s', h1, h2, h3, h4⟩
  refine ⟨Z', ν', s', h1, h2, h3, ?_⟩
  cases e with
  | normal => exact awpL_app (l1 := [o]) h4
  | _ => exact h4
def rinR (kk : List Nat) (m : Nat) (l : List (Nat × Option Blk)) : List (Nat × Option Blk) → Prop
  | [] => True
  | (k, some B) :: t => (Nat.blt k kk.length = true ∧ menB (ltK kk.length) B ∧ lkr l (rhoC kk m k) = some (renB (rhoC kk m) B)) ∧ rinR kk m l t
  | (_, none) :: t => rinR kk m l t
theorem Ze0 {kk : List Nat} {m : Nat} {l : List (Nat × Option Blk)} {k : Nat} {B : Blk} : ∀ {g : List (Nat × Option Blk)}, rinR kk m l g → (k, some B) ∈ g → Nat.blt k kk.length = true ∧ menB (ltK kk.length) B ∧ lkr l (rhoC kk m k) = some (renB (rhoC kk m) B)
  | [], _, h => absurd h List.not_mem_nil
  | (j, none) :: t, hg, h => by
    rcases List.mem_cons.1 h with e | h
    · cases e
    · exact Ze0 (g := t) hg h
  | (j, some B') :: t, hg, h => by
    rcases List.mem_cons.1 h with e | h
    · cases e; exact hg.1
    · exact Ze0 (g := t) hg.2 h
theorem Zbh {o : Oper} {x : Operand} {xs : List Operand} {ts : Array TypeId} {f m : Nat} {caps : AV} {env : List (Nat × AV)} {l : List (Nat × Option Blk)} {ms : List Nat} (kk : List Nat) {args : List AV} {rin : List (Nat × Option Blk)} {Q0 : GR → Prop} {Q : Exit → St → Prop}
    (hS : FG P f args rin kk.length Q0)
    (ho : o.op = .call ⟨.value x, xs.toArray, ts⟩) (hgd : o.guard.isNone = true) (hd : dstOK N [o] = true) (hf : opv (lke env) x = .fn f caps) (hpc : properL caps = true)
    (hargs : appL (ofL (opv (lke env)) xs) caps = ren (rhoC kk m) (mkL args)) (hmen : men (ltK kk.length) (mkL args) = true) (hkk : kkOK m kk = true) (hκ : Nat.ble κ m = true)
    (hrin : rinR kk m l rin)
    (next : ∀ gm gv gr, Q0 ⟨gm, gv, gr⟩ → ∀ m' e' l', (m + (gm - kk.length) = m' ∧ putE o.dst (ren (rhoC kk m) gv) env = e' ∧ outR kk m gr l = l') → Q .normal (CS.st ⟨m', e', l', ms⟩)) : awpL P ro N κ [o] (CS.st ⟨m, env, l, ms⟩) Q := by
  refine awpL_call (s := ⟨m, env, l, ms⟩) kk hS ho hgd hd hf hpc hargs hmen hkk hκ (fun j B hj => ?_) (fun g hg hle => next g.m g.val g.rs hg _ _ _ ⟨rfl, rfl, rfl⟩)
  obtain ⟨h1, h2, h3⟩ := Ze0 hrin (Zcr hj).2
  rw [Nat.blt_eq] at h1
  exact ⟨h1, h2, h3⟩
theorem R_unfz {Z : Nat → Prop} {w : World} {ν : Nat → Value} {k : Nat} {v : Value} (hv : ν k = v) : ∀ {u : AV} {b : Bool} {cs : List Value}, R Z w (fzA k (.cst v) u) ν b cs → R Z w u ν b cs := by
  intro u
  induction u with
  | own j =>
    intro b cs h
    simp only [fzA] at h
    cases hb : Nat.beq j k with
    | true =>
      rw [hb] at h
      obtain rfl := Nat.eq_of_beq_eq_true hb
      rw [show cs = [v] from h]
      show [v] = [ν j]
      rw [hv]
    | false => rw [hb] at h; exact h
  | agg l ih =>
    intro b cs h
    cases b with
    | true => obtain ⟨es, e, r⟩ := h; exact ⟨es, e, ih r⟩
    | false => exact ih (b := true) h
  | tup l ih => intro b cs h; obtain ⟨es, e, r⟩ := h; exact ⟨es, e, ih r⟩
  | cons a t ih1 ih2 => intro b cs h; obtain ⟨x, vs, e, r1, r2⟩ := h; exact ⟨x, vs, e, ih1 r1, ih2 r2⟩
  | fn f c ih => intro b cs h; obtain ⟨vs, e, r⟩ := h; exact ⟨vs, e, ih r⟩
  | whn g u ih => intro b cs h; exact ⟨fun hg => ih (h.1 hg), h.2⟩
  | _ => intro b cs h; exact h
/-- No slice at all inside a variable, as a slice of the call's own. -/
theorem awp_nilbox {c : Code} {m : Nat} {env : List (Nat × AV)} {rs : List (Nat × Option Blk)} {ms : List Nat} {Q : Exit → St → Prop} (k : Nat) (B : Blk) {u : AV} (u' : AV) (hk0 : lkr rs k = some (.box u)) (hu : fzA m (.cst (.slice none 0 0)) u' = u) (hm' : men (ltK (m + 1)) u' = true)
    (hB : B = .ints [] ∨ B = .bools [] ∨ B = .rowsR [] ∨ B = .rows []) {rs' : List (Nat × Option Blk)} (hrs : set1 k (.box u') ((m, some B) :: rs) = rs') (hκ : Nat.ble κ m = true)
    (h : awp P ro N κ c (CS.st ⟨m + 1, env, rs', ms⟩) Q) : awp P ro N κ c (CS.st ⟨m, env, rs, ms⟩) Q := by
  intro n K Z ν w a hg
  have hk : (CS.st ⟨m, env, rs, ms⟩).mu m = false := by show Nat.blt m m = false; rw [nblt]; simp
  have hsat : ∀ w ν, sat Z w ν (.slice none 0 0) (fun _ => False) B := by
    intro w ν
    rcases hB with rfl | rfl | rfl | rfl
    · exact .inl ⟨rfl, rfl, fun _ h => h⟩
    · exact .inl ⟨rfl, rfl, fun _ h => h⟩
    · exact .inl ⟨rfl, rfl, fun _ h => h⟩
    · exact ⟨fun _ => .slice none 0 0, fun _ _ => False, fun _ => False, .inl ⟨rfl, rfl, fun _ h => h⟩, fun j hj => by simp at hj, fun y => ⟨fun h => .inl h, fun h => h.elim id fun ⟨j, hj, _⟩ => by simp at hj⟩⟩
  have hmB : ∀ μ, menB μ B := by intro μ; rcases hB with rfl | rfl | rfl | rfl <;> exact trivial
  have hgr := Zea (w' := w) (x := .slice none 0 0) (B := B) (F := fun _ => False) hg.rs hg.zk hg.kl hk (Nat.le_refl _) (fun _ _ => rfl) (hsat _ _) (hmB _) (fun y hy => hy.elim)
  have hν := Zb0 (ν := ν) (x := .slice none 0 0) hk
  have hmu : ∀ j, addK (CS.st ⟨m, env, rs, ms⟩).mu (some m) j = true → ltK (m + 1) j = true := by
    intro j hj
    simp only [addK, CS.st, ltK, nblt, nbeq, Bool.or_eq_true, decide_eq_true_eq] at hj ⊢
    omega
  have hkm : k ≠ m := by
    rintro rfl
    obtain ⟨Ft, hF⟩ := hg.rs
    have := (hF k _ hk0).1
    rw [hk] at this; cases this
  have hgr2 : GoodRs K Z w (upN ν m (.slice none 0 0)) (ltK (m + 1)) (lkr rs') := by
    have e : updL (CS.st ⟨m, env, rs, ms⟩).rs [(m, some B)] = lkr ((m, some B) :: rs) := by
      funext j
      rw [Zax]
      simp only [updL, lko]
      by_cases hj : j = m
      · subst hj; simp [Nat.beq_refl]
      · simp only [beqN hj, if_neg hj]; rfl
    have := hgr.nu (μ' := ltK (m + 1)) hmu (fun _ _ => rfl)
    rw [e] at this
    obtain ⟨Ft, hF⟩ := this
    have hl : ∀ j, lkr rs' j = if j = k then some (.box u') else lkr ((m, some B) :: rs) j := by
      intro j
      rw [← hrs]
      have : lkr (setW [(k, some (.box u'))] ((m, some B) :: rs)) j = _ := congrFun (Ze4) j
      rw [show setW [(k, some (Blk.box u'))] ((m, some B) :: rs) = set1 k (.box u') ((m, some B) :: rs) from rfl] at this
      rw [this]
      simp only [updL, lko]
      by_cases hj : j = k
      · subst hj; simp [Nat.beq_refl]
      · simp only [beqN hj, if_neg hj]
    have hk1 : lkr ((m, some B) :: rs) k = some (.box u) := by rw [Zax, if_neg hkm]; exact hk0
    refine ⟨Ft, fun j b hj => ?_⟩
    rw [hl j] at hj
    have hdis : ∀ k' b', j ≠ k' → lkr rs' k' = some b' → ∃ b'', lkr ((m, some B) :: rs) k' = some b'' := by
      intro k' b' _ hk'
      rw [hl k'] at hk'
      split at hk'
      · rename_i e; rw [e]; exact ⟨_, hk1⟩
      · exact ⟨_, hk'⟩
    by_cases hjk : j = k
    · rw [if_pos hjk] at hj
      cases hj
      subst hjk
      obtain ⟨g1, g2, g3, g4, g5⟩ := hF _ _ hk1
      refine ⟨g1, hm', ?_, g4, fun k' b' hne hk' => ?_⟩
      · obtain ⟨b, cells, T, s1, s2, s3, s4⟩ := g3
        exact ⟨b, cells, T, s1, s2, R_unfz (k := m) (v := .slice none 0 0) upN_same (by rw [hu]; exact s3), s4⟩
      · obtain ⟨b'', hb⟩ := hdis k' b' hne hk'
        exact g5 k' b'' hne hb
    · rw [if_neg hjk] at hj
      obtain ⟨g1, g2, g3, g4, g5⟩ := hF _ _ hj
      refine ⟨g1, g2, g3, g4, fun k' b' hne hk' => ?_⟩
      obtain ⟨b'', hb⟩ := hdis k' b' hne hk'
      exact g5 k' b'' hne hb
  have hgood : Good K Z N w (upN ν m (.slice none 0 0)) (CS.st ⟨m + 1, env, rs', ms⟩) a := by
    refine ⟨hg.size, Zcs hg.one rfl, fun s => ?_, hgr2, hg.zk, hg.kl, ?_, fun j hj => hmu j (Zby j (hg.ml j hj))⟩
    · have := hg.env s
      exact ⟨Zc2 (fun j hj => hmu j (Zby j hj)) this.1, R_nu hν this.1 this.2⟩
    · rw [hg.ds]
      exact fmC fun j hj => by rw [hν j (hg.ml j hj)]
  refine wpIn_mono (h n K Z _ w a hgood) ?_
  rintro e a' w' ⟨Z', ν', s', h1, h2, h3, h4⟩
  exact ⟨Z', ν', s', h1, fun j hj => (h2 j hj).trans (Zdj (by rintro rfl; have := Nat.le_of_ble_eq_true hκ; omega)), h3, h4⟩
end
end Go.Proofs.Ytbcghiagomkadaa.Cal
namespace Go.Proofs.Ytbcghiagomkadaa.Cal
open Go Pl
/-- The game in which a player follows its choices. -/
def fromG (g : Gm) (pl : Int) (c : List Int) : Gm := ⟨g.own, g.pri, (List.range g.own.length).map fun v => if g.own.getD v 0 = pl then [c.getD v 0] else g.nxt.getD v []⟩
theorem fromG_x {g : Gm} {pl : Int} {c : List Int} {v : Nat} (hv : v < g.own.length) : (fromG g pl c).nxt.getD v [] = if g.own.getD v 0 = pl then [c.getD v 0] else g.nxt.getD v [] := by
  simp [fromG, List.getD_eq_getElem?_getD, hv]
theorem fromG_valid {g : Gm} {pl : Int} {c : List Int} (h : Valid g) (hc : ∀ v, v < g.own.length → g.own.getD v 0 = pl → 0 ≤ c.getD v 0 ∧ c.getD v 0 < g.own.length) : Valid (fromG g pl c) := by
  obtain ⟨hn, hpl, hxl, hpos⟩ := h
  refine ⟨hn, hpl, by simp [fromG, Gm.n], fun v hv => ?_⟩
  have hv : v < g.own.length := hv
  obtain ⟨⟨a1, a2, a3, a4, a5, a6⟩, hr⟩ := hpos v hv
  unfold posOK
  have e : (fromG g pl c).x v = if g.own.getD v 0 = pl then [c.getD v 0] else g.nxt.getD v [] := fromG_x hv
  rw [e]
  split
  · rename_i h
    refine ⟨⟨a1, a2, a3, a4, Nat.le_refl 1, by show 1 ≤ 64; decide⟩, fun i hi => ?_⟩
    have hi : i < 1 := hi
    obtain rfl : i = 0 := by omega
    exact ⟨(hc v hv h).1, (hc v hv h).2, fun h => absurd h (Nat.lt_irrefl 0)⟩
  · exact ⟨⟨a1, a2, a3, a4, a5, a6⟩, hr⟩
noncomputable def fromL (g : Gm) (pl : Int) (c : List Int) : List Bool := (List.range g.own.length).map fun v => !(aloneL (fromG g pl c) (1 - pl)).getD v false
noncomputable def fromS : Spec
  | [.agg (.cons (.roI o) (.cons (.roI p) (.cons (.roII x) .nil))), .int .i64 pl, .roI c] => some ⟨validB ⟨o, p, x⟩ = true ∧ (0 ≤ pl ∧ pl ≤ 1) ∧ c.length = o.length ∧ ∀ v, v < o.length → o.getD v 0 = pl → 0 ≤ c.getD v 0 ∧ c.getD v 0 < (o.length : Int), .roB (fromL ⟨o, p, x⟩ pl c), none⟩
  | _ => none
noncomputable def spFr : Nat → Option Spec
  | 35 => some aloneoS
  | _ => none
theorem Zc4 : SpOK Try.prog spFr := by
  intro f S h
  unfold spFr at h
  split at h
  · cases h; exact aloneo_ok
  · cases h
set_option maxRecDepth 4000 in
set_option maxHeartbeats 4000000 in
theorem from_ok : FSpec Try.prog 15 fromS := by
  refine Zba htb (fn := Try.f15) (by kernel_rfl) (by kernel_rfl) rfl (fun args r hS => ?_) (fun args r hS hob hl => ?_)
  · unfold fromS at hS; split at hS <;> first | (cases hS; done) | (cases hS; exact Nat.le_of_ble_eq_true rfl)
  unfold fromS at hS
  split at hS
  case h_2 => cases hS
  rename_i o p x pl c
  simp only [Option.some.injEq] at hS
  subst hS
  simp only [lenP, mkL, lim] at hl
  dsimp only at hob
  obtain ⟨hv, hp01, hcl, hcr⟩ := hob
  have hV := validB_iff.1 hv
  obtain ⟨hn, hpl, hxl, hpos⟩ := id hV
  simp only [Gm.n] at hn hpl hxl
  have hcr1 : ∀ v, v < o.length → 0 ≤ o.getD v 0 := fun v h => by
    obtain ⟨⟨a1, a2, a3, a4, _, a6⟩, _⟩ := hpos v (by simp only [Gm.n]; omega)
    exact a1
  repeat' first
    | with_reducible first | refine Zas ?_ | refine Zao ?_ | refine Zac ?_ | refine Zad ?_ | refine Zai ?_ | refine Zaq ?_ | refine Zah ?_ | refine Zak ?_ | refine Zar ?_ | refine Zat ?_ | refine Zap ?_ | refine Zam ?_ | refine Zaa ?_ | refine Zae ?_ | refine Zab ?_ | refine Zal ?_
    | ((with_reducible refine Zaj ?_ ?_); exact rfl)
    | ((with_reducible refine Zau ?_); refine Zan rfl ?_ ?_ <;> intro hb <;> (try simp only [zH] at hb))
    | ((with_reducible refine Za0 ?_); (first | refine Zaf htb hmz Zc4 (fun _ => false) rfl rfl ?_ | refine Zag hmo htb hmz Zc4 (fun _ => false) rfl rfl (by kernel_rfl) ?_); intro m' e' l' ob h; simp only [zE0, zE1, zE2, zE3, zE4, zE5, evp, evx, ev1, evLoad, evStore, evBin, isBoolK, forall_const, z38, tb, Nat.reduceAdd, Nat.reduceSub, Nat.reduceMul, Nat.reduceEqDiff, Nat.reduceLeDiff, Nat.reduceLT, Nat.reduceBEq, Nat.reduceBNe, ↓reduceIte, reduceIte, spFr, aloneoS] at h; obtain ⟨rfl, rfl, rfl, rfl⟩ := h; refine ⟨?_, ?_⟩)
    | ((with_reducible refine Ob.mk ?_); first | exact trivial | (intros; omega) | ((repeat' first | apply And.intro | (intro hg; have hg' := hg; try simp only [zH] at hg')) <;> first | assumption | omega | (simp only [zH]; omega)))
  refine awp_nilbox 7 (.rowsR []) (.agg (.cons (.roI o) (.cons (.roI p) (.cons (.own 13) .nil)))) rfl rfl rfl (by first | exact .inl rfl | exact .inr (.inl rfl) | exact .inr (.inr (.inl rfl)) | exact .inr (.inr (.inr rfl))) (by simp only [Zax, Za4, fzE, fzA, fzR, fzB, set1, nbeq, Nat.reduceEqDiff, decide_true, decide_false, ↓reduceIte, reduceIte, cond_true, cond_false, List.take_length, Option.some.injEq] <;> rfl) rfl ?_
  obtain ⟨F, hF⟩ : ∃ F : Nat → List Int, F = fun v => if o.getD v 0 = pl then [c.getD v 0] else x.getD v [] := ⟨_, rfl⟩
  refine Za1 (τ := Nat) (fun i => i ≤ o.length) (fun i => ⟨14, [(20, .int .i64 i), (19, .int .i64 x.length), (18, .roII x), (7, .own 7), (3, (.rop (.agg (.cons (.roI o) (.cons (.roI p) (.cons (.roII x) .nil)))))), (1, .int .i64 pl), (2, .roI c)], [(13, some (.rowsR ((List.range i).map F))), (7, some (.box (.agg (.cons (.roI o) (.cons (.roI p) (.cons (.own 13) .nil))))))], []⟩) (fun i => o.length - i) 0 [] ?_ (Nat.zero_le _) ?_
  · (refine ⟨rfl, ?_, ?_⟩ <;> simp only [zE0, zE1, zE2, zE3, zE4, zE5, evp, evx, ev1, evLoad, evStore, evBin, isBoolK, forall_const, z38, tb, Nat.reduceAdd, Nat.reduceSub, Nat.reduceMul, Nat.reduceEqDiff, Nat.reduceLeDiff, Nat.reduceLT, Nat.reduceBEq, Nat.reduceBNe, ↓reduceIte, reduceIte, spFr, aloneoS, zI])
    rfl
  intro i hi
  have hFi : F i = if o.getD i 0 = pl then [c.getD i 0] else x.getD i [] := by rw [hF]
  have hRl : ((List.range i).map F).length = i := by simp
  have hRn : (List.range (i + 1)).map F = (List.range i).map F ++ [F i] := by rw [List.range_succ, List.map_append]; rfl
  repeat' first
    | with_reducible first | refine Zas ?_ | refine Zao ?_ | refine Zac ?_ | refine Zad ?_ | refine Zai ?_ | refine Zaq ?_ | refine Zah ?_ | refine Zak ?_ | refine Zar ?_ | refine Zat ?_ | refine Zap ?_ | refine Zam ?_ | refine Zaa ?_ | refine Zae ?_ | refine Zab ?_ | refine Zal ?_
    | ((with_reducible refine Zaj ?_ ?_); exact rfl)
    | ((with_reducible refine Zau ?_); refine Zan rfl ?_ ?_ <;> intro hb <;> (try simp only [zH] at hb))
    | ((with_reducible refine Zav 9 ?_ ?_); (· exact rfl); (first | refine Zaf htb hmz Zc4 (fun _ => false) rfl rfl ?_ | refine Zag hmo htb hmz Zc4 (fun _ => false) rfl rfl (by kernel_rfl) ?_); intro m' e' l' ob h; simp only [zE0, zE1, zE2, zE3, zE4, zE5, evp, evx, ev1, evLoad, evStore, evBin, isBoolK, forall_const, z38, tb, Nat.reduceAdd, Nat.reduceSub, Nat.reduceMul, Nat.reduceEqDiff, Nat.reduceLeDiff, Nat.reduceLT, Nat.reduceBEq, Nat.reduceBNe, ↓reduceIte, reduceIte, spFr, aloneoS] at h; obtain ⟨rfl, rfl, rfl, rfl⟩ := h; refine ⟨?_, ?_⟩)
    | ((with_reducible refine Ob.mk ?_); first | exact trivial | (intros; omega) | ((repeat' first | apply And.intro | (intro hg; have hg' := hg; try simp only [zH] at hg')) <;> first | assumption | omega | (simp only [zH]; omega)))
  · rw [if_pos hb] at hFi
    refine back (i + 1) [(13, 37)] ?_ (by omega) (by omega)
    (refine ⟨rfl, ?_, ?_⟩ <;> simp only [zE0, zE1, zE2, zE3, zE4, zE5, evp, evx, ev1, evLoad, evStore, evBin, isBoolK, forall_const, z38, tb, Nat.reduceAdd, Nat.reduceSub, Nat.reduceMul, Nat.reduceEqDiff, Nat.reduceLeDiff, Nat.reduceLT, Nat.reduceBEq, Nat.reduceBNe, ↓reduceIte, reduceIte, spFr, aloneoS, zI])
    rw [hRn, hFi]
  · rw [if_neg hb] at hFi
    refine back (i + 1) [(13, 31)] ?_ (by omega) (by omega)
    (refine ⟨rfl, ?_, ?_⟩ <;> simp only [zE0, zE1, zE2, zE3, zE4, zE5, evp, evx, ev1, evLoad, evStore, evBin, isBoolK, forall_const, z38, tb, Nat.reduceAdd, Nat.reduceSub, Nat.reduceMul, Nat.reduceEqDiff, Nat.reduceLeDiff, Nat.reduceLT, Nat.reduceBEq, Nat.reduceBNe, ↓reduceIte, reduceIte, spFr, aloneoS, zI])
    rw [hRn, hFi]
  have hie : i = o.length := by omega
  subst hie
  have hY : (List.range o.length).map F = (fromG ⟨o, p, x⟩ pl c).nxt := by rw [hF]; rfl
  rw [hY]
  have hYl : (fromG ⟨o, p, x⟩ pl c).nxt.length = o.length := by rw [← hY]; simp
  have hvf : validB ⟨o, p, (fromG ⟨o, p, x⟩ pl c).nxt⟩ = true := Zd3 (fromG_valid hV hcr)
  have hfl : fromL ⟨o, p, x⟩ pl c = (List.range o.length).map fun v => !(aloneL ⟨o, p, (fromG ⟨o, p, x⟩ pl c).nxt⟩ (1 - pl)).getD v false := rfl
  have hal : (aloneL ⟨o, p, (fromG ⟨o, p, x⟩ pl c).nxt⟩ (1 - pl)).length = o.length := by simp [aloneL]
  generalize (fromG ⟨o, p, x⟩ pl c).nxt = y at *
  clear hY hFi hRl hRn hpos hcr hcr1
  refine Zbv 13 (.roII y) (by simp only [Zax, Za4, fzE, fzA, fzR, fzB, set1, nbeq, Nat.reduceEqDiff, decide_true, decide_false, ↓reduceIte, reduceIte, cond_true, cond_false, List.take_length, Option.some.injEq]; rfl) (by first | exact rfl | (refine ⟨?_, rfl⟩; first | rfl | (intros; rfl))) (by simp only [Zax, Za4, fzE, fzA, fzR, fzB, set1, nbeq, Nat.reduceEqDiff, decide_true, decide_false, ↓reduceIte, reduceIte, cond_true, cond_false, List.take_length, Option.some.injEq]; rfl) (by simp only [Zax, Za4, fzE, fzA, fzR, fzB, set1, nbeq, Nat.reduceEqDiff, decide_true, decide_false, ↓reduceIte, reduceIte, cond_true, cond_false, List.take_length, Option.some.injEq]; rfl) ?_
  repeat' first
    | with_reducible first | refine Zas ?_ | refine Zao ?_ | refine Zac ?_ | refine Zad ?_ | refine Zai ?_ | refine Zaq ?_ | refine Zah ?_ | refine Zak ?_ | refine Zar ?_ | refine Zat ?_ | refine Zap ?_ | refine Zam ?_ | refine Zaa ?_ | refine Zae ?_ | refine Zab ?_ | refine Zal ?_
    | ((with_reducible refine Zaj ?_ ?_); exact rfl)
    | ((with_reducible refine Zau ?_); refine Zan rfl ?_ ?_ <;> intro hb <;> (try simp only [zH] at hb))
    | ((with_reducible refine Za0 ?_); (first | refine Zaf htb hmz Zc4 (fun _ => false) rfl rfl ?_ | refine Zag hmo htb hmz Zc4 (fun _ => false) rfl rfl (by kernel_rfl) ?_); intro m' e' l' ob h; simp only [zE0, zE1, zE2, zE3, zE4, zE5, evp, evx, ev1, evLoad, evStore, evBin, isBoolK, forall_const, z38, tb, Nat.reduceAdd, Nat.reduceSub, Nat.reduceMul, Nat.reduceEqDiff, Nat.reduceLeDiff, Nat.reduceLT, Nat.reduceBEq, Nat.reduceBNe, ↓reduceIte, reduceIte, spFr, aloneoS] at h; obtain ⟨rfl, rfl, rfl, rfl⟩ := h; refine ⟨?_, ?_⟩)
    | ((with_reducible refine Ob.mk ?_); first | exact trivial | (intros; omega) | ((repeat' first | apply And.intro | (intro hg; have hg' := hg; try simp only [zH] at hg')) <;> first | assumption | omega | (simp only [zH]; omega)))
  generalize aloneL ⟨o, p, y⟩ (1 - pl) = A at *
  have hz : mix (fun v => !A.getD v false) (fun v => A.getD v false) o.length 0 = A := by rw [← hal]; exact Zgd
  refine Za1 (τ := Nat) (fun i => i ≤ o.length) (fun i => ⟨23, [(50, .int .i64 i), (49, .int .i64 A.length), (10, .own 18)], [(18, some (.bools (mix (fun v => !A.getD v false) (fun v => A.getD v false) o.length i)))], []⟩) (fun i => o.length - i) 0 [] ?_ (Nat.zero_le _) ?_
  · (refine ⟨rfl, ?_, ?_⟩ <;> simp only [zE0, zE1, zE2, zE3, zE4, zE5, evp, evx, ev1, evLoad, evStore, evBin, isBoolK, forall_const, z38, tb, Nat.reduceAdd, Nat.reduceSub, Nat.reduceMul, Nat.reduceEqDiff, Nat.reduceLeDiff, Nat.reduceLT, Nat.reduceBEq, Nat.reduceBNe, ↓reduceIte, reduceIte, spFr, aloneoS, zI])
    exact hz.symm
  intro i hi
  have hm1 : (mix (fun v => !A.getD v false) (fun v => A.getD v false) o.length i).length = o.length := Zdo
  have hmg : i < o.length → (mix (fun v => !A.getD v false) (fun v => A.getD v false) o.length i).getD i false = A.getD i false := fun h => by
    unfold mix
    rw [List.getD_eq_getElem?_getD, List.getElem?_eq_getElem (by simpa using h)]
    simp
  have hms : (mix (fun v => !A.getD v false) (fun v => A.getD v false) o.length i).set i (!A.getD i false) = mix (fun v => !A.getD v false) (fun v => A.getD v false) o.length (i + 1) := Zdn
  clear hz
  repeat' first
    | with_reducible first | refine Zas ?_ | refine Zao ?_ | refine Zac ?_ | refine Zad ?_ | refine Zai ?_ | refine Zaq ?_ | refine Zah ?_ | refine Zak ?_ | refine Zar ?_ | refine Zat ?_ | refine Zap ?_ | refine Zam ?_ | refine Zaa ?_ | refine Zae ?_ | refine Zab ?_ | refine Zal ?_
    | ((with_reducible refine Zaj ?_ ?_); exact rfl)
    | ((with_reducible refine Zau ?_); refine Zan rfl ?_ ?_ <;> intro hb <;> (try simp only [zH] at hb))
    | ((with_reducible refine Zav 15 ?_ ?_); (· exact rfl); (first | refine Zaf htb hmz Zc4 (fun _ => false) rfl rfl ?_ | refine Zag hmo htb hmz Zc4 (fun _ => false) rfl rfl (by kernel_rfl) ?_); intro m' e' l' ob h; simp only [zE0, zE1, zE2, zE3, zE4, zE5, evp, evx, ev1, evLoad, evStore, evBin, isBoolK, forall_const, z38, tb, Nat.reduceAdd, Nat.reduceSub, Nat.reduceMul, Nat.reduceEqDiff, Nat.reduceLeDiff, Nat.reduceLT, Nat.reduceBEq, Nat.reduceBNe, ↓reduceIte, reduceIte, spFr, aloneoS] at h; obtain ⟨rfl, rfl, rfl, rfl⟩ := h; refine ⟨?_, ?_⟩)
    | ((with_reducible refine Ob.mk ?_); first | exact trivial | (intros; omega) | ((repeat' first | apply And.intro | (intro hg; have hg' := hg; try simp only [zH] at hg')) <;> first | assumption | omega | (simp only [zH]; omega)))
  · refine back (i + 1) [] ?_ (by omega) (by omega)
    (refine ⟨rfl, ?_, ?_⟩ <;> simp only [zE0, zE1, zE2, zE3, zE4, zE5, evp, evx, ev1, evLoad, evStore, evBin, isBoolK, forall_const, z38, tb, Nat.reduceAdd, Nat.reduceSub, Nat.reduceMul, Nat.reduceEqDiff, Nat.reduceLeDiff, Nat.reduceLT, Nat.reduceBEq, Nat.reduceBNe, ↓reduceIte, reduceIte, spFr, aloneoS, zI])
    rw [hmg (by omega)]; exact hms
  have hie : i = o.length := by omega
  subst hie
  rw [Zdp]
  refine Zbv 18 (.roB ((List.range o.length).map fun v => !A.getD v false)) (by simp only [Zax, Za4, fzE, fzA, fzR, fzB, set1, nbeq, Nat.reduceEqDiff, decide_true, decide_false, ↓reduceIte, reduceIte, cond_true, cond_false, List.take_length, Option.some.injEq]; rfl) (by first | exact rfl | (refine ⟨?_, rfl⟩; first | rfl | (intros; rfl))) (by simp only [Zax, Za4, fzE, fzA, fzR, fzB, set1, nbeq, Nat.reduceEqDiff, decide_true, decide_false, ↓reduceIte, reduceIte, cond_true, cond_false, List.take_length, Option.some.injEq]; rfl) (by simp only [Zax, Za4, fzE, fzA, fzR, fzB, set1, nbeq, Nat.reduceEqDiff, decide_true, decide_false, ↓reduceIte, reduceIte, cond_true, cond_false, List.take_length, Option.some.injEq]; rfl) ?_
  repeat' first
    | with_reducible first | refine Zas ?_ | refine Zao ?_ | refine Zac ?_ | refine Zad ?_ | refine Zai ?_ | refine Zaq ?_ | refine Zah ?_ | refine Zak ?_ | refine Zar ?_ | refine Zat ?_ | refine Zap ?_ | refine Zam ?_ | refine Zaa ?_ | refine Zae ?_ | refine Zab ?_ | refine Zal ?_
    | ((with_reducible refine Zaj ?_ ?_); exact rfl)
    | ((with_reducible refine Zau ?_); refine Zan rfl ?_ ?_ <;> intro hb <;> (try simp only [zH] at hb))
    | ((with_reducible refine Za0 ?_); (first | refine Zaf htb hmz Zc4 (fun _ => false) rfl rfl ?_ | refine Zag hmo htb hmz Zc4 (fun _ => false) rfl rfl (by kernel_rfl) ?_); intro m' e' l' ob h; simp only [zE0, zE1, zE2, zE3, zE4, zE5, evp, evx, ev1, evLoad, evStore, evBin, isBoolK, forall_const, z38, tb, Nat.reduceAdd, Nat.reduceSub, Nat.reduceMul, Nat.reduceEqDiff, Nat.reduceLeDiff, Nat.reduceLT, Nat.reduceBEq, Nat.reduceBNe, ↓reduceIte, reduceIte, spFr, aloneoS] at h; obtain ⟨rfl, rfl, rfl, rfl⟩ := h; refine ⟨?_, ?_⟩)
    | ((with_reducible refine Ob.mk ?_); first | exact trivial | (intros; omega) | ((repeat' first | apply And.intro | (intro hg; have hg' := hg; try simp only [zH] at hg')) <;> first | assumption | omega | (simp only [zH]; omega)))
  refine Zay rfl rfl (Zaw rfl ?_ rfl)
  rw [hfl]
  rfl
end Go.Proofs.Ytbcghiagomkadaa.Cal
namespace Go.Proofs.Ytbcghiagomkadaa.Cal
section
open Go Pl
structure GOk (g : Gm) : Prop where
  pl : g.pri.length = g.own.length
  xl : g.nxt.length = g.own.length
  n : g.own.length ≤ 20000
  own : ∀ v, v < g.own.length → g.own.getD v 0 = 0 ∨ g.own.getD v 0 = 1
  pri : ∀ v, v < g.own.length → 0 ≤ g.pri.getD v 0 ∧ g.pri.getD v 0 ≤ 60
  row : ∀ v, v < g.own.length → ∀ t, t ∈ rws g.nxt v → t < g.own.length
  len : ∀ v, v < g.own.length → 0 < (g.nxt.getD v []).length ∧ (g.nxt.getD v []).length ≤ 64
  at' : ∀ v, v < g.own.length → ∀ j, j < (g.nxt.getD v []).length → 0 ≤ (g.nxt.getD v []).getD j 0 ∧ (g.nxt.getD v []).getD j 0 < g.own.length
theorem gok {g : Gm} (h : Valid g) : GOk g := by
  obtain ⟨hn, hpl, hxl, hpos⟩ := h
  have hr : ∀ v, v < g.own.length → ∀ j, j < (g.nxt.getD v []).length → 0 ≤ (g.nxt.getD v []).getD j 0 ∧ (g.nxt.getD v []).getD j 0 < g.own.length := fun v hv j hj => by
    obtain ⟨_, hr⟩ := hpos v hv
    exact ⟨(hr j hj).1, (hr j hj).2.1⟩
  refine ⟨hpl, hxl, hn, fun v hv => ?_, fun v hv => ?_, fun v hv t ht => ?_, fun v hv => ?_, hr⟩
  · obtain ⟨⟨a1, a2, a3, a4, a5, a6⟩, _⟩ := hpos v hv
    simp only [Gm.o] at a1 a2
    omega
  · obtain ⟨⟨a1, a2, a3, a4, a5, a6⟩, _⟩ := hpos v hv
    exact ⟨a3, a4⟩
  · obtain ⟨s, h1, rfl⟩ := List.mem_map.1 ht
    obtain ⟨j, hj, rfl⟩ := List.getElem_of_mem h1
    have := hr v hv j hj
    rw [List.getD_eq_getElem?_getD, List.getElem?_eq_getElem hj, Option.getD_some] at this
    omega
  · obtain ⟨⟨a1, a2, a3, a4, a5, a6⟩, _⟩ := hpos v hv
    exact ⟨a5, a6⟩
end
end Go.Proofs.Ytbcghiagomkadaa.Cal
namespace Go.Proofs.Ytbcghiagomkadaa.Cal
section
open Go Pl
theorem Rch.mapD {E E' : Nat → Nat → Prop} {D : Nat → Prop} {f : Nat → Nat} (h : ∀ a b, D a → E a b → E' (f a) (f b) ∧ D b) {a b : Nat} (hr : Rch E a b) (ha : D a) : Rch E' (f a) (f b) ∧ D b := by
  induction hr with
  | refl => exact ⟨.refl _, ha⟩
  | step _ e ih => exact ⟨.step ih.1 (h _ _ ih.2 e).1, (h _ _ ih.2 e).2⟩
theorem Zht {k : List Bool} {v : Nat} (h : k.getD v false = true) : ∀ {n : Nat}, v < n → (kp k v).length < (kp k n).length ∧ (kp k n).getD (kp k v).length 0 = v
  | 0, hv => absurd hv (Nat.not_lt_zero v)
  | n + 1, hv => by
    rw [kp_succ]
    by_cases e : v = n
    · subst e
      rw [if_pos h]
      refine ⟨by simp, ?_⟩
      rw [List.getD_eq_getElem?_getD, List.getElem?_append_right (Nat.le_refl _), Nat.sub_self]; rfl
    · obtain ⟨h1, h2⟩ := Zht h (n := n) (by omega)
      split
      · refine ⟨by rw [List.length_append, List.length_singleton]; omega, ?_⟩
        rw [List.getD_eq_getElem?_getD, List.getElem?_append_left h1, ← List.getD_eq_getElem?_getD]; exact h2
      · exact ⟨h1, h2⟩
theorem Zh3 {k : List Bool} {n i : Nat} (h : i < (kp k n).length) : (kp k n).getD i 0 < n ∧ k.getD ((kp k n).getD i 0) false = true := by
  have hm : (kp k n).getD i 0 ∈ kp k n := by
    rw [List.getD_eq_getElem?_getD, List.getElem?_eq_getElem h]; exact List.getElem_mem h
  have := List.mem_filter.1 hm
  exact ⟨List.mem_range.1 this.1, this.2⟩
/-- Where a play may go on. -/
def nxF (g : Gm) (C : List Int) (p : Int) (v : Nat) : List Int := if g.own.getD v 0 = p then [C.getD v 0] else g.nxt.getD v []
theorem Zc9 {l : List Int} {t : Int} (h : t ∈ l) : ∃ j, j < l.length ∧ l.getD j 0 = t := by
  obtain ⟨j, hj, e⟩ := List.getElem_of_mem h
  exact ⟨j, hj, by rw [List.getD_eq_getElem?_getD, List.getElem?_eq_getElem hj, Option.getD_some]; exact e⟩
end
end Go.Proofs.Ytbcghiagomkadaa.Cal
namespace Go.Proofs.Ytbcghiagomkadaa.Cal
open Go
section
variable {P : Program} {ro : Option Nat} {N κ : Nat} {tb : Nat → Option TI}
/-- What a caller hands over and gets back, around whatever is called. -/
theorem call_frame {s : CS} {kk : List Nat} {rin : List (Nat × Option Blk)} {Q0 : GR → Prop} {Q : Exit → St → Prop} {dst : Option Nat} (hd' : ∀ d, dst = some d → d < N) (hkk : kkOK s.m kk = true) (hκ : Nat.ble κ s.m = true)
    (hrin : ∀ j B, lkr rin j = some B → j < kk.length ∧ menB (ltK kk.length) B ∧ lkr s.rs (rhoC kk s.m j) = some (renB (rhoC kk s.m) B))
    (next : ∀ g, Q0 g → kk.length ≤ g.m → Q .normal (CS.st ⟨s.m + (g.m - kk.length), putE dst (ren (rhoC kk s.m) g.val) s.env, outR kk s.m g.rs s.rs, s.ms⟩))
    {K Z : Nat → Prop} {w : World} {ν : Nat → Value} {a : Act} (hg : Good K Z N w ν s.st a) :
    ∃ Kc : Nat → Prop, GoodRs Kc Z w (fun j => ν (rhoC kk s.m j)) (ltK kk.length) (lkr rin) ∧ (∀ b, Z b → Kc b) ∧ (∀ b, Kc b → b < w.heap.size) ∧
      ∀ (y : Value) (w' : World) (Z' : Nat → Prop) (ν' : Nat → Value) (g : GR), Step Kc Z w Z' w' → (∀ k, (ν' k).oneCell' = true) → (∀ k, k < kk.length → ν' k = ν (rhoC kk s.m k)) → R Z' w' g.val ν' true [y] → men (ltK g.m) g.val = true →
        GoodRs (un Kc Z') Z' w' ν' (ltK g.m) (lkr g.rs) → (∀ b, Z' b → b < w'.heap.size) → Q0 g → kk.length ≤ g.m → Post N κ K Z w ν Q .normal (a.put dst y) w' := by
  obtain ⟨Ft, hF⟩ := id hg.rs
  have hF' : ∀ k B, lkr s.rs k = some B → k < s.m := fun k B hk => by
    have := (hF k B hk).1
    rwa [show (s.st).mu k = Nat.blt k s.m from rfl, Nat.blt_eq] at this
  let ρ := rhoC kk s.m
  have hρ : ∀ i j, ρ i = ρ j → i = j := fun i j h => rhoC_inj hkk h
  let Kc : Nat → Prop := fun b => K b ∨ ∃ k B, k ∉ kk ∧ lkr s.rs k = some B ∧ Ft k b
  have hKc : ∀ b, Kc b → b < w.heap.size := fun b hb => hb.elim (hg.kl b) fun ⟨k, B, _, hk, hb⟩ => ((hF k B hk).2.2.2.1 b hb).2
  refine ⟨Kc,
      ⟨fun j => Ft (ρ j), fun j B hj => by
        obtain ⟨r1, r2, r3⟩ := hrin j B hj
        obtain ⟨g1, g2, g3, g4, g5⟩ := hF _ _ r3
        refine ⟨by show Nat.blt j _ = true; rw [Nat.blt_eq]; exact r1, r2, sat_ren.1 g3, fun b hb => ⟨?_, (g4 b hb).2⟩, fun j' B' hne hj' => ?_⟩
        · rintro (h | ⟨k, B', hk, hkr, h⟩)
          · exact (g4 b hb).1 h
          · exact g5 k B' (fun e => hk (e ▸ (Zdd r1 hkk).1)) hkr b hb h
        · obtain ⟨q1, q2, q3⟩ := hrin j' B' hj'
          exact g5 _ _ (fun e => hne (hρ _ _ e)) q3⟩,
    fun b hb => .inl (hg.zk b hb), hKc, ?_⟩
  intro y w' Z' ν' g hstep h1' hν hr' hm' ⟨Fn, hFn⟩ hzs hq hle
  let νn : Nat → Value := fun k => if k < s.m then ν k else ν' (k - s.m + kk.length)
  have hνρ : ∀ j, j < g.m → νn (ρ j) = ν' j := fun j hj => by
    show (if ρ j < s.m then _ else _) = _
    rcases Nat.lt_or_ge j kk.length with h | h
    · rw [if_pos (Zdd h hkk).2, hν j h]
    · rw [show ρ j = s.m + (j - kk.length) from Zd6 h, if_neg (by omega)]
      congr 1; omega
  have hold : ∀ b, Kc b → w'.heap[b]? = w.heap[b]? := hstep.ext.block
  have hst : Step K Z w Z' w' := ⟨⟨hstep.ext.os, hstep.ext.tape, hstep.ext.output, hstep.ext.size, fun b hb => hold b (.inl hb)⟩, hstep.le, fun b hb => (hstep.new b hb).imp id fun h hk => h (.inl hk)⟩
  have hνold : ∀ k, ltK s.m k = true → νn k = ν k := fun k hk => by
    rw [ltK, Nat.blt_eq] at hk
    exact if_pos hk
  have hR' : R Z' w' (ren ρ g.val) νn true [y] := R_ren.2 (R_nu (fun k hk => hνρ k (by rw [ltK, Nat.blt_eq] at hk; exact hk)) hm' hr')
  have hgood : Good (un K Z') Z' N w' νn ⟨ltK (s.m + (g.m - kk.length)), lke s.env, lkr (outR kk s.m g.rs s.rs), s.ms⟩ a := by
    have hwide : ∀ k, ltK s.m k = true → ltK (s.m + (g.m - kk.length)) k = true := fun k hk => by
      simp only [ltK, Nat.blt_eq] at hk ⊢; omega
    refine ⟨hg.size, fun k => ?_, fun t => ⟨Zc2 hwide (hg.env t).1, R_nu hνold (hg.env t).1 (Zbk hst.le (fun b hb => hst.ext.block b (hg.zk b hb)) (hg.env t).2)⟩, ?_, fun b hb => .inr hb, fun b hb => ?_, ?_, fun k hk => hwide k (hg.ml k hk)⟩
    · show (if k < s.m then _ else _ : Value).oneCell' = true
      split
      · exact hg.one k
      · exact h1' _
    · refine ⟨fun k b => (∃ j B, ρ j = k ∧ lkr g.rs j = some B ∧ Fn j b) ∨ (k ∉ kk ∧ (∃ B, lkr s.rs k = some B) ∧ Ft k b), fun k B hk => ?_⟩
      have hcase : ∀ {k B}, lkr (outR kk s.m g.rs s.rs) k = some B → (∃ j B0, ρ j = k ∧ lkr g.rs j = some B0 ∧ B = renB ρ B0) ∨ ((∀ j B0, ρ j = k → lkr g.rs j ≠ some B0) ∧ k ∉ kk ∧ lkr s.rs k = some B) := by
        intro k B hk
        unfold lkr outR at hk
        rw [lko_app] at hk
        rcases Zgg hρ (g := g.rs) (k := k) with ⟨j, e, x, h1, h2⟩ | ⟨h1, h2⟩
        · rw [h2] at hk
          dsimp only at hk
          cases x with
          | none => cases hk
          | some B0 =>
            simp only [Option.map_some, Option.some.injEq] at hk
            exact .inl ⟨j, B0, e, by unfold lkr; rw [h1], hk.symm⟩
        · rw [h1] at hk
          dsimp only at hk
          obtain ⟨d1, d2⟩ := Zej (kk := kk) (l := s.rs) (k := k) (B := B) hk
          refine .inr ⟨fun j B0 e h => ?_, d1, d2⟩
          unfold lkr at h
          rw [h2 j e] at h; cases h
      have hnewF : ∀ {j B0}, lkr g.rs j = some B0 → ∀ b, ((∃ j' B, ρ j' = ρ j ∧ lkr g.rs j' = some B ∧ Fn j' b) ∨ (ρ j ∉ kk ∧ (∃ B, lkr s.rs (ρ j) = some B) ∧ Ft (ρ j) b)) ↔ Fn j b := by
        intro j B0 hj b
        constructor
        · rintro (⟨j', B, e, _, h⟩ | ⟨h1, ⟨B, h2⟩, _⟩)
          · rw [hρ _ _ e] at h; exact h
          · exfalso
            rcases Nat.lt_or_ge j kk.length with h | h
            · exact h1 (Zdd h hkk).1
            · have := hF' _ _ h2
              rw [show ρ j = s.m + (j - kk.length) from Zd6 h] at this
              omega
        · exact fun h => .inl ⟨j, B0, rfl, hj, h⟩
      have holdF : ∀ {k B}, (∀ j B0, ρ j = k → lkr g.rs j ≠ some B0) → k ∉ kk → lkr s.rs k = some B → ∀ b, ((∃ j' B, ρ j' = k ∧ lkr g.rs j' = some B ∧ Fn j' b) ∨ (k ∉ kk ∧ (∃ B, lkr s.rs k = some B) ∧ Ft k b)) ↔ Ft k b := by
        intro k B h1 h2 h3 b
        constructor
        · rintro (⟨j', B, e, h, _⟩ | ⟨_, _, h⟩)
          · exact absurd h (h1 j' B e)
          · exact h
        · exact fun h => .inr ⟨h2, ⟨B, h3⟩, h⟩
      rcases hcase hk with ⟨j, B0, rfl, hj, rfl⟩ | ⟨c1, c2, c3⟩
      · obtain ⟨f1, f2, f3, f4, f5⟩ := hFn j B0 hj
        have hjm : j < g.m := by rw [ltK, Nat.blt_eq] at f1; exact f1
        have hFe := funext fun b => propext (hnewF hj b)
        refine ⟨Zdx hkk hle j f1, menB_renK (Zdx hkk hle) f2, ?_, fun b hb => ⟨?_, (f4 b ((hnewF hj b).1 hb)).2⟩, fun k' B' hne hk' b hb => ?_⟩
        · dsimp only
          rw [hFe, hνρ j hjm]
          exact sat_ren.2 (Zdi (fun k hk => hνρ k (by rw [ltK, Nat.blt_eq] at hk; exact hk)) f2 f3)
        · have := (f4 b ((hnewF hj b).1 hb)).1
          rintro (h | h)
          · exact this (.inl (.inl h))
          · exact this (.inr h)
        · have hb := (hnewF hj b).1 hb
          rcases hcase hk' with ⟨j', B0', rfl, hj', rfl⟩ | ⟨c1, c2, c3⟩
          · exact fun h => f5 j' B0' (fun e => hne (by rw [e])) hj' b hb ((hnewF hj' b).1 h)
          · exact fun h => (f4 b hb).1 (.inl (.inr ⟨k', B', c2, c3, (holdF c1 c2 c3 b).1 h⟩))
      · obtain ⟨g1, g2, g3, g4, g5⟩ := hF k B c3
        have hFe := funext fun b => propext (holdF c1 c2 c3 b)
        have hnz : ∀ b, Ft k b → ¬ un K Z' b := fun b hb => by
          rintro (h | h)
          · exact (g4 b hb).1 h
          · rcases hstep.new b h with h2 | h2
            · exact (g4 b hb).1 (hg.zk b h2)
            · exact h2 (.inr ⟨k, B, c2, c3, hb⟩)
        refine ⟨hwide k g1, Zcu hwide g2, ?_, fun b hb => ⟨hnz b ((holdF c1 c2 c3 b).1 hb), Nat.lt_of_lt_of_le (g4 b ((holdF c1 c2 c3 b).1 hb)).2 hstep.ext.size⟩, fun k' B' hne hk' b hb => ?_⟩
        · dsimp only
          rw [hFe, hνold k g1]
          exact Zdi hνold g2 (Zbo hst.le (fun b hb => hst.ext.block b (hg.zk b hb)) (fun b hb => hold b (.inr ⟨k, B, c2, c3, hb⟩)) g3)
        · have hb := (holdF c1 c2 c3 b).1 hb
          rcases hcase hk' with ⟨j', B0', rfl, hj', rfl⟩ | ⟨d1, d2, d3⟩
          · exact fun h => ((hFn j' B0' hj').2.2.2.1 b ((hnewF hj' b).1 h)).1 (.inl (.inr ⟨k, B, c2, c3, hb⟩))
          · exact fun h => g5 k' B' hne d3 b hb ((holdF d1 d2 d3 b).1 h)
    · rcases hb with h | h
      · exact Nat.lt_of_lt_of_le (hg.kl b h) hst.ext.size
      · exact hzs b h
    · rw [hg.ds]
      exact fmC fun k hk => by rw [hνold k (hg.ml k hk)]
  refine ⟨Z', νn, _, hst, fun k hk => hνold k (by rw [ltK, Nat.blt_eq]; have := Nat.le_of_ble_eq_true hκ; omega), ?_, next g hq hle⟩
  have := Good.setd hgood hd' hR' (Ze2 (Zdx hkk hle) hm')
  rw [show CS.st ⟨s.m + (g.m - kk.length), putE dst (ren (rhoC kk s.m) g.val) s.env, outR kk s.m g.rs s.rs, s.ms⟩ = ⟨ltK (s.m + (g.m - kk.length)), lke (putE dst (ren (rhoC kk s.m) g.val) s.env), lkr (outR kk s.m g.rs s.rs), s.ms⟩ from rfl, Zeh]
  exact this
/-- What a call of yield comes to: the marker of its loop lies under key 0. -/
def YCall (P : Program) (args : List AV) (rin : List (Nat × Option Blk)) (κ : Nat) (Q : GR → Prop) : Prop :=
  ∀ (n : Nat) (K Z : Nat → Prop) (ν : Nat → Value) (w : World) (vals : Array Value) (l : Nat), (∀ k, (ν k).oneCell' = true) → R Z w (mkL args) ν true vals.toList → GoodRs K Z w ν (ltK κ) (lkr rin) → (∀ b, Z b → K b) → (∀ b, K b → b < w.heap.size) → ν 0 = .map (some l) →
    ∃ (f : FuncId) (tmps : Array Value) (assign body : Code), (Instr.yield l vals).run P w = .ok (.round l f tmps assign body) w ∧ RoundIn (FF none) n P l f tmps assign body w fun e w' => ∃ (y : Value) (Z' : Nat → Prop) (ν' : Nat → Value) (g : GR),
      e = .returned y ∧ Step K Z w Z' w' ∧ (∀ k, (ν' k).oneCell' = true) ∧ (∀ k, k < κ → ν' k = ν k) ∧ R Z' w' g.val ν' true [y] ∧ men (ltK g.m) g.val = true ∧ GoodRs (un K Z') Z' w' ν' (ltK g.m) (lkr g.rs) ∧ (∀ b, Z' b → b < w'.heap.size) ∧ Q g ∧ κ ≤ g.m
theorem awpL_yield {o : Oper} {x : Operand} {xs : List Operand} {ts : Array TypeId} {ky m : Nat} {env : List (Nat × AV)} {l : List (Nat × Option Blk)} {ms : List Nat} (kk : List Nat) {args : List AV} {rin : List (Nat × Option Blk)} {Q0 : GR → Prop} {Q : Exit → St → Prop}
    (hS : YCall P args rin kk.length Q0)
    (ho : o.op = .call ⟨.value x, xs.toArray, ts⟩) (hgd : o.guard.isNone = true) (hd : dstOK N [o] = true) (hf : opv (lke env) x = .yld ky) (hky : rhoC kk m 0 = ky)
    (hargs : ofL (opv (lke env)) xs = ren (rhoC kk m) (mkL args)) (hkk : kkOK m kk = true) (hκ : Nat.ble κ m = true)
    (hrin : rinR kk m l rin)
    (next : ∀ gm gv gr, Q0 ⟨gm, gv, gr⟩ → ∀ m' e' l', (m + (gm - kk.length) = m' ∧ putE o.dst (ren (rhoC kk m) gv) env = e' ∧ outR kk m gr l = l') → Q .normal (CS.st ⟨m', e', l', ms⟩)) : awpL P ro N κ [o] (CS.st ⟨m, env, l, ms⟩) Q := by
  intro n K Z ν w a hg
  have hw : Region.wanted o (yielded #[] a.tmps) = true := Zb7 hgd _
  simp only [wpListIn, hw, if_true]
  have hev : ∀ y : Operand, R Z w (opv (lke env) y) ν true [a.eval y] ∧ men (ltK m) (opv (lke env) y) = true := fun y => ⟨Zg5 hg y, Zfi hg y⟩
  have rf := (hev x).1
  rw [hf] at rf
  obtain ⟨lp, hlp, ecv⟩ := rf
  have ecv := one1 ecv
  have hargs2 : R Z w (ofL (opv (lke env)) xs) ν true (xs.map a.eval) ∧ men (ltK m) (ofL (opv (lke env)) xs) = true := Zft xs fun y _ => hev y
  have hall := hargs2.1
  rw [hargs] at hall
  have hall := R_ren.1 hall
  have hd' : ∀ d, o.dst = some d → d < N := fun d hd2 => by
    simp [dstOK, hd2] at hd; exact hd
  obtain ⟨Kc, h1, h2, h3, h4⟩ := call_frame (s := ⟨m, env, l, ms⟩) (kk := kk) (Q := Q) hd' hkk hκ (fun j B hj => by
    obtain ⟨h1, h2, h3⟩ := Ze0 hrin (Zcr hj).2
    rw [Nat.blt_eq] at h1
    exact ⟨h1, h2, h3⟩) (fun g hg hle => next g.m g.val g.rs hg _ _ _ ⟨rfl, rfl, rfl⟩) hg
  obtain ⟨f, tmps, assign, body, hrun, hround⟩ := hS (n - 1) Kc Z (fun j => ν (rhoC kk m j)) w (xs.map a.eval).toArray lp (fun j => hg.one _) (by exact hall) h1 h2 h3 (by show ν (rhoC kk m 0) = _; rw [hky]; exact hlp)
  have hsem : (o.semAt (FF ro).round a.eval).run P w = .ok (.round lp f tmps assign body) w := by
    rw [Zb9 (by rw [ho]; intro c hc; cases hc)]
    simp [execOp, ho, resolve, ecv, Deferred.ofValue, invoke, hrun, Sem.run_bind, Result.andThen, Sem.run]
  refine ⟨fun f hf => trivial, ?_⟩
  rw [hsem]
  refine ⟨(fun h => by cases h), RoundIn.mono hround ?_⟩
  rintro e w' ⟨y, Z', ν', g, rfl, c1, c2, c3, c4, c5, c6, c7, c8, c9⟩
  exact h4 y w' Z' ν' g c1 c2 c3 c4 c5 c6 c7 c8 c9
end
end Go.Proofs.Ytbcghiagomkadaa.Cal
namespace Go.Proofs.Ytbcghiagomkadaa.Cal
open Go
abbrev SemA := List Value → (Nat → Prop) → World → (Nat → Prop) → Prop
section
variable {P : Program} {ro : Option Nat} {N κ : Nat} {tb : Nat → Option TI}
theorem Good.put {K Z : Nat → Prop} {w : World} {ν : Nat → Value} {σ : St} {a : Act} {r : Nat} {o : Obj} (hg : Good K Z N w ν σ a) (hK : K r) (hZ : ¬ Z r) : Good K Z N (w.putObj r o) ν σ a := by
  have hz : ∀ b, Z b → (w.putObj r o).heap[b]? = w.heap[b]? := fun b hb => World.putObj_heap_other (fun e => hZ (e ▸ hb))
  refine ⟨hg.size, hg.one, fun s => ⟨(hg.env s).1, Zbk (fun _ h => h) hz (hg.env s).2⟩, ?_, hg.zk, fun b hb => by rw [World.putObj_size]; exact hg.kl b hb, hg.ds, hg.ml⟩
  exact hg.rs.mono (fun _ h => h) hz (by rw [World.putObj_size]; exact Nat.le_refl _) (fun _ h => .inl h) (fun b hb _ => World.putObj_heap_other (fun e => hb (e ▸ hK)))
theorem Zd9 (w : World) (o : Obj) (k : Nat) (h : k < w.heap.size) : (w.alloc o).heap[k]? = w.heap[k]? := by
  show (w.heap.push o)[k]? = _
  rw [Array.getElem?_push, if_neg (by omega)]
theorem menE_lke {m : Nat} : ∀ {env : List (Nat × AV)}, menE m env = true → ∀ s, men (ltK m) (lke env s) = true
  | [], _, _ => rfl
  | (k, v) :: t, h, s => by
    simp only [menE, Bool.and_eq_true] at h
    rw [Zdf]
    split
    · exact h.1
    · exact menE_lke h.2 s
end
end Go.Proofs.Ytbcghiagomkadaa.Cal
namespace Go.Proofs.Ytbcghiagomkadaa.Cal
open Go
/-- What the loop's caller keeps meanwhile. -/
def ASemV (w : World) (Z : Nat → Prop) (ν : Nat → Value) (m lp D : Nat) (rc : Loop) (S : List (Nat × Option Blk)) : SemA := fun vs Zs ws F =>
  vs = [.map (some lp)] ∧ (∀ y, Z y → Zs y ∧ ws.heap[y]? = w.heap[y]?) ∧ F lp ∧ F D ∧ ws.heap[lp]? = some (.loop rc) ∧ ws.heap[D]? = some (.deferred (some [])) ∧
    ∃ (ν' : Nat → Value) (G : Nat → Nat → Prop), (∀ k, (ν' k).oneCell' = true) ∧ (∀ k, k < m → ν' k = ν k) ∧ ∀ k b, lkr S k = some b → sat Zs ws ν' (ν' k) (G k) b ∧ (∀ x, G k x → F x ∧ x ≠ lp ∧ x ≠ D) ∧ ∀ k' b', k ≠ k' → lkr S k' = some b' → ∀ x, G k x → ¬ G k' x
section
variable {w : World} {Z : Nat → Prop} {ν : Nat → Value} {m lp D : Nat} {rc : Loop} {S : List (Nat × Option Blk)}
theorem ASemV_mono {vs : List Value} {Zs Z' : Nat → Prop} {ws w' : World} {F : Nat → Prop} (h : ASemV w Z ν m lp D rc S vs Zs ws F) (hZ : ∀ y, Zs y → Z' y) (hw : ∀ y, Zs y ∨ F y → w'.heap[y]? = ws.heap[y]?) : ASemV w Z ν m lp D rc S vs Z' w' F := by
  obtain ⟨h1, h2, h3, h4, h5, h6, ν', G, h7, h8, h9⟩ := h
  refine ⟨h1, fun y hy => ⟨hZ y (h2 y hy).1, (hw y (.inl (h2 y hy).1)).trans (h2 y hy).2⟩, h3, h4, (hw lp (.inr h3)).trans h5, (hw D (.inr h4)).trans h6, ν', G, h7, h8, fun k b hk => ?_⟩
  obtain ⟨g1, g2, g3⟩ := h9 k b hk
  exact ⟨Zbo hZ (fun y hy => hw y (.inl hy)) (fun y hy => hw y (.inr (g2 y hy).1)) g1, g2, g3⟩
theorem sat_ASemV {νc : Nat → Value} {a : Nat} {Zs : Nat → Prop} {ws : World} {F : Nat → Prop} {x : Value} (h : ASemV w Z ν m lp D rc S [νc a] Zs ws F) : sat Zs ws νc x F (.sem [a] (ASemV w Z ν m lp D rc S)) :=
  fun Z' w' h1 h2 => ASemV_mono h h1 h2
theorem ASemV_of {νc : Nat → Value} {a : Nat} {Zs : Nat → Prop} {ws : World} {F : Nat → Prop} {x : Value} (h : sat Zs ws νc x F (.sem [a] (ASemV w Z ν m lp D rc S))) : ASemV w Z ν m lp D rc S [νc a] Zs ws F :=
  h Zs ws (fun _ h => h) (fun _ _ => rfl)
end
section
variable {P : Program} {ro : Option Nat} {N κ : Nat} {tb : Nat → Option TI}
/-- How a round leaves the loop. -/
inductive Lv where
  | ret
  | exit (id : Nat)
def Lv.c : Lv → Code
  | .ret => .ret
  | .exit id => .exit id
def Lv.e : Lv → Exit
  | .ret => .ret
  | .exit id => .exit id
def roundV (κ : Nat) {τ : Type} (I X : τ → Prop) (nx : τ → τ → Prop) (lv : Lv) (S : τ → List (Nat × Option Blk)) (M : Nat) (t : τ) (e : Exit) (s : St) : Prop :=
  ∃ (cs : CS) (t' : τ) (ρ : List (Nat × Nat)), s = cs.st ∧ LeC κ cs ρ ⟨M, [], S t', []⟩ ∧ ((e = .normal ∧ I t' ∧ nx t t') ∨ (e = lv.e ∧ X t'))
def rcEnd (rc : Loop) (lv : Lv) : Bool → Loop
  | true => rc
  | false => { rc with state := .done, pending := some lv.c }
theorem cases1 {k : Nat} {b b1 : Blk} (hk : lkr [(1, some b1)] k = some b) : k = 1 ∧ b = b1 := by
  rw [Zax] at hk
  by_cases h1 : k = 1
  · rw [if_pos h1] at hk; exact ⟨h1, (Option.some.inj hk).symm⟩
  · rw [if_neg h1] at hk; cases hk
end
end Go.Proofs.Ytbcghiagomkadaa.Cal
namespace Go.Proofs.Ytbcghiagomkadaa.Cal
open Go
section
variable {P : Program} {ro : Option Nat} {N κ : Nat} {tb : Nat → Option TI}
def awpG (P : Program) (ro : Option Nat) (N κ : Nat) (ops : Array Oper) (l : List Oper) (σ : St) (Q : Exit → St → Prop) : Prop :=
  ∀ n K Z ν w a, Good K Z N w ν σ a → wpListIn (FF ro) n P ops (Post N κ K Z w ν Q) l a w
theorem Zdc {id : Nat} {l : List Oper} {σ : St} {Q : Exit → St → Prop} (h : awpG P ro N κ l.toArray l σ Q) : awp P ro N κ (.region id l.toArray false) σ Q :=
  fun n K Z ν w a hg => wpIn_region_lit (h n K Z ν w a hg)
theorem Zd0 {ops : Array Oper} {σ : St} {Q : Exit → St → Prop} (h : Q .normal σ) : awpG P ro N κ ops [] σ Q := fun n K Z ν w a hg => Zcc hg h
def noGd (o : Oper) : Oper := { o with guard := none }
theorem awpG_one {ops : Array Oper} {o : Oper} {rest : List Oper} {σ : St} {Q : Exit → St → Prop} (hw : ∀ K Z ν w a, Good K Z N w ν σ a → Region.wanted o (yielded ops a.tmps) = true)
    (h : awpL P ro N κ [noGd o] σ (thenQ (fun s => awpG P ro N κ ops rest s Q) Q)) : awpG P ro N κ ops (o :: rest) σ Q := by
  intro n K Z ν w a hg
  have h1 := h n K Z ν w a hg
  have hw1 : Region.wanted (noGd o) (yielded #[] a.tmps) = true := Zb7 rfl _
  simp only [wpListIn, hw1, if_true] at h1
  simp only [wpListIn, hw K Z ν w a hg, if_true]
  have h2 : o.wpIn (FF ro) n P a w (fun a' w' => Post N κ K Z w ν (thenQ (fun s => awpG P ro N κ ops rest s Q) Q) .normal a' w') (Post N κ K Z w ν (thenQ (fun s => awpG P ro N κ ops rest s Q) Q)) := h1
  refine Zfj (fun a' w' hp => ?_) (fun e a' w' he hp => ?_) h2
  · obtain ⟨Z', ν', σ', g1, g2, g3, g4⟩ := hp
    exact Zb6 (fun e a2 w2 hp => hp.trans g1 g2) (g4 n _ _ ν' w' a' g3)
  · obtain ⟨Z', ν', σ', g1, g2, g3, g4⟩ := hp
    refine ⟨Z', ν', σ', g1, g2, g3, ?_⟩
    cases e <;> first | exact absurd rfl he | exact g4
theorem tmp_bool {K Z : Nat → Prop} {w : World} {ν : Nat → Value} {σ : St} {a : Act} {d : Nat} {b : Bool} (hg : Good K Z N w ν σ a) (h : σ.env d = .bool b) : a.tmps[d]? = some (.bool b) := by
  have := (hg.env d).2
  rw [h] at this
  have h2 : a.tmps.getD d undef = .bool b := one1 this
  rw [Array.getD_eq_getD_getElem?] at h2
  cases e : a.tmps[d]? with
  | none => rw [e] at h2; cases h2
  | some v => rw [e] at h2; simp only [Option.getD_some] at h2; rw [h2]
theorem wanted_of {K Z : Nat → Prop} {w : World} {ν : Nat → Value} {σ : St} {a : Act} {ops : Array Oper} {o oi : Oper} {i d : Nat} {b v : Bool} (hg : Good K Z N w ν σ a) (ho : o.guard = some (i, b)) (hi : ops[i]? = some oi) (hd : oi.dst = some d) (h : σ.env d = .bool v) : Region.wanted o (yielded ops a.tmps) = (v == b) := by
  have e : yielded ops a.tmps i = some v := by
    unfold yielded
    rw [hi]
    simp only [Option.bind_some, hd, tmp_bool hg h]
  unfold Region.wanted
  rw [ho]
  simp only [e]
  cases v <;> cases b <;> rfl
theorem Zbi {ops : Array Oper} {o : Oper} {rest : List Oper} {σ : St} {Q : Exit → St → Prop} (ho : o.guard = none) (h : awpL P ro N κ [noGd o] σ (thenQ (fun s => awpG P ro N κ ops rest s Q) Q)) : awpG P ro N κ ops (o :: rest) σ Q :=
  awpG_one (fun K Z ν w a hg => Zb7 (by rw [ho]; rfl) _) h
theorem Zbs {ops : Array Oper} {o oi : Oper} {rest : List Oper} {m : Nat} {env : List (Nat × AV)} {rs : List (Nat × Option Blk)} {ms : List Nat} {Q : Exit → St → Prop} {i d : Nat} {b : Bool} (ho : o.guard = some (i, b)) (hi : ops[i]? = some oi) (hd : oi.dst = some d) (hv : lke env d = .bool b)
    (h : awpL P ro N κ [noGd o] (CS.st ⟨m, env, rs, ms⟩) (thenQ (fun s => awpG P ro N κ ops rest s Q) Q)) : awpG P ro N κ ops (o :: rest) (CS.st ⟨m, env, rs, ms⟩) Q :=
  awpG_one (fun K Z ν w a hg => by rw [wanted_of hg ho hi hd hv]; cases b <;> rfl) h
theorem Zb5 {ops : Array Oper} {o oi : Oper} {rest : List Oper} {m : Nat} {env : List (Nat × AV)} {rs : List (Nat × Option Blk)} {ms : List Nat} {Q : Exit → St → Prop} {i d : Nat} {b : Bool} (ho : o.guard = some (i, b)) (hi : ops[i]? = some oi) (hd : oi.dst = some d) (hv : lke env d = .bool (!b)) (hN : dstOK N [o] = true)
    (h : awpG P ro N κ ops rest (CS.st ⟨m, putE o.dst (.whn false (.bool false)) env, rs, ms⟩) Q) : awpG P ro N κ ops (o :: rest) (CS.st ⟨m, env, rs, ms⟩) Q := by
  intro n K Z ν w a hg
  have hw : Region.wanted o (yielded ops a.tmps) = false := by rw [wanted_of hg ho hi hd hv]; cases b <;> rfl
  simp only [wpListIn, hw]
  refine ⟨fun f hf => trivial, ?_⟩
  have hd' : ∀ d, o.dst = some d → d < N := fun d hd2 => by
    simp [dstOK, hd2] at hN; exact hN
  have hg2 := Good.setd (v := .whn false (.bool false)) (y := undef) hg hd' ⟨(fun h => by cases h), fun _ => rfl⟩ rfl
  refine h n K Z ν w _ ?_
  rw [show CS.st ⟨m, putE o.dst (.whn false (.bool false)) env, rs, ms⟩ = ⟨ltK m, lke (putE o.dst (.whn false (.bool false)) env), lkr rs, ms⟩ from rfl, Zeh]
  exact hg2
def sV (M : Nat) : List (Nat × Option Blk) → Prop
  | [] => True
  | (k, some b) :: l => (Nat.blt k M = true ∧ menB (ltK M) b) ∧ sV M l
  | (k, none) :: l => sV M l
theorem Zhi {M : Nat} : ∀ {l : List (Nat × Option Blk)}, sV M l → ∀ k b, lkr l k = some b → k < M ∧ menB (ltK M) b
  | [], _, k, b, hk => by cases hk
  | (j, some c) :: l, h, k, b, hk => by
    rw [Zax] at hk
    by_cases e : k = j
    · rw [if_pos e] at hk
      rw [e, ← Option.some.inj hk]
      exact ⟨by have := h.1.1; rwa [Nat.blt_eq] at this, h.1.2⟩
    · rw [if_neg e] at hk; exact Zhi h.2 k b hk
  | (j, none) :: l, h, k, b, hk => by
    rw [Zax] at hk
    by_cases e : k = j
    · rw [if_pos e] at hk; cases hk
    · rw [if_neg e] at hk; exact Zhi (l := l) h k b hk
end
end Go.Proofs.Ytbcghiagomkadaa.Cal
